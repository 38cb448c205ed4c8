import Derived.Test.YtojoehfldbimpaaGreatDoorM4
/- The walks: from what each function asks to what it does; printed from the code. No condition. -/
namespace Go.Proofs.YtojoehfldbimpaaGreatDoor.Pl
open Go Go.RowKit
theorem w_snext {h : FH} {w : World} (hs : Sub h w) (k : Srch) (ak : Option Addr) (ck : Nat) (_q1 : RSl h ak k.t.init) (_q2 : k.t.init.length ≤ ck) (ak2 : Option Addr) (ck2 : Nat) (_q3 : RSl h ak2 k.t.goal) (_q4 : k.t.goal.length ≤ ck2) (ak3 : Option Addr) (ck3 : Nat) (_q5 : RSl h ak3 k.t.ops) (_q6 : k.t.ops.length ≤ ck3) (ak4 : Option Addr) (ck4 : Nat) (_q7 : RSl h ak4 k.sensors) (_q8 : k.sensors.length ≤ ck4) (pk : Addr) (bk : Nat) (ta : Option Addr) (tn tc : Nat) (_q9 : CellsAt h pk [.int .i64 k.t.facts, .slice ak k.t.init.length ck, .slice ak2 k.t.goal.length ck2, .slice ak3 k.t.ops.length ck3, .slice ak4 k.sensors.length ck4, .map (some bk), .slice ta tn tc]) (worlds : List (List Int)) (aworlds : Option Addr) (cworlds : Nat) (_q10 : RSl h aworlds worlds) (_q11 : worlds.length ≤ cworlds) (K : Unit → Prop) (hF : F_snext k worlds K) : Calls Tryz.prog 71 #[.pointer (some pk), .slice aworlds worlds.length cworlds] w fun e w' => ∃ (r : Unit) (z : Addr × Addr) (h1 : FH), K r ∧ e = .returned (.func (.func 96) #[] #[.pointer (some z.1), .pointer (some z.2)]) ∧ FH.le h h1 ∧ (CellsAt h1 z.1 [.pointer (some pk)] ∧ CellsAt h1 z.2 [.slice aworlds worlds.length cworlds]) ∧ SH (Kp.all w h) h1 w' [] := by
  refine enter (args := [.pointer (some pk), .slice aworlds worlds.length cworlds]) Tryz.func71 rfl Tryz.ntmps71 rfl hs ?_
  refine .seq ?_
  refine .region ?_
  refine bx (vs := [.pointer (some pk)]) rfl rfl rfl (fun pk2 => ?_)
  refine bx (vs := [.slice aworlds worlds.length cworlds]) rfl rfl rfl (fun pworlds => ?_)
  refine .v (asg rfl) rfl rfl rfl ?_
  refine .nil ?_
  refine .seqN ?_
  refine .seq ?_
  refine .region ?_
  refine .v (mkf (vf := []) (vc := [.pointer (some pk2), .pointer (some pworlds)]) rfl rfl) rfl rfl rfl ?_
  refine .v (asg rfl) rfl rfl rfl ?_
  refine .nil ?_
  refine .seqN ?_
  refine .freezeBx (k := 1) rfl (fun h1 le1 q12 => ?_)
  refine .cast (A' := [Box pworlds [.slice aworlds worlds.length cworlds], tru]) rfl ?_
  refine .freezeBx (k := 0) rfl (fun h2 le2 q13 => ?_)
  refine .cast (A' := [tru, tru]) rfl ?_
  refine .ret ?_
  refine .res1 rfl (rvT rfl) (fun w' S => ⟨(), (pk2, pworlds), h2, hF, rfl, (FH.le_trans (le1) (le2)), ⟨(CellsAt.mono (le2) q12), (CellsAt.mono (FH.le_refl _) q13)⟩, S.none⟩)

theorem c_snext {h : FH} {w : World} (hs : Sub h w) (k : Srch) (ak : Option Addr) (ck : Nat) (_q1 : RSl h ak k.t.init) (_q2 : k.t.init.length ≤ ck) (ak2 : Option Addr) (ck2 : Nat) (_q3 : RSl h ak2 k.t.goal) (_q4 : k.t.goal.length ≤ ck2) (ak3 : Option Addr) (ck3 : Nat) (_q5 : RSl h ak3 k.t.ops) (_q6 : k.t.ops.length ≤ ck3) (ak4 : Option Addr) (ck4 : Nat) (_q7 : RSl h ak4 k.sensors) (_q8 : k.sensors.length ≤ ck4) (pk : Addr) (bk : Nat) (ta : Option Addr) (tn tc : Nat) (_q9 : CellsAt h pk [.int .i64 k.t.facts, .slice ak k.t.init.length ck, .slice ak2 k.t.goal.length ck2, .slice ak3 k.t.ops.length ck3, .slice ak4 k.sensors.length ck4, .map (some bk), .slice ta tn tc]) (worlds : List (List Int)) (aworlds : Option Addr) (cworlds : Nat) (_q10 : RSl h aworlds worlds) (_q11 : worlds.length ≤ cworlds) : Calls Tryz.prog 71 #[.pointer (some pk), .slice aworlds worlds.length cworlds] w fun e w' => ∃ (z : Addr × Addr) (h1 : FH), e = .returned (.func (.func 96) #[] #[.pointer (some z.1), .pointer (some z.2)]) ∧ FH.le h h1 ∧ (CellsAt h1 z.1 [.pointer (some pk)] ∧ CellsAt h1 z.2 [.slice aworlds worlds.length cworlds]) ∧ SH (Kp.all w h) h1 w' [] :=
  (w_snext hs k ak ck _q1 _q2 ak2 ck2 _q3 _q4 ak3 ck3 _q5 _q6 ak4 ck4 _q7 _q8 pk bk ta tn tc _q9 worlds aworlds cworlds _q10 _q11 (fun r => r = sp_snext k worlds) (ok_snext k worlds)).mono fun _ _ ⟨r, z, h1, hk, he, hl, hf, hS⟩ => by subst hk; exact ⟨z, h1, he, hl, hf, hS⟩

set_option maxHeartbeats 8000000 in
theorem w_breadthC {h : FH} {w : World} (hs : Sub h w) (ht : TabH Tryz.prog h) (start2 : List (List Int)) (astart2 : Option Addr) (cstart2 : Nat) (_q1 : RSl h astart2 start2) (_q2 : start2.length ≤ cstart2) (k : Srch) (ak : Option Addr) (ck : Nat) (_q3 : RSl h ak k.t.init) (_q4 : k.t.init.length ≤ ck) (ak2 : Option Addr) (ck2 : Nat) (_q5 : RSl h ak2 k.t.goal) (_q6 : k.t.goal.length ≤ ck2) (ak3 : Option Addr) (ck3 : Nat) (_q7 : RSl h ak3 k.t.ops) (_q8 : k.t.ops.length ≤ ck3) (ak4 : Option Addr) (ck4 : Nat) (_q9 : RSl h ak4 k.sensors) (_q10 : k.sensors.length ≤ ck4) (pk : Addr) (bk : Nat) (ta : Option Addr) (tn tc : Nat) (_q11 : CellsAt h pk [.int .i64 k.t.facts, .slice ak k.t.init.length ck, .slice ak2 k.t.goal.length ck2, .slice ak3 k.t.ops.length ck3, .slice ak4 k.sensors.length ck4, .map (some bk), .slice ta tn tc]) (K : (List Int × Bool × Bool) → Prop) (hF : F_breadthC start2 k K) : Calls Tryz.prog 50 #[.slice astart2 start2.length cstart2, .func (.func 49) #[] #[], .func (.func 71) #[.pointer (some pk)] #[], .func (.func 82) #[] #[]] w fun e w' => ∃ (r : List Int × Bool × Bool) (z : Option Addr × Nat) (h1 : FH), K r ∧ e = .returned (.tuple #[.slice z.1 r.1.length z.2, .bool r.2.1, .bool r.2.2]) ∧ FH.le h h1 ∧ (RSl h1 z.1 r.1 ∧ r.1.length ≤ z.2) ∧ SH (Kp.all w h) h1 w' [] := by
  refine enterM (args := [.slice astart2 start2.length cstart2, .func (.func 49) #[] #[], .func (.func 71) #[.pointer (some pk)] #[], .func (.func 82) #[] #[]]) Tryz.func50 rfl Tryz.ntmps50 rfl hs ?_
  refine .seq ?_
  refine .region ?_
  refine bx (vs := [.func (.func 49) #[] #[]]) rfl rfl rfl (fun pkey => ?_)
  refine al tZ22 rfl (fun pv => ?_)
  refine al tZ4 rfl (fun pv2 => ?_)
  refine al tZ4 rfl (fun pv3 => ?_)
  refine .nil ?_
  refine .seqN ?_
  refine .seq ?_
  refine .region ?_
  refine .v (mv rfl) rfl rfl rfl ?_
  refine .v (bld (cs := #[.slice astart2 start2.length cstart2, .int .i64 (-1), .int .i64 0]) (pv := [(0, .slice astart2 start2.length cstart2), (1, .int .i64 (-1))]) tB113 rfl rfl) rfl rfl rfl ?_
  refine bs2 (cs := #[.slice astart2 start2.length cstart2, .int .i64 (-1), .int .i64 0]) (pv := [(0, .agg #[.slice astart2 start2.length cstart2, .int .i64 (-1), .int .i64 0])]) tS114 rfl rfl (by decide) (by decide) rfl rfl rfl (fun a _ => ?_)
  refine .cast (A' := [OwnSl 113 3 a (([(⟨start2, (-1), 0⟩ : Entry)] : List Entry).length) 1 [.slice astart2 start2.length cstart2, .int .i64 (-1), .int .i64 0], Box pv3 [.bool false], Box pv2 [.bool false], Box pv [.slice none 0 0], Box pkey [.func (.func 49) #[] #[]], MkA []]) rfl ?_
  refine al tZ114 rfl (fun pqueue => ?_)
  refine st (p := pqueue) (off := 0) (k := 0) (vs := [.slice a (([(⟨start2, (-1), 0⟩ : Entry)] : List Entry).length) 1]) rfl rfl rfl (fun w => (tO114 w).2) rfl rfl rfl rfl ?_
  refine .cast (A' := [Box pqueue [.slice a (([(⟨start2, (-1), 0⟩ : Entry)] : List Entry).length) 1], OwnSl 113 3 a (([(⟨start2, (-1), 0⟩ : Entry)] : List Entry).length) 1 [.slice astart2 start2.length cstart2, .int .i64 (-1), .int .i64 0], Box pv3 [.bool false], Box pv2 [.bool false], Box pv [.slice none 0 0], Box pkey [.func (.func 49) #[] #[]], MkA []]) rfl ?_
  refine .nil ?_
  refine .seqN ?_
  refine .seq ?_
  refine .region ?_
  refine mm rfl (fun bv => ?_)
  refine .v (ld1 rfl tO80 (cellB (off := 0) (k := 6) rfl rfl)) rfl rfl rfl ?_
  refine .v (mv rfl) rfl rfl rfl ?_
  obtain ⟨q13, hF⟩ := hF
  obtain ⟨r2, q14⟩ : ∃ y_ : List UInt8, y_ = sp_key start2 := ⟨_, rfl⟩
  replace hF := hF r2 q14
  refine .c (cl (v := strV r2) Tryz.call49 rfl rfl (fun w S => (by rw [q14]; exact c_key S.sub (ht.mono (FH.le_refl _)) start2 astart2 cstart2 _q1 _q2 q13))) rfl rfl rfl ?_
  refine mi tM97 rfl rfl rfl (kk := 0) rfl ?_
  refine .cast (A' := [OwnMap bv (upd (fun _ => 0) r2 1), Box pqueue [.slice a (([(⟨start2, (-1), 0⟩ : Entry)] : List Entry).length) 1], OwnSl 113 3 a (([(⟨start2, (-1), 0⟩ : Entry)] : List Entry).length) 1 [.slice astart2 start2.length cstart2, .int .i64 (-1), .int .i64 0], Box pv3 [.bool false], Box pv2 [.bool false], Box pv [.slice none 0 0], Box pkey [.func (.func 49) #[] #[]], MkA []]) rfl ?_
  refine .v (mv rfl) rfl rfl rfl ?_
  refine al tZ97 rfl (fun pseen => ?_)
  refine st (p := pseen) (off := 0) (k := 0) (vs := [.map (some bv)]) rfl rfl rfl (fun w => (tO97 w).2) rfl rfl rfl rfl ?_
  refine .cast (A' := [Box pseen [.map (some bv)], OwnMap bv (upd (fun _ => 0) r2 1), Box pqueue [.slice a (([(⟨start2, (-1), 0⟩ : Entry)] : List Entry).length) 1], OwnSl 113 3 a (([(⟨start2, (-1), 0⟩ : Entry)] : List Entry).length) 1 [.slice astart2 start2.length cstart2, .int .i64 (-1), .int .i64 0], Box pv3 [.bool false], Box pv2 [.bool false], Box pv [.slice none 0 0], Box pkey [.func (.func 49) #[] #[]], MkA []]) rfl ?_
  refine .nil ?_
  refine .seqN ?_
  refine .seq ?_
  refine .seq ?_
  refine .region ?_
  refine al tZ3 rfl (fun pat => ?_)
  refine st (p := pat) (off := 0) (k := 0) (vs := [.int .i64 0]) rfl rfl rfl (fun w => (tO3 w).2) rfl rfl rfl rfl ?_
  refine .cast (A' := [Box pat [.int .i64 0], Box pseen [.map (some bv)], OwnMap bv (upd (fun _ => 0) r2 1), Box pqueue [.slice a (([(⟨start2, (-1), 0⟩ : Entry)] : List Entry).length) 1], OwnSl 113 3 a (([(⟨start2, (-1), 0⟩ : Entry)] : List Entry).length) 1 [.slice astart2 start2.length cstart2, .int .i64 (-1), .int .i64 0], Box pv3 [.bool false], Box pv2 [.bool false], Box pv [.slice none 0 0], Box pkey [.func (.func 49) #[] #[]], MkA []]) rfl ?_
  refine .nil ?_
  refine .seqN ?_
  refine .block ?_
  refine .sel0 [8, 7, 6, 5, 3, 1, 0, 9, 4, 2] (by decide) rfl ?_
  obtain ⟨I1, μ1, q13146, q13147⟩ := hF
  refine .loopN' (σ := Int × List Entry × (List UInt8 → Int) × Addr × List Nat × Option Addr × Nat × List Value × FH) (fun z => I1 z.1 z.2.1 z.2.2.1 ∧ RepL z.2.2.2.2.2.2.2.2 z.2.1 z.2.2.2.2.2.2.2.1 ∧ FH.le h z.2.2.2.2.2.2.2.2) (fun z => μ1 z.1 z.2.1 z.2.2.1) (fun z => ⟨92, none, z.2.2.2.2.1⟩) (fun z => [(2, .func (.func 71) #[.pointer (some pk)] #[]), (3, .func (.func 82) #[] #[]), (5, .pointer (some pkey)), (8, .pointer (some pv)), (9, .pointer (some pv2)), (10, .pointer (some pv3)), (11, .pointer (some pqueue)), (12, .pointer (some pseen)), (13, .pointer (some z.2.2.2.1))]) (fun z => [Box pkey [.func (.func 49) #[] #[]], Box pv [.slice none 0 0], Box pv2 [.bool false], Box pv3 [.bool false], Box pqueue [.slice z.2.2.2.2.2.1 z.2.1.length z.2.2.2.2.2.2.1], Box pseen [.map (some bv)], Box z.2.2.2.1 [.int .i64 z.1], MkA z.2.2.2.2.1, OwnSl 113 3 z.2.2.2.2.2.1 z.2.1.length z.2.2.2.2.2.2.1 z.2.2.2.2.2.2.2.1, OwnMap bv z.2.2.1]) (fun z => z.2.2.2.2.2.2.2.2) (0, ([(⟨start2, (-1), 0⟩ : Entry)] : List Entry), (upd (fun _ => 0) r2 1), pat, [], a, 1, [.slice astart2 start2.length cstart2, .int .i64 (-1), .int .i64 0], h) ⟨q13146, (show RepL h ([(⟨start2, (-1), 0⟩ : Entry)] : List Entry) [.slice astart2 start2.length cstart2, .int .i64 (-1), .int .i64 0] from ⟨[.slice astart2 start2.length cstart2, .int .i64 (-1), .int .i64 0], _, rfl, ⟨astart2, cstart2, rfl, ⟨_q2, _q1⟩⟩, rfl⟩), (FH.le_refl _)⟩ (fun _ => rfl) rfl (.cons rfl (.cons rfl (.cons rfl (.cons rfl (.cons rfl (.cons rfl (.cons rfl (.cons rfl (.cons rfl (.nil)))))))))) rfl (FH.le_refl _) ?_
  rintro ⟨x, l, m, p, dl, al2, cl2, csl, h523⟩ ⟨q13146, q10539, q10540⟩
  have hF := q13147 x l m q13146
  show J _ _ ⟨92, none, dl⟩ _ _ [(2, .func (.func 71) #[.pointer (some pk)] #[]), (3, .func (.func 82) #[] #[]), (5, .pointer (some pkey)), (8, .pointer (some pv)), (9, .pointer (some pv2)), (10, .pointer (some pv3)), (11, .pointer (some pqueue)), (12, .pointer (some pseen)), (13, .pointer (some p))] [Box pkey [.func (.func 49) #[] #[]], Box pv [.slice none 0 0], Box pv2 [.bool false], Box pv3 [.bool false], Box pqueue [.slice al2 l.length cl2], Box pseen [.map (some bv)], Box p [.int .i64 x], MkA dl, OwnSl 113 3 al2 l.length cl2 csl, OwnMap bv m] h523
  refine .seq ?_
  refine .seq ?_
  refine .region ?_
  refine .v (ld1 rfl tO3 (cellB (off := 0) (k := 6) rfl rfl)) rfl rfl rfl ?_
  refine .v (ld1 rfl tO114 (cellB (off := 0) (k := 4) rfl rfl)) rfl rfl rfl ?_
  refine .v (ln rfl tS114.is) rfl rfl rfl ?_
  refine .v (bi rfl rfl rfl) rfl rfl rfl ?_
  refine .nil ?_
  refine .seqN ?_
  refine .cond rfl (fun q13149 => ?_) (fun q13149 => ?_)
  · replace hF := hF.1 q13149
    refine .skip ?_
    refine .seqN ?_
    refine .seq ?_
    refine .block ?_
    refine .seq ?_
    refine .seq ?_
    refine .region ?_
    refine .v (mv rfl) rfl rfl rfl ?_
    refine .v (ld1 rfl tO114 (cellB (off := 0) (k := 4) rfl rfl)) rfl rfl rfl ?_
    refine .v (ld1 rfl tO3 (cellB (off := 0) (k := 6) rfl rfl)) rfl rfl rfl ?_
    obtain ⟨q14884, hF⟩ := hF
    refine .v (ixS rfl rfl tS114 (k := 8) rfl q14884) rfl rfl rfl ?_
    refine .v (fa rfl tF113_0) rfl rfl rfl ?_
    obtain ⟨_, ⟨a2, c, rfl, q14885, q14886⟩, q14887⟩ := RepL.get q10539 (gt_get q14884)
    refine .v (ld1 (v := .slice a2 ((gt l x).node.length) c) rfl tO35 (cellF (k := 8) rfl (q14887 0 _ rfl))) rfl rfl rfl ?_
    obtain ⟨r3, q14888⟩ : ∃ y_ : Bool, y_ = sp_small1 ((gt l x).node) := ⟨_, rfl⟩
    replace hF := hF r3 q14888
    refine .c (cl (v := .bool r3) Tryz.call82 rfl rfl (fun w S => (by rw [q14888]; exact c_small1 S.sub ((gt l x).node) a2 c q14886 q14885 ))) rfl rfl rfl ?_
    refine .nil ?_
    refine .seqN ?_
    refine .cond rfl (fun q14981 => ?_) (fun q14981 => ?_)
    · replace hF := hF.1 q14981
      refine .seq ?_
      refine .region ?_
      refine .v (asg rfl) rfl rfl rfl ?_
      refine .nil ?_
      refine .seqN ?_
      refine .seq ?_
      refine .seq ?_
      refine .region ?_
      refine .v (ld1 rfl tO3 (cellB (off := 0) (k := 6) rfl rfl)) rfl rfl rfl ?_
      refine .v (asg rfl) rfl rfl rfl ?_
      refine .nil ?_
      refine .seqN ?_
      refine .block ?_
      refine .nilSl 3 1 ?_
      refine .cast (A' := [OwnSl 3 1 none (([] : List Int).length) 0 (flL ([] : List Int)), Box pkey [.func (.func 49) #[] #[]], Box pv [.slice none 0 0], Box pv2 [.bool false], Box pv3 [.bool false], Box pqueue [.slice al2 l.length cl2], Box pseen [.map (some bv)], Box p [.int .i64 x], MkA dl, OwnSl 113 3 al2 l.length cl2 csl, OwnMap bv m]) rfl ?_
      refine .sel0 [2, 3, 4, 5, 0, 8, 9] (by decide) rfl ?_
      obtain ⟨I2, μ2, q15051, q15052⟩ := hF
      refine .loop' (σ := Int × List Int × Option Addr × Nat) (fun z => I2 z.1 z.2.1) (fun z => μ2 z.1 z.2.1) (fun z => [(8, .pointer (some pv)), (9, .pointer (some pv2)), (10, .pointer (some pv3)), (11, .pointer (some pqueue)), (14, .slice z.2.2.1 z.2.1.length z.2.2.2), (15, .int .i64 z.1)]) (fun z => [Box pv [.slice none 0 0], Box pv2 [.bool false], Box pv3 [.bool false], Box pqueue [.slice al2 l.length cl2], OwnSl 3 1 z.2.2.1 z.2.1.length z.2.2.2 (flL z.2.1), MkA dl, OwnSl 113 3 al2 l.length cl2 csl]) (fun _ => h523) (x, ([] : List Int), none, 0) q15051 (.cons rfl (.cons rfl (.cons rfl (.cons rfl (.cons rfl (.cons rfl (.nil))))))) rfl (FH.le_refl _) ?_
      rintro ⟨i, out, aout, cout⟩ q15051
      have hF := q15052 i out q15051
      show J _ _ _ _ _ [(8, .pointer (some pv)), (9, .pointer (some pv2)), (10, .pointer (some pv3)), (11, .pointer (some pqueue)), (14, .slice aout out.length cout), (15, .int .i64 i)] [Box pv [.slice none 0 0], Box pv2 [.bool false], Box pv3 [.bool false], Box pqueue [.slice al2 l.length cl2], OwnSl 3 1 aout out.length cout (flL out), MkA dl, OwnSl 113 3 al2 l.length cl2 csl] h523
      refine .seq ?_
      refine .seq ?_
      refine .region ?_
      refine .v (ld1 rfl tO114 (cellB (off := 0) (k := 3) rfl rfl)) rfl rfl rfl ?_
      refine .v (mv rfl) rfl rfl rfl ?_
      obtain ⟨q15053, hF⟩ := hF
      refine .v (ixS rfl rfl tS114 (k := 6) rfl q15053) rfl rfl rfl ?_
      refine .v (fa rfl tF113_1) rfl rfl rfl ?_
      obtain ⟨_, ⟨a3, c2, rfl, q15054, q15055⟩, q15056⟩ := RepL.get q10539 (gt_get q15053)
      refine .v (ld1 (v := .int .i64 ((gt l i).from_)) rfl tO3 (cellF (k := 6) rfl (q15056 1 _ rfl))) rfl rfl rfl ?_
      refine .v (bi rfl rfl rfl) rfl rfl rfl ?_
      refine .nil ?_
      refine .seqN ?_
      refine .cond rfl (fun q15058 => ?_) (fun q15058 => ?_)
      · replace hF := hF.1 q15058
        refine .skip ?_
        refine .seqN ?_
        refine .seq ?_
        refine .block ?_
        refine .region ?_
        refine .v (mv rfl) rfl rfl rfl ?_
        refine .v (ld1 rfl tO114 (cellB (off := 0) (k := 3) rfl rfl)) rfl rfl rfl ?_
        refine .v (mv rfl) rfl rfl rfl ?_
        refine .v (ixS rfl rfl tS114 (k := 6) rfl q15053) rfl rfl rfl ?_
        refine .v (fa rfl tF113_2) rfl rfl rfl ?_
        refine .v (ld1 (v := .int .i64 ((gt l i).step)) rfl tO3 (cellF (k := 6) rfl (q15056 2 _ rfl))) rfl rfl rfl ?_
        refine bs2 (cs := #[.int .i64 ((gt l i).step)]) (pv := [(0, .int .i64 ((gt l i).step))]) tS22 rfl rfl (by decide) (by decide) rfl rfl rfl (fun a4 _ => ?_)
        refine .cast (A' := [OwnSl 3 1 a4 (([(gt l i).step] : List Int).length) 1 (flL ([(gt l i).step] : List Int)), Box pv [.slice none 0 0], Box pv2 [.bool false], Box pv3 [.bool false], Box pqueue [.slice al2 l.length cl2], OwnSl 3 1 aout out.length cout (flL out), MkA dl, OwnSl 113 3 al2 l.length cl2 csl]) rfl ?_
        obtain ⟨q15066, hF⟩ := hF
        have q15067 : out.length + ([(gt l i).step] : List Int).length = ((out ++ ([(gt l i).step] : List Int))).length := len_app rfl rfl
        refine app (k := 5) (news := flL ([(gt l i).step] : List Int)) (cs' := flL (out ++ ([(gt l i).step] : List Int))) (nm := ((out ++ ([(gt l i).step] : List Int))).length) tS22 rfl (by decide) rfl rfl rfl (by rw [flL_len]; rfl) (srcS (k := 0) rfl) (flL_one _) (room_of q15067 q15066).1 (room_of q15067 q15066).2 q15067 (flL_append _ _).symm rfl (fun a5 c3 => ?_)
        refine .cast (A' := [OwnSl 3 1 a4 (([(gt l i).step] : List Int).length) 1 (flL ([(gt l i).step] : List Int)), Box pv [.slice none 0 0], Box pv2 [.bool false], Box pv3 [.bool false], Box pqueue [.slice al2 l.length cl2], OwnSl 3 1 a5 ((out ++ ([(gt l i).step] : List Int)).length) c3 (flL (out ++ ([(gt l i).step] : List Int))), MkA dl, OwnSl 113 3 al2 l.length cl2 csl]) rfl ?_
        refine .v (asg rfl) rfl rfl rfl ?_
        refine .nil ?_
        refine .blkN ?_
        refine .seqN ?_
        refine .region ?_
        refine .v (ld1 rfl tO114 (cellB (off := 0) (k := 4) rfl rfl)) rfl rfl rfl ?_
        refine .v (mv rfl) rfl rfl rfl ?_
        refine .v (ixS rfl rfl tS114 (k := 7) rfl q15053) rfl rfl rfl ?_
        refine .v (fa rfl tF113_1) rfl rfl rfl ?_
        refine .v (ld1 (v := .int .i64 ((gt l i).from_)) rfl tO3 (cellF (k := 7) rfl (q15056 1 _ rfl))) rfl rfl rfl ?_
        refine .v (asg rfl) rfl rfl rfl ?_
        refine .nil ?_
        refine .sel0 [1, 2, 3, 4, 5, 6, 7] (by decide) rfl ?_
        exact .round ((gt l i).from_, (out ++ ([(gt l i).step] : List Int)), a5, c3) hF.1 hF.2 (.cons rfl (.cons rfl (.cons rfl (.cons rfl (.cons rfl (.cons rfl (.nil))))))) rfl (FH.le_refl _)
      replace hF := hF.2 q15058
      refine .exit ?_
      refine .seqX ?_
      refine .seqX ?_
      refine .blkX ?_
      refine .seqN ?_
      refine .seq ?_
      refine .region ?_
      refine .v (mv rfl) rfl rfl rfl ?_
      obtain ⟨q15068, hF⟩ := hF
      obtain ⟨r4, q15069⟩ : ∃ y_ : List Int, y_ = sp_reverse out := ⟨_, rfl⟩
      replace hF := hF r4 q15069
      refine callX (k := 4) (v := .tuple #[]) (X' := OwnSl 3 1 aout out.length cout (flL r4)) rfl Tryz.call86 rfl rfl (fun w g hx sg hd hs' => ?_) rfl ?_
      · rw [q15069]; exact c_reverse hs' out aout cout hx sg hd q15068
      have q15070 : r4.length = out.length := by rw [q15069]; exact (sp_reverse_len out).trans rfl
      refine .cast (A' := [Box pv [.slice none 0 0], Box pv2 [.bool false], Box pv3 [.bool false], Box pqueue [.slice al2 l.length cl2], OwnSl 3 1 aout out.length cout (flL r4), MkA dl, OwnSl 113 3 al2 l.length cl2 csl]) rfl ?_
      refine .nil ?_
      refine .seqN ?_
      refine .seq ?_
      refine .region ?_
      refine .v (mv rfl) rfl rfl rfl ?_
      refine st (p := pv) (off := 0) (k := 0) (vs := [.slice aout out.length cout]) rfl rfl rfl (fun w => (tO22 w).2) rfl rfl rfl rfl ?_
      refine .cast (A' := [Box pv [.slice aout out.length cout], Box pv2 [.bool false], Box pv3 [.bool false], Box pqueue [.slice al2 l.length cl2], OwnSl 3 1 aout out.length cout (flL r4), MkA dl, OwnSl 113 3 al2 l.length cl2 csl]) rfl ?_
      refine st (p := pv2) (off := 0) (k := 1) (vs := [.bool true]) rfl rfl rfl (fun w => (tO4 w).2) rfl rfl rfl rfl ?_
      refine .cast (A' := [Box pv [.slice aout out.length cout], Box pv2 [.bool true], Box pv3 [.bool false], Box pqueue [.slice al2 l.length cl2], OwnSl 3 1 aout out.length cout (flL r4), MkA dl, OwnSl 113 3 al2 l.length cl2 csl]) rfl ?_
      refine st (p := pv3) (off := 0) (k := 2) (vs := [.bool true]) rfl rfl rfl (fun w => (tO4 w).2) rfl rfl rfl rfl ?_
      refine .cast (A' := [Box pv [.slice aout out.length cout], Box pv2 [.bool true], Box pv3 [.bool true], Box pqueue [.slice al2 l.length cl2], OwnSl 3 1 aout out.length cout (flL r4), MkA dl, OwnSl 113 3 al2 l.length cl2 csl]) rfl ?_
      refine .nil ?_
      refine .seqN ?_
      refine .freezeL (k := 4) rfl (fun h741 le741 q15072 q15071 => ?_)
      refine .cast (A' := [Box pv [.slice aout out.length cout], Box pv2 [.bool true], Box pv3 [.bool true], Box pqueue [.slice al2 l.length cl2], tru, MkA dl, OwnSl 113 3 al2 l.length cl2 csl]) rfl ?_
      refine .ret ?_
      refine .seqR ?_
      refine .blkR ?_
      refine .seqR ?_
      refine .seqR ?_
      refine .blkR ?_
      refine .seqR ?_
      refine .resM (k := 5) rfl ?_
      refine .res3 rfl (rvC1 rfl tO22 (k := 0) rfl) (rvC1 rfl tO4 (k := 1) rfl) (rvC1 rfl tO4 (k := 2) rfl) (fun w' S => ⟨(r4, true, true), (aout, cout), h741, hF, (by simp only [q15070]), (FH.le_trans (q10540) (le741)), ⟨(RSl.of q15071), (by rw [q15070]; exact q15072)⟩, S.none⟩)
    replace hF := hF.2 q14981
    refine .skip ?_
    refine .seqN ?_
    refine .seq ?_
    refine .region ?_
    refine .v (mv rfl) rfl rfl rfl ?_
    refine .v (ld1 rfl tO114 (cellB (off := 0) (k := 4) rfl rfl)) rfl rfl rfl ?_
    refine .v (ld1 rfl tO3 (cellB (off := 0) (k := 6) rfl rfl)) rfl rfl rfl ?_
    refine .v (ixS rfl rfl tS114 (k := 8) rfl q14884) rfl rfl rfl ?_
    refine .v (fa rfl tF113_0) rfl rfl rfl ?_
    refine .v (ld1 (v := .slice a2 ((gt l x).node.length) c) rfl tO35 (cellF (k := 8) rfl (q14887 0 _ rfl))) rfl rfl rfl ?_
    obtain ⟨r5, q15073⟩ : ∃ y_ : Unit, y_ = sp_snext k ((gt l x).node) := ⟨_, rfl⟩
    replace hF := hF r5 q15073
    refine clR (α := Addr × Addr) (Φ := fun h1 z => CellsAt h1 z.1 [.pointer (some pk)] ∧ CellsAt h1 z.2 [.slice a2 ((gt l x).node.length) c]) (V := fun z => .func (.func 96) #[] #[.pointer (some z.1), .pointer (some z.2)]) Tryz.call71 rfl rfl (fun w S => (by exact c_snext S.sub k ak ck (_q3.mono (q10540)) _q4 ak2 ck2 (_q5.mono (q10540)) _q6 ak3 ck3 (_q7.mono (q10540)) _q8 ak4 ck4 (_q9.mono (q10540)) _q10 pk bk ta tn tc (CellsAt.mono (q10540) _q11) ((gt l x).node) a2 c q14886 q14885 )) rfl (fun z h742 le742 hz => ?_)
    obtain ⟨p3, p4⟩ := z
    obtain ⟨q15074, q15075⟩ := hz
    refine .nil ?_
    refine .seqN ?_
    refine .block ?_
    refine .sub (s' := [(2, .func (.func 71) #[.pointer (some pk)] #[]), (3, .func (.func 82) #[] #[]), (5, .pointer (some pkey)), (8, .pointer (some pv)), (9, .pointer (some pv2)), (10, .pointer (some pv3)), (11, .pointer (some pqueue)), (12, .pointer (some pseen)), (13, .pointer (some p)), (69, .func (.func 96) #[] #[.pointer (some p3), .pointer (some p4)])]) (.cons rfl (.cons rfl (.cons rfl (.cons rfl (.cons rfl (.cons rfl (.cons rfl (.cons rfl (.cons rfl (.cons rfl (.nil))))))))))) ?_
    refine .rangeFM (k := 7) (caps := [.pointer (some p3), .pointer (some p4)]) rfl rfl Tryz.func96 rfl Tryz.ntmps96 rfl Tryz.call96 (fun l3 D LA a6 q15076 q15077 => ?_)
    refine .cast (A' := [LA .ready none, Box pkey [.func (.func 49) #[] #[]], Box pv [.slice none 0 0], Box pv2 [.bool false], Box pv3 [.bool false], Box pqueue [.slice al2 l.length cl2], Box pseen [.map (some bv)], Box p [.int .i64 x], MkA (D :: dl), OwnSl 113 3 al2 l.length cl2 csl, OwnMap bv m]) rfl ?_
    refine .mk0 ?_
    refine .cast (A' := [MkA [], LA .ready none, Box pkey [.func (.func 49) #[] #[]], Box pv [.slice none 0 0], Box pv2 [.bool false], Box pv3 [.bool false], Box pqueue [.slice al2 l.length cl2], Box pseen [.map (some bv)], Box p [.int .i64 x], MkA (D :: dl), OwnSl 113 3 al2 l.length cl2 csl, OwnMap bv m]) rfl ?_
    refine .seq ?_
    refine .region ?_
    refine bx (vs := [.func (.yield l3) #[] #[]]) rfl rfl rfl (fun pdone => ?_)
    refine .nil ?_
    refine .seqN ?_
    refine .seq ?_
    refine .seq ?_
    refine .openA (s0 := [(1, .pointer (some p3)), (2, .pointer (some p4)), (3, .pointer (some pdone))]) [0, 1, 2, 3, 4] [(0, .pointer (some pk)), (1, .pointer (some pk)), (2, .pointer (some (pk.add 0))), (3, .agg #[.int .i64 k.t.facts, .slice ak k.t.init.length ck, .slice ak2 k.t.goal.length ck2, .slice ak3 k.t.ops.length ck3]), (4, .slice a2 ((gt l x).node.length) c)] (by kernel_rfl) (.cons rfl (.cons rfl (.cons rfl (.nil)))) [1, 2, 3] [] rfl (by kernel_rfl) ?_
    refine .step [5] 5 rfl (by kernel_rfl) (by kernel_rfl) (.v [] rfl rfl rfl rfl rfl rfl (fun _ => ld1 (v := .pointer (some pk)) rfl tO96 (cellH (CellsAt.mono (FH.le_refl _) q15074 0 _ rfl))) (.v [(10, .pointer (some pk))] rfl rfl rfl rfl rfl rfl (fun _ => nck rfl) (.v [(11, .pointer (some pk))] rfl rfl rfl rfl rfl rfl (fun _ => fa rfl tF99_0) (.v [(12, .pointer (some (pk.add 0)))] rfl rfl rfl rfl rfl rfl (fun _ => ldA (cs := [.int .i64 k.t.facts, .slice ak k.t.init.length ck, .slice ak2 k.t.goal.length ck2, .slice ak3 k.t.ops.length ck3]) rfl tA25 rfl (cellsH (CellsAt.take (CellsAt.mono (FH.le_trans (q10540) (le742)) _q11) 4))) (.v [] rfl rfl rfl rfl rfl rfl (fun _ => ld1 (v := .slice a2 ((gt l x).node.length) c) rfl tO35 (cellH (CellsAt.mono (FH.le_refl _) q15075 0 _ rfl))) (.nil)))))) (.cons [(13, .agg #[.int .i64 k.t.facts, .slice ak k.t.init.length ck, .slice ak2 k.t.goal.length ck2, .slice ak3 k.t.ops.length ck3]), (14, .slice a2 ((gt l x).node.length) c)] rfl rfl (fun sL hL => ?_) (.nil))
    obtain ⟨r6, q15078⟩ : ∃ y_ : Unit, y_ = sp_succ k.t ((gt l x).node) := ⟨_, rfl⟩
    replace hF := hF r6 q15078
    refine clR (α := Addr × Addr) (Φ := fun h1 z => CellsAt h1 z.1 [.int .i64 k.t.facts, .slice ak k.t.init.length ck, .slice ak2 k.t.goal.length ck2, .slice ak3 k.t.ops.length ck3] ∧ CellsAt h1 z.2 [.slice a2 ((gt l x).node.length) c]) (V := fun z => .func (.func 103) #[] #[.pointer (some z.1), .pointer (some z.2)]) Tryz.call81 rfl rfl (fun w S => (by exact c_succ S.sub k.t ak ck (_q3.mono (FH.le_trans (q10540) (le742))) _q4 ak2 ck2 (_q5.mono (FH.le_trans (q10540) (le742))) _q6 ak3 ck3 (_q7.mono (FH.le_trans (q10540) (le742))) _q8 ((gt l x).node) a2 c (q14886.mono (le742)) q14885 )) rfl (fun z h743 le743 hz => ?_)
    obtain ⟨p5, p6⟩ := z
    obtain ⟨q15079, q15080⟩ := hz
    refine .nil ?_
    refine .ja (M := [3, 4, 2, 1, 0]) (C' := []) (pre := [(5, .func (.func 103) #[] #[.pointer (some p5), .pointer (some p6)])]) [(1, .pointer (some p3)), (2, .pointer (some p4)), (3, .pointer (some pdone))] [1, 2, 3] hL rfl rfl rfl rfl rfl (.cons rfl (.cons rfl (.cons rfl (.nil)))) rfl rfl (by kernel_rfl) ?_
    refine .last [(10, .pointer (some pk)), (11, .pointer (some pk)), (12, .pointer (some (pk.add 0))), (13, .agg #[.int .i64 k.t.facts, .slice ak k.t.init.length ck, .slice ak2 k.t.goal.length ck2, .slice ak3 k.t.ops.length ck3]), (14, .slice a2 ((gt l x).node.length) c), (15, .func (.func 103) #[] #[.pointer (some p5), .pointer (some p6)])] rfl (by kernel_rfl) (.nil) rfl ?_
    refine .seqN ?_
    refine .block ?_
    refine .sub (s' := [(1, .pointer (some p3)), (2, .pointer (some p4)), (3, .pointer (some pdone)), (15, .func (.func 103) #[] #[.pointer (some p5), .pointer (some p6)])]) (.cons rfl (.cons rfl (.cons rfl (.cons rfl (.nil))))) ?_
    refine .wide ?_
    refine .rangeF (k := 1) (caps := [.pointer (some p5), .pointer (some p6)]) rfl rfl Tryz.func103 rfl Tryz.ntmps103 rfl Tryz.call103 (fun l4 D2 LA2 a7 q15273 q15274 => ?_)
    refine .cast (A' := [LA2 .ready none, Box pdone [.func (.yield l3) #[] #[]], MkA (D2 :: []), LA .ready none, Box pkey [.func (.func 49) #[] #[]], Box pv [.slice none 0 0], Box pv2 [.bool false], Box pv3 [.bool false], Box pqueue [.slice al2 l.length cl2], Box pseen [.map (some bv)], Box p [.int .i64 x], MkA (D :: dl), OwnSl 113 3 al2 l.length cl2 csl, OwnMap bv m]) rfl ?_
    refine .seq ?_
    refine .region ?_
    refine .v (fa rfl tF25_3) rfl rfl rfl ?_
    refine .v (ld1 (v := .slice ak3 k.t.ops.length ck3) rfl tO23 (cellH (CellsAt.mono (FH.le_refl _) q15079 3 _ rfl))) rfl rfl rfl ?_
    refine .v (ln rfl tS23.is) rfl rfl rfl ?_
    refine .v (mv rfl) rfl rfl rfl ?_
    refine .nil ?_
    refine .seqN ?_
    refine .block ?_
    refine .sel0 [0, 4, 5, 6, 7, 8, 9, 10, 11, 3, 1, 2, 12, 13] (by decide) rfl ?_
    obtain ⟨I3, μ3, q15403, q15404⟩ := hF
    refine .loop' (σ := Int × List Entry × (List UInt8 → Int) × Option Addr × Nat × List Value × FH) (fun z => I3 z.1 z.2.1 z.2.2.1 ∧ RepL z.2.2.2.2.2.2 z.2.1 z.2.2.2.2.2.1 ∧ FH.le h743 z.2.2.2.2.2.2) (fun z => μ3 z.1 z.2.1 z.2.2.1) (fun z => [(0, .func (.yield l4) #[] #[]), (1, .pointer (some p5)), (2, .pointer (some p6)), (7, .slice ak3 k.t.ops.length ck3), (8, .int .i64 ((k.t.ops.length : Nat) : Int)), (9, .int .i64 z.1)]) (fun z => [LA2 .ready none, Box pkey [.func (.func 49) #[] #[]], Box pv [.slice none 0 0], Box pv2 [.bool false], Box pv3 [.bool false], Box pqueue [.slice z.2.2.2.1 z.2.1.length z.2.2.2.2.1], Box pseen [.map (some bv)], Box p [.int .i64 x], MkA (D :: dl), LA .ready none, Box pdone [.func (.yield l3) #[] #[]], MkA (D2 :: []), OwnSl 113 3 z.2.2.2.1 z.2.1.length z.2.2.2.2.1 z.2.2.2.2.2.1, OwnMap bv z.2.2.1]) (fun z => z.2.2.2.2.2.2) (0, l, m, al2, cl2, csl, h743) ⟨q15403, (RepL.mono (FH.le_trans (le742) (le743)) q10539), (FH.le_refl _)⟩ (.cons rfl (.cons rfl (.cons rfl (.cons rfl (.cons rfl (.cons rfl (.nil))))))) rfl (FH.le_refl _) ?_
    rintro ⟨t9, l5, m3, al4, cl4, csl3, h762⟩ ⟨q15403, q15339, q15340⟩
    have hF := q15404 t9 l5 m3 q15403
    show J _ _ _ _ _ [(0, .func (.yield l4) #[] #[]), (1, .pointer (some p5)), (2, .pointer (some p6)), (7, .slice ak3 k.t.ops.length ck3), (8, .int .i64 ((k.t.ops.length : Nat) : Int)), (9, .int .i64 t9)] [LA2 .ready none, Box pkey [.func (.func 49) #[] #[]], Box pv [.slice none 0 0], Box pv2 [.bool false], Box pv3 [.bool false], Box pqueue [.slice al4 l5.length cl4], Box pseen [.map (some bv)], Box p [.int .i64 x], MkA (D :: dl), LA .ready none, Box pdone [.func (.yield l3) #[] #[]], MkA (D2 :: []), OwnSl 113 3 al4 l5.length cl4 csl3, OwnMap bv m3] h762
    refine .seq ?_
    refine .region ?_
    refine .v (bi rfl rfl rfl) rfl rfl rfl ?_
    refine .nil ?_
    refine .seqN ?_
    refine .seq ?_
    refine .cond rfl (fun q15407 => ?_) (fun q15407 => ?_)
    · replace hF := hF.1 q15407
      refine .skip ?_
      refine .seqN ?_
      refine .share (σ := List Entry × (List UInt8 → Int) × Option Addr × Nat × List Value × FH) (fun z => F_breadthC_J1 t9 I3 μ3 l5 m3 z.1 z.2.1 ∧ RepL z.2.2.2.2.2 z.1 z.2.2.2.2.1 ∧ FH.le h762 z.2.2.2.2.2) (fun _ => [(0, .func (.yield l4) #[] #[]), (1, .pointer (some p5)), (2, .pointer (some p6)), (7, .slice ak3 k.t.ops.length ck3), (8, .int .i64 ((k.t.ops.length : Nat) : Int)), (9, .int .i64 t9)]) (fun z => [LA2 .ready none, Box pkey [.func (.func 49) #[] #[]], Box pv [.slice none 0 0], Box pv2 [.bool false], Box pv3 [.bool false], Box pqueue [.slice z.2.2.1 z.1.length z.2.2.2.1], Box pseen [.map (some bv)], Box p [.int .i64 x], MkA (D :: dl), LA .ready none, Box pdone [.func (.yield l3) #[] #[]], MkA (D2 :: []), OwnSl 113 3 z.2.2.1 z.1.length z.2.2.2.1 z.2.2.2.2.1, OwnMap bv z.2.1]) (fun z => z.2.2.2.2.2) ?_ (fun q15437 => ?_)
      · rintro ⟨l7, m5, al6, cl6, csl5, h768⟩ ⟨hF, q15435, q15436⟩
        show J _ _ _ _ _ [(0, .func (.yield l4) #[] #[]), (1, .pointer (some p5)), (2, .pointer (some p6)), (7, .slice ak3 k.t.ops.length ck3), (8, .int .i64 ((k.t.ops.length : Nat) : Int)), (9, .int .i64 t9)] [LA2 .ready none, Box pkey [.func (.func 49) #[] #[]], Box pv [.slice none 0 0], Box pv2 [.bool false], Box pv3 [.bool false], Box pqueue [.slice al6 l7.length cl6], Box pseen [.map (some bv)], Box p [.int .i64 x], MkA (D :: dl), LA .ready none, Box pdone [.func (.yield l3) #[] #[]], MkA (D2 :: []), OwnSl 113 3 al6 l7.length cl6 csl5, OwnMap bv m5] h768
        refine .region ?_
        refine .v (bi rfl rfl rfl) rfl rfl rfl ?_
        refine .v (mv rfl) rfl rfl rfl ?_
        refine .nil ?_
        exact .round (IntKind.i64.wrap (t9 + 1), l7, m5, al6, cl6, csl5, h768) ⟨hF.1, q15435, (FH.le_trans (q15340) (q15436))⟩ hF.2 (.cons rfl (.cons rfl (.cons rfl (.cons rfl (.cons rfl (.cons rfl (.nil))))))) rfl (FH.le_refl _)
      refine .block ?_
      refine .seq ?_
      refine .region ?_
      refine .v (mv rfl) rfl rfl rfl ?_
      obtain ⟨q15438, hF⟩ := hF
      refine .v (ix rfl rfl tS23 (_q7.ne (by decide) (inb_pos q15438)) q15438) rfl rfl rfl ?_
      obtain ⟨_, ⟨a8, c4, a9, c5, a10, c6, rfl, ⟨q15439, q15440⟩, ⟨q15441, q15442⟩, q15443, q15444⟩, q15445⟩ := _q7.elem q15438
      refine .v (ldA (cs := [.slice a8 ((gt k.t.ops t9).pre.length) c4, .slice a9 ((gt k.t.ops t9).add.length) c5, .slice a10 ((gt k.t.ops t9).del.length) c6, .int .i64 ((gt k.t.ops t9).cost)]) rfl tA54 rfl (cellsH ((fun q => (q15445 q).mono (FH.le_trans (FH.le_trans (FH.le_trans (q10540) (le742)) (le743)) (q15340))) (by decide)))) rfl rfl rfl ?_
      refine al tZ54 rfl (fun pkey2 => ?_)
      refine .v (asg rfl) rfl rfl rfl ?_
      refine st (p := pkey2) (off := 0) (k := 0) (vs := [.slice a8 ((gt k.t.ops t9).pre.length) c4, .slice a9 ((gt k.t.ops t9).add.length) c5, .slice a10 ((gt k.t.ops t9).del.length) c6, .int .i64 ((gt k.t.ops t9).cost)]) rfl rfl rfl (fun w => (tA54 w).2) rfl rfl rfl rfl ?_
      refine .cast (A' := [Box pkey2 [.slice a8 ((gt k.t.ops t9).pre.length) c4, .slice a9 ((gt k.t.ops t9).add.length) c5, .slice a10 ((gt k.t.ops t9).del.length) c6, .int .i64 ((gt k.t.ops t9).cost)], LA2 .ready none, Box pkey [.func (.func 49) #[] #[]], Box pv [.slice none 0 0], Box pv2 [.bool false], Box pv3 [.bool false], Box pqueue [.slice al4 l5.length cl4], Box pseen [.map (some bv)], Box p [.int .i64 x], MkA (D :: dl), LA .ready none, Box pdone [.func (.yield l3) #[] #[]], MkA (D2 :: []), OwnSl 113 3 al4 l5.length cl4 csl3, OwnMap bv m3]) rfl ?_
      refine .nil ?_
      refine .seqN ?_
      refine .seq ?_
      refine .region ?_
      refine .v (ld1 (v := .slice a2 ((gt l x).node.length) c) rfl tO35 (cellH (CellsAt.mono (q15340) q15080 0 _ rfl))) rfl rfl rfl ?_
      refine .v (fa rfl tF54_0) rfl rfl rfl ?_
      refine .v (ld1 rfl tO22 (cellB (off := 0) (k := 0) rfl rfl)) rfl rfl rfl ?_
      obtain ⟨q15446, hF⟩ := hF
      obtain ⟨r7, q15447⟩ : ∃ y_ : Bool, y_ = sp_sure ((gt l x).node) ((gt k.t.ops t9).pre) := ⟨_, rfl⟩
      replace hF := hF r7 q15447
      refine .c (cl (v := .bool r7) Tryz.call52 rfl rfl (fun w S => (by rw [q15447]; exact c_sure S.sub ((gt l x).node) a2 c (q14886.mono (FH.le_trans (FH.le_trans (le742) (le743)) (q15340))) q14885 ((gt k.t.ops t9).pre) a8 c4 (q15440.mono (FH.le_trans (FH.le_trans (FH.le_trans (q10540) (le742)) (le743)) (q15340))) q15439 q15446))) rfl rfl rfl ?_
      refine .v (mv rfl) rfl rfl rfl ?_
      rcases Bool.eq_false_or_eq_true (r7) with q15448 | q15448
      · replace hF := hF.1 q15448
        refine .gv (mv rfl) rfl rfl rfl q15448 rfl rfl ?_
        refine .gv (mv rfl) rfl rfl rfl q15448 rfl rfl ?_
        refine .gv (ldA (cs := [.int .i64 k.t.facts, .slice ak k.t.init.length ck, .slice ak2 k.t.goal.length ck2, .slice ak3 k.t.ops.length ck3]) rfl tA25 rfl (cellsH (q15079.mono (q15340)))) rfl rfl rfl q15448 rfl rfl ?_
        refine .gv (ld1 (v := .slice a2 ((gt l x).node.length) c) rfl tO35 (cellH (CellsAt.mono (q15340) q15080 0 _ rfl))) rfl rfl rfl q15448 rfl rfl ?_
        refine .gv (mv rfl) rfl rfl rfl q15448 rfl rfl ?_
        obtain ⟨q15449, hF⟩ := hF
        obtain ⟨r8, q15450⟩ : ∃ y_ : List (List Int), y_ = sp_bafter k.t ((gt l x).node) t9 := ⟨_, rfl⟩
        replace hF := hF r8 q15450
        refine .gR rfl rfl rfl q15448 ?_
        refine clR (α := Option Addr × Nat) (Φ := fun h1 z => RSl h1 z.1 r8 ∧ r8.length ≤ z.2) (V := fun z => .slice z.1 r8.length z.2) Tryz.call60 rfl rfl (fun w S => (by rw [q15450]; exact c_bafter S.sub k.t ak ck (_q3.mono (FH.le_trans (FH.le_trans (FH.le_trans (q10540) (le742)) (le743)) (q15340))) _q4 ak2 ck2 (_q5.mono (FH.le_trans (FH.le_trans (FH.le_trans (q10540) (le742)) (le743)) (q15340))) _q6 ak3 ck3 (_q7.mono (FH.le_trans (FH.le_trans (FH.le_trans (q10540) (le742)) (le743)) (q15340))) _q8 ((gt l x).node) a2 c (q14886.mono (FH.le_trans (FH.le_trans (le742) (le743)) (q15340))) q14885 t9 q15449)) rfl (fun z h769 le769 hz => ?_)
        obtain ⟨a11, c7⟩ := z
        obtain ⟨q15451, q15452⟩ := hz
        refine .gR rfl rfl rfl q15448 ?_
        refine .yld (k := 1) (vs := [.int .i64 t9, .slice a11 r8.length c7]) q15273 rfl rfl rfl rfl rfl (fun aG q15453 => ?_)
        refine .sub (s' := [(3, .pointer (some pdone)), (16, .int .i64 t9), (17, .slice a11 r8.length c7)]) (.cons rfl (.cons rfl (.cons rfl (.nil)))) ?_
        refine .seq ?_
        refine .region ?_
        refine .v (asg rfl) rfl rfl rfl ?_
        refine .nil ?_
        refine .seqN ?_
        refine .region ?_
        refine .v (asg rfl) rfl rfl rfl ?_
        refine .nil ?_
        refine .begin_ (k := 1) q15273 rfl ?_
        refine .cast (A' := [Box pkey2 [.slice a8 ((gt k.t.ops t9).pre.length) c4, .slice a9 ((gt k.t.ops t9).add.length) c5, .slice a10 ((gt k.t.ops t9).del.length) c6, .int .i64 ((gt k.t.ops t9).cost)], LA2 .busy none, Box pkey [.func (.func 49) #[] #[]], Box pv [.slice none 0 0], Box pv2 [.bool false], Box pv3 [.bool false], Box pqueue [.slice al4 l5.length cl4], Box pseen [.map (some bv)], Box p [.int .i64 x], MkA (D :: dl), LA .ready none, Box pdone [.func (.yield l3) #[] #[]], MkA (D2 :: []), OwnSl 113 3 al4 l5.length cl4 csl3, OwnMap bv m3]) rfl ?_
        refine .block ?_
        refine .seq ?_
        refine .region ?_
        refine .v (ld1 rfl tO119 (cellB (off := 0) (k := 11) rfl rfl)) rfl rfl rfl ?_
        refine .v (mv rfl) rfl rfl rfl ?_
        refine .v (mv rfl) rfl rfl rfl ?_
        refine .yld (k := 10) (vs := [.int .i64 t9, .slice a11 r8.length c7]) q15076 rfl rfl rfl rfl rfl (fun aG2 q15454 => ?_)
        refine .sub (s' := [(5, .pointer (some pkey)), (8, .pointer (some pv)), (9, .pointer (some pv2)), (10, .pointer (some pv3)), (11, .pointer (some pqueue)), (12, .pointer (some pseen)), (13, .pointer (some p)), (70, .int .i64 t9), (71, .slice a11 r8.length c7)]) (.cons rfl (.cons rfl (.cons rfl (.cons rfl (.cons rfl (.cons rfl (.cons rfl (.cons rfl (.cons rfl (.nil)))))))))) ?_
        refine .seq ?_
        refine .region ?_
        refine .v (asg rfl) rfl rfl rfl ?_
        refine .nil ?_
        refine .seqN ?_
        refine .region ?_
        refine .v (asg rfl) rfl rfl rfl ?_
        refine .nil ?_
        refine .begin_ (k := 10) q15076 rfl ?_
        refine .cast (A' := [Box pkey2 [.slice a8 ((gt k.t.ops t9).pre.length) c4, .slice a9 ((gt k.t.ops t9).add.length) c5, .slice a10 ((gt k.t.ops t9).del.length) c6, .int .i64 ((gt k.t.ops t9).cost)], LA2 .busy none, Box pkey [.func (.func 49) #[] #[]], Box pv [.slice none 0 0], Box pv2 [.bool false], Box pv3 [.bool false], Box pqueue [.slice al4 l5.length cl4], Box pseen [.map (some bv)], Box p [.int .i64 x], MkA (D :: dl), LA .busy none, Box pdone [.func (.yield l3) #[] #[]], MkA (D2 :: []), OwnSl 113 3 al4 l5.length cl4 csl3, OwnMap bv m3]) rfl ?_
        refine .block ?_
        refine .seq ?_
        refine .region ?_
        refine .v (ld1 rfl tO80 (cellB (off := 0) (k := 2) rfl rfl)) rfl rfl rfl ?_
        refine .v (mv rfl) rfl rfl rfl ?_
        obtain ⟨q15455, hF⟩ := hF
        obtain ⟨r9, q15456⟩ : ∃ y_ : List UInt8, y_ = sp_key r8 := ⟨_, rfl⟩
        replace hF := hF r9 q15456
        refine .c (cl (v := strV r9) Tryz.call49 rfl rfl (fun w S => (by rw [q15456]; exact c_key S.sub (ht.mono (FH.le_trans (FH.le_trans (FH.le_trans (FH.le_trans (q10540) (le742)) (le743)) (q15340)) (le769))) r8 a11 c7 q15451 q15452 q15455))) rfl rfl rfl ?_
        refine .v (asg rfl) rfl rfl rfl ?_
        refine .nil ?_
        refine .seqN ?_
        refine .seq ?_
        refine .seq ?_
        refine .region ?_
        refine .v (ld1 rfl tO97 (cellB (off := 0) (k := 7) rfl rfl)) rfl rfl rfl ?_
        refine .v (mv rfl) rfl rfl rfl ?_
        refine .v (lk tM97 rfl rfl (kk := 14) rfl) rfl rfl rfl ?_
        refine .v (bi rfl rfl rfl) rfl rfl rfl ?_
        refine .nil ?_
        refine .seqN ?_
        refine .cond rfl (fun q15458 => ?_) (fun q15458 => ?_)
        · replace hF := hF.1 q15458
          refine .exit ?_
          refine .seqX ?_
          refine .blkX ?_
          refine .rdN (k := 10) q15076 rfl q15454 rfl ?_
          refine .cast (A' := [Box pkey2 [.slice a8 ((gt k.t.ops t9).pre.length) c4, .slice a9 ((gt k.t.ops t9).add.length) c5, .slice a10 ((gt k.t.ops t9).del.length) c6, .int .i64 ((gt k.t.ops t9).cost)], LA2 .busy none, Box pkey [.func (.func 49) #[] #[]], Box pv [.slice none 0 0], Box pv2 [.bool false], Box pv3 [.bool false], Box pqueue [.slice al4 l5.length cl4], Box pseen [.map (some bv)], Box p [.int .i64 x], MkA (D :: dl), LA .ready none, Box pdone [.func (.yield l3) #[] #[]], MkA (D2 :: []), OwnSl 113 3 al4 l5.length cl4 csl3, OwnMap bv m3]) rfl ?_
          refine .v (nt rfl) rfl rfl rfl ?_
          refine .nil ?_
          refine .seqN ?_
          refine .cond rfl (fun e => absurd (e.symm.trans rfl) (by decide)) (fun _ => ?_)
          refine .skip ?_
          refine .blkN ?_
          refine .rdN (k := 1) q15273 rfl q15453 rfl ?_
          refine .cast (A' := [Box pkey2 [.slice a8 ((gt k.t.ops t9).pre.length) c4, .slice a9 ((gt k.t.ops t9).add.length) c5, .slice a10 ((gt k.t.ops t9).del.length) c6, .int .i64 ((gt k.t.ops t9).cost)], LA2 .ready none, Box pkey [.func (.func 49) #[] #[]], Box pv [.slice none 0 0], Box pv2 [.bool false], Box pv3 [.bool false], Box pqueue [.slice al4 l5.length cl4], Box pseen [.map (some bv)], Box p [.int .i64 x], MkA (D :: dl), LA .ready none, Box pdone [.func (.yield l3) #[] #[]], MkA (D2 :: []), OwnSl 113 3 al4 l5.length cl4 csl3, OwnMap bv m3]) rfl ?_
          refine .gv (nt rfl) rfl rfl rfl q15448 rfl rfl ?_
          refine .v (pkT rfl q15448 rfl) rfl rfl rfl ?_
          refine .nil ?_
          refine .seqN ?_
          refine .cond rfl (fun e => absurd (e.symm.trans rfl) (by decide)) (fun _ => ?_)
          refine .skip ?_
          refine .blkN ?_
          refine .sel0 [1, 2, 3, 4, 5, 6, 7, 8, 9, 10, 11, 12, 13, 14] (by decide) rfl ?_
          exact .use q15437 (l5, m3, al4, cl4, csl3, h769) ⟨hF, (RepL.mono (le769) q15339), (le769)⟩ (.cons rfl (.cons rfl (.cons rfl (.cons rfl (.cons rfl (.cons rfl (.nil))))))) rfl (FH.le_refl _)
        replace hF := hF.2 q15458
        refine .skip ?_
        refine .seqN ?_
        refine .seq ?_
        refine .seq ?_
        refine .region ?_
        refine .v (ld1 rfl tO114 (cellB (off := 0) (k := 6) rfl rfl)) rfl rfl rfl ?_
        refine .v (ln rfl tS114.is) rfl rfl rfl ?_
        refine .v (bi rfl rfl rfl) rfl rfl rfl ?_
        refine .nil ?_
        refine .seqN ?_
        refine .cond rfl (fun q15460 => ?_) (fun q15460 => ?_)
        · replace hF := hF.1 q15460
          refine .seq ?_
          refine .region ?_
          refine st (p := pv) (off := 0) (k := 3) (vs := [.slice none 0 0]) rfl rfl rfl (fun w => (tO22 w).2) rfl rfl rfl rfl ?_
          refine .cast (A' := [Box pkey2 [.slice a8 ((gt k.t.ops t9).pre.length) c4, .slice a9 ((gt k.t.ops t9).add.length) c5, .slice a10 ((gt k.t.ops t9).del.length) c6, .int .i64 ((gt k.t.ops t9).cost)], LA2 .busy none, Box pkey [.func (.func 49) #[] #[]], Box pv [.slice none 0 0], Box pv2 [.bool false], Box pv3 [.bool false], Box pqueue [.slice al4 l5.length cl4], Box pseen [.map (some bv)], Box p [.int .i64 x], MkA (D :: dl), LA .busy none, Box pdone [.func (.yield l3) #[] #[]], MkA (D2 :: []), OwnSl 113 3 al4 l5.length cl4 csl3, OwnMap bv m3]) rfl ?_
          refine st (p := pv2) (off := 0) (k := 4) (vs := [.bool false]) rfl rfl rfl (fun w => (tO4 w).2) rfl rfl rfl rfl ?_
          refine .cast (A' := [Box pkey2 [.slice a8 ((gt k.t.ops t9).pre.length) c4, .slice a9 ((gt k.t.ops t9).add.length) c5, .slice a10 ((gt k.t.ops t9).del.length) c6, .int .i64 ((gt k.t.ops t9).cost)], LA2 .busy none, Box pkey [.func (.func 49) #[] #[]], Box pv [.slice none 0 0], Box pv2 [.bool false], Box pv3 [.bool false], Box pqueue [.slice al4 l5.length cl4], Box pseen [.map (some bv)], Box p [.int .i64 x], MkA (D :: dl), LA .busy none, Box pdone [.func (.yield l3) #[] #[]], MkA (D2 :: []), OwnSl 113 3 al4 l5.length cl4 csl3, OwnMap bv m3]) rfl ?_
          refine st (p := pv3) (off := 0) (k := 5) (vs := [.bool false]) rfl rfl rfl (fun w => (tO4 w).2) rfl rfl rfl rfl ?_
          refine .cast (A' := [Box pkey2 [.slice a8 ((gt k.t.ops t9).pre.length) c4, .slice a9 ((gt k.t.ops t9).add.length) c5, .slice a10 ((gt k.t.ops t9).del.length) c6, .int .i64 ((gt k.t.ops t9).cost)], LA2 .busy none, Box pkey [.func (.func 49) #[] #[]], Box pv [.slice none 0 0], Box pv2 [.bool false], Box pv3 [.bool false], Box pqueue [.slice al4 l5.length cl4], Box pseen [.map (some bv)], Box p [.int .i64 x], MkA (D :: dl), LA .busy none, Box pdone [.func (.yield l3) #[] #[]], MkA (D2 :: []), OwnSl 113 3 al4 l5.length cl4 csl3, OwnMap bv m3]) rfl ?_
          refine .nil ?_
          refine .seqN ?_
          refine .ret ?_
          refine .seqR ?_
          refine .blkR ?_
          refine .rdR (k := 10) q15076 rfl q15454 rfl ?_
          refine .cast (A' := [Box pkey2 [.slice a8 ((gt k.t.ops t9).pre.length) c4, .slice a9 ((gt k.t.ops t9).add.length) c5, .slice a10 ((gt k.t.ops t9).del.length) c6, .int .i64 ((gt k.t.ops t9).cost)], LA2 .busy none, Box pkey [.func (.func 49) #[] #[]], Box pv [.slice none 0 0], Box pv2 [.bool false], Box pv3 [.bool false], Box pqueue [.slice al4 l5.length cl4], Box pseen [.map (some bv)], Box p [.int .i64 x], MkA (D :: dl), LA .done (some .ret), Box pdone [.func (.yield l3) #[] #[]], MkA (D2 :: []), OwnSl 113 3 al4 l5.length cl4 csl3, OwnMap bv m3]) rfl ?_
          refine .v (nt rfl) rfl rfl rfl ?_
          refine .nil ?_
          refine .seqN ?_
          refine .cond rfl (fun _ => ?_) (fun e => absurd (e.symm.trans rfl) (by decide))
          refine .ret ?_
          refine .blkR ?_
          refine .rdR (k := 1) q15273 rfl q15453 rfl ?_
          refine .cast (A' := [Box pkey2 [.slice a8 ((gt k.t.ops t9).pre.length) c4, .slice a9 ((gt k.t.ops t9).add.length) c5, .slice a10 ((gt k.t.ops t9).del.length) c6, .int .i64 ((gt k.t.ops t9).cost)], LA2 .done (some .ret), Box pkey [.func (.func 49) #[] #[]], Box pv [.slice none 0 0], Box pv2 [.bool false], Box pv3 [.bool false], Box pqueue [.slice al4 l5.length cl4], Box pseen [.map (some bv)], Box p [.int .i64 x], MkA (D :: dl), LA .done (some .ret), Box pdone [.func (.yield l3) #[] #[]], MkA (D2 :: []), OwnSl 113 3 al4 l5.length cl4 csl3, OwnMap bv m3]) rfl ?_
          refine .gv (nt rfl) rfl rfl rfl q15448 rfl rfl ?_
          refine .v (pkT rfl q15448 rfl) rfl rfl rfl ?_
          refine .nil ?_
          refine .seqN ?_
          refine .cond rfl (fun _ => ?_) (fun e => absurd (e.symm.trans rfl) (by decide))
          refine .ret ?_
          refine .blkR ?_
          refine .seqR ?_
          refine .seqR ?_
          refine .blkR ?_
          refine .res0 (.inl rfl) rfl (range_jump (k := 1) q15273 rfl q15274 ?_)
          refine .unwide ?_
          refine .cast (A' := [Box pkey2 [.slice a8 ((gt k.t.ops t9).pre.length) c4, .slice a9 ((gt k.t.ops t9).add.length) c5, .slice a10 ((gt k.t.ops t9).del.length) c6, .int .i64 ((gt k.t.ops t9).cost)], tru, Box pkey [.func (.func 49) #[] #[]], Box pv [.slice none 0 0], Box pv2 [.bool false], Box pv3 [.bool false], Box pqueue [.slice al4 l5.length cl4], Box pseen [.map (some bv)], Box p [.int .i64 x], MkA (D :: dl), LA .done (some .ret), Box pdone [.func (.yield l3) #[] #[]], MkA (D2 :: []), OwnSl 113 3 al4 l5.length cl4 csl3, OwnMap bv m3]) rfl ?_
          refine .ret ?_
          refine .blkR ?_
          refine .seqR ?_
          refine .resMN (.inl rfl) (k := 12) rfl ?_
          refine .res0 (.inl rfl) rfl (range_jump (k := 10) q15076 rfl q15077 ?_)
          refine .cast (A' := [Box pkey2 [.slice a8 ((gt k.t.ops t9).pre.length) c4, .slice a9 ((gt k.t.ops t9).add.length) c5, .slice a10 ((gt k.t.ops t9).del.length) c6, .int .i64 ((gt k.t.ops t9).cost)], tru, Box pkey [.func (.func 49) #[] #[]], Box pv [.slice none 0 0], Box pv2 [.bool false], Box pv3 [.bool false], Box pqueue [.slice al4 l5.length cl4], Box pseen [.map (some bv)], Box p [.int .i64 x], MkA (D :: dl), tru, Box pdone [.func (.yield l3) #[] #[]], tru, OwnSl 113 3 al4 l5.length cl4 csl3, OwnMap bv m3]) rfl ?_
          refine .ret ?_
          refine .blkR ?_
          refine .blkR ?_
          refine .seqR ?_
          refine .seqR ?_
          refine .blkR ?_
          refine .seqR ?_
          refine .resM (k := 9) rfl ?_
          refine .res3 rfl (rvC1 rfl tO22 (k := 3) rfl) (rvC1 rfl tO4 (k := 4) rfl) (rvC1 rfl tO4 (k := 5) rfl) (fun w' S => ⟨(([] : List Int), false, false), (none, 0), h769, hF, rfl, (FH.le_trans (FH.le_trans (FH.le_trans (FH.le_trans (q10540) (le742)) (le743)) (q15340)) (le769)), ⟨RSl.nil_, (Nat.le_refl 0)⟩, S.none⟩)
        replace hF := hF.2 q15460
        refine .skip ?_
        refine .seqN ?_
        refine .seq ?_
        refine .region ?_
        refine .v (ld1 rfl tO97 (cellB (off := 0) (k := 7) rfl rfl)) rfl rfl rfl ?_
        refine .v (mv rfl) rfl rfl rfl ?_
        refine mu tM97 rfl rfl rfl (kk := 14) rfl ?_
        refine .cast (A' := [Box pkey2 [.slice a8 ((gt k.t.ops t9).pre.length) c4, .slice a9 ((gt k.t.ops t9).add.length) c5, .slice a10 ((gt k.t.ops t9).del.length) c6, .int .i64 ((gt k.t.ops t9).cost)], LA2 .busy none, Box pkey [.func (.func 49) #[] #[]], Box pv [.slice none 0 0], Box pv2 [.bool false], Box pv3 [.bool false], Box pqueue [.slice al4 l5.length cl4], Box pseen [.map (some bv)], Box p [.int .i64 x], MkA (D :: dl), LA .busy none, Box pdone [.func (.yield l3) #[] #[]], MkA (D2 :: []), OwnSl 113 3 al4 l5.length cl4 csl3, OwnMap bv (upd m3 r9 1)]) rfl ?_
        refine .nil ?_
        refine .seqN ?_
        refine .region ?_
        refine .v (ld1 rfl tO114 (cellB (off := 0) (k := 6) rfl rfl)) rfl rfl rfl ?_
        refine .v (mv rfl) rfl rfl rfl ?_
        refine .v (ld1 rfl tO3 (cellB (off := 0) (k := 8) rfl rfl)) rfl rfl rfl ?_
        refine .v (mv rfl) rfl rfl rfl ?_
        refine .v (bld (cs := #[.slice a11 r8.length c7, .int .i64 x, .int .i64 t9]) (pv := [(0, .slice a11 r8.length c7), (1, .int .i64 x), (2, .int .i64 t9)]) tB113 rfl rfl) rfl rfl rfl ?_
        refine bs2 (cs := #[.slice a11 r8.length c7, .int .i64 x, .int .i64 t9]) (pv := [(0, .agg #[.slice a11 r8.length c7, .int .i64 x, .int .i64 t9])]) tS114 rfl rfl (by decide) (by decide) rfl rfl rfl (fun a12 _ => ?_)
        refine .cast (A' := [OwnSl 113 3 a12 (([(⟨r8, x, t9⟩ : Entry)] : List Entry).length) 1 [.slice a11 r8.length c7, .int .i64 x, .int .i64 t9], Box pkey2 [.slice a8 ((gt k.t.ops t9).pre.length) c4, .slice a9 ((gt k.t.ops t9).add.length) c5, .slice a10 ((gt k.t.ops t9).del.length) c6, .int .i64 ((gt k.t.ops t9).cost)], LA2 .busy none, Box pkey [.func (.func 49) #[] #[]], Box pv [.slice none 0 0], Box pv2 [.bool false], Box pv3 [.bool false], Box pqueue [.slice al4 l5.length cl4], Box pseen [.map (some bv)], Box p [.int .i64 x], MkA (D :: dl), LA .busy none, Box pdone [.func (.yield l3) #[] #[]], MkA (D2 :: []), OwnSl 113 3 al4 l5.length cl4 csl3, OwnMap bv (upd m3 r9 1)]) rfl ?_
        obtain ⟨q15462, hF⟩ := hF
        have q15463 : l5.length + ([(⟨r8, x, t9⟩ : Entry)] : List Entry).length = ((l5 ++ ([(⟨r8, x, t9⟩ : Entry)] : List Entry))).length := len_app rfl rfl
        have q15464 := RepL.append (RepL.mono (le769) q15339) (show RepL h769 ([(⟨r8, x, t9⟩ : Entry)] : List Entry) [.slice a11 r8.length c7, .int .i64 x, .int .i64 t9] from ⟨[.slice a11 r8.length c7, .int .i64 x, .int .i64 t9], _, rfl, ⟨a11, c7, rfl, ⟨q15452, q15451⟩⟩, rfl⟩)
        refine app (k := 14) (news := [.slice a11 r8.length c7, .int .i64 x, .int .i64 t9]) (cs' := (csl3 ++ [.slice a11 r8.length c7, .int .i64 x, .int .i64 t9])) (nm := ((l5 ++ ([(⟨r8, x, t9⟩ : Entry)] : List Entry))).length) tS114 rfl (by decide) rfl rfl rfl (RepL.len (show RepL h769 ([(⟨r8, x, t9⟩ : Entry)] : List Entry) [.slice a11 r8.length c7, .int .i64 x, .int .i64 t9] from ⟨[.slice a11 r8.length c7, .int .i64 x, .int .i64 t9], _, rfl, ⟨a11, c7, rfl, ⟨q15452, q15451⟩⟩, rfl⟩)) (srcS (k := 0) rfl) (RepL.one (show RepL h769 ([(⟨r8, x, t9⟩ : Entry)] : List Entry) [.slice a11 r8.length c7, .int .i64 x, .int .i64 t9] from ⟨[.slice a11 r8.length c7, .int .i64 x, .int .i64 t9], _, rfl, ⟨a11, c7, rfl, ⟨q15452, q15451⟩⟩, rfl⟩)) (room_of q15463 q15462).1 (room_of q15463 q15462).2 q15463 rfl rfl (fun a13 c8 => ?_)
        refine .cast (A' := [OwnSl 113 3 a12 (([(⟨r8, x, t9⟩ : Entry)] : List Entry).length) 1 [.slice a11 r8.length c7, .int .i64 x, .int .i64 t9], Box pkey2 [.slice a8 ((gt k.t.ops t9).pre.length) c4, .slice a9 ((gt k.t.ops t9).add.length) c5, .slice a10 ((gt k.t.ops t9).del.length) c6, .int .i64 ((gt k.t.ops t9).cost)], LA2 .busy none, Box pkey [.func (.func 49) #[] #[]], Box pv [.slice none 0 0], Box pv2 [.bool false], Box pv3 [.bool false], Box pqueue [.slice al4 l5.length cl4], Box pseen [.map (some bv)], Box p [.int .i64 x], MkA (D :: dl), LA .busy none, Box pdone [.func (.yield l3) #[] #[]], MkA (D2 :: []), OwnSl 113 3 a13 ((l5 ++ ([(⟨r8, x, t9⟩ : Entry)] : List Entry)).length) c8 (csl3 ++ [.slice a11 r8.length c7, .int .i64 x, .int .i64 t9]), OwnMap bv (upd m3 r9 1)]) rfl ?_
        refine st (p := pqueue) (off := 0) (k := 7) (vs := [.slice a13 ((l5 ++ ([(⟨r8, x, t9⟩ : Entry)] : List Entry)).length) c8]) rfl rfl rfl (fun w => (tO114 w).2) rfl rfl rfl rfl ?_
        refine .cast (A' := [OwnSl 113 3 a12 (([(⟨r8, x, t9⟩ : Entry)] : List Entry).length) 1 [.slice a11 r8.length c7, .int .i64 x, .int .i64 t9], Box pkey2 [.slice a8 ((gt k.t.ops t9).pre.length) c4, .slice a9 ((gt k.t.ops t9).add.length) c5, .slice a10 ((gt k.t.ops t9).del.length) c6, .int .i64 ((gt k.t.ops t9).cost)], LA2 .busy none, Box pkey [.func (.func 49) #[] #[]], Box pv [.slice none 0 0], Box pv2 [.bool false], Box pv3 [.bool false], Box pqueue [.slice a13 ((l5 ++ ([(⟨r8, x, t9⟩ : Entry)] : List Entry)).length) c8], Box pseen [.map (some bv)], Box p [.int .i64 x], MkA (D :: dl), LA .busy none, Box pdone [.func (.yield l3) #[] #[]], MkA (D2 :: []), OwnSl 113 3 a13 ((l5 ++ ([(⟨r8, x, t9⟩ : Entry)] : List Entry)).length) c8 (csl3 ++ [.slice a11 r8.length c7, .int .i64 x, .int .i64 t9]), OwnMap bv (upd m3 r9 1)]) rfl ?_
        refine .nil ?_
        refine .blkN ?_
        refine .rdN (k := 11) q15076 rfl q15454 rfl ?_
        refine .cast (A' := [OwnSl 113 3 a12 (([(⟨r8, x, t9⟩ : Entry)] : List Entry).length) 1 [.slice a11 r8.length c7, .int .i64 x, .int .i64 t9], Box pkey2 [.slice a8 ((gt k.t.ops t9).pre.length) c4, .slice a9 ((gt k.t.ops t9).add.length) c5, .slice a10 ((gt k.t.ops t9).del.length) c6, .int .i64 ((gt k.t.ops t9).cost)], LA2 .busy none, Box pkey [.func (.func 49) #[] #[]], Box pv [.slice none 0 0], Box pv2 [.bool false], Box pv3 [.bool false], Box pqueue [.slice a13 ((l5 ++ ([(⟨r8, x, t9⟩ : Entry)] : List Entry)).length) c8], Box pseen [.map (some bv)], Box p [.int .i64 x], MkA (D :: dl), LA .ready none, Box pdone [.func (.yield l3) #[] #[]], MkA (D2 :: []), OwnSl 113 3 a13 ((l5 ++ ([(⟨r8, x, t9⟩ : Entry)] : List Entry)).length) c8 (csl3 ++ [.slice a11 r8.length c7, .int .i64 x, .int .i64 t9]), OwnMap bv (upd m3 r9 1)]) rfl ?_
        refine .v (nt rfl) rfl rfl rfl ?_
        refine .nil ?_
        refine .seqN ?_
        refine .cond rfl (fun e => absurd (e.symm.trans rfl) (by decide)) (fun _ => ?_)
        refine .skip ?_
        refine .blkN ?_
        refine .rdN (k := 2) q15273 rfl q15453 rfl ?_
        refine .cast (A' := [OwnSl 113 3 a12 (([(⟨r8, x, t9⟩ : Entry)] : List Entry).length) 1 [.slice a11 r8.length c7, .int .i64 x, .int .i64 t9], Box pkey2 [.slice a8 ((gt k.t.ops t9).pre.length) c4, .slice a9 ((gt k.t.ops t9).add.length) c5, .slice a10 ((gt k.t.ops t9).del.length) c6, .int .i64 ((gt k.t.ops t9).cost)], LA2 .ready none, Box pkey [.func (.func 49) #[] #[]], Box pv [.slice none 0 0], Box pv2 [.bool false], Box pv3 [.bool false], Box pqueue [.slice a13 ((l5 ++ ([(⟨r8, x, t9⟩ : Entry)] : List Entry)).length) c8], Box pseen [.map (some bv)], Box p [.int .i64 x], MkA (D :: dl), LA .ready none, Box pdone [.func (.yield l3) #[] #[]], MkA (D2 :: []), OwnSl 113 3 a13 ((l5 ++ ([(⟨r8, x, t9⟩ : Entry)] : List Entry)).length) c8 (csl3 ++ [.slice a11 r8.length c7, .int .i64 x, .int .i64 t9]), OwnMap bv (upd m3 r9 1)]) rfl ?_
        refine .gv (nt rfl) rfl rfl rfl q15448 rfl rfl ?_
        refine .v (pkT rfl q15448 rfl) rfl rfl rfl ?_
        refine .nil ?_
        refine .seqN ?_
        refine .cond rfl (fun e => absurd (e.symm.trans rfl) (by decide)) (fun _ => ?_)
        refine .skip ?_
        refine .blkN ?_
        refine .sel0 [2, 3, 4, 5, 6, 7, 8, 9, 10, 11, 12, 13, 14, 15] (by decide) rfl ?_
        exact .use q15437 ((l5 ++ ([(⟨r8, x, t9⟩ : Entry)] : List Entry)), (upd m3 r9 1), a13, c8, (csl3 ++ [.slice a11 r8.length c7, .int .i64 x, .int .i64 t9]), h769) ⟨hF, q15464, (le769)⟩ (.cons rfl (.cons rfl (.cons rfl (.cons rfl (.cons rfl (.cons rfl (.nil))))))) rfl (FH.le_refl _)
      replace hF := hF.2 q15448
      refine .gS rfl rfl rfl q15448 rfl rfl ?_
      refine .gS rfl rfl rfl q15448 rfl rfl ?_
      refine .gS rfl rfl rfl q15448 rfl rfl ?_
      refine .gS rfl rfl rfl q15448 rfl rfl ?_
      refine .gS rfl rfl rfl q15448 rfl rfl ?_
      refine .gS rfl rfl rfl q15448 rfl rfl ?_
      refine .gS rfl rfl rfl q15448 rfl rfl ?_
      refine .gS rfl rfl rfl q15448 rfl rfl ?_
      refine .v (pkF rfl q15448 rfl) rfl rfl rfl ?_
      refine .nil ?_
      refine .seqN ?_
      refine .cond rfl (fun e => absurd (e.symm.trans rfl) (by decide)) (fun _ => ?_)
      refine .skip ?_
      refine .blkN ?_
      refine .sel0 [1, 2, 3, 4, 5, 6, 7, 8, 9, 10, 11, 12, 13, 14] (by decide) rfl ?_
      exact .use q15437 (l5, m3, al4, cl4, csl3, h762) ⟨hF, q15339, (FH.le_refl _)⟩ (.cons rfl (.cons rfl (.cons rfl (.cons rfl (.cons rfl (.cons rfl (.nil))))))) rfl (FH.le_refl _)
    replace hF := hF.2 q15407
    refine .exit ?_
    refine .seqX ?_
    refine .seqX ?_
    refine .blkX ?_
    refine .res0 (.inr rfl) rfl (range_done (k := 0) q15273 rfl q15274 ?_)
    refine .unwide ?_
    refine .cast (A' := [tru, Box pkey [.func (.func 49) #[] #[]], Box pv [.slice none 0 0], Box pv2 [.bool false], Box pv3 [.bool false], Box pqueue [.slice al4 l5.length cl4], Box pseen [.map (some bv)], Box p [.int .i64 x], MkA (D :: dl), LA .ready none, Box pdone [.func (.yield l3) #[] #[]], MkA (D2 :: []), OwnSl 113 3 al4 l5.length cl4 csl3, OwnMap bv m3]) rfl ?_
    refine .blkN ?_
    refine .seqN ?_
    refine .seq ?_
    refine .region ?_
    refine .v (ld1 (v := .pointer (some pk)) rfl tO96 (cellH (CellsAt.mono (FH.le_trans (le743) (q15340)) q15074 0 _ rfl))) rfl rfl rfl ?_
    refine .v (nck rfl) rfl rfl rfl ?_
    refine .v (fa rfl tF99_1) rfl rfl rfl ?_
    refine .v (ld1 (v := .slice ak4 k.sensors.length ck4) rfl tO22 (cellH (CellsAt.mono (FH.le_trans (FH.le_trans (FH.le_trans (q10540) (le742)) (le743)) (q15340)) _q11 4 _ rfl))) rfl rfl rfl ?_
    refine .v (ln rfl tS22.is) rfl rfl rfl ?_
    refine .v (mv rfl) rfl rfl rfl ?_
    refine .nil ?_
    refine .seqN ?_
    refine .block ?_
    refine .sel0 [10, 11, 1, 2, 3, 4, 5, 6, 7, 8, 9, 12, 13] (by decide) rfl ?_
    obtain ⟨I4, μ4, q15657, q15658⟩ := hF
    refine .loop' (σ := Int × List Entry × (List UInt8 → Int) × Option Addr × Nat × List Value × FH) (fun z => I4 z.1 z.2.1 z.2.2.1 ∧ RepL z.2.2.2.2.2.2 z.2.1 z.2.2.2.2.2.1 ∧ FH.le h762 z.2.2.2.2.2.2) (fun z => μ4 z.1 z.2.1 z.2.2.1) (fun z => [(2, .pointer (some p4)), (3, .pointer (some pdone)), (26, .slice ak4 k.sensors.length ck4), (27, .int .i64 ((k.sensors.length : Nat) : Int)), (28, .int .i64 z.1)]) (fun z => [Box pdone [.func (.yield l3) #[] #[]], MkA (D2 :: []), Box pkey [.func (.func 49) #[] #[]], Box pv [.slice none 0 0], Box pv2 [.bool false], Box pv3 [.bool false], Box pqueue [.slice z.2.2.2.1 z.2.1.length z.2.2.2.2.1], Box pseen [.map (some bv)], Box p [.int .i64 x], MkA (D :: dl), LA .ready none, OwnSl 113 3 z.2.2.2.1 z.2.1.length z.2.2.2.2.1 z.2.2.2.2.2.1, OwnMap bv z.2.2.1]) (fun z => z.2.2.2.2.2.2) (0, l5, m3, al4, cl4, csl3, h762) ⟨q15657, q15339, (FH.le_refl _)⟩ (.cons rfl (.cons rfl (.cons rfl (.cons rfl (.cons rfl (.nil)))))) rfl (FH.le_refl _) ?_
    rintro ⟨t28, l8, m6, al7, cl7, csl6, h775⟩ ⟨q15657, q15561, q15562⟩
    have hF := q15658 t28 l8 m6 q15657
    show J _ _ _ _ _ [(2, .pointer (some p4)), (3, .pointer (some pdone)), (26, .slice ak4 k.sensors.length ck4), (27, .int .i64 ((k.sensors.length : Nat) : Int)), (28, .int .i64 t28)] [Box pdone [.func (.yield l3) #[] #[]], MkA (D2 :: []), Box pkey [.func (.func 49) #[] #[]], Box pv [.slice none 0 0], Box pv2 [.bool false], Box pv3 [.bool false], Box pqueue [.slice al7 l8.length cl7], Box pseen [.map (some bv)], Box p [.int .i64 x], MkA (D :: dl), LA .ready none, OwnSl 113 3 al7 l8.length cl7 csl6, OwnMap bv m6] h775
    refine .seq ?_
    refine .region ?_
    refine .v (bi rfl rfl rfl) rfl rfl rfl ?_
    refine .nil ?_
    refine .seqN ?_
    refine .seq ?_
    refine .cond rfl (fun q15661 => ?_) (fun q15661 => ?_)
    · replace hF := hF.1 q15661
      refine .skip ?_
      refine .seqN ?_
      refine .share (σ := List Entry × (List UInt8 → Int) × Option Addr × Nat × List Value × FH) (fun z => F_breadthC_J2 t28 I4 μ4 l8 m6 z.1 z.2.1 ∧ RepL z.2.2.2.2.2 z.1 z.2.2.2.2.1 ∧ FH.le h775 z.2.2.2.2.2) (fun _ => [(2, .pointer (some p4)), (3, .pointer (some pdone)), (26, .slice ak4 k.sensors.length ck4), (27, .int .i64 ((k.sensors.length : Nat) : Int)), (28, .int .i64 t28)]) (fun z => [Box pdone [.func (.yield l3) #[] #[]], MkA (D2 :: []), Box pkey [.func (.func 49) #[] #[]], Box pv [.slice none 0 0], Box pv2 [.bool false], Box pv3 [.bool false], Box pqueue [.slice z.2.2.1 z.1.length z.2.2.2.1], Box pseen [.map (some bv)], Box p [.int .i64 x], MkA (D :: dl), LA .ready none, OwnSl 113 3 z.2.2.1 z.1.length z.2.2.2.1 z.2.2.2.2.1, OwnMap bv z.2.1]) (fun z => z.2.2.2.2.2) ?_ (fun q15707 => ?_)
      · rintro ⟨l10, m8, al9, cl9, csl8, h781⟩ ⟨hF, q15705, q15706⟩
        show J _ _ _ _ _ [(2, .pointer (some p4)), (3, .pointer (some pdone)), (26, .slice ak4 k.sensors.length ck4), (27, .int .i64 ((k.sensors.length : Nat) : Int)), (28, .int .i64 t28)] [Box pdone [.func (.yield l3) #[] #[]], MkA (D2 :: []), Box pkey [.func (.func 49) #[] #[]], Box pv [.slice none 0 0], Box pv2 [.bool false], Box pv3 [.bool false], Box pqueue [.slice al9 l10.length cl9], Box pseen [.map (some bv)], Box p [.int .i64 x], MkA (D :: dl), LA .ready none, OwnSl 113 3 al9 l10.length cl9 csl8, OwnMap bv m8] h781
        refine .region ?_
        refine .v (bi rfl rfl rfl) rfl rfl rfl ?_
        refine .v (mv rfl) rfl rfl rfl ?_
        refine .nil ?_
        exact .round (IntKind.i64.wrap (t28 + 1), l10, m8, al9, cl9, csl8, h781) ⟨hF.1, q15705, (FH.le_trans (q15562) (q15706))⟩ hF.2 (.cons rfl (.cons rfl (.cons rfl (.cons rfl (.cons rfl (.nil)))))) rfl (FH.le_refl _)
      refine .block ?_
      refine .seq ?_
      refine .region ?_
      obtain ⟨q15708, hF⟩ := hF
      refine .v (ix rfl rfl tS22 (_q9.ne (by decide) (inb_pos q15708)) q15708) rfl rfl rfl ?_
      refine .v (ld1 (v := .int .i64 (gt k.sensors t28)) rfl tO3 (cellH ((_q9.mono (FH.le_trans (FH.le_trans (FH.le_trans (FH.le_trans (q10540) (le742)) (le743)) (q15340)) (q15562))).elemF q15708 (by decide) 0 _ rfl))) rfl rfl rfl ?_
      refine .v (asg rfl) rfl rfl rfl ?_
      refine .nil ?_
      refine .seqN ?_
      refine .seq ?_
      refine .region ?_
      refine .v (ld1 (v := .slice a2 ((gt l x).node.length) c) rfl tO35 (cellH (CellsAt.mono (FH.le_trans (FH.le_trans (le743) (q15340)) (q15562)) q15075 0 _ rfl))) rfl rfl rfl ?_
      refine .v (mv rfl) rfl rfl rfl ?_
      obtain ⟨q15709, hF⟩ := hF
      obtain ⟨r10, q15710⟩ : ∃ y_ : List (List Int) × List (List Int), y_ = sp_split ((gt l x).node) (gt k.sensors t28) := ⟨_, rfl⟩
      replace hF := hF r10 q15710
      refine clR (α := Option Addr × Nat × Option Addr × Nat) (Φ := fun h1 z => RSl h1 z.1 r10.1 ∧ r10.1.length ≤ z.2.1 ∧ RSl h1 z.2.2.1 r10.2 ∧ r10.2.length ≤ z.2.2.2) (V := fun z => .tuple #[.slice z.1 r10.1.length z.2.1, .slice z.2.2.1 r10.2.length z.2.2.2]) Tryz.call97 rfl rfl (fun w S => (by rw [q15710]; exact c_split S.sub ((gt l x).node) a2 c (q14886.mono (FH.le_trans (FH.le_trans (FH.le_trans (le742) (le743)) (q15340)) (q15562))) q14885 (gt k.sensors t28) q15709)) rfl (fun z h782 le782 hz => ?_)
      obtain ⟨a14, c9, a15, c10⟩ := z
      obtain ⟨q15711, q15712, q15713, q15714⟩ := hz
      refine .v (mv rfl) rfl rfl rfl ?_
      refine .v (ext rfl rfl) rfl rfl rfl ?_
      refine .v (ext rfl rfl) rfl rfl rfl ?_
      refine .v (asg rfl) rfl rfl rfl ?_
      refine .v (asg rfl) rfl rfl rfl ?_
      refine .nil ?_
      refine .seqN ?_
      refine .seq ?_
      refine .region ?_
      refine .v (mv rfl) rfl rfl rfl ?_
      refine .v (ln rfl tS35.is) rfl rfl rfl ?_
      refine .v (bi rfl rfl rfl) rfl rfl rfl ?_
      refine .v (mv rfl) rfl rfl rfl ?_
      rcases Bool.eq_false_or_eq_true (decide (0 < ((r10.1.length : Nat) : Int))) with q15715 | q15715
      · replace hF := hF.1 q15715
        refine .gv (mv rfl) rfl rfl rfl q15715 rfl rfl ?_
        refine .gv (ln rfl tS35.is) rfl rfl rfl q15715 rfl rfl ?_
        refine .gv (bi rfl rfl rfl) rfl rfl rfl q15715 rfl rfl ?_
        refine .v (pkT rfl q15715 rfl) rfl rfl rfl ?_
        refine .v (mv rfl) rfl rfl rfl ?_
        rcases Bool.eq_false_or_eq_true (decide (0 < ((r10.2.length : Nat) : Int))) with q15716 | q15716
        · replace hF := hF.1 q15716
          refine .gv (ld1 rfl tO119 (cellB (off := 0) (k := 0) rfl rfl)) rfl rfl rfl q15716 rfl rfl ?_
          refine .gv (mv rfl) rfl rfl rfl q15716 rfl rfl ?_
          refine .gR rfl rfl rfl q15716 ?_
          refine .yld (k := 10) (vs := [.int .i64 (-1), .slice a14 r10.1.length c9]) q15076 rfl rfl rfl rfl rfl (fun aG3 q15717 => ?_)
          refine .sub (s' := [(5, .pointer (some pkey)), (8, .pointer (some pv)), (9, .pointer (some pv2)), (10, .pointer (some pv3)), (11, .pointer (some pqueue)), (12, .pointer (some pseen)), (13, .pointer (some p)), (70, .int .i64 (-1)), (71, .slice a14 r10.1.length c9)]) (.cons rfl (.cons rfl (.cons rfl (.cons rfl (.cons rfl (.cons rfl (.cons rfl (.cons rfl (.cons rfl (.nil)))))))))) ?_
          refine .seq ?_
          refine .region ?_
          refine .v (asg rfl) rfl rfl rfl ?_
          refine .nil ?_
          refine .seqN ?_
          refine .region ?_
          refine .v (asg rfl) rfl rfl rfl ?_
          refine .nil ?_
          refine .begin_ (k := 10) q15076 rfl ?_
          refine .cast (A' := [Box pdone [.func (.yield l3) #[] #[]], MkA (D2 :: []), Box pkey [.func (.func 49) #[] #[]], Box pv [.slice none 0 0], Box pv2 [.bool false], Box pv3 [.bool false], Box pqueue [.slice al7 l8.length cl7], Box pseen [.map (some bv)], Box p [.int .i64 x], MkA (D :: dl), LA .busy none, OwnSl 113 3 al7 l8.length cl7 csl6, OwnMap bv m6]) rfl ?_
          refine .block ?_
          refine .seq ?_
          refine .region ?_
          refine .v (ld1 rfl tO80 (cellB (off := 0) (k := 2) rfl rfl)) rfl rfl rfl ?_
          refine .v (mv rfl) rfl rfl rfl ?_
          obtain ⟨q15718, hF⟩ := hF
          obtain ⟨r11, q15719⟩ : ∃ y_ : List UInt8, y_ = sp_key r10.1 := ⟨_, rfl⟩
          replace hF := hF r11 q15719
          refine .c (cl (v := strV r11) Tryz.call49 rfl rfl (fun w S => (by rw [q15719]; exact c_key S.sub (ht.mono (FH.le_trans (FH.le_trans (FH.le_trans (FH.le_trans (FH.le_trans (q10540) (le742)) (le743)) (q15340)) (q15562)) (le782))) r10.1 a14 c9 q15711 q15712 q15718))) rfl rfl rfl ?_
          refine .v (asg rfl) rfl rfl rfl ?_
          refine .nil ?_
          refine .seqN ?_
          refine .seq ?_
          refine .seq ?_
          refine .region ?_
          refine .v (ld1 rfl tO97 (cellB (off := 0) (k := 7) rfl rfl)) rfl rfl rfl ?_
          refine .v (mv rfl) rfl rfl rfl ?_
          refine .v (lk tM97 rfl rfl (kk := 12) rfl) rfl rfl rfl ?_
          refine .v (bi rfl rfl rfl) rfl rfl rfl ?_
          refine .nil ?_
          refine .seqN ?_
          refine .cond rfl (fun q15721 => ?_) (fun q15721 => ?_)
          · replace hF := hF.1 q15721
            refine .exit ?_
            refine .seqX ?_
            refine .blkX ?_
            refine .rdN (k := 10) q15076 rfl q15717 rfl ?_
            refine .cast (A' := [Box pdone [.func (.yield l3) #[] #[]], MkA (D2 :: []), Box pkey [.func (.func 49) #[] #[]], Box pv [.slice none 0 0], Box pv2 [.bool false], Box pv3 [.bool false], Box pqueue [.slice al7 l8.length cl7], Box pseen [.map (some bv)], Box p [.int .i64 x], MkA (D :: dl), LA .ready none, OwnSl 113 3 al7 l8.length cl7 csl6, OwnMap bv m6]) rfl ?_
            refine .gv (nt rfl) rfl rfl rfl q15716 rfl rfl ?_
            refine .gv (mv rfl) rfl rfl rfl q15716 rfl rfl ?_
            refine .gv (ld1 rfl tO119 (cellB (off := 0) (k := 0) rfl rfl)) rfl rfl rfl rfl rfl rfl ?_
            refine .gv (mv rfl) rfl rfl rfl rfl rfl rfl ?_
            refine .gR rfl rfl rfl rfl ?_
            refine .yld (k := 10) (vs := [.int .i64 (-1), .slice a15 r10.2.length c10]) q15076 rfl rfl rfl rfl rfl (fun aG4 q15722 => ?_)
            refine .sub (s' := [(5, .pointer (some pkey)), (8, .pointer (some pv)), (9, .pointer (some pv2)), (10, .pointer (some pv3)), (11, .pointer (some pqueue)), (12, .pointer (some pseen)), (13, .pointer (some p)), (70, .int .i64 (-1)), (71, .slice a15 r10.2.length c10)]) (.cons rfl (.cons rfl (.cons rfl (.cons rfl (.cons rfl (.cons rfl (.cons rfl (.cons rfl (.cons rfl (.nil)))))))))) ?_
            refine .seq ?_
            refine .region ?_
            refine .v (asg rfl) rfl rfl rfl ?_
            refine .nil ?_
            refine .seqN ?_
            refine .region ?_
            refine .v (asg rfl) rfl rfl rfl ?_
            refine .nil ?_
            refine .begin_ (k := 10) q15076 rfl ?_
            refine .cast (A' := [Box pdone [.func (.yield l3) #[] #[]], MkA (D2 :: []), Box pkey [.func (.func 49) #[] #[]], Box pv [.slice none 0 0], Box pv2 [.bool false], Box pv3 [.bool false], Box pqueue [.slice al7 l8.length cl7], Box pseen [.map (some bv)], Box p [.int .i64 x], MkA (D :: dl), LA .busy none, OwnSl 113 3 al7 l8.length cl7 csl6, OwnMap bv m6]) rfl ?_
            refine .block ?_
            refine .seq ?_
            refine .region ?_
            refine .v (ld1 rfl tO80 (cellB (off := 0) (k := 2) rfl rfl)) rfl rfl rfl ?_
            refine .v (mv rfl) rfl rfl rfl ?_
            obtain ⟨q15723, hF⟩ := hF
            obtain ⟨r12, q15724⟩ : ∃ y_ : List UInt8, y_ = sp_key r10.2 := ⟨_, rfl⟩
            replace hF := hF r12 q15724
            refine .c (cl (v := strV r12) Tryz.call49 rfl rfl (fun w S => (by rw [q15724]; exact c_key S.sub (ht.mono (FH.le_trans (FH.le_trans (FH.le_trans (FH.le_trans (FH.le_trans (q10540) (le742)) (le743)) (q15340)) (q15562)) (le782))) r10.2 a15 c10 q15713 q15714 q15723))) rfl rfl rfl ?_
            refine .v (asg rfl) rfl rfl rfl ?_
            refine .nil ?_
            refine .seqN ?_
            refine .seq ?_
            refine .seq ?_
            refine .region ?_
            refine .v (ld1 rfl tO97 (cellB (off := 0) (k := 7) rfl rfl)) rfl rfl rfl ?_
            refine .v (mv rfl) rfl rfl rfl ?_
            refine .v (lk tM97 rfl rfl (kk := 12) rfl) rfl rfl rfl ?_
            refine .v (bi rfl rfl rfl) rfl rfl rfl ?_
            refine .nil ?_
            refine .seqN ?_
            refine .cond rfl (fun q15726 => ?_) (fun q15726 => ?_)
            · replace hF := hF.1 q15726
              refine .exit ?_
              refine .seqX ?_
              refine .blkX ?_
              refine .rdN (k := 10) q15076 rfl q15722 rfl ?_
              refine .cast (A' := [Box pdone [.func (.yield l3) #[] #[]], MkA (D2 :: []), Box pkey [.func (.func 49) #[] #[]], Box pv [.slice none 0 0], Box pv2 [.bool false], Box pv3 [.bool false], Box pqueue [.slice al7 l8.length cl7], Box pseen [.map (some bv)], Box p [.int .i64 x], MkA (D :: dl), LA .ready none, OwnSl 113 3 al7 l8.length cl7 csl6, OwnMap bv m6]) rfl ?_
              refine .gv (nt rfl) rfl rfl rfl rfl rfl rfl ?_
              refine .gv (pkF rfl rfl rfl) rfl rfl rfl q15716 rfl rfl ?_
              refine .v (pkT rfl q15716 rfl) rfl rfl rfl ?_
              refine .nil ?_
              refine .seqN ?_
              refine .cond rfl (fun e => absurd (e.symm.trans rfl) (by decide)) (fun _ => ?_)
              refine .skip ?_
              refine .blkN ?_
              exact .use q15707 (l8, m6, al7, cl7, csl6, h782) ⟨hF, (RepL.mono (le782) q15561), (le782)⟩ (.cons rfl (.cons rfl (.cons rfl (.cons rfl (.cons rfl (.nil)))))) rfl (FH.le_refl _)
            replace hF := hF.2 q15726
            refine .skip ?_
            refine .seqN ?_
            refine .seq ?_
            refine .seq ?_
            refine .region ?_
            refine .v (ld1 rfl tO114 (cellB (off := 0) (k := 6) rfl rfl)) rfl rfl rfl ?_
            refine .v (ln rfl tS114.is) rfl rfl rfl ?_
            refine .v (bi rfl rfl rfl) rfl rfl rfl ?_
            refine .nil ?_
            refine .seqN ?_
            refine .cond rfl (fun q15728 => ?_) (fun q15728 => ?_)
            · replace hF := hF.1 q15728
              refine .seq ?_
              refine .region ?_
              refine st (p := pv) (off := 0) (k := 3) (vs := [.slice none 0 0]) rfl rfl rfl (fun w => (tO22 w).2) rfl rfl rfl rfl ?_
              refine .cast (A' := [Box pdone [.func (.yield l3) #[] #[]], MkA (D2 :: []), Box pkey [.func (.func 49) #[] #[]], Box pv [.slice none 0 0], Box pv2 [.bool false], Box pv3 [.bool false], Box pqueue [.slice al7 l8.length cl7], Box pseen [.map (some bv)], Box p [.int .i64 x], MkA (D :: dl), LA .busy none, OwnSl 113 3 al7 l8.length cl7 csl6, OwnMap bv m6]) rfl ?_
              refine st (p := pv2) (off := 0) (k := 4) (vs := [.bool false]) rfl rfl rfl (fun w => (tO4 w).2) rfl rfl rfl rfl ?_
              refine .cast (A' := [Box pdone [.func (.yield l3) #[] #[]], MkA (D2 :: []), Box pkey [.func (.func 49) #[] #[]], Box pv [.slice none 0 0], Box pv2 [.bool false], Box pv3 [.bool false], Box pqueue [.slice al7 l8.length cl7], Box pseen [.map (some bv)], Box p [.int .i64 x], MkA (D :: dl), LA .busy none, OwnSl 113 3 al7 l8.length cl7 csl6, OwnMap bv m6]) rfl ?_
              refine st (p := pv3) (off := 0) (k := 5) (vs := [.bool false]) rfl rfl rfl (fun w => (tO4 w).2) rfl rfl rfl rfl ?_
              refine .cast (A' := [Box pdone [.func (.yield l3) #[] #[]], MkA (D2 :: []), Box pkey [.func (.func 49) #[] #[]], Box pv [.slice none 0 0], Box pv2 [.bool false], Box pv3 [.bool false], Box pqueue [.slice al7 l8.length cl7], Box pseen [.map (some bv)], Box p [.int .i64 x], MkA (D :: dl), LA .busy none, OwnSl 113 3 al7 l8.length cl7 csl6, OwnMap bv m6]) rfl ?_
              refine .nil ?_
              refine .seqN ?_
              refine .ret ?_
              refine .seqR ?_
              refine .blkR ?_
              refine .rdR (k := 10) q15076 rfl q15722 rfl ?_
              refine .cast (A' := [Box pdone [.func (.yield l3) #[] #[]], MkA (D2 :: []), Box pkey [.func (.func 49) #[] #[]], Box pv [.slice none 0 0], Box pv2 [.bool false], Box pv3 [.bool false], Box pqueue [.slice al7 l8.length cl7], Box pseen [.map (some bv)], Box p [.int .i64 x], MkA (D :: dl), LA .done (some .ret), OwnSl 113 3 al7 l8.length cl7 csl6, OwnMap bv m6]) rfl ?_
              refine .gv (nt rfl) rfl rfl rfl rfl rfl rfl ?_
              refine .gv (pkF rfl rfl rfl) rfl rfl rfl q15716 rfl rfl ?_
              refine .v (pkT rfl q15716 rfl) rfl rfl rfl ?_
              refine .nil ?_
              refine .seqN ?_
              refine .cond rfl (fun _ => ?_) (fun e => absurd (e.symm.trans rfl) (by decide))
              refine .ret ?_
              refine .blkR ?_
              refine .seqR ?_
              refine .seqR ?_
              refine .blkR ?_
              refine .resMN (.inl rfl) (k := 1) rfl ?_
              refine .res0 (.inl rfl) rfl (range_jump (k := 10) q15076 rfl q15077 ?_)
              refine .cast (A' := [Box pdone [.func (.yield l3) #[] #[]], tru, Box pkey [.func (.func 49) #[] #[]], Box pv [.slice none 0 0], Box pv2 [.bool false], Box pv3 [.bool false], Box pqueue [.slice al7 l8.length cl7], Box pseen [.map (some bv)], Box p [.int .i64 x], MkA (D :: dl), tru, OwnSl 113 3 al7 l8.length cl7 csl6, OwnMap bv m6]) rfl ?_
              refine .ret ?_
              refine .blkR ?_
              refine .blkR ?_
              refine .seqR ?_
              refine .seqR ?_
              refine .blkR ?_
              refine .seqR ?_
              refine .resM (k := 9) rfl ?_
              refine .res3 rfl (rvC1 rfl tO22 (k := 3) rfl) (rvC1 rfl tO4 (k := 4) rfl) (rvC1 rfl tO4 (k := 5) rfl) (fun w' S => ⟨(([] : List Int), false, false), (none, 0), h782, hF, rfl, (FH.le_trans (FH.le_trans (FH.le_trans (FH.le_trans (FH.le_trans (q10540) (le742)) (le743)) (q15340)) (q15562)) (le782)), ⟨RSl.nil_, (Nat.le_refl 0)⟩, S.none⟩)
            replace hF := hF.2 q15728
            refine .skip ?_
            refine .seqN ?_
            refine .seq ?_
            refine .region ?_
            refine .v (ld1 rfl tO97 (cellB (off := 0) (k := 7) rfl rfl)) rfl rfl rfl ?_
            refine .v (mv rfl) rfl rfl rfl ?_
            refine mu tM97 rfl rfl rfl (kk := 12) rfl ?_
            refine .cast (A' := [Box pdone [.func (.yield l3) #[] #[]], MkA (D2 :: []), Box pkey [.func (.func 49) #[] #[]], Box pv [.slice none 0 0], Box pv2 [.bool false], Box pv3 [.bool false], Box pqueue [.slice al7 l8.length cl7], Box pseen [.map (some bv)], Box p [.int .i64 x], MkA (D :: dl), LA .busy none, OwnSl 113 3 al7 l8.length cl7 csl6, OwnMap bv (upd m6 r12 1)]) rfl ?_
            refine .nil ?_
            refine .seqN ?_
            refine .region ?_
            refine .v (ld1 rfl tO114 (cellB (off := 0) (k := 6) rfl rfl)) rfl rfl rfl ?_
            refine .v (mv rfl) rfl rfl rfl ?_
            refine .v (ld1 rfl tO3 (cellB (off := 0) (k := 8) rfl rfl)) rfl rfl rfl ?_
            refine .v (mv rfl) rfl rfl rfl ?_
            refine .v (bld (cs := #[.slice a15 r10.2.length c10, .int .i64 x, .int .i64 (-1)]) (pv := [(0, .slice a15 r10.2.length c10), (1, .int .i64 x), (2, .int .i64 (-1))]) tB113 rfl rfl) rfl rfl rfl ?_
            refine bs2 (cs := #[.slice a15 r10.2.length c10, .int .i64 x, .int .i64 (-1)]) (pv := [(0, .agg #[.slice a15 r10.2.length c10, .int .i64 x, .int .i64 (-1)])]) tS114 rfl rfl (by decide) (by decide) rfl rfl rfl (fun a16 _ => ?_)
            refine .cast (A' := [OwnSl 113 3 a16 (([(⟨r10.2, x, (-1)⟩ : Entry)] : List Entry).length) 1 [.slice a15 r10.2.length c10, .int .i64 x, .int .i64 (-1)], Box pdone [.func (.yield l3) #[] #[]], MkA (D2 :: []), Box pkey [.func (.func 49) #[] #[]], Box pv [.slice none 0 0], Box pv2 [.bool false], Box pv3 [.bool false], Box pqueue [.slice al7 l8.length cl7], Box pseen [.map (some bv)], Box p [.int .i64 x], MkA (D :: dl), LA .busy none, OwnSl 113 3 al7 l8.length cl7 csl6, OwnMap bv (upd m6 r12 1)]) rfl ?_
            obtain ⟨q15730, hF⟩ := hF
            have q15731 : l8.length + ([(⟨r10.2, x, (-1)⟩ : Entry)] : List Entry).length = ((l8 ++ ([(⟨r10.2, x, (-1)⟩ : Entry)] : List Entry))).length := len_app rfl rfl
            have q15732 := RepL.append (RepL.mono (le782) q15561) (show RepL h782 ([(⟨r10.2, x, (-1)⟩ : Entry)] : List Entry) [.slice a15 r10.2.length c10, .int .i64 x, .int .i64 (-1)] from ⟨[.slice a15 r10.2.length c10, .int .i64 x, .int .i64 (-1)], _, rfl, ⟨a15, c10, rfl, ⟨q15714, q15713⟩⟩, rfl⟩)
            refine app (k := 12) (news := [.slice a15 r10.2.length c10, .int .i64 x, .int .i64 (-1)]) (cs' := (csl6 ++ [.slice a15 r10.2.length c10, .int .i64 x, .int .i64 (-1)])) (nm := ((l8 ++ ([(⟨r10.2, x, (-1)⟩ : Entry)] : List Entry))).length) tS114 rfl (by decide) rfl rfl rfl (RepL.len (show RepL h782 ([(⟨r10.2, x, (-1)⟩ : Entry)] : List Entry) [.slice a15 r10.2.length c10, .int .i64 x, .int .i64 (-1)] from ⟨[.slice a15 r10.2.length c10, .int .i64 x, .int .i64 (-1)], _, rfl, ⟨a15, c10, rfl, ⟨q15714, q15713⟩⟩, rfl⟩)) (srcS (k := 0) rfl) (RepL.one (show RepL h782 ([(⟨r10.2, x, (-1)⟩ : Entry)] : List Entry) [.slice a15 r10.2.length c10, .int .i64 x, .int .i64 (-1)] from ⟨[.slice a15 r10.2.length c10, .int .i64 x, .int .i64 (-1)], _, rfl, ⟨a15, c10, rfl, ⟨q15714, q15713⟩⟩, rfl⟩)) (room_of q15731 q15730).1 (room_of q15731 q15730).2 q15731 rfl rfl (fun a17 c11 => ?_)
            refine .cast (A' := [OwnSl 113 3 a16 (([(⟨r10.2, x, (-1)⟩ : Entry)] : List Entry).length) 1 [.slice a15 r10.2.length c10, .int .i64 x, .int .i64 (-1)], Box pdone [.func (.yield l3) #[] #[]], MkA (D2 :: []), Box pkey [.func (.func 49) #[] #[]], Box pv [.slice none 0 0], Box pv2 [.bool false], Box pv3 [.bool false], Box pqueue [.slice al7 l8.length cl7], Box pseen [.map (some bv)], Box p [.int .i64 x], MkA (D :: dl), LA .busy none, OwnSl 113 3 a17 ((l8 ++ ([(⟨r10.2, x, (-1)⟩ : Entry)] : List Entry)).length) c11 (csl6 ++ [.slice a15 r10.2.length c10, .int .i64 x, .int .i64 (-1)]), OwnMap bv (upd m6 r12 1)]) rfl ?_
            refine st (p := pqueue) (off := 0) (k := 7) (vs := [.slice a17 ((l8 ++ ([(⟨r10.2, x, (-1)⟩ : Entry)] : List Entry)).length) c11]) rfl rfl rfl (fun w => (tO114 w).2) rfl rfl rfl rfl ?_
            refine .cast (A' := [OwnSl 113 3 a16 (([(⟨r10.2, x, (-1)⟩ : Entry)] : List Entry).length) 1 [.slice a15 r10.2.length c10, .int .i64 x, .int .i64 (-1)], Box pdone [.func (.yield l3) #[] #[]], MkA (D2 :: []), Box pkey [.func (.func 49) #[] #[]], Box pv [.slice none 0 0], Box pv2 [.bool false], Box pv3 [.bool false], Box pqueue [.slice a17 ((l8 ++ ([(⟨r10.2, x, (-1)⟩ : Entry)] : List Entry)).length) c11], Box pseen [.map (some bv)], Box p [.int .i64 x], MkA (D :: dl), LA .busy none, OwnSl 113 3 a17 ((l8 ++ ([(⟨r10.2, x, (-1)⟩ : Entry)] : List Entry)).length) c11 (csl6 ++ [.slice a15 r10.2.length c10, .int .i64 x, .int .i64 (-1)]), OwnMap bv (upd m6 r12 1)]) rfl ?_
            refine .nil ?_
            refine .blkN ?_
            refine .rdN (k := 11) q15076 rfl q15722 rfl ?_
            refine .cast (A' := [OwnSl 113 3 a16 (([(⟨r10.2, x, (-1)⟩ : Entry)] : List Entry).length) 1 [.slice a15 r10.2.length c10, .int .i64 x, .int .i64 (-1)], Box pdone [.func (.yield l3) #[] #[]], MkA (D2 :: []), Box pkey [.func (.func 49) #[] #[]], Box pv [.slice none 0 0], Box pv2 [.bool false], Box pv3 [.bool false], Box pqueue [.slice a17 ((l8 ++ ([(⟨r10.2, x, (-1)⟩ : Entry)] : List Entry)).length) c11], Box pseen [.map (some bv)], Box p [.int .i64 x], MkA (D :: dl), LA .ready none, OwnSl 113 3 a17 ((l8 ++ ([(⟨r10.2, x, (-1)⟩ : Entry)] : List Entry)).length) c11 (csl6 ++ [.slice a15 r10.2.length c10, .int .i64 x, .int .i64 (-1)]), OwnMap bv (upd m6 r12 1)]) rfl ?_
            refine .gv (nt rfl) rfl rfl rfl rfl rfl rfl ?_
            refine .gv (pkF rfl rfl rfl) rfl rfl rfl q15716 rfl rfl ?_
            refine .v (pkT rfl q15716 rfl) rfl rfl rfl ?_
            refine .nil ?_
            refine .seqN ?_
            refine .cond rfl (fun e => absurd (e.symm.trans rfl) (by decide)) (fun _ => ?_)
            refine .skip ?_
            refine .blkN ?_
            refine .sel0 [1, 2, 3, 4, 5, 6, 7, 8, 9, 10, 11, 12, 13] (by decide) rfl ?_
            exact .use q15707 ((l8 ++ ([(⟨r10.2, x, (-1)⟩ : Entry)] : List Entry)), (upd m6 r12 1), a17, c11, (csl6 ++ [.slice a15 r10.2.length c10, .int .i64 x, .int .i64 (-1)]), h782) ⟨hF, q15732, (le782)⟩ (.cons rfl (.cons rfl (.cons rfl (.cons rfl (.cons rfl (.nil)))))) rfl (FH.le_refl _)
          replace hF := hF.2 q15721
          refine .skip ?_
          refine .seqN ?_
          refine .seq ?_
          refine .seq ?_
          refine .region ?_
          refine .v (ld1 rfl tO114 (cellB (off := 0) (k := 6) rfl rfl)) rfl rfl rfl ?_
          refine .v (ln rfl tS114.is) rfl rfl rfl ?_
          refine .v (bi rfl rfl rfl) rfl rfl rfl ?_
          refine .nil ?_
          refine .seqN ?_
          refine .cond rfl (fun q15734 => ?_) (fun q15734 => ?_)
          · replace hF := hF.1 q15734
            refine .seq ?_
            refine .region ?_
            refine st (p := pv) (off := 0) (k := 3) (vs := [.slice none 0 0]) rfl rfl rfl (fun w => (tO22 w).2) rfl rfl rfl rfl ?_
            refine .cast (A' := [Box pdone [.func (.yield l3) #[] #[]], MkA (D2 :: []), Box pkey [.func (.func 49) #[] #[]], Box pv [.slice none 0 0], Box pv2 [.bool false], Box pv3 [.bool false], Box pqueue [.slice al7 l8.length cl7], Box pseen [.map (some bv)], Box p [.int .i64 x], MkA (D :: dl), LA .busy none, OwnSl 113 3 al7 l8.length cl7 csl6, OwnMap bv m6]) rfl ?_
            refine st (p := pv2) (off := 0) (k := 4) (vs := [.bool false]) rfl rfl rfl (fun w => (tO4 w).2) rfl rfl rfl rfl ?_
            refine .cast (A' := [Box pdone [.func (.yield l3) #[] #[]], MkA (D2 :: []), Box pkey [.func (.func 49) #[] #[]], Box pv [.slice none 0 0], Box pv2 [.bool false], Box pv3 [.bool false], Box pqueue [.slice al7 l8.length cl7], Box pseen [.map (some bv)], Box p [.int .i64 x], MkA (D :: dl), LA .busy none, OwnSl 113 3 al7 l8.length cl7 csl6, OwnMap bv m6]) rfl ?_
            refine st (p := pv3) (off := 0) (k := 5) (vs := [.bool false]) rfl rfl rfl (fun w => (tO4 w).2) rfl rfl rfl rfl ?_
            refine .cast (A' := [Box pdone [.func (.yield l3) #[] #[]], MkA (D2 :: []), Box pkey [.func (.func 49) #[] #[]], Box pv [.slice none 0 0], Box pv2 [.bool false], Box pv3 [.bool false], Box pqueue [.slice al7 l8.length cl7], Box pseen [.map (some bv)], Box p [.int .i64 x], MkA (D :: dl), LA .busy none, OwnSl 113 3 al7 l8.length cl7 csl6, OwnMap bv m6]) rfl ?_
            refine .nil ?_
            refine .seqN ?_
            refine .ret ?_
            refine .seqR ?_
            refine .blkR ?_
            refine .rdR (k := 10) q15076 rfl q15717 rfl ?_
            refine .cast (A' := [Box pdone [.func (.yield l3) #[] #[]], MkA (D2 :: []), Box pkey [.func (.func 49) #[] #[]], Box pv [.slice none 0 0], Box pv2 [.bool false], Box pv3 [.bool false], Box pqueue [.slice al7 l8.length cl7], Box pseen [.map (some bv)], Box p [.int .i64 x], MkA (D :: dl), LA .done (some .ret), OwnSl 113 3 al7 l8.length cl7 csl6, OwnMap bv m6]) rfl ?_
            refine .gv (nt rfl) rfl rfl rfl q15716 rfl rfl ?_
            refine .gv (mv rfl) rfl rfl rfl q15716 rfl rfl ?_
            refine .gS rfl rfl rfl rfl rfl rfl ?_
            refine .gS rfl rfl rfl rfl rfl rfl ?_
            refine .gS rfl rfl rfl rfl rfl rfl ?_
            refine .gS rfl rfl rfl rfl rfl rfl ?_
            refine .gv (pkT rfl rfl rfl) rfl rfl rfl q15716 rfl rfl ?_
            refine .v (pkT rfl q15716 rfl) rfl rfl rfl ?_
            refine .nil ?_
            refine .seqN ?_
            refine .cond rfl (fun _ => ?_) (fun e => absurd (e.symm.trans rfl) (by decide))
            refine .ret ?_
            refine .blkR ?_
            refine .seqR ?_
            refine .seqR ?_
            refine .blkR ?_
            refine .resMN (.inl rfl) (k := 1) rfl ?_
            refine .res0 (.inl rfl) rfl (range_jump (k := 10) q15076 rfl q15077 ?_)
            refine .cast (A' := [Box pdone [.func (.yield l3) #[] #[]], tru, Box pkey [.func (.func 49) #[] #[]], Box pv [.slice none 0 0], Box pv2 [.bool false], Box pv3 [.bool false], Box pqueue [.slice al7 l8.length cl7], Box pseen [.map (some bv)], Box p [.int .i64 x], MkA (D :: dl), tru, OwnSl 113 3 al7 l8.length cl7 csl6, OwnMap bv m6]) rfl ?_
            refine .ret ?_
            refine .blkR ?_
            refine .blkR ?_
            refine .seqR ?_
            refine .seqR ?_
            refine .blkR ?_
            refine .seqR ?_
            refine .resM (k := 9) rfl ?_
            refine .res3 rfl (rvC1 rfl tO22 (k := 3) rfl) (rvC1 rfl tO4 (k := 4) rfl) (rvC1 rfl tO4 (k := 5) rfl) (fun w' S => ⟨(([] : List Int), false, false), (none, 0), h782, hF, rfl, (FH.le_trans (FH.le_trans (FH.le_trans (FH.le_trans (FH.le_trans (q10540) (le742)) (le743)) (q15340)) (q15562)) (le782)), ⟨RSl.nil_, (Nat.le_refl 0)⟩, S.none⟩)
          replace hF := hF.2 q15734
          refine .skip ?_
          refine .seqN ?_
          refine .seq ?_
          refine .region ?_
          refine .v (ld1 rfl tO97 (cellB (off := 0) (k := 7) rfl rfl)) rfl rfl rfl ?_
          refine .v (mv rfl) rfl rfl rfl ?_
          refine mu tM97 rfl rfl rfl (kk := 12) rfl ?_
          refine .cast (A' := [Box pdone [.func (.yield l3) #[] #[]], MkA (D2 :: []), Box pkey [.func (.func 49) #[] #[]], Box pv [.slice none 0 0], Box pv2 [.bool false], Box pv3 [.bool false], Box pqueue [.slice al7 l8.length cl7], Box pseen [.map (some bv)], Box p [.int .i64 x], MkA (D :: dl), LA .busy none, OwnSl 113 3 al7 l8.length cl7 csl6, OwnMap bv (upd m6 r11 1)]) rfl ?_
          refine .nil ?_
          refine .seqN ?_
          refine .region ?_
          refine .v (ld1 rfl tO114 (cellB (off := 0) (k := 6) rfl rfl)) rfl rfl rfl ?_
          refine .v (mv rfl) rfl rfl rfl ?_
          refine .v (ld1 rfl tO3 (cellB (off := 0) (k := 8) rfl rfl)) rfl rfl rfl ?_
          refine .v (mv rfl) rfl rfl rfl ?_
          refine .v (bld (cs := #[.slice a14 r10.1.length c9, .int .i64 x, .int .i64 (-1)]) (pv := [(0, .slice a14 r10.1.length c9), (1, .int .i64 x), (2, .int .i64 (-1))]) tB113 rfl rfl) rfl rfl rfl ?_
          refine bs2 (cs := #[.slice a14 r10.1.length c9, .int .i64 x, .int .i64 (-1)]) (pv := [(0, .agg #[.slice a14 r10.1.length c9, .int .i64 x, .int .i64 (-1)])]) tS114 rfl rfl (by decide) (by decide) rfl rfl rfl (fun a18 _ => ?_)
          refine .cast (A' := [OwnSl 113 3 a18 (([(⟨r10.1, x, (-1)⟩ : Entry)] : List Entry).length) 1 [.slice a14 r10.1.length c9, .int .i64 x, .int .i64 (-1)], Box pdone [.func (.yield l3) #[] #[]], MkA (D2 :: []), Box pkey [.func (.func 49) #[] #[]], Box pv [.slice none 0 0], Box pv2 [.bool false], Box pv3 [.bool false], Box pqueue [.slice al7 l8.length cl7], Box pseen [.map (some bv)], Box p [.int .i64 x], MkA (D :: dl), LA .busy none, OwnSl 113 3 al7 l8.length cl7 csl6, OwnMap bv (upd m6 r11 1)]) rfl ?_
          obtain ⟨q15736, hF⟩ := hF
          have q15737 : l8.length + ([(⟨r10.1, x, (-1)⟩ : Entry)] : List Entry).length = ((l8 ++ ([(⟨r10.1, x, (-1)⟩ : Entry)] : List Entry))).length := len_app rfl rfl
          have q15738 := RepL.append (RepL.mono (le782) q15561) (show RepL h782 ([(⟨r10.1, x, (-1)⟩ : Entry)] : List Entry) [.slice a14 r10.1.length c9, .int .i64 x, .int .i64 (-1)] from ⟨[.slice a14 r10.1.length c9, .int .i64 x, .int .i64 (-1)], _, rfl, ⟨a14, c9, rfl, ⟨q15712, q15711⟩⟩, rfl⟩)
          refine app (k := 12) (news := [.slice a14 r10.1.length c9, .int .i64 x, .int .i64 (-1)]) (cs' := (csl6 ++ [.slice a14 r10.1.length c9, .int .i64 x, .int .i64 (-1)])) (nm := ((l8 ++ ([(⟨r10.1, x, (-1)⟩ : Entry)] : List Entry))).length) tS114 rfl (by decide) rfl rfl rfl (RepL.len (show RepL h782 ([(⟨r10.1, x, (-1)⟩ : Entry)] : List Entry) [.slice a14 r10.1.length c9, .int .i64 x, .int .i64 (-1)] from ⟨[.slice a14 r10.1.length c9, .int .i64 x, .int .i64 (-1)], _, rfl, ⟨a14, c9, rfl, ⟨q15712, q15711⟩⟩, rfl⟩)) (srcS (k := 0) rfl) (RepL.one (show RepL h782 ([(⟨r10.1, x, (-1)⟩ : Entry)] : List Entry) [.slice a14 r10.1.length c9, .int .i64 x, .int .i64 (-1)] from ⟨[.slice a14 r10.1.length c9, .int .i64 x, .int .i64 (-1)], _, rfl, ⟨a14, c9, rfl, ⟨q15712, q15711⟩⟩, rfl⟩)) (room_of q15737 q15736).1 (room_of q15737 q15736).2 q15737 rfl rfl (fun a19 c12 => ?_)
          refine .cast (A' := [OwnSl 113 3 a18 (([(⟨r10.1, x, (-1)⟩ : Entry)] : List Entry).length) 1 [.slice a14 r10.1.length c9, .int .i64 x, .int .i64 (-1)], Box pdone [.func (.yield l3) #[] #[]], MkA (D2 :: []), Box pkey [.func (.func 49) #[] #[]], Box pv [.slice none 0 0], Box pv2 [.bool false], Box pv3 [.bool false], Box pqueue [.slice al7 l8.length cl7], Box pseen [.map (some bv)], Box p [.int .i64 x], MkA (D :: dl), LA .busy none, OwnSl 113 3 a19 ((l8 ++ ([(⟨r10.1, x, (-1)⟩ : Entry)] : List Entry)).length) c12 (csl6 ++ [.slice a14 r10.1.length c9, .int .i64 x, .int .i64 (-1)]), OwnMap bv (upd m6 r11 1)]) rfl ?_
          refine st (p := pqueue) (off := 0) (k := 7) (vs := [.slice a19 ((l8 ++ ([(⟨r10.1, x, (-1)⟩ : Entry)] : List Entry)).length) c12]) rfl rfl rfl (fun w => (tO114 w).2) rfl rfl rfl rfl ?_
          refine .cast (A' := [OwnSl 113 3 a18 (([(⟨r10.1, x, (-1)⟩ : Entry)] : List Entry).length) 1 [.slice a14 r10.1.length c9, .int .i64 x, .int .i64 (-1)], Box pdone [.func (.yield l3) #[] #[]], MkA (D2 :: []), Box pkey [.func (.func 49) #[] #[]], Box pv [.slice none 0 0], Box pv2 [.bool false], Box pv3 [.bool false], Box pqueue [.slice a19 ((l8 ++ ([(⟨r10.1, x, (-1)⟩ : Entry)] : List Entry)).length) c12], Box pseen [.map (some bv)], Box p [.int .i64 x], MkA (D :: dl), LA .busy none, OwnSl 113 3 a19 ((l8 ++ ([(⟨r10.1, x, (-1)⟩ : Entry)] : List Entry)).length) c12 (csl6 ++ [.slice a14 r10.1.length c9, .int .i64 x, .int .i64 (-1)]), OwnMap bv (upd m6 r11 1)]) rfl ?_
          refine .nil ?_
          refine .blkN ?_
          refine .rdN (k := 11) q15076 rfl q15717 rfl ?_
          refine .cast (A' := [OwnSl 113 3 a18 (([(⟨r10.1, x, (-1)⟩ : Entry)] : List Entry).length) 1 [.slice a14 r10.1.length c9, .int .i64 x, .int .i64 (-1)], Box pdone [.func (.yield l3) #[] #[]], MkA (D2 :: []), Box pkey [.func (.func 49) #[] #[]], Box pv [.slice none 0 0], Box pv2 [.bool false], Box pv3 [.bool false], Box pqueue [.slice a19 ((l8 ++ ([(⟨r10.1, x, (-1)⟩ : Entry)] : List Entry)).length) c12], Box pseen [.map (some bv)], Box p [.int .i64 x], MkA (D :: dl), LA .ready none, OwnSl 113 3 a19 ((l8 ++ ([(⟨r10.1, x, (-1)⟩ : Entry)] : List Entry)).length) c12 (csl6 ++ [.slice a14 r10.1.length c9, .int .i64 x, .int .i64 (-1)]), OwnMap bv (upd m6 r11 1)]) rfl ?_
          refine .gv (nt rfl) rfl rfl rfl q15716 rfl rfl ?_
          refine .gv (mv rfl) rfl rfl rfl q15716 rfl rfl ?_
          refine .gv (ld1 rfl tO119 (cellB (off := 0) (k := 1) rfl rfl)) rfl rfl rfl rfl rfl rfl ?_
          refine .gv (mv rfl) rfl rfl rfl rfl rfl rfl ?_
          refine .gR rfl rfl rfl rfl ?_
          refine .yld (k := 11) (vs := [.int .i64 (-1), .slice a15 r10.2.length c10]) q15076 rfl rfl rfl rfl rfl (fun aG5 q15739 => ?_)
          refine .sub (s' := [(5, .pointer (some pkey)), (8, .pointer (some pv)), (9, .pointer (some pv2)), (10, .pointer (some pv3)), (11, .pointer (some pqueue)), (12, .pointer (some pseen)), (13, .pointer (some p)), (70, .int .i64 (-1)), (71, .slice a15 r10.2.length c10)]) (.cons rfl (.cons rfl (.cons rfl (.cons rfl (.cons rfl (.cons rfl (.cons rfl (.cons rfl (.cons rfl (.nil)))))))))) ?_
          refine .seq ?_
          refine .region ?_
          refine .v (asg rfl) rfl rfl rfl ?_
          refine .nil ?_
          refine .seqN ?_
          refine .region ?_
          refine .v (asg rfl) rfl rfl rfl ?_
          refine .nil ?_
          refine .begin_ (k := 11) q15076 rfl ?_
          refine .cast (A' := [OwnSl 113 3 a18 (([(⟨r10.1, x, (-1)⟩ : Entry)] : List Entry).length) 1 [.slice a14 r10.1.length c9, .int .i64 x, .int .i64 (-1)], Box pdone [.func (.yield l3) #[] #[]], MkA (D2 :: []), Box pkey [.func (.func 49) #[] #[]], Box pv [.slice none 0 0], Box pv2 [.bool false], Box pv3 [.bool false], Box pqueue [.slice a19 ((l8 ++ ([(⟨r10.1, x, (-1)⟩ : Entry)] : List Entry)).length) c12], Box pseen [.map (some bv)], Box p [.int .i64 x], MkA (D :: dl), LA .busy none, OwnSl 113 3 a19 ((l8 ++ ([(⟨r10.1, x, (-1)⟩ : Entry)] : List Entry)).length) c12 (csl6 ++ [.slice a14 r10.1.length c9, .int .i64 x, .int .i64 (-1)]), OwnMap bv (upd m6 r11 1)]) rfl ?_
          refine .block ?_
          refine .seq ?_
          refine .region ?_
          refine .v (ld1 rfl tO80 (cellB (off := 0) (k := 3) rfl rfl)) rfl rfl rfl ?_
          refine .v (mv rfl) rfl rfl rfl ?_
          obtain ⟨q15740, hF⟩ := hF
          obtain ⟨r13, q15741⟩ : ∃ y_ : List UInt8, y_ = sp_key r10.2 := ⟨_, rfl⟩
          replace hF := hF r13 q15741
          refine .c (cl (v := strV r13) Tryz.call49 rfl rfl (fun w S => (by rw [q15741]; exact c_key S.sub (ht.mono (FH.le_trans (FH.le_trans (FH.le_trans (FH.le_trans (FH.le_trans (q10540) (le742)) (le743)) (q15340)) (q15562)) (le782))) r10.2 a15 c10 q15713 q15714 q15740))) rfl rfl rfl ?_
          refine .v (asg rfl) rfl rfl rfl ?_
          refine .nil ?_
          refine .seqN ?_
          refine .seq ?_
          refine .seq ?_
          refine .region ?_
          refine .v (ld1 rfl tO97 (cellB (off := 0) (k := 8) rfl rfl)) rfl rfl rfl ?_
          refine .v (mv rfl) rfl rfl rfl ?_
          refine .v (lk tM97 rfl rfl (kk := 13) rfl) rfl rfl rfl ?_
          refine .v (bi rfl rfl rfl) rfl rfl rfl ?_
          refine .nil ?_
          refine .seqN ?_
          refine .cond rfl (fun q15743 => ?_) (fun q15743 => ?_)
          · replace hF := hF.1 q15743
            refine .exit ?_
            refine .seqX ?_
            refine .blkX ?_
            refine .rdN (k := 11) q15076 rfl q15739 rfl ?_
            refine .cast (A' := [OwnSl 113 3 a18 (([(⟨r10.1, x, (-1)⟩ : Entry)] : List Entry).length) 1 [.slice a14 r10.1.length c9, .int .i64 x, .int .i64 (-1)], Box pdone [.func (.yield l3) #[] #[]], MkA (D2 :: []), Box pkey [.func (.func 49) #[] #[]], Box pv [.slice none 0 0], Box pv2 [.bool false], Box pv3 [.bool false], Box pqueue [.slice a19 ((l8 ++ ([(⟨r10.1, x, (-1)⟩ : Entry)] : List Entry)).length) c12], Box pseen [.map (some bv)], Box p [.int .i64 x], MkA (D :: dl), LA .ready none, OwnSl 113 3 a19 ((l8 ++ ([(⟨r10.1, x, (-1)⟩ : Entry)] : List Entry)).length) c12 (csl6 ++ [.slice a14 r10.1.length c9, .int .i64 x, .int .i64 (-1)]), OwnMap bv (upd m6 r11 1)]) rfl ?_
            refine .gv (nt rfl) rfl rfl rfl rfl rfl rfl ?_
            refine .gv (pkF rfl rfl rfl) rfl rfl rfl q15716 rfl rfl ?_
            refine .v (pkT rfl q15716 rfl) rfl rfl rfl ?_
            refine .nil ?_
            refine .seqN ?_
            refine .cond rfl (fun e => absurd (e.symm.trans rfl) (by decide)) (fun _ => ?_)
            refine .skip ?_
            refine .blkN ?_
            refine .sel0 [1, 2, 3, 4, 5, 6, 7, 8, 9, 10, 11, 12, 13] (by decide) rfl ?_
            exact .use q15707 ((l8 ++ ([(⟨r10.1, x, (-1)⟩ : Entry)] : List Entry)), (upd m6 r11 1), a19, c12, (csl6 ++ [.slice a14 r10.1.length c9, .int .i64 x, .int .i64 (-1)]), h782) ⟨hF, q15738, (le782)⟩ (.cons rfl (.cons rfl (.cons rfl (.cons rfl (.cons rfl (.nil)))))) rfl (FH.le_refl _)
          replace hF := hF.2 q15743
          refine .skip ?_
          refine .seqN ?_
          refine .seq ?_
          refine .seq ?_
          refine .region ?_
          refine .v (ld1 rfl tO114 (cellB (off := 0) (k := 7) rfl rfl)) rfl rfl rfl ?_
          obtain ⟨x3, q15744⟩ : ∃ y_ : Int, y_ = (((l8 ++ ([(⟨r10.1, x, (-1)⟩ : Entry)] : List Entry)).length : Nat) : Int) := ⟨_, rfl⟩
          replace hF := hF x3 q15744
          refine .v (v := .int .i64 x3) (by rw [q15744]; exact ln rfl tS114.is) rfl rfl rfl ?_
          refine .v (bi rfl rfl rfl) rfl rfl rfl ?_
          refine .nil ?_
          refine .seqN ?_
          refine .cond rfl (fun q15746 => ?_) (fun q15746 => ?_)
          · replace hF := hF.1 q15746
            refine .seq ?_
            refine .region ?_
            refine st (p := pv) (off := 0) (k := 4) (vs := [.slice none 0 0]) rfl rfl rfl (fun w => (tO22 w).2) rfl rfl rfl rfl ?_
            refine .cast (A' := [OwnSl 113 3 a18 (([(⟨r10.1, x, (-1)⟩ : Entry)] : List Entry).length) 1 [.slice a14 r10.1.length c9, .int .i64 x, .int .i64 (-1)], Box pdone [.func (.yield l3) #[] #[]], MkA (D2 :: []), Box pkey [.func (.func 49) #[] #[]], Box pv [.slice none 0 0], Box pv2 [.bool false], Box pv3 [.bool false], Box pqueue [.slice a19 ((l8 ++ ([(⟨r10.1, x, (-1)⟩ : Entry)] : List Entry)).length) c12], Box pseen [.map (some bv)], Box p [.int .i64 x], MkA (D :: dl), LA .busy none, OwnSl 113 3 a19 ((l8 ++ ([(⟨r10.1, x, (-1)⟩ : Entry)] : List Entry)).length) c12 (csl6 ++ [.slice a14 r10.1.length c9, .int .i64 x, .int .i64 (-1)]), OwnMap bv (upd m6 r11 1)]) rfl ?_
            refine st (p := pv2) (off := 0) (k := 5) (vs := [.bool false]) rfl rfl rfl (fun w => (tO4 w).2) rfl rfl rfl rfl ?_
            refine .cast (A' := [OwnSl 113 3 a18 (([(⟨r10.1, x, (-1)⟩ : Entry)] : List Entry).length) 1 [.slice a14 r10.1.length c9, .int .i64 x, .int .i64 (-1)], Box pdone [.func (.yield l3) #[] #[]], MkA (D2 :: []), Box pkey [.func (.func 49) #[] #[]], Box pv [.slice none 0 0], Box pv2 [.bool false], Box pv3 [.bool false], Box pqueue [.slice a19 ((l8 ++ ([(⟨r10.1, x, (-1)⟩ : Entry)] : List Entry)).length) c12], Box pseen [.map (some bv)], Box p [.int .i64 x], MkA (D :: dl), LA .busy none, OwnSl 113 3 a19 ((l8 ++ ([(⟨r10.1, x, (-1)⟩ : Entry)] : List Entry)).length) c12 (csl6 ++ [.slice a14 r10.1.length c9, .int .i64 x, .int .i64 (-1)]), OwnMap bv (upd m6 r11 1)]) rfl ?_
            refine st (p := pv3) (off := 0) (k := 6) (vs := [.bool false]) rfl rfl rfl (fun w => (tO4 w).2) rfl rfl rfl rfl ?_
            refine .cast (A' := [OwnSl 113 3 a18 (([(⟨r10.1, x, (-1)⟩ : Entry)] : List Entry).length) 1 [.slice a14 r10.1.length c9, .int .i64 x, .int .i64 (-1)], Box pdone [.func (.yield l3) #[] #[]], MkA (D2 :: []), Box pkey [.func (.func 49) #[] #[]], Box pv [.slice none 0 0], Box pv2 [.bool false], Box pv3 [.bool false], Box pqueue [.slice a19 ((l8 ++ ([(⟨r10.1, x, (-1)⟩ : Entry)] : List Entry)).length) c12], Box pseen [.map (some bv)], Box p [.int .i64 x], MkA (D :: dl), LA .busy none, OwnSl 113 3 a19 ((l8 ++ ([(⟨r10.1, x, (-1)⟩ : Entry)] : List Entry)).length) c12 (csl6 ++ [.slice a14 r10.1.length c9, .int .i64 x, .int .i64 (-1)]), OwnMap bv (upd m6 r11 1)]) rfl ?_
            refine .nil ?_
            refine .seqN ?_
            refine .ret ?_
            refine .seqR ?_
            refine .blkR ?_
            refine .rdR (k := 11) q15076 rfl q15739 rfl ?_
            refine .cast (A' := [OwnSl 113 3 a18 (([(⟨r10.1, x, (-1)⟩ : Entry)] : List Entry).length) 1 [.slice a14 r10.1.length c9, .int .i64 x, .int .i64 (-1)], Box pdone [.func (.yield l3) #[] #[]], MkA (D2 :: []), Box pkey [.func (.func 49) #[] #[]], Box pv [.slice none 0 0], Box pv2 [.bool false], Box pv3 [.bool false], Box pqueue [.slice a19 ((l8 ++ ([(⟨r10.1, x, (-1)⟩ : Entry)] : List Entry)).length) c12], Box pseen [.map (some bv)], Box p [.int .i64 x], MkA (D :: dl), LA .done (some .ret), OwnSl 113 3 a19 ((l8 ++ ([(⟨r10.1, x, (-1)⟩ : Entry)] : List Entry)).length) c12 (csl6 ++ [.slice a14 r10.1.length c9, .int .i64 x, .int .i64 (-1)]), OwnMap bv (upd m6 r11 1)]) rfl ?_
            refine .gv (nt rfl) rfl rfl rfl rfl rfl rfl ?_
            refine .gv (pkF rfl rfl rfl) rfl rfl rfl q15716 rfl rfl ?_
            refine .v (pkT rfl q15716 rfl) rfl rfl rfl ?_
            refine .nil ?_
            refine .seqN ?_
            refine .cond rfl (fun _ => ?_) (fun e => absurd (e.symm.trans rfl) (by decide))
            refine .ret ?_
            refine .blkR ?_
            refine .seqR ?_
            refine .seqR ?_
            refine .blkR ?_
            refine .resMN (.inl rfl) (k := 2) rfl ?_
            refine .res0 (.inl rfl) rfl (range_jump (k := 11) q15076 rfl q15077 ?_)
            refine .cast (A' := [OwnSl 113 3 a18 (([(⟨r10.1, x, (-1)⟩ : Entry)] : List Entry).length) 1 [.slice a14 r10.1.length c9, .int .i64 x, .int .i64 (-1)], Box pdone [.func (.yield l3) #[] #[]], tru, Box pkey [.func (.func 49) #[] #[]], Box pv [.slice none 0 0], Box pv2 [.bool false], Box pv3 [.bool false], Box pqueue [.slice a19 ((l8 ++ ([(⟨r10.1, x, (-1)⟩ : Entry)] : List Entry)).length) c12], Box pseen [.map (some bv)], Box p [.int .i64 x], MkA (D :: dl), tru, OwnSl 113 3 a19 ((l8 ++ ([(⟨r10.1, x, (-1)⟩ : Entry)] : List Entry)).length) c12 (csl6 ++ [.slice a14 r10.1.length c9, .int .i64 x, .int .i64 (-1)]), OwnMap bv (upd m6 r11 1)]) rfl ?_
            refine .ret ?_
            refine .blkR ?_
            refine .blkR ?_
            refine .seqR ?_
            refine .seqR ?_
            refine .blkR ?_
            refine .seqR ?_
            refine .resM (k := 10) rfl ?_
            refine .res3 rfl (rvC1 rfl tO22 (k := 4) rfl) (rvC1 rfl tO4 (k := 5) rfl) (rvC1 rfl tO4 (k := 6) rfl) (fun w' S => ⟨(([] : List Int), false, false), (none, 0), h782, hF, rfl, (FH.le_trans (FH.le_trans (FH.le_trans (FH.le_trans (FH.le_trans (q10540) (le742)) (le743)) (q15340)) (q15562)) (le782)), ⟨RSl.nil_, (Nat.le_refl 0)⟩, S.none⟩)
          replace hF := hF.2 q15746
          refine .skip ?_
          refine .seqN ?_
          refine .seq ?_
          refine .region ?_
          refine .v (ld1 rfl tO97 (cellB (off := 0) (k := 8) rfl rfl)) rfl rfl rfl ?_
          refine .v (mv rfl) rfl rfl rfl ?_
          refine mu tM97 rfl rfl rfl (kk := 13) rfl ?_
          refine .cast (A' := [OwnSl 113 3 a18 (([(⟨r10.1, x, (-1)⟩ : Entry)] : List Entry).length) 1 [.slice a14 r10.1.length c9, .int .i64 x, .int .i64 (-1)], Box pdone [.func (.yield l3) #[] #[]], MkA (D2 :: []), Box pkey [.func (.func 49) #[] #[]], Box pv [.slice none 0 0], Box pv2 [.bool false], Box pv3 [.bool false], Box pqueue [.slice a19 ((l8 ++ ([(⟨r10.1, x, (-1)⟩ : Entry)] : List Entry)).length) c12], Box pseen [.map (some bv)], Box p [.int .i64 x], MkA (D :: dl), LA .busy none, OwnSl 113 3 a19 ((l8 ++ ([(⟨r10.1, x, (-1)⟩ : Entry)] : List Entry)).length) c12 (csl6 ++ [.slice a14 r10.1.length c9, .int .i64 x, .int .i64 (-1)]), OwnMap bv (upd (upd m6 r11 1) r13 1)]) rfl ?_
          refine .nil ?_
          refine .seqN ?_
          refine .region ?_
          refine .v (ld1 rfl tO114 (cellB (off := 0) (k := 7) rfl rfl)) rfl rfl rfl ?_
          refine .v (mv rfl) rfl rfl rfl ?_
          refine .v (ld1 rfl tO3 (cellB (off := 0) (k := 9) rfl rfl)) rfl rfl rfl ?_
          refine .v (mv rfl) rfl rfl rfl ?_
          refine .v (bld (cs := #[.slice a15 r10.2.length c10, .int .i64 x, .int .i64 (-1)]) (pv := [(0, .slice a15 r10.2.length c10), (1, .int .i64 x), (2, .int .i64 (-1))]) tB113 rfl rfl) rfl rfl rfl ?_
          refine bs2 (cs := #[.slice a15 r10.2.length c10, .int .i64 x, .int .i64 (-1)]) (pv := [(0, .agg #[.slice a15 r10.2.length c10, .int .i64 x, .int .i64 (-1)])]) tS114 rfl rfl (by decide) (by decide) rfl rfl rfl (fun a20 _ => ?_)
          refine .cast (A' := [OwnSl 113 3 a20 (([(⟨r10.2, x, (-1)⟩ : Entry)] : List Entry).length) 1 [.slice a15 r10.2.length c10, .int .i64 x, .int .i64 (-1)], OwnSl 113 3 a18 (([(⟨r10.1, x, (-1)⟩ : Entry)] : List Entry).length) 1 [.slice a14 r10.1.length c9, .int .i64 x, .int .i64 (-1)], Box pdone [.func (.yield l3) #[] #[]], MkA (D2 :: []), Box pkey [.func (.func 49) #[] #[]], Box pv [.slice none 0 0], Box pv2 [.bool false], Box pv3 [.bool false], Box pqueue [.slice a19 ((l8 ++ ([(⟨r10.1, x, (-1)⟩ : Entry)] : List Entry)).length) c12], Box pseen [.map (some bv)], Box p [.int .i64 x], MkA (D :: dl), LA .busy none, OwnSl 113 3 a19 ((l8 ++ ([(⟨r10.1, x, (-1)⟩ : Entry)] : List Entry)).length) c12 (csl6 ++ [.slice a14 r10.1.length c9, .int .i64 x, .int .i64 (-1)]), OwnMap bv (upd (upd m6 r11 1) r13 1)]) rfl ?_
          obtain ⟨q15748, hF⟩ := hF
          have q15749 : (l8 ++ ([(⟨r10.1, x, (-1)⟩ : Entry)] : List Entry)).length + ([(⟨r10.2, x, (-1)⟩ : Entry)] : List Entry).length = (((l8 ++ ([(⟨r10.1, x, (-1)⟩ : Entry)] : List Entry)) ++ ([(⟨r10.2, x, (-1)⟩ : Entry)] : List Entry))).length := len_app rfl rfl
          have q15750 := RepL.append q15738 (show RepL h782 ([(⟨r10.2, x, (-1)⟩ : Entry)] : List Entry) [.slice a15 r10.2.length c10, .int .i64 x, .int .i64 (-1)] from ⟨[.slice a15 r10.2.length c10, .int .i64 x, .int .i64 (-1)], _, rfl, ⟨a15, c10, rfl, ⟨q15714, q15713⟩⟩, rfl⟩)
          refine app (k := 13) (news := [.slice a15 r10.2.length c10, .int .i64 x, .int .i64 (-1)]) (cs' := ((csl6 ++ [.slice a14 r10.1.length c9, .int .i64 x, .int .i64 (-1)]) ++ [.slice a15 r10.2.length c10, .int .i64 x, .int .i64 (-1)])) (nm := (((l8 ++ ([(⟨r10.1, x, (-1)⟩ : Entry)] : List Entry)) ++ ([(⟨r10.2, x, (-1)⟩ : Entry)] : List Entry))).length) tS114 rfl (by decide) rfl rfl rfl (RepL.len (show RepL h782 ([(⟨r10.2, x, (-1)⟩ : Entry)] : List Entry) [.slice a15 r10.2.length c10, .int .i64 x, .int .i64 (-1)] from ⟨[.slice a15 r10.2.length c10, .int .i64 x, .int .i64 (-1)], _, rfl, ⟨a15, c10, rfl, ⟨q15714, q15713⟩⟩, rfl⟩)) (srcS (k := 0) rfl) (RepL.one (show RepL h782 ([(⟨r10.2, x, (-1)⟩ : Entry)] : List Entry) [.slice a15 r10.2.length c10, .int .i64 x, .int .i64 (-1)] from ⟨[.slice a15 r10.2.length c10, .int .i64 x, .int .i64 (-1)], _, rfl, ⟨a15, c10, rfl, ⟨q15714, q15713⟩⟩, rfl⟩)) (room_of q15749 q15748).1 (room_of q15749 q15748).2 q15749 rfl rfl (fun a21 c13 => ?_)
          refine .cast (A' := [OwnSl 113 3 a20 (([(⟨r10.2, x, (-1)⟩ : Entry)] : List Entry).length) 1 [.slice a15 r10.2.length c10, .int .i64 x, .int .i64 (-1)], OwnSl 113 3 a18 (([(⟨r10.1, x, (-1)⟩ : Entry)] : List Entry).length) 1 [.slice a14 r10.1.length c9, .int .i64 x, .int .i64 (-1)], Box pdone [.func (.yield l3) #[] #[]], MkA (D2 :: []), Box pkey [.func (.func 49) #[] #[]], Box pv [.slice none 0 0], Box pv2 [.bool false], Box pv3 [.bool false], Box pqueue [.slice a19 ((l8 ++ ([(⟨r10.1, x, (-1)⟩ : Entry)] : List Entry)).length) c12], Box pseen [.map (some bv)], Box p [.int .i64 x], MkA (D :: dl), LA .busy none, OwnSl 113 3 a21 (((l8 ++ ([(⟨r10.1, x, (-1)⟩ : Entry)] : List Entry)) ++ ([(⟨r10.2, x, (-1)⟩ : Entry)] : List Entry)).length) c13 ((csl6 ++ [.slice a14 r10.1.length c9, .int .i64 x, .int .i64 (-1)]) ++ [.slice a15 r10.2.length c10, .int .i64 x, .int .i64 (-1)]), OwnMap bv (upd (upd m6 r11 1) r13 1)]) rfl ?_
          refine st (p := pqueue) (off := 0) (k := 8) (vs := [.slice a21 (((l8 ++ ([(⟨r10.1, x, (-1)⟩ : Entry)] : List Entry)) ++ ([(⟨r10.2, x, (-1)⟩ : Entry)] : List Entry)).length) c13]) rfl rfl rfl (fun w => (tO114 w).2) rfl rfl rfl rfl ?_
          refine .cast (A' := [OwnSl 113 3 a20 (([(⟨r10.2, x, (-1)⟩ : Entry)] : List Entry).length) 1 [.slice a15 r10.2.length c10, .int .i64 x, .int .i64 (-1)], OwnSl 113 3 a18 (([(⟨r10.1, x, (-1)⟩ : Entry)] : List Entry).length) 1 [.slice a14 r10.1.length c9, .int .i64 x, .int .i64 (-1)], Box pdone [.func (.yield l3) #[] #[]], MkA (D2 :: []), Box pkey [.func (.func 49) #[] #[]], Box pv [.slice none 0 0], Box pv2 [.bool false], Box pv3 [.bool false], Box pqueue [.slice a21 (((l8 ++ ([(⟨r10.1, x, (-1)⟩ : Entry)] : List Entry)) ++ ([(⟨r10.2, x, (-1)⟩ : Entry)] : List Entry)).length) c13], Box pseen [.map (some bv)], Box p [.int .i64 x], MkA (D :: dl), LA .busy none, OwnSl 113 3 a21 (((l8 ++ ([(⟨r10.1, x, (-1)⟩ : Entry)] : List Entry)) ++ ([(⟨r10.2, x, (-1)⟩ : Entry)] : List Entry)).length) c13 ((csl6 ++ [.slice a14 r10.1.length c9, .int .i64 x, .int .i64 (-1)]) ++ [.slice a15 r10.2.length c10, .int .i64 x, .int .i64 (-1)]), OwnMap bv (upd (upd m6 r11 1) r13 1)]) rfl ?_
          refine .nil ?_
          refine .blkN ?_
          refine .rdN (k := 12) q15076 rfl q15739 rfl ?_
          refine .cast (A' := [OwnSl 113 3 a20 (([(⟨r10.2, x, (-1)⟩ : Entry)] : List Entry).length) 1 [.slice a15 r10.2.length c10, .int .i64 x, .int .i64 (-1)], OwnSl 113 3 a18 (([(⟨r10.1, x, (-1)⟩ : Entry)] : List Entry).length) 1 [.slice a14 r10.1.length c9, .int .i64 x, .int .i64 (-1)], Box pdone [.func (.yield l3) #[] #[]], MkA (D2 :: []), Box pkey [.func (.func 49) #[] #[]], Box pv [.slice none 0 0], Box pv2 [.bool false], Box pv3 [.bool false], Box pqueue [.slice a21 (((l8 ++ ([(⟨r10.1, x, (-1)⟩ : Entry)] : List Entry)) ++ ([(⟨r10.2, x, (-1)⟩ : Entry)] : List Entry)).length) c13], Box pseen [.map (some bv)], Box p [.int .i64 x], MkA (D :: dl), LA .ready none, OwnSl 113 3 a21 (((l8 ++ ([(⟨r10.1, x, (-1)⟩ : Entry)] : List Entry)) ++ ([(⟨r10.2, x, (-1)⟩ : Entry)] : List Entry)).length) c13 ((csl6 ++ [.slice a14 r10.1.length c9, .int .i64 x, .int .i64 (-1)]) ++ [.slice a15 r10.2.length c10, .int .i64 x, .int .i64 (-1)]), OwnMap bv (upd (upd m6 r11 1) r13 1)]) rfl ?_
          refine .gv (nt rfl) rfl rfl rfl rfl rfl rfl ?_
          refine .gv (pkF rfl rfl rfl) rfl rfl rfl q15716 rfl rfl ?_
          refine .v (pkT rfl q15716 rfl) rfl rfl rfl ?_
          refine .nil ?_
          refine .seqN ?_
          refine .cond rfl (fun e => absurd (e.symm.trans rfl) (by decide)) (fun _ => ?_)
          refine .skip ?_
          refine .blkN ?_
          refine .sel0 [2, 3, 4, 5, 6, 7, 8, 9, 10, 11, 12, 13, 14] (by decide) rfl ?_
          exact .use q15707 (((l8 ++ ([(⟨r10.1, x, (-1)⟩ : Entry)] : List Entry)) ++ ([(⟨r10.2, x, (-1)⟩ : Entry)] : List Entry)), (upd (upd m6 r11 1) r13 1), a21, c13, ((csl6 ++ [.slice a14 r10.1.length c9, .int .i64 x, .int .i64 (-1)]) ++ [.slice a15 r10.2.length c10, .int .i64 x, .int .i64 (-1)]), h782) ⟨hF, q15750, (le782)⟩ (.cons rfl (.cons rfl (.cons rfl (.cons rfl (.cons rfl (.nil)))))) rfl (FH.le_refl _)
        replace hF := hF.2 q15716
        refine .gS rfl rfl rfl q15716 rfl rfl ?_
        refine .gS rfl rfl rfl q15716 rfl rfl ?_
        refine .gS rfl rfl rfl q15716 rfl rfl ?_
        refine .gS rfl rfl rfl q15716 rfl rfl ?_
        refine .gS rfl rfl rfl q15716 rfl rfl ?_
        refine .gU rfl rfl rfl rfl rfl ?_
        refine .gU rfl rfl rfl rfl rfl ?_
        refine .gU rfl rfl rfl rfl rfl ?_
        refine .gU rfl rfl rfl rfl rfl ?_
        refine .gS rfl rfl rfl q15716 rfl rfl ?_
        refine .v (pkF rfl q15716 rfl) rfl rfl rfl ?_
        refine .nil ?_
        refine .seqN ?_
        refine .cond rfl (fun e => absurd (e.symm.trans rfl) (by decide)) (fun _ => ?_)
        refine .skip ?_
        refine .blkN ?_
        exact .use q15707 (l8, m6, al7, cl7, csl6, h782) ⟨hF, (RepL.mono (le782) q15561), (le782)⟩ (.cons rfl (.cons rfl (.cons rfl (.cons rfl (.cons rfl (.nil)))))) rfl (FH.le_refl _)
      replace hF := hF.2 q15715
      refine .gS rfl rfl rfl q15715 rfl rfl ?_
      refine .gS rfl rfl rfl q15715 rfl rfl ?_
      refine .gS rfl rfl rfl q15715 rfl rfl ?_
      refine .v (pkF rfl q15715 rfl) rfl rfl rfl ?_
      refine .v (mv rfl) rfl rfl rfl ?_
      refine .gS rfl rfl rfl rfl rfl rfl ?_
      refine .gS rfl rfl rfl rfl rfl rfl ?_
      refine .gS rfl rfl rfl rfl rfl rfl ?_
      refine .gS rfl rfl rfl rfl rfl rfl ?_
      refine .gS rfl rfl rfl rfl rfl rfl ?_
      refine .gU rfl rfl rfl rfl rfl ?_
      refine .gU rfl rfl rfl rfl rfl ?_
      refine .gU rfl rfl rfl rfl rfl ?_
      refine .gU rfl rfl rfl rfl rfl ?_
      refine .gS rfl rfl rfl rfl rfl rfl ?_
      refine .v (pkF rfl rfl rfl) rfl rfl rfl ?_
      refine .nil ?_
      refine .seqN ?_
      refine .cond rfl (fun e => absurd (e.symm.trans rfl) (by decide)) (fun _ => ?_)
      refine .skip ?_
      refine .blkN ?_
      exact .use q15707 (l8, m6, al7, cl7, csl6, h782) ⟨hF, (RepL.mono (le782) q15561), (le782)⟩ (.cons rfl (.cons rfl (.cons rfl (.cons rfl (.cons rfl (.nil)))))) rfl (FH.le_refl _)
    replace hF := hF.2 q15661
    refine .exit ?_
    refine .seqX ?_
    refine .seqX ?_
    refine .blkX ?_
    refine .resMN (.inr rfl) (k := 1) rfl ?_
    refine .res0 (.inl rfl) rfl (range_done (k := 10) q15076 rfl q15077 ?_)
    refine .cast (A' := [Box pdone [.func (.yield l3) #[] #[]], tru, Box pkey [.func (.func 49) #[] #[]], Box pv [.slice none 0 0], Box pv2 [.bool false], Box pv3 [.bool false], Box pqueue [.slice al7 l8.length cl7], Box pseen [.map (some bv)], Box p [.int .i64 x], MkA (D :: dl), tru, OwnSl 113 3 al7 l8.length cl7 csl6, OwnMap bv m6]) rfl ?_
    refine .blkN ?_
    refine .blkN ?_
    refine .seqN ?_
    refine .seq ?_
    refine .seq ?_
    refine .region ?_
    refine .v (ld1 rfl tO3 (cellB (off := 0) (k := 8) rfl rfl)) rfl rfl rfl ?_
    refine .nil ?_
    refine .seqN ?_
    refine .region ?_
    refine al tZ3 rfl (fun pat2 => ?_)
    refine st (p := pat2) (off := 0) (k := 0) (vs := [.int .i64 x]) rfl rfl rfl (fun w => (tO3 w).2) rfl rfl rfl rfl ?_
    refine .cast (A' := [Box pat2 [.int .i64 x], Box pdone [.func (.yield l3) #[] #[]], tru, Box pkey [.func (.func 49) #[] #[]], Box pv [.slice none 0 0], Box pv2 [.bool false], Box pv3 [.bool false], Box pqueue [.slice al7 l8.length cl7], Box pseen [.map (some bv)], Box p [.int .i64 x], MkA (D :: dl), tru, OwnSl 113 3 al7 l8.length cl7 csl6, OwnMap bv m6]) rfl ?_
    refine .nil ?_
    refine .seqN ?_
    refine .region ?_
    refine .v (ld1 rfl tO3 (cellB (off := 0) (k := 0) rfl rfl)) rfl rfl rfl ?_
    refine .v (bi rfl rfl rfl) rfl rfl rfl ?_
    refine st (p := pat2) (off := 0) (k := 0) (vs := [.int .i64 (IntKind.i64.wrap (x + 1))]) rfl rfl rfl (fun w => (tO3 w).2) rfl rfl rfl rfl ?_
    refine .cast (A' := [Box pat2 [.int .i64 (IntKind.i64.wrap (x + 1))], Box pdone [.func (.yield l3) #[] #[]], tru, Box pkey [.func (.func 49) #[] #[]], Box pv [.slice none 0 0], Box pv2 [.bool false], Box pv3 [.bool false], Box pqueue [.slice al7 l8.length cl7], Box pseen [.map (some bv)], Box p [.int .i64 x], MkA (D :: dl), tru, OwnSl 113 3 al7 l8.length cl7 csl6, OwnMap bv m6]) rfl ?_
    refine .nil ?_
    refine .sel0 [3, 4, 5, 6, 7, 8, 0, 10, 12, 13] (by decide) rfl ?_
    exact .roundN (IntKind.i64.wrap (x + 1), l8, m6, pat2, D :: dl, al7, cl7, csl6, h775) ⟨hF.1, q15561, (FH.le_trans (FH.le_trans (FH.le_trans (FH.le_trans (q10540) (le742)) (le743)) (q15340)) (q15562))⟩ hF.2 rfl (.cons rfl (.cons rfl (.cons rfl (.cons rfl (.cons rfl (.cons rfl (.cons rfl (.cons rfl (.cons rfl (.nil)))))))))) rfl (FH.le_refl _)
  replace hF := hF.2 q13149
  refine .exit ?_
  refine .seqX ?_
  refine .seqX ?_
  refine .blkX ?_
  refine .seqN ?_
  refine .seq ?_
  refine .region ?_
  refine st (p := pv) (off := 0) (k := 1) (vs := [.slice none 0 0]) rfl rfl rfl (fun w => (tO22 w).2) rfl rfl rfl rfl ?_
  refine .cast (A' := [Box pkey [.func (.func 49) #[] #[]], Box pv [.slice none 0 0], Box pv2 [.bool false], Box pv3 [.bool false], Box pqueue [.slice al2 l.length cl2], Box pseen [.map (some bv)], Box p [.int .i64 x], MkA dl, OwnSl 113 3 al2 l.length cl2 csl, OwnMap bv m]) rfl ?_
  refine st (p := pv2) (off := 0) (k := 2) (vs := [.bool false]) rfl rfl rfl (fun w => (tO4 w).2) rfl rfl rfl rfl ?_
  refine .cast (A' := [Box pkey [.func (.func 49) #[] #[]], Box pv [.slice none 0 0], Box pv2 [.bool false], Box pv3 [.bool false], Box pqueue [.slice al2 l.length cl2], Box pseen [.map (some bv)], Box p [.int .i64 x], MkA dl, OwnSl 113 3 al2 l.length cl2 csl, OwnMap bv m]) rfl ?_
  refine st (p := pv3) (off := 0) (k := 3) (vs := [.bool true]) rfl rfl rfl (fun w => (tO4 w).2) rfl rfl rfl rfl ?_
  refine .cast (A' := [Box pkey [.func (.func 49) #[] #[]], Box pv [.slice none 0 0], Box pv2 [.bool false], Box pv3 [.bool true], Box pqueue [.slice al2 l.length cl2], Box pseen [.map (some bv)], Box p [.int .i64 x], MkA dl, OwnSl 113 3 al2 l.length cl2 csl, OwnMap bv m]) rfl ?_
  refine .nil ?_
  refine .seqN ?_
  refine .ret ?_
  refine .resM (k := 7) rfl ?_
  refine .res3 rfl (rvC1 rfl tO22 (k := 1) rfl) (rvC1 rfl tO4 (k := 2) rfl) (rvC1 rfl tO4 (k := 3) rfl) (fun w' S => ⟨(([] : List Int), false, true), (none, 0), h523, hF, rfl, (q10540), ⟨RSl.nil_, (Nat.le_refl 0)⟩, S.none⟩)

theorem c_breadthC {h : FH} {w : World} (hs : Sub h w) (ht : TabH Tryz.prog h) (start2 : List (List Int)) (astart2 : Option Addr) (cstart2 : Nat) (_q1 : RSl h astart2 start2) (_q2 : start2.length ≤ cstart2) (k : Srch) (ak : Option Addr) (ck : Nat) (_q3 : RSl h ak k.t.init) (_q4 : k.t.init.length ≤ ck) (ak2 : Option Addr) (ck2 : Nat) (_q5 : RSl h ak2 k.t.goal) (_q6 : k.t.goal.length ≤ ck2) (ak3 : Option Addr) (ck3 : Nat) (_q7 : RSl h ak3 k.t.ops) (_q8 : k.t.ops.length ≤ ck3) (ak4 : Option Addr) (ck4 : Nat) (_q9 : RSl h ak4 k.sensors) (_q10 : k.sensors.length ≤ ck4) (pk : Addr) (bk : Nat) (ta : Option Addr) (tn tc : Nat) (_q11 : CellsAt h pk [.int .i64 k.t.facts, .slice ak k.t.init.length ck, .slice ak2 k.t.goal.length ck2, .slice ak3 k.t.ops.length ck3, .slice ak4 k.sensors.length ck4, .map (some bk), .slice ta tn tc]) (hp : pre_breadthC start2 k) : Calls Tryz.prog 50 #[.slice astart2 start2.length cstart2, .func (.func 49) #[] #[], .func (.func 71) #[.pointer (some pk)] #[], .func (.func 82) #[] #[]] w fun e w' => ∃ (z : Option Addr × Nat) (h1 : FH), e = .returned (.tuple #[.slice z.1 (sp_breadthC start2 k).1.length z.2, .bool (sp_breadthC start2 k).2.1, .bool (sp_breadthC start2 k).2.2]) ∧ FH.le h h1 ∧ (RSl h1 z.1 (sp_breadthC start2 k).1 ∧ (sp_breadthC start2 k).1.length ≤ z.2) ∧ SH (Kp.all w h) h1 w' [] :=
  (w_breadthC hs ht start2 astart2 cstart2 _q1 _q2  k ak ck _q3 _q4 ak2 ck2 _q5 _q6 ak3 ck3 _q7 _q8 ak4 ck4 _q9 _q10 pk bk ta tn tc _q11  (fun r => r = sp_breadthC start2 k) (ok_breadthC start2 k hp)).mono fun _ _ ⟨r, z, h1, hk, he, hl, hf, hS⟩ => by subst hk; exact ⟨z, h1, he, hl, hf, hS⟩

theorem w_smallC {h : FH} {w : World} (hs : Sub h w) (ht : TabH Tryz.prog h) (start2 : List (List Int)) (astart2 : Option Addr) (cstart2 : Nat) (_q1 : RSl h astart2 start2) (_q2 : start2.length ≤ cstart2) (k : Srch) (ak : Option Addr) (ck : Nat) (_q3 : RSl h ak k.t.init) (_q4 : k.t.init.length ≤ ck) (ak2 : Option Addr) (ck2 : Nat) (_q5 : RSl h ak2 k.t.goal) (_q6 : k.t.goal.length ≤ ck2) (ak3 : Option Addr) (ck3 : Nat) (_q7 : RSl h ak3 k.t.ops) (_q8 : k.t.ops.length ≤ ck3) (ak4 : Option Addr) (ck4 : Nat) (_q9 : RSl h ak4 k.sensors) (_q10 : k.sensors.length ≤ ck4) (pk : Addr) (bk : Nat) (ta : Option Addr) (tn tc : Nat) (_q11 : CellsAt h pk [.int .i64 k.t.facts, .slice ak k.t.init.length ck, .slice ak2 k.t.goal.length ck2, .slice ak3 k.t.ops.length ck3, .slice ak4 k.sensors.length ck4, .map (some bk), .slice ta tn tc]) (K : Bool → Prop) (hF : F_smallC start2 k K) : Calls Tryz.prog 47 #[.slice astart2 start2.length cstart2, .func (.func 49) #[] #[], .func (.func 71) #[.pointer (some pk)] #[]] w fun e w' => ∃ r : Bool, K r ∧ e = .returned (.bool r) ∧ Below w.heap.size w w' := by
  refine enter (args := [.slice astart2 start2.length cstart2, .func (.func 49) #[] #[], .func (.func 71) #[.pointer (some pk)] #[]]) Tryz.func47 rfl Tryz.ntmps47 rfl hs ?_
  refine .seq ?_
  refine .region ?_
  refine .v (asg rfl) rfl rfl rfl ?_
  refine .nil ?_
  refine .seqN ?_
  refine .seq ?_
  refine .region ?_
  refine .v (mv rfl) rfl rfl rfl ?_
  refine .v (mv rfl) rfl rfl rfl ?_
  refine .v (mv rfl) rfl rfl rfl ?_
  obtain ⟨q12, hF⟩ := hF
  obtain ⟨r2, q13⟩ : ∃ y_ : List Int × Bool × Bool, y_ = sp_breadthC start2 k := ⟨_, rfl⟩
  replace hF := hF r2 q13
  refine clR (α := Option Addr × Nat) (Φ := fun h1 z => RSl h1 z.1 r2.1 ∧ r2.1.length ≤ z.2) (V := fun z => .tuple #[.slice z.1 r2.1.length z.2, .bool r2.2.1, .bool r2.2.2]) Tryz.call50 rfl rfl (fun w S => (by rw [q13]; exact c_breadthC S.sub (ht.mono (FH.le_refl _)) start2 astart2 cstart2 _q1 _q2 k ak ck _q3 _q4 ak2 ck2 _q5 _q6 ak3 ck3 _q7 _q8 ak4 ck4 _q9 _q10 pk bk ta tn tc (CellsAt.mono (FH.le_refl _) _q11) q12)) rfl (fun z h1 le1 hz => ?_)
  obtain ⟨a, c⟩ := z
  obtain ⟨q14, q15⟩ := hz
  refine .v (mv rfl) rfl rfl rfl ?_
  refine .v (ext rfl rfl) rfl rfl rfl ?_
  refine .v (ext rfl rfl) rfl rfl rfl ?_
  refine .v (ext rfl rfl) rfl rfl rfl ?_
  refine .v (asg rfl) rfl rfl rfl ?_
  refine .v (asg rfl) rfl rfl rfl ?_
  refine .v (asg rfl) rfl rfl rfl ?_
  refine .nil ?_
  refine .seqN ?_
  refine .seq ?_
  refine .region ?_
  refine .v (mv rfl) rfl rfl rfl ?_
  refine .v (asg rfl) rfl rfl rfl ?_
  refine .nil ?_
  refine .seqN ?_
  refine .ret ?_
  refine .res1 rfl (rvT rfl) (fun w' S => ⟨r2.2.2, hF, rfl, S.below⟩)

theorem c_smallC {h : FH} {w : World} (hs : Sub h w) (ht : TabH Tryz.prog h) (start2 : List (List Int)) (astart2 : Option Addr) (cstart2 : Nat) (_q1 : RSl h astart2 start2) (_q2 : start2.length ≤ cstart2) (k : Srch) (ak : Option Addr) (ck : Nat) (_q3 : RSl h ak k.t.init) (_q4 : k.t.init.length ≤ ck) (ak2 : Option Addr) (ck2 : Nat) (_q5 : RSl h ak2 k.t.goal) (_q6 : k.t.goal.length ≤ ck2) (ak3 : Option Addr) (ck3 : Nat) (_q7 : RSl h ak3 k.t.ops) (_q8 : k.t.ops.length ≤ ck3) (ak4 : Option Addr) (ck4 : Nat) (_q9 : RSl h ak4 k.sensors) (_q10 : k.sensors.length ≤ ck4) (pk : Addr) (bk : Nat) (ta : Option Addr) (tn tc : Nat) (_q11 : CellsAt h pk [.int .i64 k.t.facts, .slice ak k.t.init.length ck, .slice ak2 k.t.goal.length ck2, .slice ak3 k.t.ops.length ck3, .slice ak4 k.sensors.length ck4, .map (some bk), .slice ta tn tc]) (hp : pre_smallC start2 k) : Calls Tryz.prog 47 #[.slice astart2 start2.length cstart2, .func (.func 49) #[] #[], .func (.func 71) #[.pointer (some pk)] #[]] w fun e w' => e = .returned (.bool (sp_smallC start2 k)) ∧ Below w.heap.size w w' :=
  (w_smallC hs ht start2 astart2 cstart2 _q1 _q2  k ak ck _q3 _q4 ak2 ck2 _q5 _q6 ak3 ck3 _q7 _q8 ak4 ck4 _q9 _q10 pk bk ta tn tc _q11 (fun r => r = sp_smallC start2 k) (ok_smallC start2 k hp)).mono fun _ _ ⟨_, hk, he, hb⟩ => ⟨by rw [he, hk], hb⟩

set_option maxHeartbeats 8000000 in
theorem w_scan {h : FH} {w : World} (hs : Sub h w) (ht : TabH Tryz.prog h) (k : Srch) (ak : Option Addr) (ck : Nat) (_q1 : RSl h ak k.t.init) (_q2 : k.t.init.length ≤ ck) (ak2 : Option Addr) (ck2 : Nat) (_q3 : RSl h ak2 k.t.goal) (_q4 : k.t.goal.length ≤ ck2) (ak3 : Option Addr) (ck3 : Nat) (_q5 : RSl h ak3 k.t.ops) (_q6 : k.t.ops.length ≤ ck3) (ak4 : Option Addr) (ck4 : Nat) (_q7 : RSl h ak4 k.sensors) (_q8 : k.sensors.length ≤ ck4) (pk : Addr) (bk : Nat) (tr : List TNode) (ta : Option Addr) (tc : Nat) {gX : FH} (ownX : SrX (srInv k) pk [.int .i64 k.t.facts, .slice ak k.t.init.length ck, .slice ak2 k.t.goal.length ck2, .slice ak3 k.t.ops.length ck3, .slice ak4 k.sensors.length ck4] bk 102 ta tc tr gX) (subX : Sub gX w) (disX : Disj h gX) (worlds : List (List Int)) (aworlds : Option Addr) (cworlds : Nat) (_q9 : RSl h aworlds worlds) (_q10 : worlds.length ≤ cworlds) (depth : Int) (mM : Nat) (hm : mu_scan k worlds depth = mM) (ih : ∀ {h : FH} {w : World} (_ : Sub h w) (_ : TabH Tryz.prog h) (k : Srch) (ak : Option Addr) (ck : Nat) (_ : RSl h ak k.t.init) (_ : k.t.init.length ≤ ck) (ak2 : Option Addr) (ck2 : Nat) (_ : RSl h ak2 k.t.goal) (_ : k.t.goal.length ≤ ck2) (ak3 : Option Addr) (ck3 : Nat) (_ : RSl h ak3 k.t.ops) (_ : k.t.ops.length ≤ ck3) (ak4 : Option Addr) (ck4 : Nat) (_ : RSl h ak4 k.sensors) (_ : k.sensors.length ≤ ck4) (pk : Addr) (bk : Nat) (tr : List TNode) (ta : Option Addr) (tc : Nat) {gX : FH} (_ : SrX (srInv k) pk [.int .i64 k.t.facts, .slice ak k.t.init.length ck, .slice ak2 k.t.goal.length ck2, .slice ak3 k.t.ops.length ck3, .slice ak4 k.sensors.length ck4] bk 102 ta tc tr gX) (_ : Sub gX w) (_ : Disj h gX) (worlds : List (List Int)) (aworlds : Option Addr) (cworlds : Nat) (_ : RSl h aworlds worlds) (_ : worlds.length ≤ cworlds) (depth : Int) (_ : mu_scan k worlds depth < mM) (_ : pre_scan k worlds depth), Calls Tryz.prog 98 #[.pointer (some pk), .slice aworlds worlds.length cworlds, .int .i64 depth] w fun e w' => e = .returned (.bool (sp_scan k worlds depth)) ∧ SH (Kp.ex w h gX) h w' [SrX (srInv k) pk [.int .i64 k.t.facts, .slice ak k.t.init.length ck, .slice ak2 k.t.goal.length ck2, .slice ak3 k.t.ops.length ck3, .slice ak4 k.sensors.length ck4] bk 102 ta tc tr]) (K : Bool → Prop) (hF : F_scan k worlds depth K) : Calls Tryz.prog 98 #[.pointer (some pk), .slice aworlds worlds.length cworlds, .int .i64 depth] w fun e w' => ∃ r : Bool, K r ∧ e = .returned (.bool r) ∧ SH (Kp.ex w h gX) h w' [SrX (srInv k) pk [.int .i64 k.t.facts, .slice ak k.t.init.length ck, .slice ak2 k.t.goal.length ck2, .slice ak3 k.t.ops.length ck3, .slice ak4 k.sensors.length ck4] bk 102 ta tc tr] := by
  refine enterXM (X := SrX (srInv k) pk [.int .i64 k.t.facts, .slice ak k.t.init.length ck, .slice ak2 k.t.goal.length ck2, .slice ak3 k.t.ops.length ck3, .slice ak4 k.sensors.length ck4] bk 102 ta tc tr) (args := [.pointer (some pk), .slice aworlds worlds.length cworlds, .int .i64 depth]) Tryz.func98 rfl Tryz.ntmps98 rfl hs subX disX ownX ?_
  refine .open1 rfl (fun m q11 => ?_)
  replace hF := hF m q11
  refine .mk0 ?_
  refine .cast (A' := [MkA [], Box pk [.int .i64 k.t.facts, .slice ak k.t.init.length ck, .slice ak2 k.t.goal.length ck2, .slice ak3 k.t.ops.length ck3, .slice ak4 k.sensors.length ck4, .map (some bk), .slice ta tr.length tc], OwnMap bk m, OwnSl 102 5 ta tr.length tc (flL tr)]) rfl ?_
  refine .seq ?_
  refine .region ?_
  refine bx (vs := [.pointer (some pk)]) rfl rfl rfl (fun pk2 => ?_)
  refine bx (vs := [.int .i64 depth]) rfl rfl rfl (fun pdepth => ?_)
  refine al tZ4 rfl (fun pv => ?_)
  refine .nil ?_
  refine .seqN ?_
  refine .seq ?_
  refine .seq ?_
  refine .region ?_
  refine .v (mv rfl) rfl rfl rfl ?_
  refine .v (ld1 rfl tO96 (cellB (off := 0) (k := 2) rfl rfl)) rfl rfl rfl ?_
  refine .v (nck rfl) rfl rfl rfl ?_
  refine .v (fa rfl tF99_0) rfl rfl rfl ?_
  refine .v (faa (p := pk) (o1 := 0) rfl tF25_2 rfl) rfl rfl rfl ?_
  refine .v (ld1 rfl tO22 (cellB (off := 2) (k := 4) rfl rfl)) rfl rfl rfl ?_
  obtain ⟨q12, hF⟩ := hF
  obtain ⟨r2, q13⟩ : ∃ y_ : Bool, y_ = sp_sure worlds k.t.goal := ⟨_, rfl⟩
  replace hF := hF r2 q13
  refine .c (cl (v := .bool r2) Tryz.call52 rfl rfl (fun w S => (by rw [q13]; exact c_sure S.sub worlds aworlds cworlds _q9 _q10 k.t.goal ak2 ck2 _q3 _q4 q12))) rfl rfl rfl ?_
  refine .nil ?_
  refine .seqN ?_
  refine .cond rfl (fun q15 => ?_) (fun q15 => ?_)
  · replace hF := hF.1 q15
    refine .seq ?_
    refine .region ?_
    refine st (p := pv) (off := 0) (k := 0) (vs := [.bool true]) rfl rfl rfl (fun w => (tO4 w).2) rfl rfl rfl rfl ?_
    refine .cast (A' := [Box pv [.bool true], Box pdepth [.int .i64 depth], Box pk2 [.pointer (some pk)], MkA [], Box pk [.int .i64 k.t.facts, .slice ak k.t.init.length ck, .slice ak2 k.t.goal.length ck2, .slice ak3 k.t.ops.length ck3, .slice ak4 k.sensors.length ck4, .map (some bk), .slice ta tr.length tc], OwnMap bk m, OwnSl 102 5 ta tr.length tc (flL tr)]) rfl ?_
    refine .nil ?_
    refine .seqN ?_
    refine .ret ?_
    refine .seqR ?_
    refine .resM (k := 3) rfl ?_
    refine .closeX (i := 4) (j := 5) (k := 6) (inv := srInv k) (pre := [.int .i64 k.t.facts, .slice ak k.t.init.length ck, .slice ak2 k.t.goal.length ck2, .slice ak3 k.t.ops.length ck3, .slice ak4 k.sensors.length ck4]) (xs := tr) rfl rfl rfl rfl rfl rfl rfl rfl q11 ?_
    refine .res1 rfl (rvC1 rfl tO4 (k := 1) rfl) (fun w' S => ⟨true, hF, rfl, (S.pick (k := 0) rfl)⟩)
  replace hF := hF.2 q15
  refine .skip ?_
  refine .seqN ?_
  refine .seq ?_
  refine .seq ?_
  refine .region ?_
  refine .v (ld1 rfl tO3 (cellB (off := 0) (k := 1) rfl rfl)) rfl rfl rfl ?_
  refine .v (bi rfl rfl rfl) rfl rfl rfl ?_
  refine .nil ?_
  refine .seqN ?_
  refine .cond rfl (fun q17 => ?_) (fun q17 => ?_)
  · replace hF := hF.1 q17
    refine .seq ?_
    refine .region ?_
    refine st (p := pv) (off := 0) (k := 0) (vs := [.bool false]) rfl rfl rfl (fun w => (tO4 w).2) rfl rfl rfl rfl ?_
    refine .cast (A' := [Box pv [.bool false], Box pdepth [.int .i64 depth], Box pk2 [.pointer (some pk)], MkA [], Box pk [.int .i64 k.t.facts, .slice ak k.t.init.length ck, .slice ak2 k.t.goal.length ck2, .slice ak3 k.t.ops.length ck3, .slice ak4 k.sensors.length ck4, .map (some bk), .slice ta tr.length tc], OwnMap bk m, OwnSl 102 5 ta tr.length tc (flL tr)]) rfl ?_
    refine .nil ?_
    refine .seqN ?_
    refine .ret ?_
    refine .seqR ?_
    refine .resM (k := 3) rfl ?_
    refine .closeX (i := 4) (j := 5) (k := 6) (inv := srInv k) (pre := [.int .i64 k.t.facts, .slice ak k.t.init.length ck, .slice ak2 k.t.goal.length ck2, .slice ak3 k.t.ops.length ck3, .slice ak4 k.sensors.length ck4]) (xs := tr) rfl rfl rfl rfl rfl rfl rfl rfl q11 ?_
    refine .res1 rfl (rvC1 rfl tO4 (k := 1) rfl) (fun w' S => ⟨false, hF, rfl, (S.pick (k := 0) rfl)⟩)
  replace hF := hF.2 q17
  refine .skip ?_
  refine .seqN ?_
  refine .seq ?_
  refine .region ?_
  refine .v (ld1 rfl tO3 (cellB (off := 0) (k := 1) rfl rfl)) rfl rfl rfl ?_
  obtain ⟨q18, hF⟩ := hF
  obtain ⟨r3, q19⟩ : ∃ y_ : List UInt8, y_ = sp_itoa depth := ⟨_, rfl⟩
  replace hF := hF r3 q19
  refine .c (cl (v := strV r3) Tryz.call113 rfl rfl (fun w S => (by rw [q19]; exact c_itoa S.sub depth q18))) rfl rfl rfl ?_
  obtain ⟨q20, hF⟩ := hF
  refine .v (sad rfl rfl q20) rfl rfl rfl ?_
  refine .v (mv rfl) rfl rfl rfl ?_
  obtain ⟨q21, hF⟩ := hF
  obtain ⟨r4, q22⟩ : ∃ y_ : List UInt8, y_ = sp_key worlds := ⟨_, rfl⟩
  replace hF := hF r4 q22
  refine .c (cl (v := strV r4) Tryz.call49 rfl rfl (fun w S => (by rw [q22]; exact c_key S.sub (ht.mono (FH.le_refl _)) worlds aworlds cworlds _q9 _q10 q21))) rfl rfl rfl ?_
  obtain ⟨q23, hF⟩ := hF
  refine .v (sad rfl rfl q23) rfl rfl rfl ?_
  refine .v (asg rfl) rfl rfl rfl ?_
  refine .nil ?_
  refine .seqN ?_
  refine .seq ?_
  refine .seq ?_
  refine .region ?_
  refine .v (ld1 rfl tO96 (cellB (off := 0) (k := 2) rfl rfl)) rfl rfl rfl ?_
  refine .v (nck rfl) rfl rfl rfl ?_
  refine .v (fa rfl tF99_2) rfl rfl rfl ?_
  refine .v (ld1 rfl tO97 (cellB (off := 5) (k := 4) rfl rfl)) rfl rfl rfl ?_
  refine .v (mv rfl) rfl rfl rfl ?_
  refine .v (lk tM97 rfl rfl (kk := 5) rfl) rfl rfl rfl ?_
  refine .v (bi rfl rfl rfl) rfl rfl rfl ?_
  refine .nil ?_
  refine .seqN ?_
  refine .cond rfl (fun q25 => ?_) (fun q25 => ?_)
  · replace hF := hF.1 q25
    refine .seq ?_
    refine .region ?_
    refine st (p := pv) (off := 0) (k := 0) (vs := [.bool false]) rfl rfl rfl (fun w => (tO4 w).2) rfl rfl rfl rfl ?_
    refine .cast (A' := [Box pv [.bool false], Box pdepth [.int .i64 depth], Box pk2 [.pointer (some pk)], MkA [], Box pk [.int .i64 k.t.facts, .slice ak k.t.init.length ck, .slice ak2 k.t.goal.length ck2, .slice ak3 k.t.ops.length ck3, .slice ak4 k.sensors.length ck4, .map (some bk), .slice ta tr.length tc], OwnMap bk m, OwnSl 102 5 ta tr.length tc (flL tr)]) rfl ?_
    refine .nil ?_
    refine .seqN ?_
    refine .ret ?_
    refine .seqR ?_
    refine .resM (k := 3) rfl ?_
    refine .closeX (i := 4) (j := 5) (k := 6) (inv := srInv k) (pre := [.int .i64 k.t.facts, .slice ak k.t.init.length ck, .slice ak2 k.t.goal.length ck2, .slice ak3 k.t.ops.length ck3, .slice ak4 k.sensors.length ck4]) (xs := tr) rfl rfl rfl rfl rfl rfl rfl rfl q11 ?_
    refine .res1 rfl (rvC1 rfl tO4 (k := 1) rfl) (fun w' S => ⟨false, hF, rfl, (S.pick (k := 0) rfl)⟩)
  replace hF := hF.2 q25
  refine .skip ?_
  refine .seqN ?_
  refine .seq ?_
  refine .seq ?_
  refine .region ?_
  refine .v (ld1 rfl tO96 (cellB (off := 0) (k := 2) rfl rfl)) rfl rfl rfl ?_
  refine .v (nck rfl) rfl rfl rfl ?_
  refine .v (fa rfl tF99_0) rfl rfl rfl ?_
  refine .v (ldA (cs := [.int .i64 k.t.facts, .slice ak k.t.init.length ck, .slice ak2 k.t.goal.length ck2, .slice ak3 k.t.ops.length ck3]) rfl tA25 rfl (cellsB (off := 0) (k := 4) rfl (m := 4) rfl)) rfl rfl rfl ?_
  refine .v (mv rfl) rfl rfl rfl ?_
  obtain ⟨r5, q26⟩ : ∃ y_ : Unit, y_ = sp_succ k.t worlds := ⟨_, rfl⟩
  replace hF := hF r5 q26
  refine clR (α := Addr × Addr) (Φ := fun h1 z => CellsAt h1 z.1 [.int .i64 k.t.facts, .slice ak k.t.init.length ck, .slice ak2 k.t.goal.length ck2, .slice ak3 k.t.ops.length ck3] ∧ CellsAt h1 z.2 [.slice aworlds worlds.length cworlds]) (V := fun z => .func (.func 103) #[] #[.pointer (some z.1), .pointer (some z.2)]) Tryz.call81 rfl rfl (fun w S => (by exact c_succ S.sub k.t ak ck _q1 _q2 ak2 ck2 _q3 _q4 ak3 ck3 _q5 _q6 worlds aworlds cworlds _q9 _q10 )) rfl (fun z h1 le1 hz => ?_)
  obtain ⟨p, p2⟩ := z
  obtain ⟨q27, q28⟩ := hz
  refine .nil ?_
  refine .seqN ?_
  refine .block ?_
  refine .sub (s' := [(1, .slice aworlds worlds.length cworlds), (3, .pointer (some pk2)), (5, .pointer (some pdepth)), (6, .pointer (some pv)), (7, strV ((r3 ++ ([58] : List UInt8)) ++ r4)), (41, .func (.func 103) #[] #[.pointer (some p), .pointer (some p2)])]) (.cons rfl (.cons rfl (.cons rfl (.cons rfl (.cons rfl (.cons rfl (.nil))))))) ?_
  refine .rangeF (k := 3) (caps := [.pointer (some p), .pointer (some p2)]) rfl rfl Tryz.func103 rfl Tryz.ntmps103 rfl Tryz.call103 (fun l D LA a q177 q178 => ?_)
  refine .cast (A' := [LA .ready none, Box pv [.bool false], Box pdepth [.int .i64 depth], Box pk2 [.pointer (some pk)], MkA (D :: []), Box pk [.int .i64 k.t.facts, .slice ak k.t.init.length ck, .slice ak2 k.t.goal.length ck2, .slice ak3 k.t.ops.length ck3, .slice ak4 k.sensors.length ck4, .map (some bk), .slice ta tr.length tc], OwnMap bk m, OwnSl 102 5 ta tr.length tc (flL tr)]) rfl ?_
  refine .seq ?_
  refine .region ?_
  refine .v (fa rfl tF25_3) rfl rfl rfl ?_
  refine .v (ld1 (v := .slice ak3 k.t.ops.length ck3) rfl tO23 (cellH (CellsAt.mono (FH.le_refl _) q27 3 _ rfl))) rfl rfl rfl ?_
  refine .v (ln rfl tS23.is) rfl rfl rfl ?_
  refine .v (mv rfl) rfl rfl rfl ?_
  refine .nil ?_
  refine .seqN ?_
  refine .block ?_
  refine .sel0 [0, 3, 2, 1, 4, 5, 6, 7] (by decide) rfl ?_
  obtain ⟨I1, μ1, q275, q276⟩ := hF
  refine .loop' (σ := Int × (List UInt8 → Int)) (fun z => I1 z.1 z.2) (fun z => μ1 z.1 z.2) (fun z => [(0, .func (.yield l) #[] #[]), (1, .pointer (some p)), (2, .pointer (some p2)), (7, .slice ak3 k.t.ops.length ck3), (8, .int .i64 ((k.t.ops.length : Nat) : Int)), (9, .int .i64 z.1)]) (fun z => [LA .ready none, Box pk2 [.pointer (some pk)], Box pdepth [.int .i64 depth], Box pv [.bool false], MkA (D :: []), Box pk [.int .i64 k.t.facts, .slice ak k.t.init.length ck, .slice ak2 k.t.goal.length ck2, .slice ak3 k.t.ops.length ck3, .slice ak4 k.sensors.length ck4, .map (some bk), .slice ta tr.length tc], OwnMap bk z.2, OwnSl 102 5 ta tr.length tc (flL tr)]) (fun _ => h1) (0, m) q275 (.cons rfl (.cons rfl (.cons rfl (.cons rfl (.cons rfl (.cons rfl (.nil))))))) rfl (FH.le_refl _) ?_
  rintro ⟨next, m2⟩ q275
  have hF := q276 next m2 q275
  show J _ _ _ _ _ [(0, .func (.yield l) #[] #[]), (1, .pointer (some p)), (2, .pointer (some p2)), (7, .slice ak3 k.t.ops.length ck3), (8, .int .i64 ((k.t.ops.length : Nat) : Int)), (9, .int .i64 next)] [LA .ready none, Box pk2 [.pointer (some pk)], Box pdepth [.int .i64 depth], Box pv [.bool false], MkA (D :: []), Box pk [.int .i64 k.t.facts, .slice ak k.t.init.length ck, .slice ak2 k.t.goal.length ck2, .slice ak3 k.t.ops.length ck3, .slice ak4 k.sensors.length ck4, .map (some bk), .slice ta tr.length tc], OwnMap bk m2, OwnSl 102 5 ta tr.length tc (flL tr)] h1
  refine .seq ?_
  refine .region ?_
  refine .v (bi rfl rfl rfl) rfl rfl rfl ?_
  refine .nil ?_
  refine .seqN ?_
  refine .seq ?_
  refine .cond rfl (fun q279 => ?_) (fun q279 => ?_)
  · replace hF := hF.1 q279
    refine .skip ?_
    refine .seqN ?_
    refine .share (σ := (List UInt8 → Int)) (fun z => F_scan_J1 m2 next z I1 μ1) (fun _ => [(0, .func (.yield l) #[] #[]), (1, .pointer (some p)), (2, .pointer (some p2)), (7, .slice ak3 k.t.ops.length ck3), (8, .int .i64 ((k.t.ops.length : Nat) : Int)), (9, .int .i64 next)]) (fun z => [LA .ready none, Box pk2 [.pointer (some pk)], Box pdepth [.int .i64 depth], Box pv [.bool false], MkA (D :: []), Box pk [.int .i64 k.t.facts, .slice ak k.t.init.length ck, .slice ak2 k.t.goal.length ck2, .slice ak3 k.t.ops.length ck3, .slice ak4 k.sensors.length ck4, .map (some bk), .slice ta tr.length tc], OwnMap bk z, OwnSl 102 5 ta tr.length tc (flL tr)]) (fun _ => h1) ?_ (fun q302 => ?_)
    · rintro m4 hF
      show J _ _ _ _ _ [(0, .func (.yield l) #[] #[]), (1, .pointer (some p)), (2, .pointer (some p2)), (7, .slice ak3 k.t.ops.length ck3), (8, .int .i64 ((k.t.ops.length : Nat) : Int)), (9, .int .i64 next)] [LA .ready none, Box pk2 [.pointer (some pk)], Box pdepth [.int .i64 depth], Box pv [.bool false], MkA (D :: []), Box pk [.int .i64 k.t.facts, .slice ak k.t.init.length ck, .slice ak2 k.t.goal.length ck2, .slice ak3 k.t.ops.length ck3, .slice ak4 k.sensors.length ck4, .map (some bk), .slice ta tr.length tc], OwnMap bk m4, OwnSl 102 5 ta tr.length tc (flL tr)] h1
      refine .region ?_
      refine .v (bi rfl rfl rfl) rfl rfl rfl ?_
      refine .v (mv rfl) rfl rfl rfl ?_
      refine .nil ?_
      exact .round (IntKind.i64.wrap (next + 1), m4) hF.1 hF.2 (.cons rfl (.cons rfl (.cons rfl (.cons rfl (.cons rfl (.cons rfl (.nil))))))) rfl (FH.le_refl _)
    refine .block ?_
    refine .seq ?_
    refine .region ?_
    refine .v (mv rfl) rfl rfl rfl ?_
    obtain ⟨q303, hF⟩ := hF
    refine .v (ix rfl rfl tS23 (_q5.ne (by decide) (inb_pos q303)) q303) rfl rfl rfl ?_
    obtain ⟨_, ⟨a2, c, a3, c2, a4, c3, rfl, ⟨q304, q305⟩, ⟨q306, q307⟩, q308, q309⟩, q310⟩ := _q5.elem q303
    refine .v (ldA (cs := [.slice a2 ((gt k.t.ops next).pre.length) c, .slice a3 ((gt k.t.ops next).add.length) c2, .slice a4 ((gt k.t.ops next).del.length) c3, .int .i64 ((gt k.t.ops next).cost)]) rfl tA54 rfl (cellsH ((fun q => (q310 q).mono (le1)) (by decide)))) rfl rfl rfl ?_
    refine al tZ54 rfl (fun pdepth2 => ?_)
    refine .v (asg rfl) rfl rfl rfl ?_
    refine st (p := pdepth2) (off := 0) (k := 0) (vs := [.slice a2 ((gt k.t.ops next).pre.length) c, .slice a3 ((gt k.t.ops next).add.length) c2, .slice a4 ((gt k.t.ops next).del.length) c3, .int .i64 ((gt k.t.ops next).cost)]) rfl rfl rfl (fun w => (tA54 w).2) rfl rfl rfl rfl ?_
    refine .cast (A' := [Box pdepth2 [.slice a2 ((gt k.t.ops next).pre.length) c, .slice a3 ((gt k.t.ops next).add.length) c2, .slice a4 ((gt k.t.ops next).del.length) c3, .int .i64 ((gt k.t.ops next).cost)], LA .ready none, Box pk2 [.pointer (some pk)], Box pdepth [.int .i64 depth], Box pv [.bool false], MkA (D :: []), Box pk [.int .i64 k.t.facts, .slice ak k.t.init.length ck, .slice ak2 k.t.goal.length ck2, .slice ak3 k.t.ops.length ck3, .slice ak4 k.sensors.length ck4, .map (some bk), .slice ta tr.length tc], OwnMap bk m2, OwnSl 102 5 ta tr.length tc (flL tr)]) rfl ?_
    refine .nil ?_
    refine .seqN ?_
    refine .seq ?_
    refine .region ?_
    refine .v (ld1 (v := .slice aworlds worlds.length cworlds) rfl tO35 (cellH (CellsAt.mono (FH.le_refl _) q28 0 _ rfl))) rfl rfl rfl ?_
    refine .v (fa rfl tF54_0) rfl rfl rfl ?_
    refine .v (ld1 rfl tO22 (cellB (off := 0) (k := 0) rfl rfl)) rfl rfl rfl ?_
    obtain ⟨q311, hF⟩ := hF
    obtain ⟨r6, q312⟩ : ∃ y_ : Bool, y_ = sp_sure worlds ((gt k.t.ops next).pre) := ⟨_, rfl⟩
    replace hF := hF r6 q312
    refine .c (cl (v := .bool r6) Tryz.call52 rfl rfl (fun w S => (by rw [q312]; exact c_sure S.sub worlds aworlds cworlds (_q9.mono (le1)) _q10 ((gt k.t.ops next).pre) a2 c (q305.mono (le1)) q304 q311))) rfl rfl rfl ?_
    refine .v (mv rfl) rfl rfl rfl ?_
    rcases Bool.eq_false_or_eq_true (r6) with q313 | q313
    · replace hF := hF.1 q313
      refine .gv (mv rfl) rfl rfl rfl q313 rfl rfl ?_
      refine .gv (mv rfl) rfl rfl rfl q313 rfl rfl ?_
      refine .gv (ldA (cs := [.int .i64 k.t.facts, .slice ak k.t.init.length ck, .slice ak2 k.t.goal.length ck2, .slice ak3 k.t.ops.length ck3]) rfl tA25 rfl (cellsH (q27.mono (FH.le_refl _)))) rfl rfl rfl q313 rfl rfl ?_
      refine .gv (ld1 (v := .slice aworlds worlds.length cworlds) rfl tO35 (cellH (CellsAt.mono (FH.le_refl _) q28 0 _ rfl))) rfl rfl rfl q313 rfl rfl ?_
      refine .gv (mv rfl) rfl rfl rfl q313 rfl rfl ?_
      obtain ⟨q314, hF⟩ := hF
      obtain ⟨r7, q315⟩ : ∃ y_ : List (List Int), y_ = sp_bafter k.t worlds next := ⟨_, rfl⟩
      replace hF := hF r7 q315
      refine .gR rfl rfl rfl q313 ?_
      refine clR (α := Option Addr × Nat) (Φ := fun h1 z => RSl h1 z.1 r7 ∧ r7.length ≤ z.2) (V := fun z => .slice z.1 r7.length z.2) Tryz.call60 rfl rfl (fun w S => (by rw [q315]; exact c_bafter S.sub k.t ak ck (_q1.mono (le1)) _q2 ak2 ck2 (_q3.mono (le1)) _q4 ak3 ck3 (_q5.mono (le1)) _q6 worlds aworlds cworlds (_q9.mono (le1)) _q10 next q314)) rfl (fun z h13 le13 hz => ?_)
      obtain ⟨a5, c4⟩ := z
      obtain ⟨q316, q317⟩ := hz
      refine .gR rfl rfl rfl q313 ?_
      refine .yld (k := 1) (vs := [.int .i64 next, .slice a5 r7.length c4]) q177 rfl rfl rfl rfl rfl (fun aG q318 => ?_)
      refine .sub (s' := [(3, .pointer (some pk2)), (5, .pointer (some pdepth)), (6, .pointer (some pv)), (43, .slice a5 r7.length c4)]) (.cons rfl (.cons rfl (.cons rfl (.cons rfl (.nil))))) ?_
      refine .region ?_
      refine .v (asg rfl) rfl rfl rfl ?_
      refine .nil ?_
      refine .begin_ (k := 1) q177 rfl ?_
      refine .cast (A' := [Box pdepth2 [.slice a2 ((gt k.t.ops next).pre.length) c, .slice a3 ((gt k.t.ops next).add.length) c2, .slice a4 ((gt k.t.ops next).del.length) c3, .int .i64 ((gt k.t.ops next).cost)], LA .busy none, Box pk2 [.pointer (some pk)], Box pdepth [.int .i64 depth], Box pv [.bool false], MkA (D :: []), Box pk [.int .i64 k.t.facts, .slice ak k.t.init.length ck, .slice ak2 k.t.goal.length ck2, .slice ak3 k.t.ops.length ck3, .slice ak4 k.sensors.length ck4, .map (some bk), .slice ta tr.length tc], OwnMap bk m2, OwnSl 102 5 ta tr.length tc (flL tr)]) rfl ?_
      refine .block ?_
      refine .seq ?_
      refine .region ?_
      refine .v (ld1 rfl tO96 (cellB (off := 0) (k := 2) rfl rfl)) rfl rfl rfl ?_
      refine .v (mv rfl) rfl rfl rfl ?_
      refine .v (ld1 rfl tO3 (cellB (off := 0) (k := 3) rfl rfl)) rfl rfl rfl ?_
      refine .v (bi rfl rfl rfl) rfl rfl rfl ?_
      obtain ⟨q319, hF⟩ := hF
      obtain ⟨q320, hF⟩ := hF
      obtain ⟨q321, hF⟩ := hF
      obtain ⟨r8, q322⟩ : ∃ y_ : Bool, y_ = sp_scan k r7 (IntKind.i64.wrap (depth - 1)) := ⟨_, rfl⟩
      replace hF := hF r8 q322
      refine callS (i := 6) (j := 7) (k := 8) (inv := srInv k) (pre := [.int .i64 k.t.facts, .slice ak k.t.init.length ck, .slice ak2 k.t.goal.length ck2, .slice ak3 k.t.ops.length ck3, .slice ak4 k.sensors.length ck4]) (xs := tr) (v := .bool r8) rfl rfl rfl rfl rfl rfl rfl rfl q319 Tryz.call98 rfl rfl (fun w g hx sg hd hs' => ?_) rfl (fun m5 q323 => ?_)
      · rw [q322]; exact ih hs' (ht.mono (FH.le_trans (le1) (le13))) k ak ck (_q1.mono (FH.le_trans (le1) (le13))) _q2 ak2 ck2 (_q3.mono (FH.le_trans (le1) (le13))) _q4 ak3 ck3 (_q5.mono (FH.le_trans (le1) (le13))) _q6 ak4 ck4 (_q7.mono (FH.le_trans (le1) (le13))) _q8 pk bk tr ta tc hx sg hd r7 a5 c4 q316 q317 (IntKind.i64.wrap (depth - 1)) (by rw [← hm]; exact q321) q320
      replace hF := hF m5 q323
      refine .cast (A' := [Box pdepth2 [.slice a2 ((gt k.t.ops next).pre.length) c, .slice a3 ((gt k.t.ops next).add.length) c2, .slice a4 ((gt k.t.ops next).del.length) c3, .int .i64 ((gt k.t.ops next).cost)], LA .busy none, Box pk2 [.pointer (some pk)], Box pdepth [.int .i64 depth], Box pv [.bool false], MkA (D :: []), Box pk [.int .i64 k.t.facts, .slice ak k.t.init.length ck, .slice ak2 k.t.goal.length ck2, .slice ak3 k.t.ops.length ck3, .slice ak4 k.sensors.length ck4, .map (some bk), .slice ta tr.length tc], OwnMap bk m5, OwnSl 102 5 ta tr.length tc (flL tr)]) rfl ?_
      refine .nil ?_
      refine .seqN ?_
      refine .cond rfl (fun q324 => ?_) (fun q324 => ?_)
      · replace hF := hF.1 q324
        refine .seq ?_
        refine .region ?_
        refine st (p := pv) (off := 0) (k := 4) (vs := [.bool true]) rfl rfl rfl (fun w => (tO4 w).2) rfl rfl rfl rfl ?_
        refine .cast (A' := [Box pdepth2 [.slice a2 ((gt k.t.ops next).pre.length) c, .slice a3 ((gt k.t.ops next).add.length) c2, .slice a4 ((gt k.t.ops next).del.length) c3, .int .i64 ((gt k.t.ops next).cost)], LA .busy none, Box pk2 [.pointer (some pk)], Box pdepth [.int .i64 depth], Box pv [.bool true], MkA (D :: []), Box pk [.int .i64 k.t.facts, .slice ak k.t.init.length ck, .slice ak2 k.t.goal.length ck2, .slice ak3 k.t.ops.length ck3, .slice ak4 k.sensors.length ck4, .map (some bk), .slice ta tr.length tc], OwnMap bk m5, OwnSl 102 5 ta tr.length tc (flL tr)]) rfl ?_
        refine .nil ?_
        refine .seqN ?_
        refine .ret ?_
        refine .blkR ?_
        refine .rdR (k := 1) q177 rfl q318 rfl ?_
        refine .cast (A' := [Box pdepth2 [.slice a2 ((gt k.t.ops next).pre.length) c, .slice a3 ((gt k.t.ops next).add.length) c2, .slice a4 ((gt k.t.ops next).del.length) c3, .int .i64 ((gt k.t.ops next).cost)], LA .done (some .ret), Box pk2 [.pointer (some pk)], Box pdepth [.int .i64 depth], Box pv [.bool true], MkA (D :: []), Box pk [.int .i64 k.t.facts, .slice ak k.t.init.length ck, .slice ak2 k.t.goal.length ck2, .slice ak3 k.t.ops.length ck3, .slice ak4 k.sensors.length ck4, .map (some bk), .slice ta tr.length tc], OwnMap bk m5, OwnSl 102 5 ta tr.length tc (flL tr)]) rfl ?_
        refine .gv (nt rfl) rfl rfl rfl q313 rfl rfl ?_
        refine .v (pkT rfl q313 rfl) rfl rfl rfl ?_
        refine .nil ?_
        refine .seqN ?_
        refine .cond rfl (fun _ => ?_) (fun e => absurd (e.symm.trans rfl) (by decide))
        refine .ret ?_
        refine .blkR ?_
        refine .seqR ?_
        refine .seqR ?_
        refine .blkR ?_
        refine .res0 (.inl rfl) rfl (range_jump (k := 1) q177 rfl q178 ?_)
        refine .cast (A' := [Box pdepth2 [.slice a2 ((gt k.t.ops next).pre.length) c, .slice a3 ((gt k.t.ops next).add.length) c2, .slice a4 ((gt k.t.ops next).del.length) c3, .int .i64 ((gt k.t.ops next).cost)], tru, Box pk2 [.pointer (some pk)], Box pdepth [.int .i64 depth], Box pv [.bool true], MkA (D :: []), Box pk [.int .i64 k.t.facts, .slice ak k.t.init.length ck, .slice ak2 k.t.goal.length ck2, .slice ak3 k.t.ops.length ck3, .slice ak4 k.sensors.length ck4, .map (some bk), .slice ta tr.length tc], OwnMap bk m5, OwnSl 102 5 ta tr.length tc (flL tr)]) rfl ?_
        refine .ret ?_
        refine .blkR ?_
        refine .seqR ?_
        refine .resM (k := 5) rfl ?_
        refine .closeX (i := 6) (j := 7) (k := 8) (inv := srInv k) (pre := [.int .i64 k.t.facts, .slice ak k.t.init.length ck, .slice ak2 k.t.goal.length ck2, .slice ak3 k.t.ops.length ck3, .slice ak4 k.sensors.length ck4]) (xs := tr) rfl rfl rfl rfl rfl rfl rfl rfl q323 ?_
        refine .res1 rfl (rvC1 rfl tO4 (k := 5) rfl) (fun w' S => ⟨true, hF, rfl, (S.pick (k := 0) rfl).anti (FH.le_trans (le1) (le13))⟩)
      replace hF := hF.2 q324
      refine .skip ?_
      refine .blkN ?_
      refine .rdN (k := 1) q177 rfl q318 rfl ?_
      refine .cast (A' := [Box pdepth2 [.slice a2 ((gt k.t.ops next).pre.length) c, .slice a3 ((gt k.t.ops next).add.length) c2, .slice a4 ((gt k.t.ops next).del.length) c3, .int .i64 ((gt k.t.ops next).cost)], LA .ready none, Box pk2 [.pointer (some pk)], Box pdepth [.int .i64 depth], Box pv [.bool false], MkA (D :: []), Box pk [.int .i64 k.t.facts, .slice ak k.t.init.length ck, .slice ak2 k.t.goal.length ck2, .slice ak3 k.t.ops.length ck3, .slice ak4 k.sensors.length ck4, .map (some bk), .slice ta tr.length tc], OwnMap bk m5, OwnSl 102 5 ta tr.length tc (flL tr)]) rfl ?_
      refine .gv (nt rfl) rfl rfl rfl q313 rfl rfl ?_
      refine .v (pkT rfl q313 rfl) rfl rfl rfl ?_
      refine .nil ?_
      refine .seqN ?_
      refine .cond rfl (fun e => absurd (e.symm.trans rfl) (by decide)) (fun _ => ?_)
      refine .skip ?_
      refine .blkN ?_
      refine .sel0 [1, 2, 3, 4, 5, 6, 7, 8] (by decide) rfl ?_
      exact .use q302 m5 hF (.cons rfl (.cons rfl (.cons rfl (.cons rfl (.cons rfl (.cons rfl (.nil))))))) rfl (le13)
    replace hF := hF.2 q313
    refine .gS rfl rfl rfl q313 rfl rfl ?_
    refine .gS rfl rfl rfl q313 rfl rfl ?_
    refine .gS rfl rfl rfl q313 rfl rfl ?_
    refine .gS rfl rfl rfl q313 rfl rfl ?_
    refine .gS rfl rfl rfl q313 rfl rfl ?_
    refine .gS rfl rfl rfl q313 rfl rfl ?_
    refine .gS rfl rfl rfl q313 rfl rfl ?_
    refine .gS rfl rfl rfl q313 rfl rfl ?_
    refine .v (pkF rfl q313 rfl) rfl rfl rfl ?_
    refine .nil ?_
    refine .seqN ?_
    refine .cond rfl (fun e => absurd (e.symm.trans rfl) (by decide)) (fun _ => ?_)
    refine .skip ?_
    refine .blkN ?_
    refine .sel0 [1, 2, 3, 4, 5, 6, 7, 8] (by decide) rfl ?_
    exact .use q302 m2 hF (.cons rfl (.cons rfl (.cons rfl (.cons rfl (.cons rfl (.cons rfl (.nil))))))) rfl (FH.le_refl _)
  replace hF := hF.2 q279
  refine .exit ?_
  refine .seqX ?_
  refine .seqX ?_
  refine .blkX ?_
  refine .res0 (.inr rfl) rfl (range_done (k := 0) q177 rfl q178 ?_)
  refine .cast (A' := [tru, Box pk2 [.pointer (some pk)], Box pdepth [.int .i64 depth], Box pv [.bool false], MkA (D :: []), Box pk [.int .i64 k.t.facts, .slice ak k.t.init.length ck, .slice ak2 k.t.goal.length ck2, .slice ak3 k.t.ops.length ck3, .slice ak4 k.sensors.length ck4, .map (some bk), .slice ta tr.length tc], OwnMap bk m2, OwnSl 102 5 ta tr.length tc (flL tr)]) rfl ?_
  refine .blkN ?_
  refine .seqN ?_
  refine .seq ?_
  refine .seq ?_
  refine .region ?_
  refine .v (ld1 rfl tO96 (cellB (off := 0) (k := 1) rfl rfl)) rfl rfl rfl ?_
  refine .v (nck rfl) rfl rfl rfl ?_
  refine .v (fa rfl tF99_1) rfl rfl rfl ?_
  refine .v (ld1 rfl tO22 (cellB (off := 4) (k := 5) rfl rfl)) rfl rfl rfl ?_
  refine .v (ln rfl tS22.is) rfl rfl rfl ?_
  refine .v (mv rfl) rfl rfl rfl ?_
  refine .nil ?_
  refine .seqN ?_
  refine .block ?_
  refine .sel0 [1, 2, 3, 4, 5, 6, 7] (by decide) rfl ?_
  obtain ⟨I2, μ2, q837, q838⟩ := hF
  refine .loop' (σ := Int × (List UInt8 → Int)) (fun z => I2 z.1 z.2) (fun z => μ2 z.1 z.2) (fun z => [(1, .slice aworlds worlds.length cworlds), (3, .pointer (some pk2)), (5, .pointer (some pdepth)), (6, .pointer (some pv)), (7, strV ((r3 ++ ([58] : List UInt8)) ++ r4)), (52, .slice ak4 k.sensors.length ck4), (53, .int .i64 ((k.sensors.length : Nat) : Int)), (54, .int .i64 z.1)]) (fun z => [Box pk2 [.pointer (some pk)], Box pdepth [.int .i64 depth], Box pv [.bool false], MkA (D :: []), Box pk [.int .i64 k.t.facts, .slice ak k.t.init.length ck, .slice ak2 k.t.goal.length ck2, .slice ak3 k.t.ops.length ck3, .slice ak4 k.sensors.length ck4, .map (some bk), .slice ta tr.length tc], OwnMap bk z.2, OwnSl 102 5 ta tr.length tc (flL tr)]) (fun _ => h1) (0, m2) q837 (.cons rfl (.cons rfl (.cons rfl (.cons rfl (.cons rfl (.cons rfl (.cons rfl (.cons rfl (.nil))))))))) rfl (FH.le_refl _) ?_
  rintro ⟨t54, m6⟩ q837
  have hF := q838 t54 m6 q837
  show J _ _ _ _ _ [(1, .slice aworlds worlds.length cworlds), (3, .pointer (some pk2)), (5, .pointer (some pdepth)), (6, .pointer (some pv)), (7, strV ((r3 ++ ([58] : List UInt8)) ++ r4)), (52, .slice ak4 k.sensors.length ck4), (53, .int .i64 ((k.sensors.length : Nat) : Int)), (54, .int .i64 t54)] [Box pk2 [.pointer (some pk)], Box pdepth [.int .i64 depth], Box pv [.bool false], MkA (D :: []), Box pk [.int .i64 k.t.facts, .slice ak k.t.init.length ck, .slice ak2 k.t.goal.length ck2, .slice ak3 k.t.ops.length ck3, .slice ak4 k.sensors.length ck4, .map (some bk), .slice ta tr.length tc], OwnMap bk m6, OwnSl 102 5 ta tr.length tc (flL tr)] h1
  refine .seq ?_
  refine .region ?_
  refine .v (bi rfl rfl rfl) rfl rfl rfl ?_
  refine .nil ?_
  refine .seqN ?_
  refine .seq ?_
  refine .cond rfl (fun q841 => ?_) (fun q841 => ?_)
  · replace hF := hF.1 q841
    refine .skip ?_
    refine .seqN ?_
    refine .seq ?_
    refine .block ?_
    refine .seq ?_
    refine .region ?_
    obtain ⟨q908, hF⟩ := hF
    refine .v (ix rfl rfl tS22 (_q7.ne (by decide) (inb_pos q908)) q908) rfl rfl rfl ?_
    refine .v (ld1 (v := .int .i64 (gt k.sensors t54)) rfl tO3 (cellH ((_q7.mono (le1)).elemF q908 (by decide) 0 _ rfl))) rfl rfl rfl ?_
    refine .v (asg rfl) rfl rfl rfl ?_
    refine .nil ?_
    refine .seqN ?_
    refine .seq ?_
    refine .region ?_
    refine .v (mv rfl) rfl rfl rfl ?_
    refine .v (mv rfl) rfl rfl rfl ?_
    obtain ⟨q909, hF⟩ := hF
    obtain ⟨r9, q910⟩ : ∃ y_ : List (List Int) × List (List Int), y_ = sp_split worlds (gt k.sensors t54) := ⟨_, rfl⟩
    replace hF := hF r9 q910
    refine clR (α := Option Addr × Nat × Option Addr × Nat) (Φ := fun h1 z => RSl h1 z.1 r9.1 ∧ r9.1.length ≤ z.2.1 ∧ RSl h1 z.2.2.1 r9.2 ∧ r9.2.length ≤ z.2.2.2) (V := fun z => .tuple #[.slice z.1 r9.1.length z.2.1, .slice z.2.2.1 r9.2.length z.2.2.2]) Tryz.call97 rfl rfl (fun w S => (by rw [q910]; exact c_split S.sub worlds aworlds cworlds (_q9.mono (le1)) _q10 (gt k.sensors t54) q909)) rfl (fun z h31 le31 hz => ?_)
    obtain ⟨a6, c5, a7, c6⟩ := z
    obtain ⟨q911, q912, q913, q914⟩ := hz
    refine .v (mv rfl) rfl rfl rfl ?_
    refine .v (ext rfl rfl) rfl rfl rfl ?_
    refine .v (ext rfl rfl) rfl rfl rfl ?_
    refine .v (asg rfl) rfl rfl rfl ?_
    refine .v (asg rfl) rfl rfl rfl ?_
    refine .nil ?_
    refine .seqN ?_
    refine .share (σ := Bool × (List UInt8 → Int)) (fun z => F_scan_J2 k K m6 z.1 z.2 t54 I2 μ2) (fun z => [(1, .slice aworlds worlds.length cworlds), (3, .pointer (some pk2)), (5, .pointer (some pdepth)), (6, .pointer (some pv)), (7, strV ((r3 ++ ([58] : List UInt8)) ++ r4)), (52, .slice ak4 k.sensors.length ck4), (53, .int .i64 ((k.sensors.length : Nat) : Int)), (54, .int .i64 t54), (85, .bool z.1)]) (fun z => [Box pk2 [.pointer (some pk)], Box pdepth [.int .i64 depth], Box pv [.bool false], MkA (D :: []), Box pk [.int .i64 k.t.facts, .slice ak k.t.init.length ck, .slice ak2 k.t.goal.length ck2, .slice ak3 k.t.ops.length ck3, .slice ak4 k.sensors.length ck4, .map (some bk), .slice ta tr.length tc], OwnMap bk z.2, OwnSl 102 5 ta tr.length tc (flL tr)]) (fun _ => h31) ?_ (fun q927 => ?_)
    · rintro ⟨t85, m8⟩ hF
      show J _ _ _ _ _ [(1, .slice aworlds worlds.length cworlds), (3, .pointer (some pk2)), (5, .pointer (some pdepth)), (6, .pointer (some pv)), (7, strV ((r3 ++ ([58] : List UInt8)) ++ r4)), (52, .slice ak4 k.sensors.length ck4), (53, .int .i64 ((k.sensors.length : Nat) : Int)), (54, .int .i64 t54), (85, .bool t85)] [Box pk2 [.pointer (some pk)], Box pdepth [.int .i64 depth], Box pv [.bool false], MkA (D :: []), Box pk [.int .i64 k.t.facts, .slice ak k.t.init.length ck, .slice ak2 k.t.goal.length ck2, .slice ak3 k.t.ops.length ck3, .slice ak4 k.sensors.length ck4, .map (some bk), .slice ta tr.length tc], OwnMap bk m8, OwnSl 102 5 ta tr.length tc (flL tr)] h31
      refine .cond rfl (fun q928 => ?_) (fun q928 => ?_)
      · replace hF := hF.1 q928
        refine .seq ?_
        refine .region ?_
        refine st (p := pv) (off := 0) (k := 2) (vs := [.bool true]) rfl rfl rfl (fun w => (tO4 w).2) rfl rfl rfl rfl ?_
        refine .cast (A' := [Box pk2 [.pointer (some pk)], Box pdepth [.int .i64 depth], Box pv [.bool true], MkA (D :: []), Box pk [.int .i64 k.t.facts, .slice ak k.t.init.length ck, .slice ak2 k.t.goal.length ck2, .slice ak3 k.t.ops.length ck3, .slice ak4 k.sensors.length ck4, .map (some bk), .slice ta tr.length tc], OwnMap bk m8, OwnSl 102 5 ta tr.length tc (flL tr)]) rfl ?_
        refine .nil ?_
        refine .seqN ?_
        refine .ret ?_
        refine .blkR ?_
        refine .seqR ?_
        refine .seqR ?_
        refine .blkR ?_
        refine .seqR ?_
        refine .resM (k := 3) rfl ?_
        obtain ⟨q929, hF⟩ := hF
        refine .closeX (i := 4) (j := 5) (k := 6) (inv := srInv k) (pre := [.int .i64 k.t.facts, .slice ak k.t.init.length ck, .slice ak2 k.t.goal.length ck2, .slice ak3 k.t.ops.length ck3, .slice ak4 k.sensors.length ck4]) (xs := tr) rfl rfl rfl rfl rfl rfl rfl rfl q929 ?_
        refine .res1 rfl (rvC1 rfl tO4 (k := 3) rfl) (fun w' S => ⟨true, hF, rfl, (S.pick (k := 0) rfl).anti (FH.le_trans (le1) (le31))⟩)
      replace hF := hF.2 q928
      refine .skip ?_
      refine .blkN ?_
      refine .seqN ?_
      refine .region ?_
      refine .v (bi rfl rfl rfl) rfl rfl rfl ?_
      refine .v (mv rfl) rfl rfl rfl ?_
      refine .nil ?_
      exact .round (IntKind.i64.wrap (t54 + 1), m8) hF.1 hF.2 (.cons rfl (.cons rfl (.cons rfl (.cons rfl (.cons rfl (.cons rfl (.cons rfl (.cons rfl (.nil))))))))) rfl (le31)
    refine .region ?_
    refine .v (mv rfl) rfl rfl rfl ?_
    refine .v (ln rfl tS35.is) rfl rfl rfl ?_
    refine .v (bi rfl rfl rfl) rfl rfl rfl ?_
    refine .v (mv rfl) rfl rfl rfl ?_
    rcases Bool.eq_false_or_eq_true (decide (0 < ((r9.1.length : Nat) : Int))) with q930 | q930
    · replace hF := hF.1 q930
      refine .gv (mv rfl) rfl rfl rfl q930 rfl rfl ?_
      refine .gv (ln rfl tS35.is) rfl rfl rfl q930 rfl rfl ?_
      refine .gv (bi rfl rfl rfl) rfl rfl rfl q930 rfl rfl ?_
      refine .v (pkT rfl q930 rfl) rfl rfl rfl ?_
      refine .v (mv rfl) rfl rfl rfl ?_
      rcases Bool.eq_false_or_eq_true (decide (0 < ((r9.2.length : Nat) : Int))) with q931 | q931
      · replace hF := hF.1 q931
        refine .gv (ld1 rfl tO96 (cellB (off := 0) (k := 0) rfl rfl)) rfl rfl rfl q931 rfl rfl ?_
        refine .gv (mv rfl) rfl rfl rfl q931 rfl rfl ?_
        refine .gv (ld1 rfl tO3 (cellB (off := 0) (k := 1) rfl rfl)) rfl rfl rfl q931 rfl rfl ?_
        refine .gv (bi rfl rfl rfl) rfl rfl rfl q931 rfl rfl ?_
        refine .gR rfl rfl rfl q931 ?_
        obtain ⟨q932, hF⟩ := hF
        obtain ⟨q933, hF⟩ := hF
        obtain ⟨q934, hF⟩ := hF
        obtain ⟨r10, q935⟩ : ∃ y_ : Bool, y_ = sp_scan k r9.1 (IntKind.i64.wrap (depth - 1)) := ⟨_, rfl⟩
        replace hF := hF r10 q935
        refine callS (i := 4) (j := 5) (k := 6) (inv := srInv k) (pre := [.int .i64 k.t.facts, .slice ak k.t.init.length ck, .slice ak2 k.t.goal.length ck2, .slice ak3 k.t.ops.length ck3, .slice ak4 k.sensors.length ck4]) (xs := tr) (v := .bool r10) rfl rfl rfl rfl rfl rfl rfl rfl q932 Tryz.call98 rfl rfl (fun w g hx sg hd hs' => ?_) rfl (fun m9 q936 => ?_)
        · rw [q935]; exact ih hs' (ht.mono (FH.le_trans (le1) (le31))) k ak ck (_q1.mono (FH.le_trans (le1) (le31))) _q2 ak2 ck2 (_q3.mono (FH.le_trans (le1) (le31))) _q4 ak3 ck3 (_q5.mono (FH.le_trans (le1) (le31))) _q6 ak4 ck4 (_q7.mono (FH.le_trans (le1) (le31))) _q8 pk bk tr ta tc hx sg hd r9.1 a6 c5 q911 q912 (IntKind.i64.wrap (depth - 1)) (by rw [← hm]; exact q934) q933
        replace hF := hF m9 q936
        refine .cast (A' := [Box pk2 [.pointer (some pk)], Box pdepth [.int .i64 depth], Box pv [.bool false], MkA (D :: []), Box pk [.int .i64 k.t.facts, .slice ak k.t.init.length ck, .slice ak2 k.t.goal.length ck2, .slice ak3 k.t.ops.length ck3, .slice ak4 k.sensors.length ck4, .map (some bk), .slice ta tr.length tc], OwnMap bk m9, OwnSl 102 5 ta tr.length tc (flL tr)]) rfl ?_
        refine .v (pkT rfl q931 rfl) rfl rfl rfl ?_
        refine .v (mv rfl) rfl rfl rfl ?_
        rcases Bool.eq_false_or_eq_true (r10) with q937 | q937
        · replace hF := hF.1 q937
          refine .gv (ld1 rfl tO96 (cellB (off := 0) (k := 0) rfl rfl)) rfl rfl rfl q937 rfl rfl ?_
          refine .gv (mv rfl) rfl rfl rfl q937 rfl rfl ?_
          refine .gv (ld1 rfl tO3 (cellB (off := 0) (k := 1) rfl rfl)) rfl rfl rfl q937 rfl rfl ?_
          refine .gv (bi rfl rfl rfl) rfl rfl rfl q937 rfl rfl ?_
          refine .gR rfl rfl rfl q937 ?_
          obtain ⟨q938, hF⟩ := hF
          obtain ⟨q939, hF⟩ := hF
          obtain ⟨r11, q940⟩ : ∃ y_ : Bool, y_ = sp_scan k r9.2 (IntKind.i64.wrap (depth - 1)) := ⟨_, rfl⟩
          replace hF := hF r11 q940
          refine callS (i := 4) (j := 5) (k := 6) (inv := srInv k) (pre := [.int .i64 k.t.facts, .slice ak k.t.init.length ck, .slice ak2 k.t.goal.length ck2, .slice ak3 k.t.ops.length ck3, .slice ak4 k.sensors.length ck4]) (xs := tr) (v := .bool r11) rfl rfl rfl rfl rfl rfl rfl rfl q936 Tryz.call98 rfl rfl (fun w g hx sg hd hs' => ?_) rfl (fun m10 q941 => ?_)
          · rw [q940]; exact ih hs' (ht.mono (FH.le_trans (le1) (le31))) k ak ck (_q1.mono (FH.le_trans (le1) (le31))) _q2 ak2 ck2 (_q3.mono (FH.le_trans (le1) (le31))) _q4 ak3 ck3 (_q5.mono (FH.le_trans (le1) (le31))) _q6 ak4 ck4 (_q7.mono (FH.le_trans (le1) (le31))) _q8 pk bk tr ta tc hx sg hd r9.2 a7 c6 q913 q914 (IntKind.i64.wrap (depth - 1)) (by rw [← hm]; exact q939) q938
          replace hF := hF m10 q941
          refine .cast (A' := [Box pk2 [.pointer (some pk)], Box pdepth [.int .i64 depth], Box pv [.bool false], MkA (D :: []), Box pk [.int .i64 k.t.facts, .slice ak k.t.init.length ck, .slice ak2 k.t.goal.length ck2, .slice ak3 k.t.ops.length ck3, .slice ak4 k.sensors.length ck4, .map (some bk), .slice ta tr.length tc], OwnMap bk m10, OwnSl 102 5 ta tr.length tc (flL tr)]) rfl ?_
          refine .v (pkT rfl q937 rfl) rfl rfl rfl ?_
          refine .nil ?_
          exact .use q927 (r11, m10) hF (.cons rfl (.cons rfl (.cons rfl (.cons rfl (.cons rfl (.cons rfl (.cons rfl (.cons rfl (.cons rfl (.nil)))))))))) rfl (FH.le_refl _)
        replace hF := hF.2 q937
        refine .gS rfl rfl rfl q937 rfl rfl ?_
        refine .gS rfl rfl rfl q937 rfl rfl ?_
        refine .gS rfl rfl rfl q937 rfl rfl ?_
        refine .gS rfl rfl rfl q937 rfl rfl ?_
        refine .gS rfl rfl rfl q937 rfl rfl ?_
        refine .v (pkF rfl q937 rfl) rfl rfl rfl ?_
        refine .nil ?_
        exact .use q927 (false, m9) hF (.cons rfl (.cons rfl (.cons rfl (.cons rfl (.cons rfl (.cons rfl (.cons rfl (.cons rfl (.cons rfl (.nil)))))))))) rfl (FH.le_refl _)
      replace hF := hF.2 q931
      refine .gS rfl rfl rfl q931 rfl rfl ?_
      refine .gS rfl rfl rfl q931 rfl rfl ?_
      refine .gS rfl rfl rfl q931 rfl rfl ?_
      refine .gS rfl rfl rfl q931 rfl rfl ?_
      refine .gS rfl rfl rfl q931 rfl rfl ?_
      refine .v (pkF rfl q931 rfl) rfl rfl rfl ?_
      refine .v (mv rfl) rfl rfl rfl ?_
      refine .gS rfl rfl rfl rfl rfl rfl ?_
      refine .gS rfl rfl rfl rfl rfl rfl ?_
      refine .gS rfl rfl rfl rfl rfl rfl ?_
      refine .gS rfl rfl rfl rfl rfl rfl ?_
      refine .gS rfl rfl rfl rfl rfl rfl ?_
      refine .v (pkF rfl rfl rfl) rfl rfl rfl ?_
      refine .nil ?_
      exact .use q927 (false, m6) hF (.cons rfl (.cons rfl (.cons rfl (.cons rfl (.cons rfl (.cons rfl (.cons rfl (.cons rfl (.cons rfl (.nil)))))))))) rfl (FH.le_refl _)
    replace hF := hF.2 q930
    refine .gS rfl rfl rfl q930 rfl rfl ?_
    refine .gS rfl rfl rfl q930 rfl rfl ?_
    refine .gS rfl rfl rfl q930 rfl rfl ?_
    refine .v (pkF rfl q930 rfl) rfl rfl rfl ?_
    refine .v (mv rfl) rfl rfl rfl ?_
    refine .gS rfl rfl rfl rfl rfl rfl ?_
    refine .gS rfl rfl rfl rfl rfl rfl ?_
    refine .gS rfl rfl rfl rfl rfl rfl ?_
    refine .gS rfl rfl rfl rfl rfl rfl ?_
    refine .gS rfl rfl rfl rfl rfl rfl ?_
    refine .v (pkF rfl rfl rfl) rfl rfl rfl ?_
    refine .v (mv rfl) rfl rfl rfl ?_
    refine .gS rfl rfl rfl rfl rfl rfl ?_
    refine .gS rfl rfl rfl rfl rfl rfl ?_
    refine .gS rfl rfl rfl rfl rfl rfl ?_
    refine .gS rfl rfl rfl rfl rfl rfl ?_
    refine .gS rfl rfl rfl rfl rfl rfl ?_
    refine .v (pkF rfl rfl rfl) rfl rfl rfl ?_
    refine .nil ?_
    exact .use q927 (false, m6) hF (.cons rfl (.cons rfl (.cons rfl (.cons rfl (.cons rfl (.cons rfl (.cons rfl (.cons rfl (.cons rfl (.nil)))))))))) rfl (FH.le_refl _)
  replace hF := hF.2 q841
  refine .exit ?_
  refine .seqX ?_
  refine .seqX ?_
  refine .blkX ?_
  refine .seqN ?_
  refine .seq ?_
  refine .region ?_
  refine .v (ld1 rfl tO96 (cellB (off := 0) (k := 0) rfl rfl)) rfl rfl rfl ?_
  refine .v (nck rfl) rfl rfl rfl ?_
  refine .v (fa rfl tF99_2) rfl rfl rfl ?_
  refine .v (ld1 rfl tO97 (cellB (off := 5) (k := 4) rfl rfl)) rfl rfl rfl ?_
  refine .v (mv rfl) rfl rfl rfl ?_
  refine mu tM97 rfl rfl rfl (kk := 5) rfl ?_
  refine .cast (A' := [Box pk2 [.pointer (some pk)], Box pdepth [.int .i64 depth], Box pv [.bool false], MkA (D :: []), Box pk [.int .i64 k.t.facts, .slice ak k.t.init.length ck, .slice ak2 k.t.goal.length ck2, .slice ak3 k.t.ops.length ck3, .slice ak4 k.sensors.length ck4, .map (some bk), .slice ta tr.length tc], OwnMap bk (upd m6 ((r3 ++ ([58] : List UInt8)) ++ r4) 1), OwnSl 102 5 ta tr.length tc (flL tr)]) rfl ?_
  refine .nil ?_
  refine .seqN ?_
  refine .seq ?_
  refine .region ?_
  refine st (p := pv) (off := 0) (k := 2) (vs := [.bool false]) rfl rfl rfl (fun w => (tO4 w).2) rfl rfl rfl rfl ?_
  refine .cast (A' := [Box pk2 [.pointer (some pk)], Box pdepth [.int .i64 depth], Box pv [.bool false], MkA (D :: []), Box pk [.int .i64 k.t.facts, .slice ak k.t.init.length ck, .slice ak2 k.t.goal.length ck2, .slice ak3 k.t.ops.length ck3, .slice ak4 k.sensors.length ck4, .map (some bk), .slice ta tr.length tc], OwnMap bk (upd m6 ((r3 ++ ([58] : List UInt8)) ++ r4) 1), OwnSl 102 5 ta tr.length tc (flL tr)]) rfl ?_
  refine .nil ?_
  refine .seqN ?_
  refine .ret ?_
  refine .resM (k := 3) rfl ?_
  obtain ⟨q942, hF⟩ := hF
  refine .closeX (i := 4) (j := 5) (k := 6) (inv := srInv k) (pre := [.int .i64 k.t.facts, .slice ak k.t.init.length ck, .slice ak2 k.t.goal.length ck2, .slice ak3 k.t.ops.length ck3, .slice ak4 k.sensors.length ck4]) (xs := tr) rfl rfl rfl rfl rfl rfl rfl rfl q942 ?_
  refine .res1 rfl (rvC1 rfl tO4 (k := 3) rfl) (fun w' S => ⟨false, hF, rfl, (S.pick (k := 0) rfl).anti (le1)⟩)

theorem c_scan_ : ∀ (mM : Nat) {h : FH} {w : World} (_ : Sub h w) (_ : TabH Tryz.prog h) (k : Srch) (ak : Option Addr) (ck : Nat) (_q1 : RSl h ak k.t.init) (_q2 : k.t.init.length ≤ ck) (ak2 : Option Addr) (ck2 : Nat) (_q3 : RSl h ak2 k.t.goal) (_q4 : k.t.goal.length ≤ ck2) (ak3 : Option Addr) (ck3 : Nat) (_q5 : RSl h ak3 k.t.ops) (_q6 : k.t.ops.length ≤ ck3) (ak4 : Option Addr) (ck4 : Nat) (_q7 : RSl h ak4 k.sensors) (_q8 : k.sensors.length ≤ ck4) (pk : Addr) (bk : Nat) (tr : List TNode) (ta : Option Addr) (tc : Nat) {gX : FH} (_ : SrX (srInv k) pk [.int .i64 k.t.facts, .slice ak k.t.init.length ck, .slice ak2 k.t.goal.length ck2, .slice ak3 k.t.ops.length ck3, .slice ak4 k.sensors.length ck4] bk 102 ta tc tr gX) (_ : Sub gX w) (_ : Disj h gX) (worlds : List (List Int)) (aworlds : Option Addr) (cworlds : Nat) (_q9 : RSl h aworlds worlds) (_q10 : worlds.length ≤ cworlds) (depth : Int) (_ : mu_scan k worlds depth = mM) (_ : pre_scan k worlds depth), Calls Tryz.prog 98 #[.pointer (some pk), .slice aworlds worlds.length cworlds, .int .i64 depth] w fun e w' => e = .returned (.bool (sp_scan k worlds depth)) ∧ SH (Kp.ex w h gX) h w' [SrX (srInv k) pk [.int .i64 k.t.facts, .slice ak k.t.init.length ck, .slice ak2 k.t.goal.length ck2, .slice ak3 k.t.ops.length ck3, .slice ak4 k.sensors.length ck4] bk 102 ta tc tr] := by
  intro mM
  induction mM using Nat.strongRecOn with
  | _ mM ih =>
    intro h w hs ht k ak ck _q1 _q2 ak2 ck2 _q3 _q4 ak3 ck3 _q5 _q6 ak4 ck4 _q7 _q8 pk bk tr ta tc gX ownX subX disX worlds aworlds cworlds _q9 _q10 depth hm hp
    exact (w_scan hs ht k ak ck _q1 _q2 ak2 ck2 _q3 _q4 ak3 ck3 _q5 _q6 ak4 ck4 _q7 _q8 pk bk tr ta tc ownX subX disX worlds aworlds cworlds _q9 _q10 depth _ rfl (fun hs' ht k ak ck _q1 _q2 ak2 ck2 _q3 _q4 ak3 ck3 _q5 _q6 ak4 ck4 _q7 _q8 pk bk tr ta tc gX ownX subX disX worlds aworlds cworlds _q9 _q10 depth hlt hp => ih _ (hm ▸ hlt) hs' ht k ak ck _q1 _q2 ak2 ck2 _q3 _q4 ak3 ck3 _q5 _q6 ak4 ck4 _q7 _q8 pk bk tr ta tc ownX subX disX worlds aworlds cworlds _q9 _q10 depth rfl hp) (fun r => r = sp_scan k worlds depth) (ok_scan k worlds depth hp)).mono fun _ _ ⟨r, hk, he, hS⟩ => by subst hk; exact ⟨he, hS⟩
theorem c_scan {h : FH} {w : World} (hs : Sub h w) (ht : TabH Tryz.prog h) (k : Srch) (ak : Option Addr) (ck : Nat) (_q1 : RSl h ak k.t.init) (_q2 : k.t.init.length ≤ ck) (ak2 : Option Addr) (ck2 : Nat) (_q3 : RSl h ak2 k.t.goal) (_q4 : k.t.goal.length ≤ ck2) (ak3 : Option Addr) (ck3 : Nat) (_q5 : RSl h ak3 k.t.ops) (_q6 : k.t.ops.length ≤ ck3) (ak4 : Option Addr) (ck4 : Nat) (_q7 : RSl h ak4 k.sensors) (_q8 : k.sensors.length ≤ ck4) (pk : Addr) (bk : Nat) (tr : List TNode) (ta : Option Addr) (tc : Nat) {gX : FH} (ownX : SrX (srInv k) pk [.int .i64 k.t.facts, .slice ak k.t.init.length ck, .slice ak2 k.t.goal.length ck2, .slice ak3 k.t.ops.length ck3, .slice ak4 k.sensors.length ck4] bk 102 ta tc tr gX) (subX : Sub gX w) (disX : Disj h gX) (worlds : List (List Int)) (aworlds : Option Addr) (cworlds : Nat) (_q9 : RSl h aworlds worlds) (_q10 : worlds.length ≤ cworlds) (depth : Int) (hp : pre_scan k worlds depth) : Calls Tryz.prog 98 #[.pointer (some pk), .slice aworlds worlds.length cworlds, .int .i64 depth] w fun e w' => e = .returned (.bool (sp_scan k worlds depth)) ∧ SH (Kp.ex w h gX) h w' [SrX (srInv k) pk [.int .i64 k.t.facts, .slice ak k.t.init.length ck, .slice ak2 k.t.goal.length ck2, .slice ak3 k.t.ops.length ck3, .slice ak4 k.sensors.length ck4] bk 102 ta tc tr] :=
  c_scan_ _ hs ht k ak ck _q1 _q2 ak2 ck2 _q3 _q4 ak3 ck3 _q5 _q6 ak4 ck4 _q7 _q8 pk bk tr ta tc ownX subX disX worlds aworlds cworlds _q9 _q10 depth rfl hp

end Go.Proofs.YtojoehfldbimpaaGreatDoor.Pl

