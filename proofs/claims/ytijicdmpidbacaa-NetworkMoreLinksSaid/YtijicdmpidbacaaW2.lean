/- The walks: from what each function asks to what it does; printed from the code. No condition. -/
import Derived.Test.YtijicdmpidbacaaW1
namespace Go.Proofs.Ytijicdmpidbacaa.Pl
open Go Go.RowKit
theorem w_containsR {h : FH} {w : World} (hs : Sub h w) (s_ : List (List Int)) (as_ : Option Addr) (cs_ : Nat) (_q1 : RSl h as_ s_) (_q2 : s_.length ≤ cs_) (pf : (List Int) → Bool) (Df : (List Int) → Prop) (ff : FuncId) (firstf capsf : Array Value) (hff : ∀ args w, (callFunc ff args).run Try.prog w = .ok (.enter ff args) w) (hpf : ∀ (x : List Int) (a : Option Addr) (c : Nat), RSl h a x → x.length ≤ c → ∀ (w' : World), Df x → Sub h w' → Calls Try.prog ff (firstf.toList ++ [(.slice a x.length c : Value)] ++ capsf.toList).toArray w' fun e w'' => e = .returned (.bool (pf x)) ∧ Below w'.heap.size w' w'') (K : Bool → Prop) (hF : F_containsR s_ pf Df K) : Calls Try.prog 63 #[.slice as_ s_.length cs_, .func (.func ff) firstf capsf] w fun e w' => ∃ r : Bool, K r ∧ e = .returned (.bool r) ∧ Below w.heap.size w w' := by
  refine enter (args := [.slice as_ s_.length cs_, .func (.func ff) firstf capsf]) Try.func63 rfl Try.ntmps63 rfl hs ?_
  refine .seq ?_
  refine .region ?_
  refine .v (asg rfl) rfl rfl rfl ?_
  refine .nil ?_
  refine .seqN ?_
  refine .seq ?_
  refine .region ?_
  refine .v (mv rfl) rfl rfl rfl ?_
  refine .v (mv rfl) rfl rfl rfl ?_
  obtain ⟨q3, hF⟩ := hF
  obtain ⟨r2, q4⟩ : ∃ y_ : Int, y_ = sp_index s_ pf Df := ⟨_, rfl⟩
  replace hF := hF r2 q4
  refine .c (cl (v := .int .i64 r2) Try.call71 rfl rfl (fun w S => (by rw [q4]; exact c_indexR S.sub s_ as_ cs_ _q1 _q2 pf Df ff firstf capsf hff hpf q3))) rfl rfl rfl ?_
  refine .v (bi rfl rfl rfl) rfl rfl rfl ?_
  refine .v (asg rfl) rfl rfl rfl ?_
  refine .nil ?_
  refine .seqN ?_
  refine .ret ?_
  refine .res1 rfl (rvT rfl) (fun w' S => ⟨decide (0 ≤ r2), hF, rfl, S.below⟩)

theorem c_containsR {h : FH} {w : World} (hs : Sub h w) (s_ : List (List Int)) (as_ : Option Addr) (cs_ : Nat) (_q1 : RSl h as_ s_) (_q2 : s_.length ≤ cs_) (pf : (List Int) → Bool) (Df : (List Int) → Prop) (ff : FuncId) (firstf capsf : Array Value) (hff : ∀ args w, (callFunc ff args).run Try.prog w = .ok (.enter ff args) w) (hpf : ∀ (x : List Int) (a : Option Addr) (c : Nat), RSl h a x → x.length ≤ c → ∀ (w' : World), Df x → Sub h w' → Calls Try.prog ff (firstf.toList ++ [(.slice a x.length c : Value)] ++ capsf.toList).toArray w' fun e w'' => e = .returned (.bool (pf x)) ∧ Below w'.heap.size w' w'') (hp : pre_any s_ pf Df) : Calls Try.prog 63 #[.slice as_ s_.length cs_, .func (.func ff) firstf capsf] w fun e w' => e = .returned (.bool (sp_any s_ pf Df)) ∧ Below w.heap.size w w' :=
  (w_containsR hs s_ as_ cs_ _q1 _q2 pf Df ff firstf capsf hff hpf (fun r => r = sp_any s_ pf Df) (ok_containsR s_ pf Df hp)).mono fun _ _ ⟨_, hk, he, hb⟩ => ⟨by rw [he, hk], hb⟩

theorem w_tighten1 {h : FH} {w : World} (hs : Sub h w) (row : List Int) (arow : Option Addr) (crow : Nat) (_q1 : RSl h arow row) (_q2 : row.length ≤ crow) (K : Bool → Prop) (hF : F_tighten1 row K) : Calls Try.prog 64 #[.slice arow row.length crow] w fun e w' => ∃ r : Bool, K r ∧ e = .returned (.bool r) ∧ Below w.heap.size w w' := by
  refine enter (args := [.slice arow row.length crow]) Try.func64 rfl Try.ntmps64 rfl hs ?_
  refine .seq ?_
  refine .region ?_
  refine .v (asg rfl) rfl rfl rfl ?_
  refine .nil ?_
  refine .seqN ?_
  refine .seq ?_
  refine .region ?_
  refine .v (mv rfl) rfl rfl rfl ?_
  obtain ⟨q3, hF⟩ := hF
  obtain ⟨r2, q4⟩ : ∃ y_ : Int, y_ = sp_min_ row := ⟨_, rfl⟩
  replace hF := hF r2 q4
  refine .c (cl (v := .int .i64 r2) Try.call65 rfl rfl (fun w S => (by rw [q4]; exact c_min_ S.sub row arow crow _q1 _q2 q3))) rfl rfl rfl ?_
  refine .v (bi rfl rfl rfl) rfl rfl rfl ?_
  refine .v (asg rfl) rfl rfl rfl ?_
  refine .nil ?_
  refine .seqN ?_
  refine .ret ?_
  refine .res1 rfl (rvT rfl) (fun w' S => ⟨decide (r2 < (-1000000)), hF, rfl, S.below⟩)

theorem c_tighten1 {h : FH} {w : World} (hs : Sub h w) (row : List Int) (arow : Option Addr) (crow : Nat) (_q1 : RSl h arow row) (_q2 : row.length ≤ crow) (hp : pre_tighten1 row) : Calls Try.prog 64 #[.slice arow row.length crow] w fun e w' => e = .returned (.bool (sp_tighten1 row)) ∧ Below w.heap.size w w' :=
  (w_tighten1 hs row arow crow _q1 _q2 (fun r => r = sp_tighten1 row) (ok_tighten1 row hp)).mono fun _ _ ⟨_, hk, he, hb⟩ => ⟨by rw [he, hk], hb⟩

set_option maxHeartbeats 8000000 in
theorem w_tighten {h : FH} {w : World} (hs : Sub h w) (n_ : Network) (an_ : Option Addr) (cn_ : Nat) (_q1 : RSl h an_ n_.links) (_q2 : n_.links.length ≤ cn_) (K : (List (List Int) × Bool) → Prop) (hF : F_tighten n_ K) : Calls Try.prog 45 #[.agg #[.int .i64 n_.events, .slice an_ n_.links.length cn_]] w fun e w' => ∃ (r : List (List Int) × Bool) (z : Option Addr × Nat) (h1 : FH), K r ∧ e = .returned (.tuple #[.slice z.1 r.1.length z.2, .bool r.2]) ∧ FH.le h h1 ∧ (RSl h1 z.1 r.1 ∧ r.1.length ≤ z.2) ∧ SH (Kp.all w h) h1 w' [] := by
  refine enter (args := [.agg #[.int .i64 n_.events, .slice an_ n_.links.length cn_]]) Try.func45 rfl Try.ntmps45 rfl hs ?_
  refine .seq ?_
  refine .region ?_
  refine bx (vs := [.int .i64 n_.events, .slice an_ n_.links.length cn_]) rfl rfl rfl (fun pn => ?_)
  refine .v (asg rfl) rfl rfl rfl ?_
  refine .v (asg rfl) rfl rfl rfl ?_
  refine .nil ?_
  refine .seqN ?_
  refine .seq ?_
  refine .region ?_
  refine .v (ldA (cs := [.int .i64 n_.events, .slice an_ n_.links.length cn_]) rfl tA24 rfl (cellsB (off := 0) (k := 0) rfl (m := 2) rfl)) rfl rfl rfl ?_
  obtain ⟨q3, hF⟩ := hF
  obtain ⟨r2, q4⟩ : ∃ y_ : List (List Int), y_ = sp_bounds n_ := ⟨_, rfl⟩
  replace hF := hF r2 q4
  refine clO (α := Option Addr × Nat × List RowV) (V := fun z => .slice z.1 r2.length z.2.1) (Ψ := fun z => z.2.2.length = r2.length) (B := fun z => OwnSl 32 1 z.1 r2.length z.2.1 (rowsV z.2.2 r2) :: rowsA 3 z.2.2 r2) Try.call49 rfl rfl (fun w S => (by rw [q4]; exact c_bounds S.sub n_ an_ cn_ _q1 _q2 q3)) rfl (fun z q5 => ?_)
  obtain ⟨a, c, vs⟩ := z
  refine .perm ?_
  refine .cast (A' := ([Box pn [.int .i64 n_.events, .slice an_ n_.links.length cn_], OwnSl 32 1 a r2.length c (rowsV vs r2)] ++ rowsA 3 vs r2)) rfl ?_
  refine .v (asg rfl) rfl rfl rfl ?_
  refine .nil ?_
  refine .seqN ?_
  refine .seq ?_
  refine .seq ?_
  refine .region ?_
  refine .v (mv rfl) rfl rfl rfl ?_
  refine .v (ln rfl tS25.is) rfl rfl rfl ?_
  refine .v (mv rfl) rfl rfl rfl ?_
  refine .nil ?_
  refine .seqN ?_
  refine .block ?_
  refine .sel (L := [Box pn [.int .i64 n_.events, .slice an_ n_.links.length cn_], OwnSl 32 1 a r2.length c (rowsV vs r2)]) (L' := [OwnSl 32 1 a r2.length c (rowsV vs r2)]) [1] rfl (by decide) rfl rfl ?_
  obtain ⟨I1, μ1, q3626, q3627⟩ := hF
  refine .loop' (σ := Int × List (List Int)) (fun z => I1 z.1 z.2 ∧ z.2.length = r2.length ∧ vs.length = z.2.length) (fun z => μ1 z.1 z.2) (fun z => [(4, .slice a r2.length c), (12, .int .i64 ((r2.length : Nat) : Int)), (13, .int .i64 z.1)]) (fun z => ([OwnSl 32 1 a r2.length c (rowsV vs z.2)] ++ rowsA 3 vs z.2)) (fun _ => h) (0, r2) ⟨q3626, rfl, q5⟩ (.cons rfl (.cons rfl (.cons rfl (.nil)))) rfl (FH.le_refl _) ?_
  rintro ⟨t13, d⟩ ⟨q3626, q1738, q1739⟩
  have hF := q3627 t13 d q3626
  show J _ _ _ _ _ [(4, .slice a r2.length c), (12, .int .i64 ((r2.length : Nat) : Int)), (13, .int .i64 t13)] ([OwnSl 32 1 a r2.length c (rowsV vs d)] ++ rowsA 3 vs d) h
  refine .seq ?_
  refine .region ?_
  refine .v (bi rfl rfl rfl) rfl rfl rfl ?_
  refine .nil ?_
  refine .seqN ?_
  refine .seq ?_
  refine .cond rfl (fun q3629 => ?_) (fun q3629 => ?_)
  · replace hF := hF.1 q3629
    refine .skip ?_
    refine .seqN ?_
    refine .seq ?_
    refine .block ?_
    refine .seq ?_
    refine .region ?_
    refine .v (mv rfl) rfl rfl rfl ?_
    refine .v (asg rfl) rfl rfl rfl ?_
    refine .nil ?_
    refine .seqN ?_
    refine .seq ?_
    refine .seq ?_
    refine .region ?_
    refine .v (mv rfl) rfl rfl rfl ?_
    refine .v (ln rfl tS25.is) rfl rfl rfl ?_
    refine .v (mv rfl) rfl rfl rfl ?_
    refine .nil ?_
    refine .seqN ?_
    refine .block ?_
    obtain ⟨I2, μ2, q5199, q5200⟩ := hF
    refine .loop' (σ := Int × List (List Int)) (fun z => I2 z.1 z.2 ∧ z.2.length = r2.length ∧ vs.length = z.2.length) (fun z => μ2 z.1 z.2) (fun z => [(4, .slice a r2.length c), (5, .int .i64 t13), (12, .int .i64 ((r2.length : Nat) : Int)), (13, .int .i64 t13), (17, .int .i64 ((r2.length : Nat) : Int)), (18, .int .i64 z.1)]) (fun z => ([OwnSl 32 1 a r2.length c (rowsV vs z.2)] ++ rowsA 3 vs z.2)) (fun _ => h) (0, d) ⟨q5199, q1738, q1739⟩ (.cons rfl (.cons rfl (.cons rfl (.cons rfl (.cons rfl (.cons rfl (.nil))))))) rfl (FH.le_refl _) ?_
    rintro ⟨t18, d3⟩ ⟨q5199, q4887, q4888⟩
    have hF := q5200 t18 d3 q5199
    show J _ _ _ _ _ [(4, .slice a r2.length c), (5, .int .i64 t13), (12, .int .i64 ((r2.length : Nat) : Int)), (13, .int .i64 t13), (17, .int .i64 ((r2.length : Nat) : Int)), (18, .int .i64 t18)] ([OwnSl 32 1 a r2.length c (rowsV vs d3)] ++ rowsA 3 vs d3) h
    refine .seq ?_
    refine .region ?_
    refine .v (bi rfl rfl rfl) rfl rfl rfl ?_
    refine .nil ?_
    refine .seqN ?_
    refine .seq ?_
    refine .cond rfl (fun q5202 => ?_) (fun q5202 => ?_)
    · replace hF := hF.1 q5202
      refine .skip ?_
      refine .seqN ?_
      refine .seq ?_
      refine .block ?_
      refine .seq ?_
      refine .region ?_
      refine .v (mv rfl) rfl rfl rfl ?_
      refine .v (asg rfl) rfl rfl rfl ?_
      refine .nil ?_
      refine .seqN ?_
      refine .seq ?_
      refine .region ?_
      refine .v (mv rfl) rfl rfl rfl ?_
      refine .v (ln rfl tS25.is) rfl rfl rfl ?_
      refine .v (mv rfl) rfl rfl rfl ?_
      refine .nil ?_
      refine .seqN ?_
      refine .block ?_
      obtain ⟨I3, μ3, q5460, q5461⟩ := hF
      refine .loop' (σ := Int × List (List Int)) (fun z => I3 z.1 z.2 ∧ z.2.length = r2.length ∧ vs.length = z.2.length) (fun z => μ3 z.1 z.2) (fun z => [(4, .slice a r2.length c), (5, .int .i64 t13), (6, .int .i64 t18), (12, .int .i64 ((r2.length : Nat) : Int)), (13, .int .i64 t13), (17, .int .i64 ((r2.length : Nat) : Int)), (18, .int .i64 t18), (22, .int .i64 ((r2.length : Nat) : Int)), (23, .int .i64 z.1)]) (fun z => ([OwnSl 32 1 a r2.length c (rowsV vs z.2)] ++ rowsA 3 vs z.2)) (fun _ => h) (0, d3) ⟨q5460, q4887, q4888⟩ (.cons rfl (.cons rfl (.cons rfl (.cons rfl (.cons rfl (.cons rfl (.cons rfl (.cons rfl (.cons rfl (.nil)))))))))) rfl (FH.le_refl _) ?_
      rintro ⟨t23, d5⟩ ⟨q5460, q5409, q5410⟩
      have hF := q5461 t23 d5 q5460
      show J _ _ _ _ _ [(4, .slice a r2.length c), (5, .int .i64 t13), (6, .int .i64 t18), (12, .int .i64 ((r2.length : Nat) : Int)), (13, .int .i64 t13), (17, .int .i64 ((r2.length : Nat) : Int)), (18, .int .i64 t18), (22, .int .i64 ((r2.length : Nat) : Int)), (23, .int .i64 t23)] ([OwnSl 32 1 a r2.length c (rowsV vs d5)] ++ rowsA 3 vs d5) h
      refine .seq ?_
      refine .region ?_
      refine .v (bi rfl rfl rfl) rfl rfl rfl ?_
      refine .nil ?_
      refine .seqN ?_
      refine .seq ?_
      refine .cond rfl (fun q5463 => ?_) (fun q5463 => ?_)
      · replace hF := hF.1 q5463
        refine .skip ?_
        refine .seqN ?_
        refine .share (σ := List (List Int)) (fun z => F_tighten_J1 t23 I3 μ3 d5 z ∧ z.length = r2.length ∧ vs.length = z.length) (fun _ => [(4, .slice a r2.length c), (5, .int .i64 t13), (6, .int .i64 t18), (12, .int .i64 ((r2.length : Nat) : Int)), (13, .int .i64 t13), (17, .int .i64 ((r2.length : Nat) : Int)), (18, .int .i64 t18), (22, .int .i64 ((r2.length : Nat) : Int)), (23, .int .i64 t23)]) (fun z => ([OwnSl 32 1 a r2.length c (rowsV vs z)] ++ rowsA 3 vs z)) (fun _ => h) ?_ (fun q5487 => ?_)
        · rintro d7 ⟨hF, q5485, q5486⟩
          show J _ _ _ _ _ [(4, .slice a r2.length c), (5, .int .i64 t13), (6, .int .i64 t18), (12, .int .i64 ((r2.length : Nat) : Int)), (13, .int .i64 t13), (17, .int .i64 ((r2.length : Nat) : Int)), (18, .int .i64 t18), (22, .int .i64 ((r2.length : Nat) : Int)), (23, .int .i64 t23)] ([OwnSl 32 1 a r2.length c (rowsV vs d7)] ++ rowsA 3 vs d7) h
          refine .region ?_
          refine .v (bi rfl rfl rfl) rfl rfl rfl ?_
          refine .v (mv rfl) rfl rfl rfl ?_
          refine .nil ?_
          exact .round (IntKind.i64.wrap (t23 + 1), d7) ⟨hF.1, q5485, q5486⟩ hF.2 (.cons rfl (.cons rfl (.cons rfl (.cons rfl (.cons rfl (.cons rfl (.cons rfl (.cons rfl (.cons rfl (.nil)))))))))) rfl (FH.le_refl _)
        refine .block ?_
        refine .seq ?_
        refine .region ?_
        refine .v (mv rfl) rfl rfl rfl ?_
        refine .v (asg rfl) rfl rfl rfl ?_
        refine .nil ?_
        refine .seqN ?_
        refine .share (σ := Bool) (fun z => F_tighten_J2 z t23 I3 μ3 t18 d5 t13) (fun z => [(4, .slice a r2.length c), (5, .int .i64 t13), (6, .int .i64 t18), (7, .int .i64 t23), (12, .int .i64 ((r2.length : Nat) : Int)), (13, .int .i64 t13), (17, .int .i64 ((r2.length : Nat) : Int)), (18, .int .i64 t18), (22, .int .i64 ((r2.length : Nat) : Int)), (23, .int .i64 t23), (43, .bool z)]) (fun _ => ([OwnSl 32 1 a r2.length c (rowsV vs d5)] ++ rowsA 3 vs d5)) (fun _ => h) ?_ (fun q5493 => ?_)
        · rintro t43 hF
          show J _ _ _ _ _ [(4, .slice a r2.length c), (5, .int .i64 t13), (6, .int .i64 t18), (7, .int .i64 t23), (12, .int .i64 ((r2.length : Nat) : Int)), (13, .int .i64 t13), (17, .int .i64 ((r2.length : Nat) : Int)), (18, .int .i64 t18), (22, .int .i64 ((r2.length : Nat) : Int)), (23, .int .i64 t23), (43, .bool t43)] ([OwnSl 32 1 a r2.length c (rowsV vs d5)] ++ rowsA 3 vs d5) h
          refine .cond rfl (fun q5494 => ?_) (fun q5494 => ?_)
          · replace hF := hF.1 q5494
            refine .openL (by kernel_rfl) rfl (by kernel_rfl) (by kernel_rfl) ?_
            refine .v (mv rfl) rfl rfl rfl ?_
            refine .v (mv rfl) rfl rfl rfl ?_
            obtain ⟨q5495, hF⟩ := hF
            refine .v (ixS rfl rfl tS25 (k := 0) rfl (inb_n q5495 q5409)) rfl rfl rfl ?_
            refine .v (ld1 (v := .slice ((gt vs t18).1) ((gt d5 t18).length) ((gt vs t18).2)) rfl tO32 (cell1 (k := 0) rfl (rowsV_get (gt_get (inb_of q5410 q5495)) (gt_get q5495)))) rfl rfl rfl ?_
            refine .v (mv rfl) rfl rfl rfl ?_
            refine .v (mv rfl) rfl rfl rfl ?_
            refine .v (mv rfl) rfl rfl rfl ?_
            refine .v (ixS rfl rfl tS25 (k := 0) rfl (inb_n q5495 q5409)) rfl rfl rfl ?_
            refine .v (ld1 (v := .slice ((gt vs t18).1) ((gt d5 t18).length) ((gt vs t18).2)) rfl tO32 (cell1 (k := 0) rfl (rowsV_get (gt_get (inb_of q5410 q5495)) (gt_get q5495)))) rfl rfl rfl ?_
            refine .v (mv rfl) rfl rfl rfl ?_
            obtain ⟨q5496, hF⟩ := hF
            refine .v (ixS rfl rfl tS32 (k := (t18).toNat + 1) (rowsA_get (gt_get (inb_of q5410 q5495)) (gt_get q5495)) q5496) rfl rfl rfl ?_
            refine .v (ld1 (v := .int .i64 (gt (gt d5 t18) t23)) rfl tO3 (cellS (k := (t18).toNat + 1) (rowsA_get (gt_get (inb_of q5410 q5495)) (gt_get q5495)) (flL_get q5496 (j := 0) rfl))) rfl rfl rfl ?_
            refine .v (mv rfl) rfl rfl rfl ?_
            refine .v (mv rfl) rfl rfl rfl ?_
            refine .v (ixS rfl rfl tS25 (k := 0) rfl (inb_n q5495 q5409)) rfl rfl rfl ?_
            refine .v (ld1 (v := .slice ((gt vs t18).1) ((gt d5 t18).length) ((gt vs t18).2)) rfl tO32 (cell1 (k := 0) rfl (rowsV_get (gt_get (inb_of q5410 q5495)) (gt_get q5495)))) rfl rfl rfl ?_
            refine .v (mv rfl) rfl rfl rfl ?_
            obtain ⟨q5497, hF⟩ := hF
            refine .v (ixS rfl rfl tS32 (k := (t18).toNat + 1) (rowsA_get (gt_get (inb_of q5410 q5495)) (gt_get q5495)) q5497) rfl rfl rfl ?_
            refine .v (ld1 (v := .int .i64 (gt (gt d5 t18) t13)) rfl tO3 (cellS (k := (t18).toNat + 1) (rowsA_get (gt_get (inb_of q5410 q5495)) (gt_get q5495)) (flL_get q5497 (j := 0) rfl))) rfl rfl rfl ?_
            refine .v (mv rfl) rfl rfl rfl ?_
            refine .v (mv rfl) rfl rfl rfl ?_
            obtain ⟨q5498, hF⟩ := hF
            refine .v (ixS rfl rfl tS25 (k := 0) rfl (inb_n q5498 q5409)) rfl rfl rfl ?_
            refine .v (ld1 (v := .slice ((gt vs t13).1) ((gt d5 t13).length) ((gt vs t13).2)) rfl tO32 (cell1 (k := 0) rfl (rowsV_get (gt_get (inb_of q5410 q5498)) (gt_get q5498)))) rfl rfl rfl ?_
            refine .v (mv rfl) rfl rfl rfl ?_
            obtain ⟨q5499, hF⟩ := hF
            refine .v (ixS rfl rfl tS32 (k := (t13).toNat + 1) (rowsA_get (gt_get (inb_of q5410 q5498)) (gt_get q5498)) q5499) rfl rfl rfl ?_
            refine .v (ld1 (v := .int .i64 (gt (gt d5 t13) t23)) rfl tO3 (cellS (k := (t13).toNat + 1) (rowsA_get (gt_get (inb_of q5410 q5498)) (gt_get q5498)) (flL_get q5499 (j := 0) rfl))) rfl rfl rfl ?_
            refine .v (bi rfl rfl rfl) rfl rfl rfl ?_
            obtain ⟨x, q5500⟩ : ∃ y_ : Int, y_ = (if (IntKind.i64.wrap ((gt (gt d5 t18) t13) + (gt (gt d5 t13) t23))) < (gt (gt d5 t18) t23) then (IntKind.i64.wrap ((gt (gt d5 t18) t13) + (gt (gt d5 t13) t23))) else (gt (gt d5 t18) t23)) := ⟨_, rfl⟩
            replace hF := hF x q5500
            refine .v (v := .int .i64 x) (by rw [q5500]; exact mn rfl rfl) rfl rfl rfl ?_
            refine .v (ixS rfl rfl tS32 (k := (t18).toNat + 1) (rowsA_get (gt_get (inb_of q5410 q5495)) (gt_get q5495)) q5496) rfl rfl rfl ?_
            refine .tail ?_
            obtain ⟨d8, q5501⟩ : ∃ y_ : List (List Int), y_ = (d5.set (t18).toNat ((gt d5 t18).set (t23).toNat x)) := ⟨_, rfl⟩
            replace hF := hF d8 q5501
            refine stS (k := (t18).toNat + 1) (cs' := flL ((gt d5 t18).set (t23).toNat x)) rfl (fun _ => rfl) rfl rfl (fun w => (tO3 w).2) rfl rfl (rowsA_get (gt_get (inb_of q5410 q5495)) (gt_get q5495)) (inb_pos q5496) (fl_room q5496) (flL_set q5496 _) ?_
            have q5502 : d8.length = r2.length := by rw [q5501]; exact List.length_set.trans q5409
            have q5503 : (vs).length = d8.length := by rw [q5501]; exact q5410.trans List.length_set.symm
            refine .cast (A' := ([OwnSl 32 1 a r2.length c (rowsV vs d8)] ++ rowsA 3 vs d8)) (by rw [q5501]; exact matSet (L := [OwnSl 32 1 a r2.length c (rowsV vs d5)]) (k := 0) q5410 q5495 List.length_set rfl) ?_
            refine .nil ?_
            refine .blkN ?_
            exact .use q5487 d8 ⟨hF, q5502, q5503⟩ (.cons rfl (.cons rfl (.cons rfl (.cons rfl (.cons rfl (.cons rfl (.cons rfl (.cons rfl (.cons rfl (.nil)))))))))) rfl (FH.le_refl _)
          replace hF := hF.2 q5494
          refine .skip ?_
          refine .blkN ?_
          exact .use q5487 d5 ⟨hF, q5409, q5410⟩ (.cons rfl (.cons rfl (.cons rfl (.cons rfl (.cons rfl (.cons rfl (.cons rfl (.cons rfl (.cons rfl (.nil)))))))))) rfl (FH.le_refl _)
        refine .region ?_
        refine .v (mv rfl) rfl rfl rfl ?_
        refine .v (mv rfl) rfl rfl rfl ?_
        obtain ⟨q5504, hF⟩ := hF
        refine .v (ixS rfl rfl tS25 (k := 0) rfl (inb_n q5504 q5409)) rfl rfl rfl ?_
        refine .v (ld1 (v := .slice ((gt vs t18).1) ((gt d5 t18).length) ((gt vs t18).2)) rfl tO32 (cell1 (k := 0) rfl (rowsV_get (gt_get (inb_of q5410 q5504)) (gt_get q5504)))) rfl rfl rfl ?_
        refine .v (mv rfl) rfl rfl rfl ?_
        obtain ⟨q5505, hF⟩ := hF
        refine .v (ixS rfl rfl tS32 (k := (t18).toNat + 1) (rowsA_get (gt_get (inb_of q5410 q5504)) (gt_get q5504)) q5505) rfl rfl rfl ?_
        refine .v (ld1 (v := .int .i64 (gt (gt d5 t18) t13)) rfl tO3 (cellS (k := (t18).toNat + 1) (rowsA_get (gt_get (inb_of q5410 q5504)) (gt_get q5504)) (flL_get q5505 (j := 0) rfl))) rfl rfl rfl ?_
        refine .v (bi rfl rfl rfl) rfl rfl rfl ?_
        refine .v (mv rfl) rfl rfl rfl ?_
        rcases Bool.eq_false_or_eq_true (decide ((gt (gt d5 t18) t13) < 1000000000)) with q5506 | q5506
        · replace hF := hF.1 q5506
          refine .gv (mv rfl) rfl rfl rfl q5506 rfl rfl ?_
          refine .gv (mv rfl) rfl rfl rfl q5506 rfl rfl ?_
          obtain ⟨q5507, hF⟩ := hF
          refine .gv (ixS rfl rfl tS25 (k := 0) rfl (inb_n q5507 q5409)) rfl rfl rfl q5506 rfl rfl ?_
          refine .gv (ld1 (v := .slice ((gt vs t13).1) ((gt d5 t13).length) ((gt vs t13).2)) rfl tO32 (cell1 (k := 0) rfl (rowsV_get (gt_get (inb_of q5410 q5507)) (gt_get q5507)))) rfl rfl rfl q5506 rfl rfl ?_
          refine .gv (mv rfl) rfl rfl rfl q5506 rfl rfl ?_
          obtain ⟨q5508, hF⟩ := hF
          refine .gv (ixS rfl rfl tS32 (k := (t13).toNat + 1) (rowsA_get (gt_get (inb_of q5410 q5507)) (gt_get q5507)) q5508) rfl rfl rfl q5506 rfl rfl ?_
          refine .gv (ld1 (v := .int .i64 (gt (gt d5 t13) t23)) rfl tO3 (cellS (k := (t13).toNat + 1) (rowsA_get (gt_get (inb_of q5410 q5507)) (gt_get q5507)) (flL_get q5508 (j := 0) rfl))) rfl rfl rfl q5506 rfl rfl ?_
          refine .gv (bi rfl rfl rfl) rfl rfl rfl q5506 rfl rfl ?_
          refine .v (pkT rfl q5506 rfl) rfl rfl rfl ?_
          refine .nil ?_
          exact .use q5493 (decide ((gt (gt d5 t13) t23) < 1000000000)) hF (.cons rfl (.cons rfl (.cons rfl (.cons rfl (.cons rfl (.cons rfl (.cons rfl (.cons rfl (.cons rfl (.cons rfl (.cons rfl (.nil)))))))))))) rfl (FH.le_refl _)
        replace hF := hF.2 q5506
        refine .gS rfl rfl rfl q5506 rfl rfl ?_
        refine .gS rfl rfl rfl q5506 rfl rfl ?_
        refine .gS rfl rfl rfl q5506 rfl rfl ?_
        refine .gS rfl rfl rfl q5506 rfl rfl ?_
        refine .gS rfl rfl rfl q5506 rfl rfl ?_
        refine .gS rfl rfl rfl q5506 rfl rfl ?_
        refine .gS rfl rfl rfl q5506 rfl rfl ?_
        refine .gS rfl rfl rfl q5506 rfl rfl ?_
        refine .v (pkF rfl q5506 rfl) rfl rfl rfl ?_
        refine .nil ?_
        exact .use q5493 false hF (.cons rfl (.cons rfl (.cons rfl (.cons rfl (.cons rfl (.cons rfl (.cons rfl (.cons rfl (.cons rfl (.cons rfl (.cons rfl (.nil)))))))))))) rfl (FH.le_refl _)
      replace hF := hF.2 q5463
      refine .exit ?_
      refine .seqX ?_
      refine .seqX ?_
      refine .blkX ?_
      refine .blkN ?_
      refine .seqN ?_
      refine .region ?_
      refine .v (bi rfl rfl rfl) rfl rfl rfl ?_
      refine .v (mv rfl) rfl rfl rfl ?_
      refine .nil ?_
      exact .round (IntKind.i64.wrap (t18 + 1), d5) ⟨hF.1, q5409, q5410⟩ hF.2 (.cons rfl (.cons rfl (.cons rfl (.cons rfl (.cons rfl (.cons rfl (.nil))))))) rfl (FH.le_refl _)
    replace hF := hF.2 q5202
    refine .exit ?_
    refine .seqX ?_
    refine .seqX ?_
    refine .blkX ?_
    refine .seqN ?_
    refine .seq ?_
    refine .region ?_
    refine .v (mv rfl) rfl rfl rfl ?_
    obtain ⟨q5509, hF⟩ := hF
    obtain ⟨r3, q5510⟩ : ∃ y_ : Bool, y_ = sp_any d3 (fun y_ : List Int => sp_tighten1 y_) (fun y_ : List Int => pre_tighten1 y_) := ⟨_, rfl⟩
    replace hF := hF r3 q5510
    refine .c (cl (v := .bool r3) Try.call63 rfl rfl (fun w S => (by rw [q5510]; obtain ⟨h_, hl_, S_, hr_, hc_⟩ := mat_freeze' (A := [OwnSl 32 1 a r2.length c (rowsV vs d3)]) (k := 0) q4887 q4888 S rfl; have hs_ := S_.sub; rw [← q4887]; exact c_containsR hs_ d3 a c hr_ hc_ (fun y_ : List Int => sp_tighten1 y_) (fun y_ : List Int => pre_tighten1 y_) 64 #[] #[] Try.call64 (fun x a_ c_ r_ l_ w' hD hs' => c_tighten1 hs' x a_ c_ r_ l_  hD) q5509))) rfl rfl rfl ?_
    refine .nil ?_
    refine .seqN ?_
    refine .cond rfl (fun q5511 => ?_) (fun q5511 => ?_)
    · replace hF := hF.1 q5511
      refine .seq ?_
      refine .region ?_
      refine .v (asg rfl) rfl rfl rfl ?_
      refine .v (asg rfl) rfl rfl rfl ?_
      refine .nil ?_
      refine .seqN ?_
      refine .ret ?_
      refine .blkR ?_
      refine .seqR ?_
      refine .seqR ?_
      refine .blkR ?_
      refine .seqR ?_
      refine .res2 rfl (rvT rfl) (rvT rfl) (fun w' S => ⟨(([] : List (List Int)), false), (none, 0), h, hF, rfl, (FH.le_refl _), ⟨RSl.nil_, (Nat.le_refl 0)⟩, S.none⟩)
    replace hF := hF.2 q5511
    refine .skip ?_
    refine .blkN ?_
    refine .seqN ?_
    refine .region ?_
    refine .v (bi rfl rfl rfl) rfl rfl rfl ?_
    refine .v (mv rfl) rfl rfl rfl ?_
    refine .nil ?_
    exact .round (IntKind.i64.wrap (t13 + 1), d3) ⟨hF.1, q4887, q4888⟩ hF.2 (.cons rfl (.cons rfl (.cons rfl (.nil)))) rfl (FH.le_refl _)
  replace hF := hF.2 q3629
  refine .exit ?_
  refine .seqX ?_
  refine .seqX ?_
  refine .blkX ?_
  refine .seqN ?_
  refine .seq ?_
  refine .seq ?_
  refine .region ?_
  refine .v (mv rfl) rfl rfl rfl ?_
  refine .v (ln rfl tS25.is) rfl rfl rfl ?_
  refine .v (mv rfl) rfl rfl rfl ?_
  refine .nil ?_
  refine .seqN ?_
  refine .block ?_
  obtain ⟨I4, μ4, q5528, q5529⟩ := hF
  refine .loop' (σ := Int) (fun z => I4 z) (fun z => μ4 z) (fun z => [(4, .slice a r2.length c), (79, .int .i64 ((r2.length : Nat) : Int)), (80, .int .i64 z)]) (fun _ => ([OwnSl 32 1 a r2.length c (rowsV vs d)] ++ rowsA 3 vs d)) (fun _ => h) 0 q5528 (.cons rfl (.cons rfl (.cons rfl (.nil)))) rfl (FH.le_refl _) ?_
  rintro t80 q5528
  have hF := q5529 t80 q5528
  show J _ _ _ _ _ [(4, .slice a r2.length c), (79, .int .i64 ((r2.length : Nat) : Int)), (80, .int .i64 t80)] ([OwnSl 32 1 a r2.length c (rowsV vs d)] ++ rowsA 3 vs d) h
  refine .seq ?_
  refine .region ?_
  refine .v (bi rfl rfl rfl) rfl rfl rfl ?_
  refine .nil ?_
  refine .seqN ?_
  refine .seq ?_
  refine .cond rfl (fun q5531 => ?_) (fun q5531 => ?_)
  · replace hF := hF.1 q5531
    refine .skip ?_
    refine .seqN ?_
    refine .seq ?_
    refine .block ?_
    refine .seq ?_
    refine .region ?_
    refine .v (mv rfl) rfl rfl rfl ?_
    refine .v (asg rfl) rfl rfl rfl ?_
    refine .nil ?_
    refine .seqN ?_
    refine .seq ?_
    refine .region ?_
    refine .v (mv rfl) rfl rfl rfl ?_
    refine .v (mv rfl) rfl rfl rfl ?_
    obtain ⟨q5535, hF⟩ := hF
    refine .v (ixS rfl rfl tS25 (k := 0) rfl (inb_n q5535 q1738)) rfl rfl rfl ?_
    refine .v (ld1 (v := .slice ((gt vs t80).1) ((gt d t80).length) ((gt vs t80).2)) rfl tO32 (cell1 (k := 0) rfl (rowsV_get (gt_get (inb_of q1739 q5535)) (gt_get q5535)))) rfl rfl rfl ?_
    refine .v (mv rfl) rfl rfl rfl ?_
    obtain ⟨q5536, hF⟩ := hF
    refine .v (ixS rfl rfl tS32 (k := (t80).toNat + 1) (rowsA_get (gt_get (inb_of q1739 q5535)) (gt_get q5535)) q5536) rfl rfl rfl ?_
    refine .v (ld1 (v := .int .i64 (gt (gt d t80) t80)) rfl tO3 (cellS (k := (t80).toNat + 1) (rowsA_get (gt_get (inb_of q1739 q5535)) (gt_get q5535)) (flL_get q5536 (j := 0) rfl))) rfl rfl rfl ?_
    refine .v (bi rfl rfl rfl) rfl rfl rfl ?_
    refine .nil ?_
    refine .seqN ?_
    refine .cond rfl (fun q5537 => ?_) (fun q5537 => ?_)
    · replace hF := hF.1 q5537
      refine .seq ?_
      refine .region ?_
      refine .v (asg rfl) rfl rfl rfl ?_
      refine .v (asg rfl) rfl rfl rfl ?_
      refine .nil ?_
      refine .seqN ?_
      refine .ret ?_
      refine .blkR ?_
      refine .seqR ?_
      refine .seqR ?_
      refine .blkR ?_
      refine .seqR ?_
      refine .res2 rfl (rvT rfl) (rvT rfl) (fun w' S => ⟨(([] : List (List Int)), false), (none, 0), h, hF, rfl, (FH.le_refl _), ⟨RSl.nil_, (Nat.le_refl 0)⟩, S.none⟩)
    replace hF := hF.2 q5537
    refine .skip ?_
    refine .blkN ?_
    refine .seqN ?_
    refine .region ?_
    refine .v (bi rfl rfl rfl) rfl rfl rfl ?_
    refine .v (mv rfl) rfl rfl rfl ?_
    refine .nil ?_
    exact .round (IntKind.i64.wrap (t80 + 1)) hF.1 hF.2 (.cons rfl (.cons rfl (.cons rfl (.nil)))) rfl (FH.le_refl _)
  replace hF := hF.2 q5531
  refine .exit ?_
  refine .seqX ?_
  refine .seqX ?_
  refine .blkX ?_
  refine .seqN ?_
  refine .seq ?_
  refine .region ?_
  refine .v (mv rfl) rfl rfl rfl ?_
  refine .v (asg rfl) rfl rfl rfl ?_
  refine .v (asg rfl) rfl rfl rfl ?_
  refine .nil ?_
  refine .seqN ?_
  refine .matFreeze' (A := [OwnSl 32 1 a r2.length c (rowsV vs d)]) (k := 0) q1738 q1739 rfl (fun h1 le1 q5538 q5539 => ?_)
  refine .cast (A' := [tru]) rfl ?_
  refine .ret ?_
  refine .res2 rfl (rvT rfl) (rvT rfl) (fun w' S => ⟨(d, true), (a, c), h1, hF, (by simp only [q1738]), (le1), ⟨q5538, q5539⟩, S.none⟩)

theorem c_tighten {h : FH} {w : World} (hs : Sub h w) (n_ : Network) (an_ : Option Addr) (cn_ : Nat) (_q1 : RSl h an_ n_.links) (_q2 : n_.links.length ≤ cn_) (hp : pre_tighten n_) : Calls Try.prog 45 #[.agg #[.int .i64 n_.events, .slice an_ n_.links.length cn_]] w fun e w' => ∃ (z : Option Addr × Nat) (h1 : FH), e = .returned (.tuple #[.slice z.1 (sp_tighten n_).1.length z.2, .bool (sp_tighten n_).2]) ∧ FH.le h h1 ∧ (RSl h1 z.1 (sp_tighten n_).1 ∧ (sp_tighten n_).1.length ≤ z.2) ∧ SH (Kp.all w h) h1 w' [] :=
  (w_tighten hs n_ an_ cn_ _q1 _q2 (fun r => r = sp_tighten n_) (ok_tighten n_ hp)).mono fun _ _ ⟨r, z, h1, hk, he, hl, hf, hS⟩ => by subst hk; exact ⟨z, h1, he, hl, hf, hS⟩

theorem w_minimal {h : FH} {w : World} (hs : Sub h w) (n_ : Network) (an_ : Option Addr) (cn_ : Nat) (_q1 : RSl h an_ n_.links) (_q2 : n_.links.length ≤ cn_) (K : (List (List Int) × Bool × Fault) → Prop) (hF : F_minimal n_ K) : Calls Try.prog 15 #[.agg #[.int .i64 n_.events, .slice an_ n_.links.length cn_]] w fun e w' => ∃ (r : List (List Int) × Bool × Fault) (z : Option Addr × Nat) (h1 : FH), K r ∧ e = .returned (.tuple #[.slice z.1 r.1.length z.2, .bool r.2.1, .agg #[.int .i64 r.2.2.code, .int .i64 r.2.2.index]]) ∧ FH.le h h1 ∧ (RSl h1 z.1 r.1 ∧ r.1.length ≤ z.2) ∧ SH (Kp.all w h) h1 w' [] := by
  refine enter (args := [.agg #[.int .i64 n_.events, .slice an_ n_.links.length cn_]]) Try.func15 rfl Try.ntmps15 rfl hs ?_
  refine .seq ?_
  refine .region ?_
  refine bx (vs := [.int .i64 n_.events, .slice an_ n_.links.length cn_]) rfl rfl rfl (fun pn => ?_)
  refine .v (asg rfl) rfl rfl rfl ?_
  refine .v (asg rfl) rfl rfl rfl ?_
  refine al tZ27 rfl (fun pv => ?_)
  refine .nil ?_
  refine .seqN ?_
  refine .seq ?_
  refine .seq ?_
  refine .region ?_
  refine .v (ldA (cs := [.int .i64 n_.events, .slice an_ n_.links.length cn_]) rfl tA24 rfl (cellsB (off := 0) (k := 1) rfl (m := 2) rfl)) rfl rfl rfl ?_
  obtain ⟨r2, q3⟩ : ∃ y_ : Fault, y_ = sp_validate n_ := ⟨_, rfl⟩
  replace hF := hF r2 q3
  refine .c (cl (v := .agg #[.int .i64 r2.code, .int .i64 r2.index]) Try.call22 rfl rfl (fun w S => (by rw [q3]; exact c_validate S.sub n_ an_ cn_ _q1 _q2 ))) rfl rfl rfl ?_
  refine al tZ27 rfl (fun pf => ?_)
  refine st (p := pf) (off := 0) (k := 0) (vs := [.int .i64 r2.code, .int .i64 r2.index]) rfl rfl rfl (fun w => (tA27 w).2) rfl rfl rfl rfl ?_
  refine .cast (A' := [Box pf [.int .i64 r2.code, .int .i64 r2.index], Box pv [.int .i64 0, .int .i64 0], Box pn [.int .i64 n_.events, .slice an_ n_.links.length cn_]]) rfl ?_
  refine .nil ?_
  refine .seqN ?_
  refine .seq ?_
  refine .region ?_
  refine .v (ldA (cs := [.int .i64 r2.code, .int .i64 r2.index]) rfl tA27 rfl (cellsB (off := 0) (k := 0) rfl (m := 2) rfl)) rfl rfl rfl ?_
  refine .v (bld (cs := #[.int .i64 0, .int .i64 0]) (pv := []) tB27 rfl rfl) rfl rfl rfl ?_
  refine .v (ne2 tE27 rfl rfl) rfl rfl rfl ?_
  refine .nil ?_
  refine .seqN ?_
  refine .cond rfl (fun q4 => ?_) (fun q4 => ?_)
  · replace hF := hF.1 q4
    refine .seq ?_
    refine .openL (by kernel_rfl) rfl (by kernel_rfl) (by kernel_rfl) ?_
    refine .v (ldA (cs := [.int .i64 r2.code, .int .i64 r2.index]) rfl tA27 rfl (cellsB (off := 0) (k := 0) rfl (m := 2) rfl)) rfl rfl rfl ?_
    refine .v (asg rfl) rfl rfl rfl ?_
    refine .v (asg rfl) rfl rfl rfl ?_
    refine .tail ?_
    refine st (p := pv) (off := 0) (k := 1) (vs := [.int .i64 r2.code, .int .i64 r2.index]) rfl rfl rfl (fun w => (tA27 w).2) rfl rfl rfl rfl ?_
    refine .cast (A' := [Box pf [.int .i64 r2.code, .int .i64 r2.index], Box pv [.int .i64 r2.code, .int .i64 r2.index], Box pn [.int .i64 n_.events, .slice an_ n_.links.length cn_]]) rfl ?_
    refine .nil ?_
    refine .seqN ?_
    refine .ret ?_
    refine .seqR ?_
    refine .res3 rfl (rvT rfl) (rvT rfl) (rvC rfl tA27 (k := 1) rfl rfl) (fun w' S => ⟨(([] : List (List Int)), false, r2), (none, 0), h, hF, rfl, (FH.le_refl _), ⟨RSl.nil_, (Nat.le_refl 0)⟩, S.none⟩)
  replace hF := hF.2 q4
  refine .skip ?_
  refine .seqN ?_
  refine .seq ?_
  refine .region ?_
  refine .v (ldA (cs := [.int .i64 n_.events, .slice an_ n_.links.length cn_]) rfl tA24 rfl (cellsB (off := 0) (k := 2) rfl (m := 2) rfl)) rfl rfl rfl ?_
  obtain ⟨q5, hF⟩ := hF
  obtain ⟨r3, q6⟩ : ∃ y_ : List (List Int) × Bool, y_ = sp_tighten n_ := ⟨_, rfl⟩
  replace hF := hF r3 q6
  refine clR (α := Option Addr × Nat) (Φ := fun h1 z => RSl h1 z.1 r3.1 ∧ r3.1.length ≤ z.2) (V := fun z => .tuple #[.slice z.1 r3.1.length z.2, .bool r3.2]) Try.call45 rfl rfl (fun w S => (by rw [q6]; exact c_tighten S.sub n_ an_ cn_ _q1 _q2 q5)) rfl (fun z h1 le1 hz => ?_)
  obtain ⟨a, c⟩ := z
  obtain ⟨q7, q8⟩ := hz
  refine .v (mv rfl) rfl rfl rfl ?_
  refine .v (ext rfl rfl) rfl rfl rfl ?_
  refine .v (ext rfl rfl) rfl rfl rfl ?_
  refine .v (asg rfl) rfl rfl rfl ?_
  refine .v (asg rfl) rfl rfl rfl ?_
  refine .nil ?_
  refine .seqN ?_
  refine .seq ?_
  refine .region ?_
  refine .v (mv rfl) rfl rfl rfl ?_
  refine .v (mv rfl) rfl rfl rfl ?_
  refine .v (bld (cs := #[.int .i64 0, .int .i64 0]) (pv := []) tB27 rfl rfl) rfl rfl rfl ?_
  refine .v (asg rfl) rfl rfl rfl ?_
  refine .v (asg rfl) rfl rfl rfl ?_
  refine st (p := pv) (off := 0) (k := 1) (vs := [.int .i64 0, .int .i64 0]) rfl rfl rfl (fun w => (tA27 w).2) rfl rfl rfl rfl ?_
  refine .cast (A' := [Box pf [.int .i64 r2.code, .int .i64 r2.index], Box pv [.int .i64 0, .int .i64 0], Box pn [.int .i64 n_.events, .slice an_ n_.links.length cn_]]) rfl ?_
  refine .nil ?_
  refine .seqN ?_
  refine .ret ?_
  refine .res3 rfl (rvT rfl) (rvT rfl) (rvC rfl tA27 (k := 1) rfl rfl) (fun w' S => ⟨(r3.1, r3.2, (⟨0, 0⟩ : Fault)), (a, c), h1, hF, rfl, (le1), ⟨q7, q8⟩, S.none⟩)

theorem c_minimal {h : FH} {w : World} (hs : Sub h w) (n_ : Network) (an_ : Option Addr) (cn_ : Nat) (_q1 : RSl h an_ n_.links) (_q2 : n_.links.length ≤ cn_) : Calls Try.prog 15 #[.agg #[.int .i64 n_.events, .slice an_ n_.links.length cn_]] w fun e w' => ∃ (z : Option Addr × Nat) (h1 : FH), e = .returned (.tuple #[.slice z.1 (sp_minimal n_).1.length z.2, .bool (sp_minimal n_).2.1, .agg #[.int .i64 (sp_minimal n_).2.2.code, .int .i64 (sp_minimal n_).2.2.index]]) ∧ FH.le h h1 ∧ (RSl h1 z.1 (sp_minimal n_).1 ∧ (sp_minimal n_).1.length ≤ z.2) ∧ SH (Kp.all w h) h1 w' [] :=
  (w_minimal hs n_ an_ cn_ _q1 _q2 (fun r => r = sp_minimal n_) (ok_minimal n_)).mono fun _ _ ⟨r, z, h1, hk, he, hl, hf, hS⟩ => by subst hk; exact ⟨z, h1, he, hl, hf, hS⟩

theorem w_earliest {h : FH} {w : World} (hs : Sub h w) (n_ : Network) (an_ : Option Addr) (cn_ : Nat) (_q1 : RSl h an_ n_.links) (_q2 : n_.links.length ≤ cn_) (K : (List Int × Bool × Fault) → Prop) (hF : F_earliest n_ K) : Calls Try.prog 19 #[.agg #[.int .i64 n_.events, .slice an_ n_.links.length cn_]] w fun e w' => ∃ (r : List Int × Bool × Fault) (z : Option Addr × Nat) (h1 : FH), K r ∧ e = .returned (.tuple #[.slice z.1 r.1.length z.2, .bool r.2.1, .agg #[.int .i64 r.2.2.code, .int .i64 r.2.2.index]]) ∧ FH.le h h1 ∧ (RSl h1 z.1 r.1 ∧ r.1.length ≤ z.2) ∧ SH (Kp.all w h) h1 w' [] := by
  refine enter (args := [.agg #[.int .i64 n_.events, .slice an_ n_.links.length cn_]]) Try.func19 rfl Try.ntmps19 rfl hs ?_
  refine .seq ?_
  refine .region ?_
  refine bx (vs := [.int .i64 n_.events, .slice an_ n_.links.length cn_]) rfl rfl rfl (fun pn => ?_)
  refine .v (asg rfl) rfl rfl rfl ?_
  refine .v (asg rfl) rfl rfl rfl ?_
  refine al tZ27 rfl (fun pv => ?_)
  refine .nil ?_
  refine .seqN ?_
  refine .seq ?_
  refine .region ?_
  refine .v (ldA (cs := [.int .i64 n_.events, .slice an_ n_.links.length cn_]) rfl tA24 rfl (cellsB (off := 0) (k := 1) rfl (m := 2) rfl)) rfl rfl rfl ?_
  obtain ⟨r2, q3⟩ : ∃ y_ : List (List Int) × Bool × Fault, y_ = sp_minimal n_ := ⟨_, rfl⟩
  replace hF := hF r2 q3
  refine clR (α := Option Addr × Nat) (Φ := fun h1 z => RSl h1 z.1 r2.1 ∧ r2.1.length ≤ z.2) (V := fun z => .tuple #[.slice z.1 r2.1.length z.2, .bool r2.2.1, .agg #[.int .i64 r2.2.2.code, .int .i64 r2.2.2.index]]) Try.call15 rfl rfl (fun w S => (by rw [q3]; exact c_minimal S.sub n_ an_ cn_ _q1 _q2 )) rfl (fun z h1 le1 hz => ?_)
  obtain ⟨a, c⟩ := z
  obtain ⟨q4, q5⟩ := hz
  refine .v (mv rfl) rfl rfl rfl ?_
  refine .v (ext rfl rfl) rfl rfl rfl ?_
  refine .v (ext rfl rfl) rfl rfl rfl ?_
  refine .v (ext rfl rfl) rfl rfl rfl ?_
  refine al tZ27 rfl (fun pf => ?_)
  refine .v (asg rfl) rfl rfl rfl ?_
  refine .v (asg rfl) rfl rfl rfl ?_
  refine st (p := pf) (off := 0) (k := 0) (vs := [.int .i64 r2.2.2.code, .int .i64 r2.2.2.index]) rfl rfl rfl (fun w => (tA27 w).2) rfl rfl rfl rfl ?_
  refine .cast (A' := [Box pf [.int .i64 r2.2.2.code, .int .i64 r2.2.2.index], Box pv [.int .i64 0, .int .i64 0], Box pn [.int .i64 n_.events, .slice an_ n_.links.length cn_]]) rfl ?_
  refine .nil ?_
  refine .seqN ?_
  refine .seq ?_
  refine .seq ?_
  refine .region ?_
  refine .v (mv rfl) rfl rfl rfl ?_
  refine .v (nt rfl) rfl rfl rfl ?_
  refine .nil ?_
  refine .seqN ?_
  refine .cond rfl (fun q6 => ?_) (fun q6 => ?_)
  · replace hF := hF.1 q6
    refine .seq ?_
    refine .openL (by kernel_rfl) rfl (by kernel_rfl) (by kernel_rfl) ?_
    refine .v (ldA (cs := [.int .i64 r2.2.2.code, .int .i64 r2.2.2.index]) rfl tA27 rfl (cellsB (off := 0) (k := 0) rfl (m := 2) rfl)) rfl rfl rfl ?_
    refine .v (asg rfl) rfl rfl rfl ?_
    refine .v (asg rfl) rfl rfl rfl ?_
    refine .tail ?_
    refine st (p := pv) (off := 0) (k := 1) (vs := [.int .i64 r2.2.2.code, .int .i64 r2.2.2.index]) rfl rfl rfl (fun w => (tA27 w).2) rfl rfl rfl rfl ?_
    refine .cast (A' := [Box pf [.int .i64 r2.2.2.code, .int .i64 r2.2.2.index], Box pv [.int .i64 r2.2.2.code, .int .i64 r2.2.2.index], Box pn [.int .i64 n_.events, .slice an_ n_.links.length cn_]]) rfl ?_
    refine .nil ?_
    refine .seqN ?_
    refine .ret ?_
    refine .seqR ?_
    refine .res3 rfl (rvT rfl) (rvT rfl) (rvC rfl tA27 (k := 1) rfl rfl) (fun w' S => ⟨(([] : List Int), false, r2.2.2), (none, 0), h1, hF, rfl, (le1), ⟨RSl.nil_, (Nat.le_refl 0)⟩, S.none⟩)
  replace hF := hF.2 q6
  refine .skip ?_
  refine .seqN ?_
  refine .seq ?_
  refine .region ?_
  refine .v (asg rfl) rfl rfl rfl ?_
  refine .nil ?_
  refine .seqN ?_
  refine .seq ?_
  refine .seq ?_
  refine .region ?_
  refine .v (mv rfl) rfl rfl rfl ?_
  refine .v (ln rfl tS25.is) rfl rfl rfl ?_
  refine .v (mv rfl) rfl rfl rfl ?_
  refine .nil ?_
  refine .seqN ?_
  refine .block ?_
  refine .nilSl 3 1 ?_
  refine .cast (A' := [OwnSl 3 1 none (([] : List Int).length) 0 (flL ([] : List Int)), Box pf [.int .i64 r2.2.2.code, .int .i64 r2.2.2.index], Box pv [.int .i64 0, .int .i64 0], Box pn [.int .i64 n_.events, .slice an_ n_.links.length cn_]]) rfl ?_
  refine .sel0 [2, 1, 0] (by decide) rfl ?_
  obtain ⟨I1, μ1, q43, q44⟩ := hF
  refine .loop' (σ := Int × List Int × Option Addr × Nat) (fun z => I1 z.1 z.2.1) (fun z => μ1 z.1 z.2.1) (fun z => [(4, .pointer (some pv)), (5, .slice a r2.1.length c), (7, .pointer (some pf)), (8, .slice z.2.2.1 z.2.1.length z.2.2.2), (20, .int .i64 ((r2.1.length : Nat) : Int)), (21, .int .i64 z.1)]) (fun z => [Box pv [.int .i64 0, .int .i64 0], Box pf [.int .i64 r2.2.2.code, .int .i64 r2.2.2.index], OwnSl 3 1 z.2.2.1 z.2.1.length z.2.2.2 (flL z.2.1)]) (fun _ => h1) (0, ([] : List Int), none, 0) q43 (.cons rfl (.cons rfl (.cons rfl (.cons rfl (.cons rfl (.cons rfl (.nil))))))) rfl (FH.le_refl _) ?_
  rintro ⟨t21, out, aout, cout⟩ q43
  have hF := q44 t21 out q43
  show J _ _ _ _ _ [(4, .pointer (some pv)), (5, .slice a r2.1.length c), (7, .pointer (some pf)), (8, .slice aout out.length cout), (20, .int .i64 ((r2.1.length : Nat) : Int)), (21, .int .i64 t21)] [Box pv [.int .i64 0, .int .i64 0], Box pf [.int .i64 r2.2.2.code, .int .i64 r2.2.2.index], OwnSl 3 1 aout out.length cout (flL out)] h1
  refine .seq ?_
  refine .region ?_
  refine .v (bi rfl rfl rfl) rfl rfl rfl ?_
  refine .nil ?_
  refine .seqN ?_
  refine .seq ?_
  refine .cond rfl (fun q46 => ?_) (fun q46 => ?_)
  · replace hF := hF.1 q46
    refine .skip ?_
    refine .seqN ?_
    refine .seq ?_
    refine .block ?_
    refine .seq ?_
    refine .region ?_
    refine .v (mv rfl) rfl rfl rfl ?_
    refine .v (asg rfl) rfl rfl rfl ?_
    refine .nil ?_
    refine .seqN ?_
    refine .region ?_
    refine .v (mv rfl) rfl rfl rfl ?_
    refine .v (mv rfl) rfl rfl rfl ?_
    refine .v (mv rfl) rfl rfl rfl ?_
    obtain ⟨q55, hF⟩ := hF
    refine .v (ix rfl rfl tS25 (q4.ne (by decide) (inb_pos q55)) q55) rfl rfl rfl ?_
    obtain ⟨_, ⟨a2, c2, rfl, q56, q57⟩, q58⟩ := q4.elem q55
    refine .v (ld1 (v := .slice a2 ((gt r2.1 t21).length) c2) rfl tO32 (cellH (q58 (by decide) 0 _ rfl))) rfl rfl rfl ?_
    obtain ⟨q59, hF⟩ := hF
    refine .v (ix rfl rfl tS32 (q57.ne (by decide) (inb_pos q59)) q59) rfl rfl rfl ?_
    refine .v (ld1 (v := .int .i64 (gt (gt r2.1 t21) (0 : Int))) rfl tO3 (cellH (q57.elemF q59 (by decide) 0 _ rfl))) rfl rfl rfl ?_
    refine .v (un rfl) rfl rfl rfl ?_
    refine bs2 (cs := #[.int .i64 (IntKind.i64.wrap (0 - (gt (gt r2.1 t21) (0 : Int))))]) (pv := [(0, .int .i64 (IntKind.i64.wrap (0 - (gt (gt r2.1 t21) (0 : Int)))))]) tS32 rfl rfl (by decide) (by decide) rfl rfl rfl (fun a3 _ => ?_)
    refine .cast (A' := [OwnSl 3 1 a3 (([IntKind.i64.wrap (0 - (gt (gt r2.1 t21) (0 : Int)))] : List Int).length) 1 (flL ([IntKind.i64.wrap (0 - (gt (gt r2.1 t21) (0 : Int)))] : List Int)), Box pv [.int .i64 0, .int .i64 0], Box pf [.int .i64 r2.2.2.code, .int .i64 r2.2.2.index], OwnSl 3 1 aout out.length cout (flL out)]) rfl ?_
    obtain ⟨q61, hF⟩ := hF
    have q62 : out.length + ([IntKind.i64.wrap (0 - (gt (gt r2.1 t21) (0 : Int)))] : List Int).length = ((out ++ ([IntKind.i64.wrap (0 - (gt (gt r2.1 t21) (0 : Int)))] : List Int))).length := len_app rfl rfl
    refine app (k := 3) (news := flL ([IntKind.i64.wrap (0 - (gt (gt r2.1 t21) (0 : Int)))] : List Int)) (cs' := flL (out ++ ([IntKind.i64.wrap (0 - (gt (gt r2.1 t21) (0 : Int)))] : List Int))) (nm := ((out ++ ([IntKind.i64.wrap (0 - (gt (gt r2.1 t21) (0 : Int)))] : List Int))).length) tS32 rfl (by decide) rfl rfl rfl (by rw [flL_len]; rfl) (srcS (k := 0) rfl) (flL_one _) (room_of q62 q61).1 (room_of q62 q61).2 q62 (flL_append _ _).symm rfl (fun a4 c3 => ?_)
    refine .cast (A' := [OwnSl 3 1 a3 (([IntKind.i64.wrap (0 - (gt (gt r2.1 t21) (0 : Int)))] : List Int).length) 1 (flL ([IntKind.i64.wrap (0 - (gt (gt r2.1 t21) (0 : Int)))] : List Int)), Box pv [.int .i64 0, .int .i64 0], Box pf [.int .i64 r2.2.2.code, .int .i64 r2.2.2.index], OwnSl 3 1 a4 ((out ++ ([IntKind.i64.wrap (0 - (gt (gt r2.1 t21) (0 : Int)))] : List Int)).length) c3 (flL (out ++ ([IntKind.i64.wrap (0 - (gt (gt r2.1 t21) (0 : Int)))] : List Int)))]) rfl ?_
    refine .v (asg rfl) rfl rfl rfl ?_
    refine .nil ?_
    refine .blkN ?_
    refine .seqN ?_
    refine .region ?_
    refine .v (bi rfl rfl rfl) rfl rfl rfl ?_
    refine .v (mv rfl) rfl rfl rfl ?_
    refine .nil ?_
    refine .sel0 [1, 2, 3] (by decide) rfl ?_
    exact .round (IntKind.i64.wrap (t21 + 1), (out ++ ([IntKind.i64.wrap (0 - (gt (gt r2.1 t21) (0 : Int)))] : List Int)), a4, c3) hF.1 hF.2 (.cons rfl (.cons rfl (.cons rfl (.cons rfl (.cons rfl (.cons rfl (.nil))))))) rfl (FH.le_refl _)
  replace hF := hF.2 q46
  refine .exit ?_
  refine .seqX ?_
  refine .seqX ?_
  refine .blkX ?_
  refine .seqN ?_
  refine .seq ?_
  refine .openL (by kernel_rfl) rfl (by kernel_rfl) (by kernel_rfl) ?_
  refine .v (mv rfl) rfl rfl rfl ?_
  refine .v (ldA (cs := [.int .i64 r2.2.2.code, .int .i64 r2.2.2.index]) rfl tA27 rfl (cellsB (off := 0) (k := 1) rfl (m := 2) rfl)) rfl rfl rfl ?_
  refine .v (asg rfl) rfl rfl rfl ?_
  refine .v (asg rfl) rfl rfl rfl ?_
  refine .tail ?_
  refine st (p := pv) (off := 0) (k := 0) (vs := [.int .i64 r2.2.2.code, .int .i64 r2.2.2.index]) rfl rfl rfl (fun w => (tA27 w).2) rfl rfl rfl rfl ?_
  refine .cast (A' := [Box pv [.int .i64 r2.2.2.code, .int .i64 r2.2.2.index], Box pf [.int .i64 r2.2.2.code, .int .i64 r2.2.2.index], OwnSl 3 1 aout out.length cout (flL out)]) rfl ?_
  refine .nil ?_
  refine .seqN ?_
  refine .freezeL (k := 2) rfl (fun h2 le2 q64 q63 => ?_)
  refine .cast (A' := [Box pv [.int .i64 r2.2.2.code, .int .i64 r2.2.2.index], Box pf [.int .i64 r2.2.2.code, .int .i64 r2.2.2.index], tru]) rfl ?_
  refine .ret ?_
  refine .res3 rfl (rvT rfl) (rvT rfl) (rvC rfl tA27 (k := 0) rfl rfl) (fun w' S => ⟨(out, true, r2.2.2), (aout, cout), h2, hF, rfl, (FH.le_trans (le1) (le2)), ⟨(RSl.of q63), (q64)⟩, S.none⟩)

theorem c_earliest {h : FH} {w : World} (hs : Sub h w) (n_ : Network) (an_ : Option Addr) (cn_ : Nat) (_q1 : RSl h an_ n_.links) (_q2 : n_.links.length ≤ cn_) : Calls Try.prog 19 #[.agg #[.int .i64 n_.events, .slice an_ n_.links.length cn_]] w fun e w' => ∃ (z : Option Addr × Nat) (h1 : FH), e = .returned (.tuple #[.slice z.1 (sp_earliest n_).1.length z.2, .bool (sp_earliest n_).2.1, .agg #[.int .i64 (sp_earliest n_).2.2.code, .int .i64 (sp_earliest n_).2.2.index]]) ∧ FH.le h h1 ∧ (RSl h1 z.1 (sp_earliest n_).1 ∧ (sp_earliest n_).1.length ≤ z.2) ∧ SH (Kp.all w h) h1 w' [] :=
  (w_earliest hs n_ an_ cn_ _q1 _q2 (fun r => r = sp_earliest n_) (ok_earliest n_)).mono fun _ _ ⟨r, z, h1, hk, he, hl, hf, hS⟩ => by subst hk; exact ⟨z, h1, he, hl, hf, hS⟩

theorem w_fits1 {h : FH} {w : World} (hs : Sub h w) (l : Link) (x : List Int) (ax : Option Addr) (cx : Nat) (_q1 : RSl h ax x) (_q2 : x.length ≤ cx) (px : Addr) (_q3 : CellsAt h px [.slice ax x.length cx]) (K : Bool → Prop) (hF : F_fits1 l x K) : Calls Try.prog 66 #[.agg #[.int .i64 l.src, .int .i64 l.dst, .int .i64 l.low, .int .i64 l.high], .pointer (some px)] w fun e w' => ∃ r : Bool, K r ∧ e = .returned (.bool r) ∧ Below w.heap.size w w' := by
  refine enter (args := [.agg #[.int .i64 l.src, .int .i64 l.dst, .int .i64 l.low, .int .i64 l.high], .pointer (some px)]) Try.func66 rfl Try.ntmps66 rfl hs ?_
  refine .seq ?_
  refine .region ?_
  refine bx (vs := [.int .i64 l.src, .int .i64 l.dst, .int .i64 l.low, .int .i64 l.high]) rfl rfl rfl (fun pl => ?_)
  refine .v (asg rfl) rfl rfl rfl ?_
  refine .nil ?_
  refine .seqN ?_
  refine .seq ?_
  refine .open_ (by kernel_rfl) (by kernel_rfl) ?_
  refine .v (ld1 (v := .slice ax x.length cx) rfl tO32 (cellH (CellsAt.mono (FH.le_refl _) _q3 0 _ rfl))) rfl rfl rfl ?_
  refine .v (fa rfl tF35_1) rfl rfl rfl ?_
  refine .v (ld1 rfl tO3 (cellB (off := 1) (k := 0) rfl rfl)) rfl rfl rfl ?_
  obtain ⟨q4, hF⟩ := hF
  refine .v (ix rfl rfl tS32 (_q1.ne (by decide) (inb_pos q4)) q4) rfl rfl rfl ?_
  refine .v (ld1 (v := .int .i64 (gt x l.dst)) rfl tO3 (cellH (_q1.elemF q4 (by decide) 0 _ rfl))) rfl rfl rfl ?_
  refine .v (ld1 (v := .slice ax x.length cx) rfl tO32 (cellH (CellsAt.mono (FH.le_refl _) _q3 0 _ rfl))) rfl rfl rfl ?_
  refine .v (fa rfl tF35_0) rfl rfl rfl ?_
  refine .v (ld1 rfl tO3 (cellB (off := 0) (k := 0) rfl rfl)) rfl rfl rfl ?_
  obtain ⟨q5, hF⟩ := hF
  refine .v (ix rfl rfl tS32 (_q1.ne (by decide) (inb_pos q5)) q5) rfl rfl rfl ?_
  refine .v (ld1 (v := .int .i64 (gt x l.src)) rfl tO3 (cellH (_q1.elemF q5 (by decide) 0 _ rfl))) rfl rfl rfl ?_
  refine .v (bi rfl rfl rfl) rfl rfl rfl ?_
  refine .v (asg rfl) rfl rfl rfl ?_
  refine .fin ?_
  refine .seqN ?_
  refine .seq ?_
  refine .region ?_
  refine .v (mv rfl) rfl rfl rfl ?_
  refine .v (fa rfl tF35_2) rfl rfl rfl ?_
  refine .v (ld1 rfl tO3 (cellB (off := 2) (k := 0) rfl rfl)) rfl rfl rfl ?_
  obtain ⟨x2, q9⟩ : ∃ y_ : Bool, y_ = (decide ((IntKind.i64.wrap ((gt x l.dst) - (gt x l.src))) < l.low)) := ⟨_, rfl⟩
  replace hF := hF x2 q9
  refine .v (v := .bool x2) (by rw [q9]; exact bi rfl rfl rfl) rfl rfl rfl ?_
  refine .v (mv rfl) rfl rfl rfl ?_
  rcases Bool.eq_false_or_eq_true (x2) with q10 | q10
  · replace hF := hF.1 q10
    refine .gS rfl rfl rfl q10 rfl rfl ?_
    refine .gS rfl rfl rfl q10 rfl rfl ?_
    refine .gS rfl rfl rfl q10 rfl rfl ?_
    refine .gS rfl rfl rfl q10 rfl rfl ?_
    refine .v (pkT rfl q10 rfl) rfl rfl rfl ?_
    refine .v (asg rfl) rfl rfl rfl ?_
    refine .nil ?_
    refine .seqN ?_
    refine .ret ?_
    refine .res1 rfl (rvT rfl) (fun w' S => ⟨true, hF, rfl, S.below⟩)
  replace hF := hF.2 q10
  refine .gv (mv rfl) rfl rfl rfl q10 rfl rfl ?_
  refine .gv (fa rfl tF35_3) rfl rfl rfl q10 rfl rfl ?_
  refine .gv (ld1 rfl tO3 (cellB (off := 3) (k := 0) rfl rfl)) rfl rfl rfl q10 rfl rfl ?_
  obtain ⟨x3, q11⟩ : ∃ y_ : Bool, y_ = (decide (l.high < (IntKind.i64.wrap ((gt x l.dst) - (gt x l.src))))) := ⟨_, rfl⟩
  replace hF := hF x3 q11
  refine .gv (v := .bool x3) (by rw [q11]; exact bi rfl rfl rfl) rfl rfl rfl q10 rfl rfl ?_
  refine .v (pkF rfl q10 rfl) rfl rfl rfl ?_
  refine .v (asg rfl) rfl rfl rfl ?_
  refine .nil ?_
  refine .seqN ?_
  refine .ret ?_
  refine .res1 rfl (rvT rfl) (fun w' S => ⟨x3, hF, rfl, S.below⟩)

theorem c_fits1 {h : FH} {w : World} (hs : Sub h w) (l : Link) (x : List Int) (ax : Option Addr) (cx : Nat) (_q1 : RSl h ax x) (_q2 : x.length ≤ cx) (px : Addr) (_q3 : CellsAt h px [.slice ax x.length cx]) (hp : pre_fits1 l x) : Calls Try.prog 66 #[.agg #[.int .i64 l.src, .int .i64 l.dst, .int .i64 l.low, .int .i64 l.high], .pointer (some px)] w fun e w' => e = .returned (.bool (sp_fits1 l x)) ∧ Below w.heap.size w w' :=
  (w_fits1 hs l x ax cx _q1 _q2 px _q3 (fun r => r = sp_fits1 l x) (ok_fits1 l x hp)).mono fun _ _ ⟨_, hk, he, hb⟩ => ⟨by rw [he, hk], hb⟩

theorem w_fits {h : FH} {w : World} (hs : Sub h w) (n_ : Network) (an_ : Option Addr) (cn_ : Nat) (_q1 : RSl h an_ n_.links) (_q2 : n_.links.length ≤ cn_) (times : List Int) (atimes : Option Addr) (ctimes : Nat) (_q3 : RSl h atimes times) (_q4 : times.length ≤ ctimes) (K : Bool → Prop) (hF : F_fits n_ times K) : Calls Try.prog 47 #[.agg #[.int .i64 n_.events, .slice an_ n_.links.length cn_], .slice atimes times.length ctimes] w fun e w' => ∃ r : Bool, K r ∧ e = .returned (.bool r) ∧ Below w.heap.size w w' := by
  refine enter (args := [.agg #[.int .i64 n_.events, .slice an_ n_.links.length cn_], .slice atimes times.length ctimes]) Try.func47 rfl Try.ntmps47 rfl hs ?_
  refine .seq ?_
  refine .region ?_
  refine bx (vs := [.int .i64 n_.events, .slice an_ n_.links.length cn_]) rfl rfl rfl (fun pn => ?_)
  refine bx (vs := [.slice atimes times.length ctimes]) rfl rfl rfl (fun ptimes => ?_)
  refine .v (asg rfl) rfl rfl rfl ?_
  refine .nil ?_
  refine .seqN ?_
  refine .seq ?_
  refine .share (σ := Bool) (fun z => F_fits_J1 n_ times K z) (fun z => [(2, .pointer (some pn)), (3, .pointer (some ptimes)), (13, .bool z)]) (fun _ => [Box pn [.int .i64 n_.events, .slice an_ n_.links.length cn_], Box ptimes [.slice atimes times.length ctimes]]) (fun _ => h) ?_ (fun q9 => ?_)
  · rintro t13 hF
    show J _ _ _ _ _ [(2, .pointer (some pn)), (3, .pointer (some ptimes)), (13, .bool t13)] [Box pn [.int .i64 n_.events, .slice an_ n_.links.length cn_], Box ptimes [.slice atimes times.length ctimes]] h
    refine .cond rfl (fun q10 => ?_) (fun q10 => ?_)
    · replace hF := hF.1 q10
      refine .seq ?_
      refine .region ?_
      refine .v (asg rfl) rfl rfl rfl ?_
      refine .nil ?_
      refine .seqN ?_
      refine .ret ?_
      refine .seqR ?_
      refine .res1 rfl (rvT rfl) (fun w' S => ⟨false, hF, rfl, S.below⟩)
    replace hF := hF.2 q10
    refine .skip ?_
    refine .seqN ?_
    refine .seq ?_
    refine .region ?_
    refine .v (fa rfl tF24_1) rfl rfl rfl ?_
    refine .v (ld1 rfl tO22 (cellB (off := 1) (k := 0) rfl rfl)) rfl rfl rfl ?_
    refine .v (mkf (vf := []) (vc := [.pointer (some ptimes)]) rfl rfl) rfl rfl rfl ?_
    obtain ⟨q11, hF⟩ := hF
    obtain ⟨r2, q12⟩ : ∃ y_ : Bool, y_ = sp_any n_.links (fun y_ : Link => sp_fits1 y_ times) (fun y_ : Link => pre_fits1 y_ times) := ⟨_, rfl⟩
    replace hF := hF r2 q12
    refine .c (cl (v := .bool r2) Try.call60 rfl rfl (fun w S => (by rw [q12]; obtain ⟨h_, hl_, hs_, hb_⟩ := lookB S (k := 1) rfl; exact c_containsL hs_ n_.links an_ cn_ (RSl.mono hl_ _q1) _q2 (fun y_ : Link => sp_fits1 y_ times) (fun y_ : Link => pre_fits1 y_ times) 66 #[] #[.pointer (some ptimes)] Try.call66 (fun x w' hD hs' => c_fits1 hs' x times atimes ctimes (RSl.mono hl_ _q3) _q4 ptimes hb_ hD) q11))) rfl rfl rfl ?_
    refine .v (nt rfl) rfl rfl rfl ?_
    refine .v (asg rfl) rfl rfl rfl ?_
    refine .nil ?_
    refine .seqN ?_
    refine .ret ?_
    refine .res1 rfl (rvT rfl) (fun w' S => ⟨!r2, hF, rfl, S.below⟩)
  refine .region ?_
  refine .v (ld1 rfl tO32 (cellB (off := 0) (k := 0) rfl rfl)) rfl rfl rfl ?_
  obtain ⟨q13, hF⟩ := hF
  refine .v (ix rfl rfl tS32 (_q3.ne (by decide) (inb_pos q13)) q13) rfl rfl rfl ?_
  refine .v (ld1 (v := .int .i64 (gt times (0 : Int))) rfl tO3 (cellH (_q3.elemF q13 (by decide) 0 _ rfl))) rfl rfl rfl ?_
  refine .v (bi rfl rfl rfl) rfl rfl rfl ?_
  refine .v (mv rfl) rfl rfl rfl ?_
  rcases Bool.eq_false_or_eq_true ((gt times (0 : Int)) != 0) with q14 | q14
  · replace hF := hF.1 q14
    refine .gS rfl rfl rfl q14 rfl rfl ?_
    refine .gS rfl rfl rfl q14 rfl rfl ?_
    refine .gS rfl rfl rfl q14 rfl rfl ?_
    refine .v (pkT rfl q14 rfl) rfl rfl rfl ?_
    refine .nil ?_
    refine .sel0 [1, 0] (by decide) rfl ?_
    exact .use q9 true hF (.cons rfl (.cons rfl (.cons rfl (.nil)))) rfl (FH.le_refl _)
  replace hF := hF.2 q14
  refine .gv (ld1 rfl tO32 (cellB (off := 0) (k := 0) rfl rfl)) rfl rfl rfl q14 rfl rfl ?_
  obtain ⟨q15, hF⟩ := hF
  obtain ⟨r3, q16⟩ : ∃ y_ : Int, y_ = sp_min_ times := ⟨_, rfl⟩
  replace hF := hF r3 q16
  refine .gc (cl (v := .int .i64 r3) Try.call65 rfl rfl (fun w S => (by rw [q16]; exact c_min_ S.sub times atimes ctimes _q3 _q4 q15))) rfl rfl rfl q14 rfl rfl ?_
  refine .gv (bi rfl rfl rfl) rfl rfl rfl q14 rfl rfl ?_
  refine .v (pkF rfl q14 rfl) rfl rfl rfl ?_
  refine .nil ?_
  refine .sel0 [1, 0] (by decide) rfl ?_
  exact .use q9 (decide (r3 < 0)) hF (.cons rfl (.cons rfl (.cons rfl (.nil)))) rfl (FH.le_refl _)

theorem c_fits {h : FH} {w : World} (hs : Sub h w) (n_ : Network) (an_ : Option Addr) (cn_ : Nat) (_q1 : RSl h an_ n_.links) (_q2 : n_.links.length ≤ cn_) (times : List Int) (atimes : Option Addr) (ctimes : Nat) (_q3 : RSl h atimes times) (_q4 : times.length ≤ ctimes) (hp : pre_fits n_ times) : Calls Try.prog 47 #[.agg #[.int .i64 n_.events, .slice an_ n_.links.length cn_], .slice atimes times.length ctimes] w fun e w' => e = .returned (.bool (sp_fits n_ times)) ∧ Below w.heap.size w w' :=
  (w_fits hs n_ an_ cn_ _q1 _q2 times atimes ctimes _q3 _q4 (fun r => r = sp_fits n_ times) (ok_fits n_ times hp)).mono fun _ _ ⟨_, hk, he, hb⟩ => ⟨by rw [he, hk], hb⟩

theorem w_respects {h : FH} {w : World} (hs : Sub h w) (n_ : Network) (an_ : Option Addr) (cn_ : Nat) (_q1 : RSl h an_ n_.links) (_q2 : n_.links.length ≤ cn_) (times : List Int) (atimes : Option Addr) (ctimes : Nat) (_q3 : RSl h atimes times) (_q4 : times.length ≤ ctimes) (K : (Bool × Fault) → Prop) (hF : F_respects n_ times K) : Calls Try.prog 18 #[.agg #[.int .i64 n_.events, .slice an_ n_.links.length cn_], .slice atimes times.length ctimes] w fun e w' => ∃ r : Bool × Fault, K r ∧ e = .returned (.tuple #[.bool r.1, .agg #[.int .i64 r.2.code, .int .i64 r.2.index]]) ∧ Below w.heap.size w w' := by
  refine enter (args := [.agg #[.int .i64 n_.events, .slice an_ n_.links.length cn_], .slice atimes times.length ctimes]) Try.func18 rfl Try.ntmps18 rfl hs ?_
  refine .seq ?_
  refine .region ?_
  refine bx (vs := [.int .i64 n_.events, .slice an_ n_.links.length cn_]) rfl rfl rfl (fun pn => ?_)
  refine .v (asg rfl) rfl rfl rfl ?_
  refine al tZ27 rfl (fun pv => ?_)
  refine .nil ?_
  refine .seqN ?_
  refine .seq ?_
  refine .seq ?_
  refine .region ?_
  refine .v (ldA (cs := [.int .i64 n_.events, .slice an_ n_.links.length cn_]) rfl tA24 rfl (cellsB (off := 0) (k := 1) rfl (m := 2) rfl)) rfl rfl rfl ?_
  obtain ⟨r2, q5⟩ : ∃ y_ : Fault, y_ = sp_validate n_ := ⟨_, rfl⟩
  replace hF := hF r2 q5
  refine .c (cl (v := .agg #[.int .i64 r2.code, .int .i64 r2.index]) Try.call22 rfl rfl (fun w S => (by rw [q5]; exact c_validate S.sub n_ an_ cn_ _q1 _q2 ))) rfl rfl rfl ?_
  refine al tZ27 rfl (fun pf => ?_)
  refine st (p := pf) (off := 0) (k := 0) (vs := [.int .i64 r2.code, .int .i64 r2.index]) rfl rfl rfl (fun w => (tA27 w).2) rfl rfl rfl rfl ?_
  refine .cast (A' := [Box pf [.int .i64 r2.code, .int .i64 r2.index], Box pv [.int .i64 0, .int .i64 0], Box pn [.int .i64 n_.events, .slice an_ n_.links.length cn_]]) rfl ?_
  refine .nil ?_
  refine .seqN ?_
  refine .seq ?_
  refine .region ?_
  refine .v (ldA (cs := [.int .i64 r2.code, .int .i64 r2.index]) rfl tA27 rfl (cellsB (off := 0) (k := 0) rfl (m := 2) rfl)) rfl rfl rfl ?_
  refine .v (bld (cs := #[.int .i64 0, .int .i64 0]) (pv := []) tB27 rfl rfl) rfl rfl rfl ?_
  refine .v (ne2 tE27 rfl rfl) rfl rfl rfl ?_
  refine .nil ?_
  refine .seqN ?_
  refine .cond rfl (fun q6 => ?_) (fun q6 => ?_)
  · replace hF := hF.1 q6
    refine .seq ?_
    refine .openL (by kernel_rfl) rfl (by kernel_rfl) (by kernel_rfl) ?_
    refine .v (ldA (cs := [.int .i64 r2.code, .int .i64 r2.index]) rfl tA27 rfl (cellsB (off := 0) (k := 0) rfl (m := 2) rfl)) rfl rfl rfl ?_
    refine .v (asg rfl) rfl rfl rfl ?_
    refine .tail ?_
    refine st (p := pv) (off := 0) (k := 1) (vs := [.int .i64 r2.code, .int .i64 r2.index]) rfl rfl rfl (fun w => (tA27 w).2) rfl rfl rfl rfl ?_
    refine .cast (A' := [Box pf [.int .i64 r2.code, .int .i64 r2.index], Box pv [.int .i64 r2.code, .int .i64 r2.index], Box pn [.int .i64 n_.events, .slice an_ n_.links.length cn_]]) rfl ?_
    refine .nil ?_
    refine .seqN ?_
    refine .ret ?_
    refine .seqR ?_
    refine .res2 rfl (rvT rfl) (rvC rfl tA27 (k := 1) rfl rfl) (fun w' S => ⟨(false, r2), hF, rfl, S.below⟩)
  replace hF := hF.2 q6
  refine .skip ?_
  refine .seqN ?_
  refine .seq ?_
  refine .seq ?_
  refine .region ?_
  refine .v (mv rfl) rfl rfl rfl ?_
  refine .v (ln rfl tS32.is) rfl rfl rfl ?_
  refine .v (fa rfl tF24_0) rfl rfl rfl ?_
  refine .v (ld1 rfl tO3 (cellB (off := 0) (k := 2) rfl rfl)) rfl rfl rfl ?_
  refine .v (bi rfl rfl rfl) rfl rfl rfl ?_
  refine .nil ?_
  refine .seqN ?_
  refine .cond rfl (fun q7 => ?_) (fun q7 => ?_)
  · replace hF := hF.1 q7
    refine .seq ?_
    refine .region ?_
    refine .v (bld (cs := #[.int .i64 9, .int .i64 (-2)]) (pv := [(0, .int .i64 9), (1, .int .i64 (-2))]) tB27 rfl rfl) rfl rfl rfl ?_
    refine .v (asg rfl) rfl rfl rfl ?_
    refine st (p := pv) (off := 0) (k := 1) (vs := [.int .i64 9, .int .i64 (-2)]) rfl rfl rfl (fun w => (tA27 w).2) rfl rfl rfl rfl ?_
    refine .cast (A' := [Box pf [.int .i64 r2.code, .int .i64 r2.index], Box pv [.int .i64 9, .int .i64 (-2)], Box pn [.int .i64 n_.events, .slice an_ n_.links.length cn_]]) rfl ?_
    refine .nil ?_
    refine .seqN ?_
    refine .ret ?_
    refine .seqR ?_
    refine .res2 rfl (rvT rfl) (rvC rfl tA27 (k := 1) rfl rfl) (fun w' S => ⟨(false, (⟨9, (-2)⟩ : Fault)), hF, rfl, S.below⟩)
  replace hF := hF.2 q7
  refine .skip ?_
  refine .seqN ?_
  refine .seq ?_
  refine .seq ?_
  refine .region ?_
  refine .v (mv rfl) rfl rfl rfl ?_
  refine .v (ln rfl tS32.is) rfl rfl rfl ?_
  refine .v (mv rfl) rfl rfl rfl ?_
  refine .nil ?_
  refine .seqN ?_
  refine .block ?_
  refine .sel0 [2, 1] (by decide) rfl ?_
  obtain ⟨I1, μ1, q32, q33⟩ := hF
  refine .loop' (σ := Int) (fun z => I1 z) (fun z => μ1 z) (fun z => [(1, .slice atimes times.length ctimes), (2, .pointer (some pn)), (5, .pointer (some pv)), (21, .slice atimes times.length ctimes), (22, .int .i64 ((times.length : Nat) : Int)), (23, .int .i64 z)]) (fun _ => [Box pn [.int .i64 n_.events, .slice an_ n_.links.length cn_], Box pv [.int .i64 0, .int .i64 0]]) (fun _ => h) 0 q32 (.cons rfl (.cons rfl (.cons rfl (.cons rfl (.cons rfl (.cons rfl (.nil))))))) rfl (FH.le_refl _) ?_
  rintro t23 q32
  have hF := q33 t23 q32
  show J _ _ _ _ _ [(1, .slice atimes times.length ctimes), (2, .pointer (some pn)), (5, .pointer (some pv)), (21, .slice atimes times.length ctimes), (22, .int .i64 ((times.length : Nat) : Int)), (23, .int .i64 t23)] [Box pn [.int .i64 n_.events, .slice an_ n_.links.length cn_], Box pv [.int .i64 0, .int .i64 0]] h
  refine .seq ?_
  refine .region ?_
  refine .v (bi rfl rfl rfl) rfl rfl rfl ?_
  refine .nil ?_
  refine .seqN ?_
  refine .seq ?_
  refine .cond rfl (fun q35 => ?_) (fun q35 => ?_)
  · replace hF := hF.1 q35
    refine .skip ?_
    refine .seqN ?_
    refine .seq ?_
    refine .block ?_
    refine .seq ?_
    refine .region ?_
    refine .v (mv rfl) rfl rfl rfl ?_
    obtain ⟨q41, hF⟩ := hF
    refine .v (ix rfl rfl tS32 (_q3.ne (by decide) (inb_pos q41)) q41) rfl rfl rfl ?_
    refine .v (ld1 (v := .int .i64 (gt times t23)) rfl tO3 (cellH (_q3.elemF q41 (by decide) 0 _ rfl))) rfl rfl rfl ?_
    refine .v (asg rfl) rfl rfl rfl ?_
    refine .v (asg rfl) rfl rfl rfl ?_
    refine .nil ?_
    refine .seqN ?_
    refine .share (σ := Bool) (fun z => F_respects_J1 K z t23 I1 μ1) (fun z => [(1, .slice atimes times.length ctimes), (2, .pointer (some pn)), (5, .pointer (some pv)), (7, .int .i64 t23), (21, .slice atimes times.length ctimes), (22, .int .i64 ((times.length : Nat) : Int)), (23, .int .i64 t23), (33, .bool z)]) (fun _ => [Box pn [.int .i64 n_.events, .slice an_ n_.links.length cn_], Box pv [.int .i64 0, .int .i64 0]]) (fun _ => h) ?_ (fun q43 => ?_)
    · rintro t33 hF
      show J _ _ _ _ _ [(1, .slice atimes times.length ctimes), (2, .pointer (some pn)), (5, .pointer (some pv)), (7, .int .i64 t23), (21, .slice atimes times.length ctimes), (22, .int .i64 ((times.length : Nat) : Int)), (23, .int .i64 t23), (33, .bool t33)] [Box pn [.int .i64 n_.events, .slice an_ n_.links.length cn_], Box pv [.int .i64 0, .int .i64 0]] h
      refine .cond rfl (fun q44 => ?_) (fun q44 => ?_)
      · replace hF := hF.1 q44
        refine .seq ?_
        refine .region ?_
        refine .v (mv rfl) rfl rfl rfl ?_
        refine .v (bi rfl rfl rfl) rfl rfl rfl ?_
        refine .v (bld (cs := #[.int .i64 3, .int .i64 (IntKind.i64.wrap ((-3) - t23))]) (pv := [(0, .int .i64 3), (1, .int .i64 (IntKind.i64.wrap ((-3) - t23)))]) tB27 rfl rfl) rfl rfl rfl ?_
        refine .v (asg rfl) rfl rfl rfl ?_
        refine st (p := pv) (off := 0) (k := 1) (vs := [.int .i64 3, .int .i64 (IntKind.i64.wrap ((-3) - t23))]) rfl rfl rfl (fun w => (tA27 w).2) rfl rfl rfl rfl ?_
        refine .cast (A' := [Box pn [.int .i64 n_.events, .slice an_ n_.links.length cn_], Box pv [.int .i64 3, .int .i64 (IntKind.i64.wrap ((-3) - t23))]]) rfl ?_
        refine .nil ?_
        refine .seqN ?_
        refine .ret ?_
        refine .blkR ?_
        refine .seqR ?_
        refine .seqR ?_
        refine .blkR ?_
        refine .seqR ?_
        refine .res2 rfl (rvT rfl) (rvC rfl tA27 (k := 1) rfl rfl) (fun w' S => ⟨(false, (⟨3, IntKind.i64.wrap ((-3) - t23)⟩ : Fault)), hF, rfl, S.below⟩)
      replace hF := hF.2 q44
      refine .skip ?_
      refine .blkN ?_
      refine .seqN ?_
      refine .region ?_
      refine .v (bi rfl rfl rfl) rfl rfl rfl ?_
      refine .v (mv rfl) rfl rfl rfl ?_
      refine .nil ?_
      exact .round (IntKind.i64.wrap (t23 + 1)) hF.1 hF.2 (.cons rfl (.cons rfl (.cons rfl (.cons rfl (.cons rfl (.cons rfl (.nil))))))) rfl (FH.le_refl _)
    refine .region ?_
    refine .v (mv rfl) rfl rfl rfl ?_
    refine .v (bi rfl rfl rfl) rfl rfl rfl ?_
    refine .v (mv rfl) rfl rfl rfl ?_
    rcases Bool.eq_false_or_eq_true (decide ((gt times t23) < (-1000000))) with q45 | q45
    · replace hF := hF.1 q45
      refine .gS rfl rfl rfl q45 rfl rfl ?_
      refine .gS rfl rfl rfl q45 rfl rfl ?_
      refine .v (pkT rfl q45 rfl) rfl rfl rfl ?_
      refine .nil ?_
      exact .use q43 true hF (.cons rfl (.cons rfl (.cons rfl (.cons rfl (.cons rfl (.cons rfl (.cons rfl (.cons rfl (.nil))))))))) rfl (FH.le_refl _)
    replace hF := hF.2 q45
    refine .gv (mv rfl) rfl rfl rfl q45 rfl rfl ?_
    refine .gv (bi rfl rfl rfl) rfl rfl rfl q45 rfl rfl ?_
    refine .v (pkF rfl q45 rfl) rfl rfl rfl ?_
    refine .nil ?_
    exact .use q43 (decide (1000000 < (gt times t23))) hF (.cons rfl (.cons rfl (.cons rfl (.cons rfl (.cons rfl (.cons rfl (.cons rfl (.cons rfl (.nil))))))))) rfl (FH.le_refl _)
  replace hF := hF.2 q35
  refine .exit ?_
  refine .seqX ?_
  refine .seqX ?_
  refine .blkX ?_
  refine .seqN ?_
  refine .seq ?_
  refine .region ?_
  refine .v (ldA (cs := [.int .i64 n_.events, .slice an_ n_.links.length cn_]) rfl tA24 rfl (cellsB (off := 0) (k := 0) rfl (m := 2) rfl)) rfl rfl rfl ?_
  refine .v (mv rfl) rfl rfl rfl ?_
  obtain ⟨q46, hF⟩ := hF
  obtain ⟨r3, q47⟩ : ∃ y_ : Bool, y_ = sp_fits n_ times := ⟨_, rfl⟩
  replace hF := hF r3 q47
  refine .c (cl (v := .bool r3) Try.call47 rfl rfl (fun w S => (by rw [q47]; exact c_fits S.sub n_ an_ cn_ _q1 _q2 times atimes ctimes _q3 _q4 q46))) rfl rfl rfl ?_
  refine .v (bld (cs := #[.int .i64 0, .int .i64 0]) (pv := []) tB27 rfl rfl) rfl rfl rfl ?_
  refine .v (asg rfl) rfl rfl rfl ?_
  refine st (p := pv) (off := 0) (k := 1) (vs := [.int .i64 0, .int .i64 0]) rfl rfl rfl (fun w => (tA27 w).2) rfl rfl rfl rfl ?_
  refine .cast (A' := [Box pn [.int .i64 n_.events, .slice an_ n_.links.length cn_], Box pv [.int .i64 0, .int .i64 0]]) rfl ?_
  refine .nil ?_
  refine .seqN ?_
  refine .ret ?_
  refine .res2 rfl (rvT rfl) (rvC rfl tA27 (k := 1) rfl rfl) (fun w' S => ⟨(r3, (⟨0, 0⟩ : Fault)), hF, rfl, S.below⟩)

theorem c_respects {h : FH} {w : World} (hs : Sub h w) (n_ : Network) (an_ : Option Addr) (cn_ : Nat) (_q1 : RSl h an_ n_.links) (_q2 : n_.links.length ≤ cn_) (times : List Int) (atimes : Option Addr) (ctimes : Nat) (_q3 : RSl h atimes times) (_q4 : times.length ≤ ctimes) : Calls Try.prog 18 #[.agg #[.int .i64 n_.events, .slice an_ n_.links.length cn_], .slice atimes times.length ctimes] w fun e w' => e = .returned (.tuple #[.bool (sp_respects n_ times).1, .agg #[.int .i64 (sp_respects n_ times).2.code, .int .i64 (sp_respects n_ times).2.index]]) ∧ Below w.heap.size w w' :=
  (w_respects hs n_ an_ cn_ _q1 _q2 times atimes ctimes _q3 _q4 (fun r => r = sp_respects n_ times) (ok_respects n_ times)).mono fun _ _ ⟨_, hk, he, hb⟩ => ⟨by rw [he, hk], hb⟩

set_option maxHeartbeats 8000000 in
theorem w_negative {h : FH} {w : World} (hs : Sub h w) (n_ : Network) (an_ : Option Addr) (cn_ : Nat) (_q1 : RSl h an_ n_.links) (_q2 : n_.links.length ≤ cn_) (cycle : List Int) (acycle : Option Addr) (ccycle : Nat) (_q3 : RSl h acycle cycle) (_q4 : cycle.length ≤ ccycle) (K : (Bool × Fault) → Prop) (hF : F_negative n_ cycle K) : Calls Try.prog 21 #[.agg #[.int .i64 n_.events, .slice an_ n_.links.length cn_], .slice acycle cycle.length ccycle] w fun e w' => ∃ r : Bool × Fault, K r ∧ e = .returned (.tuple #[.bool r.1, .agg #[.int .i64 r.2.code, .int .i64 r.2.index]]) ∧ Below w.heap.size w w' := by
  refine enter (args := [.agg #[.int .i64 n_.events, .slice an_ n_.links.length cn_], .slice acycle cycle.length ccycle]) Try.func21 rfl Try.ntmps21 rfl hs ?_
  refine .seq ?_
  refine .region ?_
  refine bx (vs := [.int .i64 n_.events, .slice an_ n_.links.length cn_]) rfl rfl rfl (fun pn => ?_)
  refine .v (asg rfl) rfl rfl rfl ?_
  refine al tZ27 rfl (fun pv => ?_)
  refine .nil ?_
  refine .seqN ?_
  refine .seq ?_
  refine .seq ?_
  refine .region ?_
  refine .v (ldA (cs := [.int .i64 n_.events, .slice an_ n_.links.length cn_]) rfl tA24 rfl (cellsB (off := 0) (k := 1) rfl (m := 2) rfl)) rfl rfl rfl ?_
  obtain ⟨r2, q5⟩ : ∃ y_ : Fault, y_ = sp_validate n_ := ⟨_, rfl⟩
  replace hF := hF r2 q5
  refine .c (cl (v := .agg #[.int .i64 r2.code, .int .i64 r2.index]) Try.call22 rfl rfl (fun w S => (by rw [q5]; exact c_validate S.sub n_ an_ cn_ _q1 _q2 ))) rfl rfl rfl ?_
  refine al tZ27 rfl (fun pf => ?_)
  refine st (p := pf) (off := 0) (k := 0) (vs := [.int .i64 r2.code, .int .i64 r2.index]) rfl rfl rfl (fun w => (tA27 w).2) rfl rfl rfl rfl ?_
  refine .cast (A' := [Box pf [.int .i64 r2.code, .int .i64 r2.index], Box pv [.int .i64 0, .int .i64 0], Box pn [.int .i64 n_.events, .slice an_ n_.links.length cn_]]) rfl ?_
  refine .nil ?_
  refine .seqN ?_
  refine .seq ?_
  refine .region ?_
  refine .v (ldA (cs := [.int .i64 r2.code, .int .i64 r2.index]) rfl tA27 rfl (cellsB (off := 0) (k := 0) rfl (m := 2) rfl)) rfl rfl rfl ?_
  refine .v (bld (cs := #[.int .i64 0, .int .i64 0]) (pv := []) tB27 rfl rfl) rfl rfl rfl ?_
  refine .v (ne2 tE27 rfl rfl) rfl rfl rfl ?_
  refine .nil ?_
  refine .seqN ?_
  refine .cond rfl (fun q7 => ?_) (fun q7 => ?_)
  · replace hF := hF.1 q7
    refine .seq ?_
    refine .openL (by kernel_rfl) rfl (by kernel_rfl) (by kernel_rfl) ?_
    refine .v (ldA (cs := [.int .i64 r2.code, .int .i64 r2.index]) rfl tA27 rfl (cellsB (off := 0) (k := 0) rfl (m := 2) rfl)) rfl rfl rfl ?_
    refine .v (asg rfl) rfl rfl rfl ?_
    refine .tail ?_
    refine st (p := pv) (off := 0) (k := 1) (vs := [.int .i64 r2.code, .int .i64 r2.index]) rfl rfl rfl (fun w => (tA27 w).2) rfl rfl rfl rfl ?_
    refine .cast (A' := [Box pf [.int .i64 r2.code, .int .i64 r2.index], Box pv [.int .i64 r2.code, .int .i64 r2.index], Box pn [.int .i64 n_.events, .slice an_ n_.links.length cn_]]) rfl ?_
    refine .nil ?_
    refine .seqN ?_
    refine .ret ?_
    refine .seqR ?_
    refine .res2 rfl (rvT rfl) (rvC rfl tA27 (k := 1) rfl rfl) (fun w' S => ⟨(false, r2), hF, rfl, S.below⟩)
  replace hF := hF.2 q7
  refine .skip ?_
  refine .seqN ?_
  refine .seq ?_
  refine .share (σ := Bool) (fun z => F_negative_J1 n_ cycle K z) (fun z => [(1, .slice acycle cycle.length ccycle), (2, .pointer (some pn)), (5, .pointer (some pv)), (27, .bool z)]) (fun _ => [Box pn [.int .i64 n_.events, .slice an_ n_.links.length cn_], Box pv [.int .i64 0, .int .i64 0]]) (fun _ => h) ?_ (fun q9 => ?_)
  · rintro t27 hF
    show J _ _ _ _ _ [(1, .slice acycle cycle.length ccycle), (2, .pointer (some pn)), (5, .pointer (some pv)), (27, .bool t27)] [Box pn [.int .i64 n_.events, .slice an_ n_.links.length cn_], Box pv [.int .i64 0, .int .i64 0]] h
    refine .cond rfl (fun q11 => ?_) (fun q11 => ?_)
    · replace hF := hF.1 q11
      refine .seq ?_
      refine .region ?_
      refine .v (bld (cs := #[.int .i64 9, .int .i64 (-2)]) (pv := [(0, .int .i64 9), (1, .int .i64 (-2))]) tB27 rfl rfl) rfl rfl rfl ?_
      refine .v (asg rfl) rfl rfl rfl ?_
      refine st (p := pv) (off := 0) (k := 1) (vs := [.int .i64 9, .int .i64 (-2)]) rfl rfl rfl (fun w => (tA27 w).2) rfl rfl rfl rfl ?_
      refine .cast (A' := [Box pn [.int .i64 n_.events, .slice an_ n_.links.length cn_], Box pv [.int .i64 9, .int .i64 (-2)]]) rfl ?_
      refine .nil ?_
      refine .seqN ?_
      refine .ret ?_
      refine .seqR ?_
      refine .res2 rfl (rvT rfl) (rvC rfl tA27 (k := 1) rfl rfl) (fun w' S => ⟨(false, (⟨9, (-2)⟩ : Fault)), hF, rfl, S.below⟩)
    replace hF := hF.2 q11
    refine .skip ?_
    refine .seqN ?_
    refine .seq ?_
    refine .seq ?_
    refine .region ?_
    refine .v (mv rfl) rfl rfl rfl ?_
    refine .v (ln rfl tS32.is) rfl rfl rfl ?_
    refine .v (mv rfl) rfl rfl rfl ?_
    refine .nil ?_
    refine .seqN ?_
    refine .block ?_
    obtain ⟨I1, μ1, q104, q105⟩ := hF
    refine .loop' (σ := Int) (fun z => I1 z) (fun z => μ1 z) (fun z => [(1, .slice acycle cycle.length ccycle), (2, .pointer (some pn)), (5, .pointer (some pv)), (29, .slice acycle cycle.length ccycle), (30, .int .i64 ((cycle.length : Nat) : Int)), (31, .int .i64 z)]) (fun _ => [Box pn [.int .i64 n_.events, .slice an_ n_.links.length cn_], Box pv [.int .i64 0, .int .i64 0]]) (fun _ => h) 0 q104 (.cons rfl (.cons rfl (.cons rfl (.cons rfl (.cons rfl (.cons rfl (.nil))))))) rfl (FH.le_refl _) ?_
    rintro t31 q104
    have hF := q105 t31 q104
    show J _ _ _ _ _ [(1, .slice acycle cycle.length ccycle), (2, .pointer (some pn)), (5, .pointer (some pv)), (29, .slice acycle cycle.length ccycle), (30, .int .i64 ((cycle.length : Nat) : Int)), (31, .int .i64 t31)] [Box pn [.int .i64 n_.events, .slice an_ n_.links.length cn_], Box pv [.int .i64 0, .int .i64 0]] h
    refine .seq ?_
    refine .region ?_
    refine .v (bi rfl rfl rfl) rfl rfl rfl ?_
    refine .nil ?_
    refine .seqN ?_
    refine .seq ?_
    refine .cond rfl (fun q108 => ?_) (fun q108 => ?_)
    · replace hF := hF.1 q108
      refine .skip ?_
      refine .seqN ?_
      refine .seq ?_
      refine .block ?_
      refine .seq ?_
      refine .region ?_
      refine .v (mv rfl) rfl rfl rfl ?_
      obtain ⟨q119, hF⟩ := hF
      refine .v (ix rfl rfl tS32 (_q3.ne (by decide) (inb_pos q119)) q119) rfl rfl rfl ?_
      refine .v (ld1 (v := .int .i64 (gt cycle t31)) rfl tO3 (cellH (_q3.elemF q119 (by decide) 0 _ rfl))) rfl rfl rfl ?_
      refine .v (asg rfl) rfl rfl rfl ?_
      refine .v (asg rfl) rfl rfl rfl ?_
      refine .nil ?_
      refine .seqN ?_
      refine .share (σ := Bool) (fun z => F_negative_J2 K z t31 I1 μ1) (fun z => [(1, .slice acycle cycle.length ccycle), (2, .pointer (some pn)), (5, .pointer (some pv)), (7, .int .i64 t31), (29, .slice acycle cycle.length ccycle), (30, .int .i64 ((cycle.length : Nat) : Int)), (31, .int .i64 t31), (43, .bool z)]) (fun _ => [Box pn [.int .i64 n_.events, .slice an_ n_.links.length cn_], Box pv [.int .i64 0, .int .i64 0]]) (fun _ => h) ?_ (fun q121 => ?_)
      · rintro t43 hF
        show J _ _ _ _ _ [(1, .slice acycle cycle.length ccycle), (2, .pointer (some pn)), (5, .pointer (some pv)), (7, .int .i64 t31), (29, .slice acycle cycle.length ccycle), (30, .int .i64 ((cycle.length : Nat) : Int)), (31, .int .i64 t31), (43, .bool t43)] [Box pn [.int .i64 n_.events, .slice an_ n_.links.length cn_], Box pv [.int .i64 0, .int .i64 0]] h
        refine .cond rfl (fun q122 => ?_) (fun q122 => ?_)
        · replace hF := hF.1 q122
          refine .seq ?_
          refine .region ?_
          refine .v (mv rfl) rfl rfl rfl ?_
          refine .v (bi rfl rfl rfl) rfl rfl rfl ?_
          refine .v (bld (cs := #[.int .i64 3, .int .i64 (IntKind.i64.wrap ((-3) - t31))]) (pv := [(0, .int .i64 3), (1, .int .i64 (IntKind.i64.wrap ((-3) - t31)))]) tB27 rfl rfl) rfl rfl rfl ?_
          refine .v (asg rfl) rfl rfl rfl ?_
          refine st (p := pv) (off := 0) (k := 1) (vs := [.int .i64 3, .int .i64 (IntKind.i64.wrap ((-3) - t31))]) rfl rfl rfl (fun w => (tA27 w).2) rfl rfl rfl rfl ?_
          refine .cast (A' := [Box pn [.int .i64 n_.events, .slice an_ n_.links.length cn_], Box pv [.int .i64 3, .int .i64 (IntKind.i64.wrap ((-3) - t31))]]) rfl ?_
          refine .nil ?_
          refine .seqN ?_
          refine .ret ?_
          refine .blkR ?_
          refine .seqR ?_
          refine .seqR ?_
          refine .blkR ?_
          refine .seqR ?_
          refine .res2 rfl (rvT rfl) (rvC rfl tA27 (k := 1) rfl rfl) (fun w' S => ⟨(false, (⟨3, IntKind.i64.wrap ((-3) - t31)⟩ : Fault)), hF, rfl, S.below⟩)
        replace hF := hF.2 q122
        refine .skip ?_
        refine .blkN ?_
        refine .seqN ?_
        refine .region ?_
        refine .v (bi rfl rfl rfl) rfl rfl rfl ?_
        refine .v (mv rfl) rfl rfl rfl ?_
        refine .nil ?_
        exact .round (IntKind.i64.wrap (t31 + 1)) hF.1 hF.2 (.cons rfl (.cons rfl (.cons rfl (.cons rfl (.cons rfl (.cons rfl (.nil))))))) rfl (FH.le_refl _)
      refine .region ?_
      refine .v (mv rfl) rfl rfl rfl ?_
      refine .v (bi rfl rfl rfl) rfl rfl rfl ?_
      refine .v (mv rfl) rfl rfl rfl ?_
      rcases Bool.eq_false_or_eq_true (decide ((gt cycle t31) < 0)) with q123 | q123
      · replace hF := hF.1 q123
        refine .gS rfl rfl rfl q123 rfl rfl ?_
        refine .gS rfl rfl rfl q123 rfl rfl ?_
        refine .gS rfl rfl rfl q123 rfl rfl ?_
        refine .gS rfl rfl rfl q123 rfl rfl ?_
        refine .v (pkT rfl q123 rfl) rfl rfl rfl ?_
        refine .nil ?_
        exact .use q121 true hF (.cons rfl (.cons rfl (.cons rfl (.cons rfl (.cons rfl (.cons rfl (.cons rfl (.cons rfl (.nil))))))))) rfl (FH.le_refl _)
      replace hF := hF.2 q123
      refine .gv (mv rfl) rfl rfl rfl q123 rfl rfl ?_
      refine .gv (fa rfl tF24_0) rfl rfl rfl q123 rfl rfl ?_
      refine .gv (ld1 rfl tO3 (cellB (off := 0) (k := 0) rfl rfl)) rfl rfl rfl q123 rfl rfl ?_
      refine .gv (bi rfl rfl rfl) rfl rfl rfl q123 rfl rfl ?_
      refine .v (pkF rfl q123 rfl) rfl rfl rfl ?_
      refine .nil ?_
      exact .use q121 (decide (n_.events ≤ (gt cycle t31))) hF (.cons rfl (.cons rfl (.cons rfl (.cons rfl (.cons rfl (.cons rfl (.cons rfl (.cons rfl (.nil))))))))) rfl (FH.le_refl _)
    replace hF := hF.2 q108
    refine .exit ?_
    refine .seqX ?_
    refine .seqX ?_
    refine .blkX ?_
    refine .seqN ?_
    refine .seq ?_
    refine .region ?_
    refine .v (ldA (cs := [.int .i64 n_.events, .slice an_ n_.links.length cn_]) rfl tA24 rfl (cellsB (off := 0) (k := 0) rfl (m := 2) rfl)) rfl rfl rfl ?_
    obtain ⟨q124, hF⟩ := hF
    obtain ⟨r3, q125⟩ : ∃ y_ : List (List Int), y_ = sp_bounds n_ := ⟨_, rfl⟩
    replace hF := hF r3 q125
    refine clO (α := Option Addr × Nat × List RowV) (V := fun z => .slice z.1 r3.length z.2.1) (Ψ := fun z => z.2.2.length = r3.length) (B := fun z => OwnSl 32 1 z.1 r3.length z.2.1 (rowsV z.2.2 r3) :: rowsA 3 z.2.2 r3) Try.call49 rfl rfl (fun w S => (by rw [q125]; exact c_bounds S.sub n_ an_ cn_ _q1 _q2 q124)) rfl (fun z q126 => ?_)
    obtain ⟨a, c, vs⟩ := z
    refine .perm ?_
    refine .cast (A' := ([Box pn [.int .i64 n_.events, .slice an_ n_.links.length cn_], Box pv [.int .i64 0, .int .i64 0], OwnSl 32 1 a r3.length c (rowsV vs r3)] ++ rowsA 3 vs r3)) rfl ?_
    refine .v (asg rfl) rfl rfl rfl ?_
    refine .nil ?_
    refine .seqN ?_
    refine .seq ?_
    refine .region ?_
    refine .v (asg rfl) rfl rfl rfl ?_
    refine .nil ?_
    refine .seqN ?_
    refine .seq ?_
    refine .seq ?_
    refine .region ?_
    refine .v (mv rfl) rfl rfl rfl ?_
    refine .v (ln rfl tS32.is) rfl rfl rfl ?_
    refine .v (mv rfl) rfl rfl rfl ?_
    refine .nil ?_
    refine .seqN ?_
    refine .block ?_
    refine .sel (L := [Box pn [.int .i64 n_.events, .slice an_ n_.links.length cn_], Box pv [.int .i64 0, .int .i64 0], OwnSl 32 1 a r3.length c (rowsV vs r3)]) (L' := [Box pv [.int .i64 0, .int .i64 0], OwnSl 32 1 a r3.length c (rowsV vs r3)]) [1, 2] rfl (by decide) rfl rfl ?_
    obtain ⟨I2, μ2, q279, q280⟩ := hF
    refine .loop' (σ := Int × Int) (fun z => I2 z.1 z.2) (fun z => μ2 z.1 z.2) (fun z => [(1, .slice acycle cycle.length ccycle), (5, .pointer (some pv)), (9, .slice a r3.length c), (10, .int .i64 z.1), (50, .slice acycle cycle.length ccycle), (51, .int .i64 ((cycle.length : Nat) : Int)), (52, .int .i64 z.2)]) (fun _ => ([Box pv [.int .i64 0, .int .i64 0], OwnSl 32 1 a r3.length c (rowsV vs r3)] ++ rowsA 3 vs r3)) (fun _ => h) (0, 0) q279 (.cons rfl (.cons rfl (.cons rfl (.cons rfl (.cons rfl (.cons rfl (.cons rfl (.nil)))))))) rfl (FH.le_refl _) ?_
    rintro ⟨sum, t52⟩ q279
    have hF := q280 sum t52 q279
    show J _ _ _ _ _ [(1, .slice acycle cycle.length ccycle), (5, .pointer (some pv)), (9, .slice a r3.length c), (10, .int .i64 sum), (50, .slice acycle cycle.length ccycle), (51, .int .i64 ((cycle.length : Nat) : Int)), (52, .int .i64 t52)] ([Box pv [.int .i64 0, .int .i64 0], OwnSl 32 1 a r3.length c (rowsV vs r3)] ++ rowsA 3 vs r3) h
    refine .seq ?_
    refine .region ?_
    refine .v (bi rfl rfl rfl) rfl rfl rfl ?_
    refine .nil ?_
    refine .seqN ?_
    refine .seq ?_
    refine .cond rfl (fun q283 => ?_) (fun q283 => ?_)
    · replace hF := hF.1 q283
      refine .skip ?_
      refine .seqN ?_
      refine .seq ?_
      refine .block ?_
      refine .seq ?_
      refine .region ?_
      refine .v (mv rfl) rfl rfl rfl ?_
      obtain ⟨q302, hF⟩ := hF
      refine .v (ix rfl rfl tS32 (_q3.ne (by decide) (inb_pos q302)) q302) rfl rfl rfl ?_
      refine .v (ld1 (v := .int .i64 (gt cycle t52)) rfl tO3 (cellH (_q3.elemF q302 (by decide) 0 _ rfl))) rfl rfl rfl ?_
      refine .v (asg rfl) rfl rfl rfl ?_
      refine .v (asg rfl) rfl rfl rfl ?_
      refine .nil ?_
      refine .seqN ?_
      refine .seq ?_
      refine .open_ (by kernel_rfl) (by kernel_rfl) ?_
      refine .v (mv rfl) rfl rfl rfl ?_
      refine .v (mv rfl) rfl rfl rfl ?_
      obtain ⟨q303, hF⟩ := hF
      refine .v (ixS rfl rfl tS25 (k := 1) rfl q303) rfl rfl rfl ?_
      refine .v (ld1 (v := .slice ((gt vs (gt cycle t52)).1) ((gt r3 (gt cycle t52)).length) ((gt vs (gt cycle t52)).2)) rfl tO32 (cell1 (k := 1) rfl (rowsV_get (gt_get (inb_of q126 q303)) (gt_get q303)))) rfl rfl rfl ?_
      refine .v (mv rfl) rfl rfl rfl ?_
      refine .v (mv rfl) rfl rfl rfl ?_
      refine .v (bi rfl rfl rfl) rfl rfl rfl ?_
      refine .v (mv rfl) rfl rfl rfl ?_
      refine .v (ln rfl tS32.is) rfl rfl rfl ?_
      obtain ⟨q304, hF⟩ := hF
      obtain ⟨x, q305⟩ : ∃ y_ : Int, y_ = (Int.tmod (IntKind.i64.wrap (t52 + 1)) ((cycle.length : Nat) : Int)) := ⟨_, rfl⟩
      replace hF := hF x q305
      refine .v (v := .int .i64 x) (by rw [q305]; exact br rfl rfl q304) rfl rfl rfl ?_
      obtain ⟨q306, hF⟩ := hF
      refine .v (ix rfl rfl tS32 (_q3.ne (by decide) (inb_pos q306)) q306) rfl rfl rfl ?_
      refine .v (ld1 (v := .int .i64 (gt cycle x)) rfl tO3 (cellH (_q3.elemF q306 (by decide) 0 _ rfl))) rfl rfl rfl ?_
      obtain ⟨q307, hF⟩ := hF
      refine .v (ixS rfl rfl tS32 (k := ((gt cycle t52)).toNat + 2) (rowsA_get (gt_get (inb_of q126 q303)) (gt_get q303)) q307) rfl rfl rfl ?_
      refine .v (ld1 (v := .int .i64 (gt (gt r3 (gt cycle t52)) (gt cycle x))) rfl tO3 (cellS (k := ((gt cycle t52)).toNat + 2) (rowsA_get (gt_get (inb_of q126 q303)) (gt_get q303)) (flL_get q307 (j := 0) rfl))) rfl rfl rfl ?_
      refine .v (asg rfl) rfl rfl rfl ?_
      refine .fin ?_
      refine .seqN ?_
      refine .seq ?_
      refine .seq ?_
      refine .region ?_
      refine .v (mv rfl) rfl rfl rfl ?_
      refine .v (bi rfl rfl rfl) rfl rfl rfl ?_
      refine .nil ?_
      refine .seqN ?_
      refine .cond rfl (fun q309 => ?_) (fun q309 => ?_)
      · replace hF := hF.1 q309
        refine .seq ?_
        refine .region ?_
        refine .v (bld (cs := #[.int .i64 0, .int .i64 0]) (pv := []) tB27 rfl rfl) rfl rfl rfl ?_
        refine .v (asg rfl) rfl rfl rfl ?_
        refine st (p := pv) (off := 0) (k := 0) (vs := [.int .i64 0, .int .i64 0]) rfl rfl rfl (fun w => (tA27 w).2) rfl rfl rfl rfl ?_
        refine .cast (A' := ([Box pv [.int .i64 0, .int .i64 0], OwnSl 32 1 a r3.length c (rowsV vs r3)] ++ rowsA 3 vs r3)) rfl ?_
        refine .nil ?_
        refine .seqN ?_
        refine .ret ?_
        refine .seqR ?_
        refine .blkR ?_
        refine .seqR ?_
        refine .seqR ?_
        refine .blkR ?_
        refine .seqR ?_
        refine .res2 rfl (rvT rfl) (rvC rfl tA27 (k := 0) rfl rfl) (fun w' S => ⟨(false, (⟨0, 0⟩ : Fault)), hF, rfl, S.below⟩)
      replace hF := hF.2 q309
      refine .skip ?_
      refine .seqN ?_
      refine .region ?_
      refine .v (mv rfl) rfl rfl rfl ?_
      refine .v (mv rfl) rfl rfl rfl ?_
      obtain ⟨x2, q310⟩ : ∃ y_ : Int, y_ = (IntKind.i64.wrap (sum + (gt (gt r3 (gt cycle t52)) (gt cycle x)))) := ⟨_, rfl⟩
      replace hF := hF x2 q310
      refine .v (v := .int .i64 x2) (by rw [q310]; exact bi rfl rfl rfl) rfl rfl rfl ?_
      refine .v (asg rfl) rfl rfl rfl ?_
      refine .nil ?_
      refine .blkN ?_
      refine .seqN ?_
      refine .region ?_
      refine .v (bi rfl rfl rfl) rfl rfl rfl ?_
      refine .v (mv rfl) rfl rfl rfl ?_
      refine .nil ?_
      exact .round (x2, IntKind.i64.wrap (t52 + 1)) hF.1 hF.2 (.cons rfl (.cons rfl (.cons rfl (.cons rfl (.cons rfl (.cons rfl (.cons rfl (.nil)))))))) rfl (FH.le_refl _)
    replace hF := hF.2 q283
    refine .exit ?_
    refine .seqX ?_
    refine .seqX ?_
    refine .blkX ?_
    refine .seqN ?_
    refine .seq ?_
    refine .region ?_
    refine .v (mv rfl) rfl rfl rfl ?_
    refine .v (bi rfl rfl rfl) rfl rfl rfl ?_
    refine .v (bld (cs := #[.int .i64 0, .int .i64 0]) (pv := []) tB27 rfl rfl) rfl rfl rfl ?_
    refine .v (asg rfl) rfl rfl rfl ?_
    refine st (p := pv) (off := 0) (k := 0) (vs := [.int .i64 0, .int .i64 0]) rfl rfl rfl (fun w => (tA27 w).2) rfl rfl rfl rfl ?_
    refine .cast (A' := ([Box pv [.int .i64 0, .int .i64 0], OwnSl 32 1 a r3.length c (rowsV vs r3)] ++ rowsA 3 vs r3)) rfl ?_
    refine .nil ?_
    refine .seqN ?_
    refine .ret ?_
    refine .res2 rfl (rvT rfl) (rvC rfl tA27 (k := 0) rfl rfl) (fun w' S => ⟨(decide (sum < 0), (⟨0, 0⟩ : Fault)), hF, rfl, S.below⟩)
  refine .region ?_
  refine .v (mv rfl) rfl rfl rfl ?_
  refine .v (ln rfl tS32.is) rfl rfl rfl ?_
  refine .v (bi rfl rfl rfl) rfl rfl rfl ?_
  refine .v (mv rfl) rfl rfl rfl ?_
  rcases Bool.eq_false_or_eq_true (decide (((cycle.length : Nat) : Int) < 2)) with q311 | q311
  · replace hF := hF.1 q311
    refine .gS rfl rfl rfl q311 rfl rfl ?_
    refine .gS rfl rfl rfl q311 rfl rfl ?_
    refine .gS rfl rfl rfl q311 rfl rfl ?_
    refine .v (pkT rfl q311 rfl) rfl rfl rfl ?_
    refine .nil ?_
    refine .sel0 [2, 1] (by decide) rfl ?_
    exact .use q9 true hF (.cons rfl (.cons rfl (.cons rfl (.cons rfl (.nil))))) rfl (FH.le_refl _)
  replace hF := hF.2 q311
  refine .gv (mv rfl) rfl rfl rfl q311 rfl rfl ?_
  refine .gv (ln rfl tS32.is) rfl rfl rfl q311 rfl rfl ?_
  refine .gv (bi rfl rfl rfl) rfl rfl rfl q311 rfl rfl ?_
  refine .v (pkF rfl q311 rfl) rfl rfl rfl ?_
  refine .nil ?_
  refine .sel0 [2, 1] (by decide) rfl ?_
  exact .use q9 (decide (10 < ((cycle.length : Nat) : Int))) hF (.cons rfl (.cons rfl (.cons rfl (.cons rfl (.nil))))) rfl (FH.le_refl _)

theorem c_negative {h : FH} {w : World} (hs : Sub h w) (n_ : Network) (an_ : Option Addr) (cn_ : Nat) (_q1 : RSl h an_ n_.links) (_q2 : n_.links.length ≤ cn_) (cycle : List Int) (acycle : Option Addr) (ccycle : Nat) (_q3 : RSl h acycle cycle) (_q4 : cycle.length ≤ ccycle) : Calls Try.prog 21 #[.agg #[.int .i64 n_.events, .slice an_ n_.links.length cn_], .slice acycle cycle.length ccycle] w fun e w' => e = .returned (.tuple #[.bool (sp_negative n_ cycle).1, .agg #[.int .i64 (sp_negative n_ cycle).2.code, .int .i64 (sp_negative n_ cycle).2.index]]) ∧ Below w.heap.size w w' :=
  (w_negative hs n_ an_ cn_ _q1 _q2 cycle acycle ccycle _q3 _q4 (fun r => r = sp_negative n_ cycle) (ok_negative n_ cycle)).mono fun _ _ ⟨_, hk, he, hb⟩ => ⟨by rw [he, hk], hb⟩

set_option maxHeartbeats 8000000 in
theorem w_tightest {h : FH} {w : World} (hs : Sub h w) (n_ : Network) (an_ : Option Addr) (cn_ : Nat) (_q1 : RSl h an_ n_.links) (_q2 : n_.links.length ≤ cn_) (K : (List (List Int) × Bool) → Prop) (hF : F_tightest n_ K) : Calls Try.prog 23 #[.agg #[.int .i64 n_.events, .slice an_ n_.links.length cn_]] w fun e w' => ∃ (r : List (List Int) × Bool) (z : Option Addr × Nat) (h1 : FH), K r ∧ e = .returned (.tuple #[.slice z.1 r.1.length z.2, .bool r.2]) ∧ FH.le h h1 ∧ (RSl h1 z.1 r.1 ∧ r.1.length ≤ z.2) ∧ SH (Kp.all w h) h1 w' [] := by
  refine enter (args := [.agg #[.int .i64 n_.events, .slice an_ n_.links.length cn_]]) Try.func23 rfl Try.ntmps23 rfl hs ?_
  refine .seq ?_
  refine .region ?_
  refine bx (vs := [.int .i64 n_.events, .slice an_ n_.links.length cn_]) rfl rfl rfl (fun pn => ?_)
  refine .v (asg rfl) rfl rfl rfl ?_
  refine .v (asg rfl) rfl rfl rfl ?_
  refine .nil ?_
  refine .seqN ?_
  refine .seq ?_
  refine .region ?_
  refine .v (asg rfl) rfl rfl rfl ?_
  refine .nil ?_
  refine .seqN ?_
  refine .seq ?_
  refine .seq ?_
  refine .region ?_
  refine .v (asg rfl) rfl rfl rfl ?_
  refine .nil ?_
  refine .seqN ?_
  refine .block ?_
  refine .nilSl 32 1 ?_
  refine .cast (A' := [OwnSl 32 1 none (([] : List (List Int)).length) 0 [], Box pn [.int .i64 n_.events, .slice an_ n_.links.length cn_]]) rfl ?_
  refine .sel0 [1, 0] (by decide) rfl ?_
  obtain ⟨I1, μ1, q319330, q319331⟩ := hF
  refine .loop' (σ := Int × List (List Int) × Option Addr × Nat × List Value × FH) (fun z => I1 z.1 z.2.1 ∧ RepL z.2.2.2.2.2 z.2.1 z.2.2.2.2.1 ∧ FH.le h z.2.2.2.2.2) (fun z => μ1 z.1 z.2.1) (fun z => [(1, .pointer (some pn)), (4, .slice z.2.2.1 z.2.1.length z.2.2.2.1), (5, .int .i64 z.1)]) (fun z => [Box pn [.int .i64 n_.events, .slice an_ n_.links.length cn_], OwnSl 32 1 z.2.2.1 z.2.1.length z.2.2.2.1 z.2.2.2.2.1]) (fun z => z.2.2.2.2.2) (0, ([] : List (List Int)), none, 0, [], h) ⟨q319330, (show RepL h ([] : List (List Int)) [] from rfl), (FH.le_refl _)⟩ (.cons rfl (.cons rfl (.cons rfl (.nil)))) rfl (FH.le_refl _) ?_
  rintro ⟨i, all, aall, call, csall, h19⟩ ⟨q319330, q255157, q255158⟩
  have hF := q319331 i all q319330
  show J _ _ _ _ _ [(1, .pointer (some pn)), (4, .slice aall all.length call), (5, .int .i64 i)] [Box pn [.int .i64 n_.events, .slice an_ n_.links.length cn_], OwnSl 32 1 aall all.length call csall] h19
  refine .seq ?_
  refine .seq ?_
  refine .region ?_
  refine .v (mv rfl) rfl rfl rfl ?_
  refine .v (fa rfl tF24_0) rfl rfl rfl ?_
  refine .v (ld1 rfl tO3 (cellB (off := 0) (k := 0) rfl rfl)) rfl rfl rfl ?_
  refine .v (bi rfl rfl rfl) rfl rfl rfl ?_
  refine .nil ?_
  refine .seqN ?_
  refine .cond rfl (fun q319333 => ?_) (fun q319333 => ?_)
  · replace hF := hF.1 q319333
    refine .skip ?_
    refine .seqN ?_
    refine .seq ?_
    refine .block ?_
    refine .seq ?_
    refine .region ?_
    refine .v (fa rfl tF24_0) rfl rfl rfl ?_
    refine .v (ld1 rfl tO3 (cellB (off := 0) (k := 0) rfl rfl)) rfl rfl rfl ?_
    obtain ⟨q362112, hF⟩ := hF
    refine mk (m := (n_.events).toNat) (cs' := flL (List.replicate (n_.events).toNat (0 : Int))) tS32 rfl rfl (Int.toNat_of_nonneg q362112.1).symm q362112.2.1 q362112.2.2 (flL_rep1 rfl _) rfl (fun a c => ?_)
    have q362113 : (List.replicate (n_.events).toNat (0 : Int)).length = (n_.events).toNat := List.length_replicate
    refine .cast (A' := [OwnSl 3 1 a ((n_.events).toNat) c (flL (List.replicate (n_.events).toNat (0 : Int))), Box pn [.int .i64 n_.events, .slice an_ n_.links.length cn_], OwnSl 32 1 aall all.length call csall]) rfl ?_
    refine .v (asg rfl) rfl rfl rfl ?_
    refine .nil ?_
    refine .seqN ?_
    refine .seq ?_
    refine .seq ?_
    refine .region ?_
    refine .v (asg rfl) rfl rfl rfl ?_
    refine .nil ?_
    refine .seqN ?_
    refine .block ?_
    refine .sel0 [1, 2, 0] (by decide) rfl ?_
    obtain ⟨I2, μ2, q362179, q362180⟩ := hF
    refine .loop' (σ := Int × List Int) (fun z => I2 z.1 z.2 ∧ z.2.length = (n_.events).toNat) (fun z => μ2 z.1 z.2) (fun z => [(1, .pointer (some pn)), (4, .slice aall all.length call), (5, .int .i64 i), (6, .slice a ((n_.events).toNat) c), (7, .int .i64 z.1)]) (fun z => [Box pn [.int .i64 n_.events, .slice an_ n_.links.length cn_], OwnSl 32 1 aall all.length call csall, OwnSl 3 1 a ((n_.events).toNat) c (flL z.2)]) (fun _ => h19) (0, (List.replicate (n_.events).toNat (0 : Int))) ⟨q362179, q362113⟩ (.cons rfl (.cons rfl (.cons rfl (.cons rfl (.cons rfl (.nil)))))) rfl (FH.le_refl _) ?_
    rintro ⟨j, row⟩ ⟨q362179, q362166⟩
    have hF := q362180 j row q362179
    show J _ _ _ _ _ [(1, .pointer (some pn)), (4, .slice aall all.length call), (5, .int .i64 i), (6, .slice a ((n_.events).toNat) c), (7, .int .i64 j)] [Box pn [.int .i64 n_.events, .slice an_ n_.links.length cn_], OwnSl 32 1 aall all.length call csall, OwnSl 3 1 a ((n_.events).toNat) c (flL row)] h19
    refine .seq ?_
    refine .seq ?_
    refine .region ?_
    refine .v (mv rfl) rfl rfl rfl ?_
    refine .v (fa rfl tF24_0) rfl rfl rfl ?_
    refine .v (ld1 rfl tO3 (cellB (off := 0) (k := 0) rfl rfl)) rfl rfl rfl ?_
    refine .v (bi rfl rfl rfl) rfl rfl rfl ?_
    refine .nil ?_
    refine .seqN ?_
    refine .cond rfl (fun q362182 => ?_) (fun q362182 => ?_)
    · replace hF := hF.1 q362182
      refine .skip ?_
      refine .seqN ?_
      refine .seq ?_
      refine .block ?_
      refine .region ?_
      refine .v (mv rfl) rfl rfl rfl ?_
      refine .v (mv rfl) rfl rfl rfl ?_
      obtain ⟨q362189, hF⟩ := hF
      refine .v (ixS rfl rfl tS32 (k := 2) rfl (inb_n q362189 q362166)) rfl rfl rfl ?_
      obtain ⟨d, q362190⟩ : ∃ y_ : List Int, y_ = (row.set (j).toNat 1000000000) := ⟨_, rfl⟩
      replace hF := hF d q362190
      refine stS (k := 2) (cs' := flL d) rfl (fun _ => rfl) rfl rfl (fun w => (tO3 w).2) rfl rfl rfl (by rw [← q362166]; exact inb_pos q362189) (fl_room q362189) (by rw [q362190]; exact flL_set q362189 1000000000) ?_
      have q362191 : d.length = (n_.events).toNat := by rw [q362190]; exact List.length_set.trans q362166
      refine .cast (A' := [Box pn [.int .i64 n_.events, .slice an_ n_.links.length cn_], OwnSl 32 1 aall all.length call csall, OwnSl 3 1 a ((n_.events).toNat) c (flL d)]) rfl ?_
      refine .nil ?_
      refine .blkN ?_
      refine .seqN ?_
      refine .region ?_
      refine .v (mv rfl) rfl rfl rfl ?_
      refine .v (bi rfl rfl rfl) rfl rfl rfl ?_
      refine .v (asg rfl) rfl rfl rfl ?_
      refine .nil ?_
      exact .round (IntKind.i64.wrap (j + 1), d) ⟨hF.1, q362191⟩ hF.2 (.cons rfl (.cons rfl (.cons rfl (.cons rfl (.cons rfl (.nil)))))) rfl (FH.le_refl _)
    replace hF := hF.2 q362182
    refine .exit ?_
    refine .seqX ?_
    refine .seqX ?_
    refine .blkX ?_
    refine .seqN ?_
    refine .seq ?_
    refine .region ?_
    refine .v (mv rfl) rfl rfl rfl ?_
    refine .v (mv rfl) rfl rfl rfl ?_
    obtain ⟨q362192, hF⟩ := hF
    refine .v (ixS rfl rfl tS32 (k := 2) rfl (inb_n q362192 q362166)) rfl rfl rfl ?_
    obtain ⟨d2, q362193⟩ : ∃ y_ : List Int, y_ = (row.set (i).toNat 0) := ⟨_, rfl⟩
    replace hF := hF d2 q362193
    refine stS (k := 2) (cs' := flL d2) rfl (fun _ => rfl) rfl rfl (fun w => (tO3 w).2) rfl rfl rfl (by rw [← q362166]; exact inb_pos q362192) (fl_room q362192) (by rw [q362193]; exact flL_set q362192 0) ?_
    have q362194 : d2.length = (n_.events).toNat := by rw [q362193]; exact List.length_set.trans q362166
    refine .cast (A' := [Box pn [.int .i64 n_.events, .slice an_ n_.links.length cn_], OwnSl 32 1 aall all.length call csall, OwnSl 3 1 a ((n_.events).toNat) c (flL d2)]) rfl ?_
    refine .nil ?_
    refine .seqN ?_
    refine .seq ?_
    refine .seq ?_
    refine .region ?_
    refine .v (asg rfl) rfl rfl rfl ?_
    refine .nil ?_
    refine .seqN ?_
    refine .block ?_
    obtain ⟨I3, μ3, q379945, q379946⟩ := hF
    refine .loop' (σ := Int × List Int) (fun z => I3 z.1 z.2 ∧ z.2.length = (n_.events).toNat) (fun z => μ3 z.1 z.2) (fun z => [(1, .pointer (some pn)), (4, .slice aall all.length call), (5, .int .i64 i), (6, .slice a ((n_.events).toNat) c), (8, .int .i64 z.1)]) (fun z => [Box pn [.int .i64 n_.events, .slice an_ n_.links.length cn_], OwnSl 32 1 aall all.length call csall, OwnSl 3 1 a ((n_.events).toNat) c (flL z.2)]) (fun _ => h19) (0, d2) ⟨q379945, q362194⟩ (.cons rfl (.cons rfl (.cons rfl (.cons rfl (.cons rfl (.nil)))))) rfl (FH.le_refl _) ?_
    rintro ⟨round, row3⟩ ⟨q379945, q376395⟩
    have hF := q379946 round row3 q379945
    show J _ _ _ _ _ [(1, .pointer (some pn)), (4, .slice aall all.length call), (5, .int .i64 i), (6, .slice a ((n_.events).toNat) c), (8, .int .i64 round)] [Box pn [.int .i64 n_.events, .slice an_ n_.links.length cn_], OwnSl 32 1 aall all.length call csall, OwnSl 3 1 a ((n_.events).toNat) c (flL row3)] h19
    refine .seq ?_
    refine .seq ?_
    refine .region ?_
    refine .v (mv rfl) rfl rfl rfl ?_
    refine .v (fa rfl tF24_0) rfl rfl rfl ?_
    refine .v (ld1 rfl tO3 (cellB (off := 0) (k := 0) rfl rfl)) rfl rfl rfl ?_
    refine .v (bi rfl rfl rfl) rfl rfl rfl ?_
    refine .nil ?_
    refine .seqN ?_
    refine .cond rfl (fun q379948 => ?_) (fun q379948 => ?_)
    · replace hF := hF.1 q379948
      refine .skip ?_
      refine .seqN ?_
      refine .seq ?_
      refine .block ?_
      refine .seq ?_
      refine .region ?_
      refine .v (asg rfl) rfl rfl rfl ?_
      refine .nil ?_
      refine .seqN ?_
      refine .block ?_
      obtain ⟨I4, μ4, q383101, q383102⟩ := hF
      refine .loop' (σ := Int × List Int) (fun z => I4 z.1 z.2 ∧ z.2.length = (n_.events).toNat) (fun z => μ4 z.1 z.2) (fun z => [(1, .pointer (some pn)), (4, .slice aall all.length call), (5, .int .i64 i), (6, .slice a ((n_.events).toNat) c), (8, .int .i64 round), (9, .int .i64 z.1)]) (fun z => [Box pn [.int .i64 n_.events, .slice an_ n_.links.length cn_], OwnSl 32 1 aall all.length call csall, OwnSl 3 1 a ((n_.events).toNat) c (flL z.2)]) (fun _ => h19) (0, row3) ⟨q383101, q376395⟩ (.cons rfl (.cons rfl (.cons rfl (.cons rfl (.cons rfl (.cons rfl (.nil))))))) rfl (FH.le_refl _) ?_
      rintro ⟨a2, row5⟩ ⟨q383101, q382707⟩
      have hF := q383102 a2 row5 q383101
      show J _ _ _ _ _ [(1, .pointer (some pn)), (4, .slice aall all.length call), (5, .int .i64 i), (6, .slice a ((n_.events).toNat) c), (8, .int .i64 round), (9, .int .i64 a2)] [Box pn [.int .i64 n_.events, .slice an_ n_.links.length cn_], OwnSl 32 1 aall all.length call csall, OwnSl 3 1 a ((n_.events).toNat) c (flL row5)] h19
      refine .seq ?_
      refine .seq ?_
      refine .region ?_
      refine .v (mv rfl) rfl rfl rfl ?_
      refine .v (fa rfl tF24_0) rfl rfl rfl ?_
      refine .v (ld1 rfl tO3 (cellB (off := 0) (k := 0) rfl rfl)) rfl rfl rfl ?_
      refine .v (bi rfl rfl rfl) rfl rfl rfl ?_
      refine .nil ?_
      refine .seqN ?_
      refine .cond rfl (fun q383104 => ?_) (fun q383104 => ?_)
      · replace hF := hF.1 q383104
        refine .skip ?_
        refine .seqN ?_
        refine .seq ?_
        refine .block ?_
        refine .seq ?_
        refine .region ?_
        refine .v (asg rfl) rfl rfl rfl ?_
        refine .nil ?_
        refine .seqN ?_
        refine .block ?_
        obtain ⟨I5, μ5, q383453, q383454⟩ := hF
        refine .loop' (σ := Int × List Int) (fun z => I5 z.1 z.2 ∧ z.2.length = (n_.events).toNat) (fun z => μ5 z.1 z.2) (fun z => [(1, .pointer (some pn)), (4, .slice aall all.length call), (5, .int .i64 i), (6, .slice a ((n_.events).toNat) c), (8, .int .i64 round), (9, .int .i64 a2), (10, .int .i64 z.1)]) (fun z => [Box pn [.int .i64 n_.events, .slice an_ n_.links.length cn_], OwnSl 32 1 aall all.length call csall, OwnSl 3 1 a ((n_.events).toNat) c (flL z.2)]) (fun _ => h19) (0, row5) ⟨q383453, q382707⟩ (.cons rfl (.cons rfl (.cons rfl (.cons rfl (.cons rfl (.cons rfl (.cons rfl (.nil)))))))) rfl (FH.le_refl _) ?_
        rintro ⟨b, row7⟩ ⟨q383453, q383411⟩
        have hF := q383454 b row7 q383453
        show J _ _ _ _ _ [(1, .pointer (some pn)), (4, .slice aall all.length call), (5, .int .i64 i), (6, .slice a ((n_.events).toNat) c), (8, .int .i64 round), (9, .int .i64 a2), (10, .int .i64 b)] [Box pn [.int .i64 n_.events, .slice an_ n_.links.length cn_], OwnSl 32 1 aall all.length call csall, OwnSl 3 1 a ((n_.events).toNat) c (flL row7)] h19
        refine .seq ?_
        refine .seq ?_
        refine .region ?_
        refine .v (mv rfl) rfl rfl rfl ?_
        refine .v (fa rfl tF24_0) rfl rfl rfl ?_
        refine .v (ld1 rfl tO3 (cellB (off := 0) (k := 0) rfl rfl)) rfl rfl rfl ?_
        refine .v (bi rfl rfl rfl) rfl rfl rfl ?_
        refine .nil ?_
        refine .seqN ?_
        refine .cond rfl (fun q383456 => ?_) (fun q383456 => ?_)
        · replace hF := hF.1 q383456
          refine .skip ?_
          refine .seqN ?_
          refine .share (σ := List Int) (fun z => F_tightest_J1 b I5 μ5 row7 z ∧ z.length = (n_.events).toNat) (fun _ => [(1, .pointer (some pn)), (4, .slice aall all.length call), (5, .int .i64 i), (6, .slice a ((n_.events).toNat) c), (8, .int .i64 round), (9, .int .i64 a2), (10, .int .i64 b)]) (fun z => [Box pn [.int .i64 n_.events, .slice an_ n_.links.length cn_], OwnSl 32 1 aall all.length call csall, OwnSl 3 1 a ((n_.events).toNat) c (flL z)]) (fun _ => h19) ?_ (fun q383476 => ?_)
          · rintro row9 ⟨hF, q383475⟩
            show J _ _ _ _ _ [(1, .pointer (some pn)), (4, .slice aall all.length call), (5, .int .i64 i), (6, .slice a ((n_.events).toNat) c), (8, .int .i64 round), (9, .int .i64 a2), (10, .int .i64 b)] [Box pn [.int .i64 n_.events, .slice an_ n_.links.length cn_], OwnSl 32 1 aall all.length call csall, OwnSl 3 1 a ((n_.events).toNat) c (flL row9)] h19
            refine .region ?_
            refine .v (mv rfl) rfl rfl rfl ?_
            refine .v (bi rfl rfl rfl) rfl rfl rfl ?_
            refine .v (asg rfl) rfl rfl rfl ?_
            refine .nil ?_
            exact .round (IntKind.i64.wrap (b + 1), row9) ⟨hF.1, q383475⟩ hF.2 (.cons rfl (.cons rfl (.cons rfl (.cons rfl (.cons rfl (.cons rfl (.cons rfl (.nil)))))))) rfl (FH.le_refl _)
          refine .block ?_
          refine .seq ?_
          refine .region ?_
          refine .v (ldA (cs := [.int .i64 n_.events, .slice an_ n_.links.length cn_]) rfl tA24 rfl (cellsB (off := 0) (k := 0) rfl (m := 2) rfl)) rfl rfl rfl ?_
          refine .v (mv rfl) rfl rfl rfl ?_
          refine .v (mv rfl) rfl rfl rfl ?_
          obtain ⟨q383477, hF⟩ := hF
          obtain ⟨r2, q383478⟩ : ∃ y_ : Int, y_ = sp_direct n_ a2 b := ⟨_, rfl⟩
          replace hF := hF r2 q383478
          refine .c (cl (v := .int .i64 r2) Try.call27 rfl rfl (fun w S => (by rw [q383478]; exact c_direct S.sub n_ an_ cn_ (_q1.mono (q255158)) _q2 a2 b q383477))) rfl rfl rfl ?_
          refine .v (asg rfl) rfl rfl rfl ?_
          refine .nil ?_
          refine .seqN ?_
          refine .share (σ := Bool) (fun z => F_tightest_J2 n_ K r2 z b I5 μ5 a2 row7 round) (fun z => [(1, .pointer (some pn)), (4, .slice aall all.length call), (5, .int .i64 i), (6, .slice a ((n_.events).toNat) c), (8, .int .i64 round), (9, .int .i64 a2), (10, .int .i64 b), (11, .int .i64 r2), (76, .bool z)]) (fun _ => [Box pn [.int .i64 n_.events, .slice an_ n_.links.length cn_], OwnSl 32 1 aall all.length call csall, OwnSl 3 1 a ((n_.events).toNat) c (flL row7)]) (fun _ => h19) ?_ (fun q383483 => ?_)
          · rintro t76 hF
            show J _ _ _ _ _ [(1, .pointer (some pn)), (4, .slice aall all.length call), (5, .int .i64 i), (6, .slice a ((n_.events).toNat) c), (8, .int .i64 round), (9, .int .i64 a2), (10, .int .i64 b), (11, .int .i64 r2), (76, .bool t76)] [Box pn [.int .i64 n_.events, .slice an_ n_.links.length cn_], OwnSl 32 1 aall all.length call csall, OwnSl 3 1 a ((n_.events).toNat) c (flL row7)] h19
            refine .cond rfl (fun q383484 => ?_) (fun q383484 => ?_)
            · replace hF := hF.1 q383484
              refine .seq ?_
              refine .seq ?_
              refine .region ?_
              refine .v (mv rfl) rfl rfl rfl ?_
              refine .v (fa rfl tF24_0) rfl rfl rfl ?_
              refine .v (ld1 rfl tO3 (cellB (off := 0) (k := 0) rfl rfl)) rfl rfl rfl ?_
              refine .v (bi rfl rfl rfl) rfl rfl rfl ?_
              refine .nil ?_
              refine .seqN ?_
              refine .cond rfl (fun q383486 => ?_) (fun q383486 => ?_)
              · replace hF := hF.1 q383486
                refine .seq ?_
                refine .region ?_
                refine .v (asg rfl) rfl rfl rfl ?_
                refine .v (asg rfl) rfl rfl rfl ?_
                refine .nil ?_
                refine .seqN ?_
                refine .ret ?_
                refine .seqR ?_
                refine .blkR ?_
                refine .seqR ?_
                refine .seqR ?_
                refine .blkR ?_
                refine .blkR ?_
                refine .seqR ?_
                refine .seqR ?_
                refine .blkR ?_
                refine .blkR ?_
                refine .seqR ?_
                refine .seqR ?_
                refine .blkR ?_
                refine .seqR ?_
                refine .blkR ?_
                refine .seqR ?_
                refine .seqR ?_
                refine .blkR ?_
                refine .seqR ?_
                refine .res2 rfl (rvT rfl) (rvT rfl) (fun w' S => ⟨(([] : List (List Int)), false), (none, 0), h19, hF, rfl, (q255158), ⟨RSl.nil_, (Nat.le_refl 0)⟩, S.none⟩)
              replace hF := hF.2 q383486
              refine .skip ?_
              refine .seqN ?_
              refine .region ?_
              refine .v (mv rfl) rfl rfl rfl ?_
              refine .v (mv rfl) rfl rfl rfl ?_
              refine .v (mv rfl) rfl rfl rfl ?_
              refine .v (mv rfl) rfl rfl rfl ?_
              obtain ⟨q383487, hF⟩ := hF
              refine .v (ixS rfl rfl tS32 (k := 2) rfl (inb_n q383487 q383411)) rfl rfl rfl ?_
              refine .v (ld1 (v := .int .i64 (gt row7 a2)) rfl tO3 (cellS (k := 2) rfl (flL_get q383487 (j := 0) rfl))) rfl rfl rfl ?_
              refine .v (mv rfl) rfl rfl rfl ?_
              refine .v (bi rfl rfl rfl) rfl rfl rfl ?_
              obtain ⟨q383488, hF⟩ := hF
              refine .v (ixS rfl rfl tS32 (k := 2) rfl (inb_n q383488 q383411)) rfl rfl rfl ?_
              obtain ⟨d3, q383489⟩ : ∃ y_ : List Int, y_ = (row7.set (b).toNat (IntKind.i64.wrap ((gt row7 a2) + r2))) := ⟨_, rfl⟩
              replace hF := hF d3 q383489
              refine stS (k := 2) (cs' := flL d3) rfl (fun _ => rfl) rfl rfl (fun w => (tO3 w).2) rfl rfl rfl (by rw [← q383411]; exact inb_pos q383488) (fl_room q383488) (by rw [q383489]; exact flL_set q383488 (IntKind.i64.wrap ((gt row7 a2) + r2))) ?_
              have q383490 : d3.length = (n_.events).toNat := by rw [q383489]; exact List.length_set.trans q383411
              refine .cast (A' := [Box pn [.int .i64 n_.events, .slice an_ n_.links.length cn_], OwnSl 32 1 aall all.length call csall, OwnSl 3 1 a ((n_.events).toNat) c (flL d3)]) rfl ?_
              refine .nil ?_
              refine .blkN ?_
              exact .use q383476 d3 ⟨hF, q383490⟩ (.cons rfl (.cons rfl (.cons rfl (.cons rfl (.cons rfl (.cons rfl (.cons rfl (.nil)))))))) rfl (FH.le_refl _)
            replace hF := hF.2 q383484
            refine .skip ?_
            refine .blkN ?_
            exact .use q383476 row7 ⟨hF, q383411⟩ (.cons rfl (.cons rfl (.cons rfl (.cons rfl (.cons rfl (.cons rfl (.cons rfl (.nil)))))))) rfl (FH.le_refl _)
          refine .open_ (by kernel_rfl) (by kernel_rfl) ?_
          refine .v (mv rfl) rfl rfl rfl ?_
          refine .v (mv rfl) rfl rfl rfl ?_
          obtain ⟨q383491, hF⟩ := hF
          refine .v (ixS rfl rfl tS32 (k := 2) rfl (inb_n q383491 q383411)) rfl rfl rfl ?_
          refine .v (ld1 (v := .int .i64 (gt row7 a2)) rfl tO3 (cellS (k := 2) rfl (flL_get q383491 (j := 0) rfl))) rfl rfl rfl ?_
          refine .v (bi rfl rfl rfl) rfl rfl rfl ?_
          refine .v (mv rfl) rfl rfl rfl ?_
          rcases Bool.eq_false_or_eq_true (decide ((gt row7 a2) < 1000000000)) with q383492 | q383492
          · replace hF := hF.1 q383492
            refine .gv (mv rfl) rfl rfl rfl q383492 rfl rfl ?_
            refine .gv (bi rfl rfl rfl) rfl rfl rfl q383492 rfl rfl ?_
            refine .v (pkT rfl q383492 rfl) rfl rfl rfl ?_
            refine .v (mv rfl) rfl rfl rfl ?_
            rcases Bool.eq_false_or_eq_true (decide (r2 < 1000000000)) with q383493 | q383493
            · replace hF := hF.1 q383493
              refine .gv (mv rfl) rfl rfl rfl q383493 rfl rfl ?_
              refine .gv (mv rfl) rfl rfl rfl q383493 rfl rfl ?_
              refine .gv (ixS rfl rfl tS32 (k := 2) rfl (inb_n q383491 q383411)) rfl rfl rfl q383493 rfl rfl ?_
              refine .gv (ld1 (v := .int .i64 (gt row7 a2)) rfl tO3 (cellS (k := 2) rfl (flL_get q383491 (j := 0) rfl))) rfl rfl rfl q383493 rfl rfl ?_
              refine .gv (mv rfl) rfl rfl rfl q383493 rfl rfl ?_
              refine .gv (bi rfl rfl rfl) rfl rfl rfl q383493 rfl rfl ?_
              refine .gv (mv rfl) rfl rfl rfl q383493 rfl rfl ?_
              refine .gv (mv rfl) rfl rfl rfl q383493 rfl rfl ?_
              obtain ⟨q383494, hF⟩ := hF
              refine .gv (ixS rfl rfl tS32 (k := 2) rfl (inb_n q383494 q383411)) rfl rfl rfl q383493 rfl rfl ?_
              refine .gv (ld1 (v := .int .i64 (gt row7 b)) rfl tO3 (cellS (k := 2) rfl (flL_get q383494 (j := 0) rfl))) rfl rfl rfl q383493 rfl rfl ?_
              refine .gv (bi rfl rfl rfl) rfl rfl rfl q383493 rfl rfl ?_
              refine .v (pkT rfl q383493 rfl) rfl rfl rfl ?_
              refine .fin ?_
              exact .use q383483 (decide ((IntKind.i64.wrap ((gt row7 a2) + r2)) < (gt row7 b))) hF (.cons rfl (.cons rfl (.cons rfl (.cons rfl (.cons rfl (.cons rfl (.cons rfl (.cons rfl (.cons rfl (.nil)))))))))) rfl (FH.le_refl _)
            replace hF := hF.2 q383493
            refine .gS rfl rfl rfl q383493 rfl rfl ?_
            refine .gS rfl rfl rfl q383493 rfl rfl ?_
            refine .gS rfl rfl rfl q383493 rfl rfl ?_
            refine .gS rfl rfl rfl q383493 rfl rfl ?_
            refine .gS rfl rfl rfl q383493 rfl rfl ?_
            refine .gS rfl rfl rfl q383493 rfl rfl ?_
            refine .gS rfl rfl rfl q383493 rfl rfl ?_
            refine .gS rfl rfl rfl q383493 rfl rfl ?_
            refine .gS rfl rfl rfl q383493 rfl rfl ?_
            refine .gS rfl rfl rfl q383493 rfl rfl ?_
            refine .gS rfl rfl rfl q383493 rfl rfl ?_
            refine .v (pkF rfl q383493 rfl) rfl rfl rfl ?_
            refine .fin ?_
            exact .use q383483 false hF (.cons rfl (.cons rfl (.cons rfl (.cons rfl (.cons rfl (.cons rfl (.cons rfl (.cons rfl (.cons rfl (.nil)))))))))) rfl (FH.le_refl _)
          replace hF := hF.2 q383492
          refine .gS rfl rfl rfl q383492 rfl rfl ?_
          refine .gS rfl rfl rfl q383492 rfl rfl ?_
          refine .v (pkF rfl q383492 rfl) rfl rfl rfl ?_
          refine .v (mv rfl) rfl rfl rfl ?_
          refine .gS rfl rfl rfl rfl rfl rfl ?_
          refine .gS rfl rfl rfl rfl rfl rfl ?_
          refine .gS rfl rfl rfl rfl rfl rfl ?_
          refine .gS rfl rfl rfl rfl rfl rfl ?_
          refine .gS rfl rfl rfl rfl rfl rfl ?_
          refine .gS rfl rfl rfl rfl rfl rfl ?_
          refine .gS rfl rfl rfl rfl rfl rfl ?_
          refine .gS rfl rfl rfl rfl rfl rfl ?_
          refine .gS rfl rfl rfl rfl rfl rfl ?_
          refine .gS rfl rfl rfl rfl rfl rfl ?_
          refine .gS rfl rfl rfl rfl rfl rfl ?_
          refine .v (pkF rfl rfl rfl) rfl rfl rfl ?_
          refine .fin ?_
          exact .use q383483 false hF (.cons rfl (.cons rfl (.cons rfl (.cons rfl (.cons rfl (.cons rfl (.cons rfl (.cons rfl (.cons rfl (.nil)))))))))) rfl (FH.le_refl _)
        replace hF := hF.2 q383456
        refine .exit ?_
        refine .seqX ?_
        refine .seqX ?_
        refine .blkX ?_
        refine .blkN ?_
        refine .seqN ?_
        refine .region ?_
        refine .v (mv rfl) rfl rfl rfl ?_
        refine .v (bi rfl rfl rfl) rfl rfl rfl ?_
        refine .v (asg rfl) rfl rfl rfl ?_
        refine .nil ?_
        exact .round (IntKind.i64.wrap (a2 + 1), row7) ⟨hF.1, q383411⟩ hF.2 (.cons rfl (.cons rfl (.cons rfl (.cons rfl (.cons rfl (.cons rfl (.nil))))))) rfl (FH.le_refl _)
      replace hF := hF.2 q383104
      refine .exit ?_
      refine .seqX ?_
      refine .seqX ?_
      refine .blkX ?_
      refine .blkN ?_
      refine .seqN ?_
      refine .region ?_
      refine .v (mv rfl) rfl rfl rfl ?_
      refine .v (bi rfl rfl rfl) rfl rfl rfl ?_
      refine .v (asg rfl) rfl rfl rfl ?_
      refine .nil ?_
      exact .round (IntKind.i64.wrap (round + 1), row5) ⟨hF.1, q382707⟩ hF.2 (.cons rfl (.cons rfl (.cons rfl (.cons rfl (.cons rfl (.nil)))))) rfl (FH.le_refl _)
    replace hF := hF.2 q379948
    refine .exit ?_
    refine .seqX ?_
    refine .seqX ?_
    refine .blkX ?_
    refine .seqN ?_
    refine .region ?_
    refine .v (mv rfl) rfl rfl rfl ?_
    refine .v (mv rfl) rfl rfl rfl ?_
    refine .freezeL (k := 2) rfl (fun h26 le26 q383496 q383495 => ?_)
    refine .cast (A' := [Box pn [.int .i64 n_.events, .slice an_ n_.links.length cn_], OwnSl 32 1 aall all.length call csall, tru]) rfl ?_
    refine bs2 (cs := #[.slice a ((n_.events).toNat) c]) (pv := [(0, .slice a ((n_.events).toNat) c)]) tS25 rfl rfl (by decide) (by decide) rfl rfl rfl (fun a4 _ => ?_)
    refine .cast (A' := [OwnSl 32 1 a4 (([row3] : List (List Int)).length) 1 [.slice a ((n_.events).toNat) c], Box pn [.int .i64 n_.events, .slice an_ n_.links.length cn_], OwnSl 32 1 aall all.length call csall, tru]) rfl ?_
    obtain ⟨q383498, hF⟩ := hF
    have q383499 : all.length + ([row3] : List (List Int)).length = ((all ++ ([row3] : List (List Int)))).length := len_app rfl rfl
    have q383500 := RepL.append (RepL.mono (le26) q255157) (show RepL h26 ([row3] : List (List Int)) [.slice a ((n_.events).toNat) c] from ⟨[.slice a ((n_.events).toNat) c], _, rfl, ⟨a, c, (by rw [q376395]), (by rw [q376395]; exact q383496), (RSl.of q383495)⟩, rfl⟩)
    refine app (k := 2) (news := [.slice a ((n_.events).toNat) c]) (cs' := (csall ++ [.slice a ((n_.events).toNat) c])) (nm := ((all ++ ([row3] : List (List Int)))).length) tS25 rfl (by decide) rfl rfl rfl (RepL.len (show RepL h26 ([row3] : List (List Int)) [.slice a ((n_.events).toNat) c] from ⟨[.slice a ((n_.events).toNat) c], _, rfl, ⟨a, c, (by rw [q376395]), (by rw [q376395]; exact q383496), (RSl.of q383495)⟩, rfl⟩)) (srcS (k := 0) rfl) (RepL.one (show RepL h26 ([row3] : List (List Int)) [.slice a ((n_.events).toNat) c] from ⟨[.slice a ((n_.events).toNat) c], _, rfl, ⟨a, c, (by rw [q376395]), (by rw [q376395]; exact q383496), (RSl.of q383495)⟩, rfl⟩)) (room_of q383499 q383498).1 (room_of q383499 q383498).2 q383499 rfl rfl (fun a5 c2 => ?_)
    refine .cast (A' := [OwnSl 32 1 a4 (([row3] : List (List Int)).length) 1 [.slice a ((n_.events).toNat) c], Box pn [.int .i64 n_.events, .slice an_ n_.links.length cn_], OwnSl 32 1 a5 ((all ++ ([row3] : List (List Int))).length) c2 (csall ++ [.slice a ((n_.events).toNat) c]), tru]) rfl ?_
    refine .v (asg rfl) rfl rfl rfl ?_
    refine .nil ?_
    refine .blkN ?_
    refine .seqN ?_
    refine .region ?_
    refine .v (mv rfl) rfl rfl rfl ?_
    refine .v (bi rfl rfl rfl) rfl rfl rfl ?_
    refine .v (asg rfl) rfl rfl rfl ?_
    refine .nil ?_
    refine .sel0 [1, 2] (by decide) rfl ?_
    exact .round (IntKind.i64.wrap (i + 1), (all ++ ([row3] : List (List Int))), a5, c2, (csall ++ [.slice a ((n_.events).toNat) c]), h26) ⟨hF.1, q383500, (FH.le_trans (q255158) (le26))⟩ hF.2 (.cons rfl (.cons rfl (.cons rfl (.nil)))) rfl (FH.le_refl _)
  replace hF := hF.2 q319333
  refine .exit ?_
  refine .seqX ?_
  refine .seqX ?_
  refine .blkX ?_
  refine .seqN ?_
  refine .seq ?_
  refine .region ?_
  refine .v (mv rfl) rfl rfl rfl ?_
  refine .v (asg rfl) rfl rfl rfl ?_
  refine .v (asg rfl) rfl rfl rfl ?_
  refine .nil ?_
  refine .seqN ?_
  refine .freezeL (k := 1) rfl (fun h27 le27 q383502 q383501 => ?_)
  refine .cast (A' := [Box pn [.int .i64 n_.events, .slice an_ n_.links.length cn_], tru]) rfl ?_
  refine .ret ?_
  refine .res2 rfl (rvT rfl) (rvT rfl) (fun w' S => ⟨(all, true), (aall, call), h27, hF, rfl, (FH.le_trans (q255158) (le27)), ⟨(⟨_, q255157.mono (le27), q383501⟩ : RSl h27 aall all), (q383502)⟩, S.none⟩)

theorem c_tightest {h : FH} {w : World} (hs : Sub h w) (n_ : Network) (an_ : Option Addr) (cn_ : Nat) (_q1 : RSl h an_ n_.links) (_q2 : n_.links.length ≤ cn_) (hp : pre_tightest n_) : Calls Try.prog 23 #[.agg #[.int .i64 n_.events, .slice an_ n_.links.length cn_]] w fun e w' => ∃ (z : Option Addr × Nat) (h1 : FH), e = .returned (.tuple #[.slice z.1 (sp_tighten n_).1.length z.2, .bool (sp_tighten n_).2]) ∧ FH.le h h1 ∧ (RSl h1 z.1 (sp_tighten n_).1 ∧ (sp_tighten n_).1.length ≤ z.2) ∧ SH (Kp.all w h) h1 w' [] :=
  (w_tightest hs n_ an_ cn_ _q1 _q2 (fun r => r = sp_tighten n_) (ok_tightest n_ hp)).mono fun _ _ ⟨r, z, h1, hk, he, hl, hf, hS⟩ => by subst hk; exact ⟨z, h1, he, hl, hf, hS⟩

theorem w_bounded {h : FH} {w : World} (hs : Sub h w) (K : Bool → Prop) (hF : F_bounded  K) : Calls Try.prog 17 #[] w fun e w' => ∃ r : Bool, K r ∧ e = .returned (.bool r) ∧ Below w.heap.size w w' := by
  refine enter (args := []) Try.func17 rfl Try.ntmps17 rfl hs ?_
  refine .seq ?_
  refine .region ?_
  refine .v (asg rfl) rfl rfl rfl ?_
  refine .nil ?_
  refine .seqN ?_
  refine .seq ?_
  refine .region ?_
  obtain ⟨r2, q1⟩ : ∃ y_ : Network, y_ = sp_pair 2 5 := ⟨_, rfl⟩
  replace hF := hF r2 q1
  refine clR (α := Option Addr × Nat) (Φ := fun h1 z => RSl h1 z.1 r2.links ∧ r2.links.length ≤ z.2) (V := fun z => .agg #[.int .i64 r2.events, .slice z.1 r2.links.length z.2]) Try.call46 rfl rfl (fun w S => (by rw [q1]; exact c_pair S.sub 2 5 )) rfl (fun z h1 le1 hz => ?_)
  obtain ⟨a, c⟩ := z
  obtain ⟨q2, q3⟩ := hz
  obtain ⟨r3, q4⟩ : ∃ y_ : List (List Int) × Bool × Fault, y_ = sp_minimal r2 := ⟨_, rfl⟩
  replace hF := hF r3 q4
  refine clR (α := Option Addr × Nat) (Φ := fun h1 z => RSl h1 z.1 r3.1 ∧ r3.1.length ≤ z.2) (V := fun z => .tuple #[.slice z.1 r3.1.length z.2, .bool r3.2.1, .agg #[.int .i64 r3.2.2.code, .int .i64 r3.2.2.index]]) Try.call15 rfl rfl (fun w S => (by rw [q4]; exact c_minimal S.sub r2 a c q2 q3 )) rfl (fun z h2 le2 hz => ?_)
  obtain ⟨a2, c2⟩ := z
  obtain ⟨q5, q6⟩ := hz
  refine .v (mv rfl) rfl rfl rfl ?_
  refine .v (ext rfl rfl) rfl rfl rfl ?_
  refine .v (ext rfl rfl) rfl rfl rfl ?_
  refine .v (ext rfl rfl) rfl rfl rfl ?_
  refine al tZ27 rfl (fun pf => ?_)
  refine .v (asg rfl) rfl rfl rfl ?_
  refine .v (asg rfl) rfl rfl rfl ?_
  refine st (p := pf) (off := 0) (k := 0) (vs := [.int .i64 r3.2.2.code, .int .i64 r3.2.2.index]) rfl rfl rfl (fun w => (tA27 w).2) rfl rfl rfl rfl ?_
  refine .cast (A' := [Box pf [.int .i64 r3.2.2.code, .int .i64 r3.2.2.index]]) rfl ?_
  refine .nil ?_
  refine .seqN ?_
  refine .seq ?_
  refine .region ?_
  refine .v (fa rfl tF27_0) rfl rfl rfl ?_
  refine .v (ld1 rfl tO3 (cellB (off := 0) (k := 0) rfl rfl)) rfl rfl rfl ?_
  refine .v (bi rfl rfl rfl) rfl rfl rfl ?_
  refine .v (mv rfl) rfl rfl rfl ?_
  rcases Bool.eq_false_or_eq_true (r3.2.2.code == 0) with q20 | q20
  · replace hF := hF.1 q20
    refine .gv (mv rfl) rfl rfl rfl q20 rfl rfl ?_
    refine .v (pkT rfl q20 rfl) rfl rfl rfl ?_
    refine .v (mv rfl) rfl rfl rfl ?_
    rcases Bool.eq_false_or_eq_true (r3.2.1) with q21 | q21
    · replace hF := hF.1 q21
      refine .gv (mv rfl) rfl rfl rfl q21 rfl rfl ?_
      refine .gR rfl rfl rfl q21 ?_
      refine bs2 (cs := #[.int .i64 0, .int .i64 5]) (pv := [(0, .int .i64 0), (1, .int .i64 5)]) tS32 rfl rfl (by decide) (by decide) rfl rfl rfl (fun a3 _ => ?_)
      refine .cast (A' := [OwnSl 3 1 a3 (([0, 5] : List Int).length) 2 (flL ([0, 5] : List Int)), Box pf [.int .i64 r3.2.2.code, .int .i64 r3.2.2.index]]) rfl ?_
      refine .gR rfl rfl rfl q21 ?_
      refine bs2 (cs := #[.int .i64 (-2), .int .i64 0]) (pv := [(0, .int .i64 (-2)), (1, .int .i64 0)]) tS32 rfl rfl (by decide) (by decide) rfl rfl rfl (fun a4 _ => ?_)
      refine .cast (A' := [OwnSl 3 1 a4 (([(-2), 0] : List Int).length) 2 (flL ([(-2), 0] : List Int)), OwnSl 3 1 a3 (([0, 5] : List Int).length) 2 (flL ([0, 5] : List Int)), Box pf [.int .i64 r3.2.2.code, .int .i64 r3.2.2.index]]) rfl ?_
      refine .gR rfl rfl rfl q21 ?_
      refine .freezeL (k := 1) rfl (fun h6 le6 q25 q24 => ?_)
      refine .cast (A' := [OwnSl 3 1 a4 (([(-2), 0] : List Int).length) 2 (flL ([(-2), 0] : List Int)), tru, Box pf [.int .i64 r3.2.2.code, .int .i64 r3.2.2.index]]) rfl ?_
      refine .freezeL (k := 0) rfl (fun h7 le7 q27 q26 => ?_)
      refine .cast (A' := [tru, tru, Box pf [.int .i64 r3.2.2.code, .int .i64 r3.2.2.index]]) rfl ?_
      refine bs2 (cs := #[.slice a3 (([0, 5] : List Int).length) 2, .slice a4 (([(-2), 0] : List Int).length) 2]) (pv := [(0, .slice a3 (([0, 5] : List Int).length) 2), (1, .slice a4 (([(-2), 0] : List Int).length) 2)]) tS25 rfl rfl (by decide) (by decide) rfl rfl rfl (fun a5 _ => ?_)
      refine .cast (A' := [OwnSl 32 1 a5 (([([0, 5] : List Int), ([(-2), 0] : List Int)] : List (List Int)).length) 2 [.slice a3 (([0, 5] : List Int).length) 2, .slice a4 (([(-2), 0] : List Int).length) 2], tru, tru, Box pf [.int .i64 r3.2.2.code, .int .i64 r3.2.2.index]]) rfl ?_
      refine .freezeL (k := 0) rfl (fun h8 le8 q30 q29 => ?_)
      refine .cast (A' := [tru, tru, tru, Box pf [.int .i64 r3.2.2.code, .int .i64 r3.2.2.index]]) rfl ?_
      obtain ⟨q31, hF⟩ := hF
      obtain ⟨r4, q32⟩ : ∃ y_ : Bool, y_ = sp_sets r3.1 ([([0, 5] : List Int), ([(-2), 0] : List Int)] : List (List Int)) := ⟨_, rfl⟩
      replace hF := hF r4 q32
      refine .gc (cl (v := .bool r4) Try.call24 rfl rfl (fun w S => (by rw [q32]; exact c_sets S.sub r3.1 a2 c2 (q5.mono (FH.le_trans (FH.le_trans (le6) (le7)) (le8))) q6 ([([0, 5] : List Int), ([(-2), 0] : List Int)] : List (List Int)) a5 2 (⟨_, (show RepL h7 ([([0, 5] : List Int), ([(-2), 0] : List Int)] : List (List Int)) [.slice a3 (([0, 5] : List Int).length) 2, .slice a4 (([(-2), 0] : List Int).length) 2] from ⟨[.slice a3 (([0, 5] : List Int).length) 2], _, rfl, ⟨a3, 2, rfl, (q25), ((RSl.of q24).mono (le7))⟩, ⟨[.slice a4 (([(-2), 0] : List Int).length) 2], _, rfl, ⟨a4, 2, rfl, (q27), (RSl.of q26)⟩, rfl⟩⟩).mono (le8), q29⟩ : RSl h8 a5 ([([0, 5] : List Int), ([(-2), 0] : List Int)] : List (List Int))) (q30) q31))) rfl rfl rfl q21 rfl rfl ?_
      refine .v (pkT rfl q21 rfl) rfl rfl rfl ?_
      refine .v (asg rfl) rfl rfl rfl ?_
      refine .nil ?_
      refine .seqN ?_
      refine .ret ?_
      refine .res1 rfl (rvT rfl) (fun w' S => ⟨r4, hF, rfl, S.below⟩)
    replace hF := hF.2 q21
    refine .gS rfl rfl rfl q21 rfl rfl ?_
    refine .gS rfl rfl rfl q21 rfl rfl ?_
    refine .gS rfl rfl rfl q21 rfl rfl ?_
    refine .gS rfl rfl rfl q21 rfl rfl ?_
    refine .gS rfl rfl rfl q21 rfl rfl ?_
    refine .v (pkF rfl q21 rfl) rfl rfl rfl ?_
    refine .v (asg rfl) rfl rfl rfl ?_
    refine .nil ?_
    refine .seqN ?_
    refine .ret ?_
    refine .res1 rfl (rvT rfl) (fun w' S => ⟨false, hF, rfl, S.below⟩)
  replace hF := hF.2 q20
  refine .gS rfl rfl rfl q20 rfl rfl ?_
  refine .v (pkF rfl q20 rfl) rfl rfl rfl ?_
  refine .v (mv rfl) rfl rfl rfl ?_
  refine .gS rfl rfl rfl rfl rfl rfl ?_
  refine .gS rfl rfl rfl rfl rfl rfl ?_
  refine .gS rfl rfl rfl rfl rfl rfl ?_
  refine .gS rfl rfl rfl rfl rfl rfl ?_
  refine .gS rfl rfl rfl rfl rfl rfl ?_
  refine .v (pkF rfl rfl rfl) rfl rfl rfl ?_
  refine .v (asg rfl) rfl rfl rfl ?_
  refine .nil ?_
  refine .seqN ?_
  refine .ret ?_
  refine .res1 rfl (rvT rfl) (fun w' S => ⟨false, hF, rfl, S.below⟩)

theorem c_bounded {h : FH} {w : World} (hs : Sub h w) : Calls Try.prog 17 #[] w fun e w' => e = .returned (.bool (sp_bounded)) ∧ Below w.heap.size w w' :=
  (w_bounded hs  (fun r => r = sp_bounded) (ok_bounded )).mono fun _ _ ⟨_, hk, he, hb⟩ => ⟨by rw [he, hk], hb⟩

set_option maxHeartbeats 8000000 in
theorem w_lawTriangle {h : FH} {w : World} (hs : Sub h w) (n_ : Network) (an_ : Option Addr) (cn_ : Nat) (_q1 : RSl h an_ n_.links) (_q2 : n_.links.length ≤ cn_) (i : Int) (j : Int) (k : Int) (K : Bool → Prop) (hF : F_lawTriangle n_ i j k K) : Calls Try.prog 3 #[.agg #[.int .i64 n_.events, .slice an_ n_.links.length cn_], .int .i64 i, .int .i64 j, .int .i64 k] w fun e w' => ∃ r : Bool, K r ∧ e = .returned (.bool r) ∧ Below w.heap.size w w' := by
  refine enter (args := [.agg #[.int .i64 n_.events, .slice an_ n_.links.length cn_], .int .i64 i, .int .i64 j, .int .i64 k]) Try.func3 rfl Try.ntmps3 rfl hs ?_
  refine .seq ?_
  refine .region ?_
  refine bx (vs := [.int .i64 n_.events, .slice an_ n_.links.length cn_]) rfl rfl rfl (fun pn => ?_)
  refine .v (asg rfl) rfl rfl rfl ?_
  refine .nil ?_
  refine .seqN ?_
  refine .seq ?_
  refine .region ?_
  refine .v (ldA (cs := [.int .i64 n_.events, .slice an_ n_.links.length cn_]) rfl tA24 rfl (cellsB (off := 0) (k := 0) rfl (m := 2) rfl)) rfl rfl rfl ?_
  obtain ⟨r2, q3⟩ : ∃ y_ : List (List Int) × Bool × Fault, y_ = sp_minimal n_ := ⟨_, rfl⟩
  replace hF := hF r2 q3
  refine clR (α := Option Addr × Nat) (Φ := fun h1 z => RSl h1 z.1 r2.1 ∧ r2.1.length ≤ z.2) (V := fun z => .tuple #[.slice z.1 r2.1.length z.2, .bool r2.2.1, .agg #[.int .i64 r2.2.2.code, .int .i64 r2.2.2.index]]) Try.call15 rfl rfl (fun w S => (by rw [q3]; exact c_minimal S.sub n_ an_ cn_ _q1 _q2 )) rfl (fun z h1 le1 hz => ?_)
  obtain ⟨a, c⟩ := z
  obtain ⟨q4, q5⟩ := hz
  refine .v (mv rfl) rfl rfl rfl ?_
  refine .v (ext rfl rfl) rfl rfl rfl ?_
  refine .v (ext rfl rfl) rfl rfl rfl ?_
  refine .v (ext rfl rfl) rfl rfl rfl ?_
  refine al tZ27 rfl (fun pf => ?_)
  refine .v (asg rfl) rfl rfl rfl ?_
  refine .v (asg rfl) rfl rfl rfl ?_
  refine st (p := pf) (off := 0) (k := 0) (vs := [.int .i64 r2.2.2.code, .int .i64 r2.2.2.index]) rfl rfl rfl (fun w => (tA27 w).2) rfl rfl rfl rfl ?_
  refine .cast (A' := [Box pf [.int .i64 r2.2.2.code, .int .i64 r2.2.2.index], Box pn [.int .i64 n_.events, .slice an_ n_.links.length cn_]]) rfl ?_
  refine .nil ?_
  refine .seqN ?_
  refine .seq ?_
  refine .share (σ := Bool) (fun z => F_lawTriangle_J1 n_ i j k K r2 z) (fun z => [(1, .int .i64 i), (2, .int .i64 j), (3, .int .i64 k), (4, .pointer (some pn)), (9, .slice a r2.1.length c), (48, .bool z)]) (fun _ => [Box pn [.int .i64 n_.events, .slice an_ n_.links.length cn_]]) (fun _ => h1) ?_ (fun q13 => ?_)
  · rintro t48 hF
    show J _ _ _ _ _ [(1, .int .i64 i), (2, .int .i64 j), (3, .int .i64 k), (4, .pointer (some pn)), (9, .slice a r2.1.length c), (48, .bool t48)] [Box pn [.int .i64 n_.events, .slice an_ n_.links.length cn_]] h1
    refine .cond rfl (fun q14 => ?_) (fun q14 => ?_)
    · replace hF := hF.1 q14
      refine .seq ?_
      refine .region ?_
      obtain ⟨r3, q15⟩ : ∃ y_ : Bool, y_ = sp_bounded := ⟨_, rfl⟩
      replace hF := hF r3 q15
      refine .c (cl (v := .bool r3) Try.call17 rfl rfl (fun w S => (by rw [q15]; exact c_bounded S.sub  ))) rfl rfl rfl ?_
      refine .v (asg rfl) rfl rfl rfl ?_
      refine .nil ?_
      refine .seqN ?_
      refine .ret ?_
      refine .seqR ?_
      refine .res1 rfl (rvT rfl) (fun w' S => ⟨r3, hF, rfl, S.below⟩)
    replace hF := hF.2 q14
    refine .skip ?_
    refine .seqN ?_
    refine .seq ?_
    refine .share (σ := Bool) (fun z => F_lawTriangle_J2 i j k K r2 z) (fun z => [(1, .int .i64 i), (2, .int .i64 j), (3, .int .i64 k), (9, .slice a r2.1.length c), (74, .bool z)]) (fun _ => []) (fun _ => h1) ?_ (fun q26 => ?_)
    · rintro t74 hF
      show J _ _ _ _ _ [(1, .int .i64 i), (2, .int .i64 j), (3, .int .i64 k), (9, .slice a r2.1.length c), (74, .bool t74)] [] h1
      refine .cond rfl (fun q27 => ?_) (fun q27 => ?_)
      · replace hF := hF.1 q27
        refine .seq ?_
        refine .region ?_
        refine .v (asg rfl) rfl rfl rfl ?_
        refine .nil ?_
        refine .seqN ?_
        refine .ret ?_
        refine .seqR ?_
        refine .res1 rfl (rvT rfl) (fun w' S => ⟨false, hF, rfl, S.below⟩)
      replace hF := hF.2 q27
      refine .skip ?_
      refine .seqN ?_
      refine .seq ?_
      refine .open_ (by kernel_rfl) (by kernel_rfl) ?_
      refine .v (mv rfl) rfl rfl rfl ?_
      refine .v (mv rfl) rfl rfl rfl ?_
      obtain ⟨q48, hF⟩ := hF
      refine .v (ix rfl rfl tS25 (q4.ne (by decide) (inb_pos q48)) q48) rfl rfl rfl ?_
      obtain ⟨_, ⟨a2, c2, rfl, q49, q50⟩, q51⟩ := q4.elem q48
      refine .v (ld1 (v := .slice a2 ((gt r2.1 i).length) c2) rfl tO32 (cellH (q51 (by decide) 0 _ rfl))) rfl rfl rfl ?_
      refine .v (mv rfl) rfl rfl rfl ?_
      obtain ⟨q52, hF⟩ := hF
      refine .v (ix rfl rfl tS32 (q50.ne (by decide) (inb_pos q52)) q52) rfl rfl rfl ?_
      refine .v (ld1 (v := .int .i64 (gt (gt r2.1 i) i)) rfl tO3 (cellH (q50.elemF q52 (by decide) 0 _ rfl))) rfl rfl rfl ?_
      refine .v (bi rfl rfl rfl) rfl rfl rfl ?_
      refine .v (mv rfl) rfl rfl rfl ?_
      rcases Bool.eq_false_or_eq_true ((gt (gt r2.1 i) i) == 0) with q53 | q53
      · replace hF := hF.1 q53
        refine .gv (mv rfl) rfl rfl rfl q53 rfl rfl ?_
        refine .gv (mv rfl) rfl rfl rfl q53 rfl rfl ?_
        refine .gv (ix rfl rfl tS25 (q4.ne (by decide) (inb_pos q48)) q48) rfl rfl rfl q53 rfl rfl ?_
        refine .gv (ld1 (v := .slice a2 ((gt r2.1 i).length) c2) rfl tO32 (cellH (q51 (by decide) 0 _ rfl))) rfl rfl rfl q53 rfl rfl ?_
        refine .gv (mv rfl) rfl rfl rfl q53 rfl rfl ?_
        obtain ⟨q54, hF⟩ := hF
        refine .gv (ix rfl rfl tS32 (q50.ne (by decide) (inb_pos q54)) q54) rfl rfl rfl q53 rfl rfl ?_
        refine .gv (ld1 (v := .int .i64 (gt (gt r2.1 i) j)) rfl tO3 (cellH (q50.elemF q54 (by decide) 0 _ rfl))) rfl rfl rfl q53 rfl rfl ?_
        refine .gv (bi rfl rfl rfl) rfl rfl rfl q53 rfl rfl ?_
        refine .gv (mv rfl) rfl rfl rfl q53 rfl rfl ?_
        rcases Bool.eq_false_or_eq_true ((gt (gt r2.1 i) j) == 1000000000) with q55 | q55
        · replace hF := hF.1 q55
          refine .gS rfl rfl rfl q55 rfl rfl ?_
          refine .gS rfl rfl rfl q55 rfl rfl ?_
          refine .gS rfl rfl rfl q55 rfl rfl ?_
          refine .gS rfl rfl rfl q55 rfl rfl ?_
          refine .gS rfl rfl rfl q55 rfl rfl ?_
          refine .gS rfl rfl rfl q55 rfl rfl ?_
          refine .gS rfl rfl rfl q55 rfl rfl ?_
          refine .gS rfl rfl rfl q55 rfl rfl ?_
          refine .gv (pkT rfl q55 rfl) rfl rfl rfl q53 rfl rfl ?_
          refine .gv (mv rfl) rfl rfl rfl q53 rfl rfl ?_
          refine .gS rfl rfl rfl rfl rfl rfl ?_
          refine .gS rfl rfl rfl rfl rfl rfl ?_
          refine .gS rfl rfl rfl rfl rfl rfl ?_
          refine .gS rfl rfl rfl rfl rfl rfl ?_
          refine .gS rfl rfl rfl rfl rfl rfl ?_
          refine .gS rfl rfl rfl rfl rfl rfl ?_
          refine .gS rfl rfl rfl rfl rfl rfl ?_
          refine .gS rfl rfl rfl rfl rfl rfl ?_
          refine .gS rfl rfl rfl rfl rfl rfl ?_
          refine .gS rfl rfl rfl rfl rfl rfl ?_
          refine .gS rfl rfl rfl rfl rfl rfl ?_
          refine .gS rfl rfl rfl rfl rfl rfl ?_
          refine .gS rfl rfl rfl rfl rfl rfl ?_
          refine .gS rfl rfl rfl rfl rfl rfl ?_
          refine .gS rfl rfl rfl rfl rfl rfl ?_
          refine .gS rfl rfl rfl rfl rfl rfl ?_
          refine .gS rfl rfl rfl rfl rfl rfl ?_
          refine .gS rfl rfl rfl rfl rfl rfl ?_
          refine .gS rfl rfl rfl rfl rfl rfl ?_
          refine .gS rfl rfl rfl rfl rfl rfl ?_
          refine .gS rfl rfl rfl rfl rfl rfl ?_
          refine .gS rfl rfl rfl rfl rfl rfl ?_
          refine .gS rfl rfl rfl rfl rfl rfl ?_
          refine .gv (pkT rfl rfl rfl) rfl rfl rfl q53 rfl rfl ?_
          refine .v (pkT rfl q53 rfl) rfl rfl rfl ?_
          refine .v (mv rfl) rfl rfl rfl ?_
          obtain ⟨r4, q56⟩ : ∃ y_ : Bool, y_ = sp_bounded := ⟨_, rfl⟩
          replace hF := hF r4 q56
          refine .gc (cl (v := .bool r4) Try.call17 rfl rfl (fun w S => (by rw [q56]; exact c_bounded S.sub  ))) rfl rfl rfl rfl rfl rfl ?_
          refine .v (pkT rfl rfl rfl) rfl rfl rfl ?_
          refine .v (asg rfl) rfl rfl rfl ?_
          refine .fin ?_
          refine .seqN ?_
          refine .ret ?_
          refine .res1 rfl (rvT rfl) (fun w' S => ⟨r4, hF, rfl, S.below⟩)
        replace hF := hF.2 q55
        refine .gv (mv rfl) rfl rfl rfl q55 rfl rfl ?_
        refine .gv (mv rfl) rfl rfl rfl q55 rfl rfl ?_
        obtain ⟨q57, hF⟩ := hF
        refine .gv (ix rfl rfl tS25 (q4.ne (by decide) (inb_pos q57)) q57) rfl rfl rfl q55 rfl rfl ?_
        obtain ⟨_, ⟨a3, c3, rfl, q58, q59⟩, q60⟩ := q4.elem q57
        refine .gv (ld1 (v := .slice a3 ((gt r2.1 j).length) c3) rfl tO32 (cellH (q60 (by decide) 0 _ rfl))) rfl rfl rfl q55 rfl rfl ?_
        refine .gv (mv rfl) rfl rfl rfl q55 rfl rfl ?_
        obtain ⟨q61, hF⟩ := hF
        refine .gv (ix rfl rfl tS32 (q59.ne (by decide) (inb_pos q61)) q61) rfl rfl rfl q55 rfl rfl ?_
        refine .gv (ld1 (v := .int .i64 (gt (gt r2.1 j) k)) rfl tO3 (cellH (q59.elemF q61 (by decide) 0 _ rfl))) rfl rfl rfl q55 rfl rfl ?_
        refine .gv (bi rfl rfl rfl) rfl rfl rfl q55 rfl rfl ?_
        refine .gv (pkF rfl q55 rfl) rfl rfl rfl q53 rfl rfl ?_
        refine .gv (mv rfl) rfl rfl rfl q53 rfl rfl ?_
        rcases Bool.eq_false_or_eq_true ((gt (gt r2.1 j) k) == 1000000000) with q62 | q62
        · replace hF := hF.1 q62
          refine .gS rfl rfl rfl q62 rfl rfl ?_
          refine .gS rfl rfl rfl q62 rfl rfl ?_
          refine .gS rfl rfl rfl q62 rfl rfl ?_
          refine .gS rfl rfl rfl q62 rfl rfl ?_
          refine .gS rfl rfl rfl q62 rfl rfl ?_
          refine .gS rfl rfl rfl q62 rfl rfl ?_
          refine .gS rfl rfl rfl q62 rfl rfl ?_
          refine .gS rfl rfl rfl q62 rfl rfl ?_
          refine .gS rfl rfl rfl q62 rfl rfl ?_
          refine .gS rfl rfl rfl q62 rfl rfl ?_
          refine .gS rfl rfl rfl q62 rfl rfl ?_
          refine .gS rfl rfl rfl q62 rfl rfl ?_
          refine .gS rfl rfl rfl q62 rfl rfl ?_
          refine .gS rfl rfl rfl q62 rfl rfl ?_
          refine .gS rfl rfl rfl q62 rfl rfl ?_
          refine .gS rfl rfl rfl q62 rfl rfl ?_
          refine .gS rfl rfl rfl q62 rfl rfl ?_
          refine .gS rfl rfl rfl q62 rfl rfl ?_
          refine .gS rfl rfl rfl q62 rfl rfl ?_
          refine .gS rfl rfl rfl q62 rfl rfl ?_
          refine .gS rfl rfl rfl q62 rfl rfl ?_
          refine .gS rfl rfl rfl q62 rfl rfl ?_
          refine .gS rfl rfl rfl q62 rfl rfl ?_
          refine .gv (pkT rfl q62 rfl) rfl rfl rfl q53 rfl rfl ?_
          refine .v (pkT rfl q53 rfl) rfl rfl rfl ?_
          refine .v (mv rfl) rfl rfl rfl ?_
          obtain ⟨r5, q63⟩ : ∃ y_ : Bool, y_ = sp_bounded := ⟨_, rfl⟩
          replace hF := hF r5 q63
          refine .gc (cl (v := .bool r5) Try.call17 rfl rfl (fun w S => (by rw [q63]; exact c_bounded S.sub  ))) rfl rfl rfl rfl rfl rfl ?_
          refine .v (pkT rfl rfl rfl) rfl rfl rfl ?_
          refine .v (asg rfl) rfl rfl rfl ?_
          refine .fin ?_
          refine .seqN ?_
          refine .ret ?_
          refine .res1 rfl (rvT rfl) (fun w' S => ⟨r5, hF, rfl, S.below⟩)
        replace hF := hF.2 q62
        refine .gv (mv rfl) rfl rfl rfl q62 rfl rfl ?_
        refine .gv (mv rfl) rfl rfl rfl q62 rfl rfl ?_
        refine .gv (ix rfl rfl tS25 (q4.ne (by decide) (inb_pos q48)) q48) rfl rfl rfl q62 rfl rfl ?_
        refine .gv (ld1 (v := .slice a2 ((gt r2.1 i).length) c2) rfl tO32 (cellH (q51 (by decide) 0 _ rfl))) rfl rfl rfl q62 rfl rfl ?_
        refine .gv (mv rfl) rfl rfl rfl q62 rfl rfl ?_
        obtain ⟨q64, hF⟩ := hF
        refine .gv (ix rfl rfl tS32 (q50.ne (by decide) (inb_pos q64)) q64) rfl rfl rfl q62 rfl rfl ?_
        refine .gv (ld1 (v := .int .i64 (gt (gt r2.1 i) k)) rfl tO3 (cellH (q50.elemF q64 (by decide) 0 _ rfl))) rfl rfl rfl q62 rfl rfl ?_
        refine .gv (mv rfl) rfl rfl rfl q62 rfl rfl ?_
        refine .gv (mv rfl) rfl rfl rfl q62 rfl rfl ?_
        refine .gv (ix rfl rfl tS25 (q4.ne (by decide) (inb_pos q48)) q48) rfl rfl rfl q62 rfl rfl ?_
        refine .gv (ld1 (v := .slice a2 ((gt r2.1 i).length) c2) rfl tO32 (cellH (q51 (by decide) 0 _ rfl))) rfl rfl rfl q62 rfl rfl ?_
        refine .gv (mv rfl) rfl rfl rfl q62 rfl rfl ?_
        refine .gv (ix rfl rfl tS32 (q50.ne (by decide) (inb_pos q54)) q54) rfl rfl rfl q62 rfl rfl ?_
        refine .gv (ld1 (v := .int .i64 (gt (gt r2.1 i) j)) rfl tO3 (cellH (q50.elemF q54 (by decide) 0 _ rfl))) rfl rfl rfl q62 rfl rfl ?_
        refine .gv (mv rfl) rfl rfl rfl q62 rfl rfl ?_
        refine .gv (mv rfl) rfl rfl rfl q62 rfl rfl ?_
        refine .gv (ix rfl rfl tS25 (q4.ne (by decide) (inb_pos q57)) q57) rfl rfl rfl q62 rfl rfl ?_
        refine .gv (ld1 (v := .slice a3 ((gt r2.1 j).length) c3) rfl tO32 (cellH (q60 (by decide) 0 _ rfl))) rfl rfl rfl q62 rfl rfl ?_
        refine .gv (mv rfl) rfl rfl rfl q62 rfl rfl ?_
        refine .gv (ix rfl rfl tS32 (q59.ne (by decide) (inb_pos q61)) q61) rfl rfl rfl q62 rfl rfl ?_
        refine .gv (ld1 (v := .int .i64 (gt (gt r2.1 j) k)) rfl tO3 (cellH (q59.elemF q61 (by decide) 0 _ rfl))) rfl rfl rfl q62 rfl rfl ?_
        refine .gv (bi rfl rfl rfl) rfl rfl rfl q62 rfl rfl ?_
        obtain ⟨x, q65⟩ : ∃ y_ : Bool, y_ = (decide ((gt (gt r2.1 i) k) ≤ (IntKind.i64.wrap ((gt (gt r2.1 i) j) + (gt (gt r2.1 j) k))))) := ⟨_, rfl⟩
        replace hF := hF x q65
        refine .gv (v := .bool x) (by rw [q65]; exact bi rfl rfl rfl) rfl rfl rfl q62 rfl rfl ?_
        refine .gv (pkF rfl q62 rfl) rfl rfl rfl q53 rfl rfl ?_
        refine .v (pkT rfl q53 rfl) rfl rfl rfl ?_
        refine .v (mv rfl) rfl rfl rfl ?_
        rcases Bool.eq_false_or_eq_true (x) with q66 | q66
        · replace hF := hF.1 q66
          obtain ⟨r6, q67⟩ : ∃ y_ : Bool, y_ = sp_bounded := ⟨_, rfl⟩
          replace hF := hF r6 q67
          refine .gc (cl (v := .bool r6) Try.call17 rfl rfl (fun w S => (by rw [q67]; exact c_bounded S.sub  ))) rfl rfl rfl q66 rfl rfl ?_
          refine .v (pkT rfl q66 rfl) rfl rfl rfl ?_
          refine .v (asg rfl) rfl rfl rfl ?_
          refine .fin ?_
          refine .seqN ?_
          refine .ret ?_
          refine .res1 rfl (rvT rfl) (fun w' S => ⟨r6, hF, rfl, S.below⟩)
        replace hF := hF.2 q66
        refine .gS rfl rfl rfl q66 rfl rfl ?_
        refine .v (pkF rfl q66 rfl) rfl rfl rfl ?_
        refine .v (asg rfl) rfl rfl rfl ?_
        refine .fin ?_
        refine .seqN ?_
        refine .ret ?_
        refine .res1 rfl (rvT rfl) (fun w' S => ⟨false, hF, rfl, S.below⟩)
      replace hF := hF.2 q53
      refine .gS rfl rfl rfl q53 rfl rfl ?_
      refine .gS rfl rfl rfl q53 rfl rfl ?_
      refine .gS rfl rfl rfl q53 rfl rfl ?_
      refine .gS rfl rfl rfl q53 rfl rfl ?_
      refine .gS rfl rfl rfl q53 rfl rfl ?_
      refine .gS rfl rfl rfl q53 rfl rfl ?_
      refine .gS rfl rfl rfl q53 rfl rfl ?_
      refine .gS rfl rfl rfl q53 rfl rfl ?_
      refine .gS rfl rfl rfl q53 rfl rfl ?_
      refine .gU rfl rfl rfl rfl rfl ?_
      refine .gU rfl rfl rfl rfl rfl ?_
      refine .gU rfl rfl rfl rfl rfl ?_
      refine .gU rfl rfl rfl rfl rfl ?_
      refine .gU rfl rfl rfl rfl rfl ?_
      refine .gU rfl rfl rfl rfl rfl ?_
      refine .gU rfl rfl rfl rfl rfl ?_
      refine .gU rfl rfl rfl rfl rfl ?_
      refine .gS rfl rfl rfl q53 rfl rfl ?_
      refine .gS rfl rfl rfl q53 rfl rfl ?_
      refine .gU rfl rfl rfl rfl rfl ?_
      refine .gU rfl rfl rfl rfl rfl ?_
      refine .gU rfl rfl rfl rfl rfl ?_
      refine .gU rfl rfl rfl rfl rfl ?_
      refine .gU rfl rfl rfl rfl rfl ?_
      refine .gU rfl rfl rfl rfl rfl ?_
      refine .gU rfl rfl rfl rfl rfl ?_
      refine .gU rfl rfl rfl rfl rfl ?_
      refine .gU rfl rfl rfl rfl rfl ?_
      refine .gU rfl rfl rfl rfl rfl ?_
      refine .gU rfl rfl rfl rfl rfl ?_
      refine .gU rfl rfl rfl rfl rfl ?_
      refine .gU rfl rfl rfl rfl rfl ?_
      refine .gU rfl rfl rfl rfl rfl ?_
      refine .gU rfl rfl rfl rfl rfl ?_
      refine .gU rfl rfl rfl rfl rfl ?_
      refine .gU rfl rfl rfl rfl rfl ?_
      refine .gU rfl rfl rfl rfl rfl ?_
      refine .gU rfl rfl rfl rfl rfl ?_
      refine .gU rfl rfl rfl rfl rfl ?_
      refine .gU rfl rfl rfl rfl rfl ?_
      refine .gU rfl rfl rfl rfl rfl ?_
      refine .gU rfl rfl rfl rfl rfl ?_
      refine .gS rfl rfl rfl q53 rfl rfl ?_
      refine .v (pkF rfl q53 rfl) rfl rfl rfl ?_
      refine .v (mv rfl) rfl rfl rfl ?_
      refine .gS rfl rfl rfl rfl rfl rfl ?_
      refine .v (pkF rfl rfl rfl) rfl rfl rfl ?_
      refine .v (asg rfl) rfl rfl rfl ?_
      refine .fin ?_
      refine .seqN ?_
      refine .ret ?_
      refine .res1 rfl (rvT rfl) (fun w' S => ⟨false, hF, rfl, S.below⟩)
    refine .open_ (by kernel_rfl) (by kernel_rfl) ?_
    refine .v (mv rfl) rfl rfl rfl ?_
    refine .v (ln rfl tS25.is) rfl rfl rfl ?_
    refine .v (fa rfl tF24_0) rfl rfl rfl ?_
    refine .v (ld1 rfl tO3 (cellB (off := 0) (k := 0) rfl rfl)) rfl rfl rfl ?_
    refine .v (bi rfl rfl rfl) rfl rfl rfl ?_
    refine .v (mv rfl) rfl rfl rfl ?_
    rcases Bool.eq_false_or_eq_true (((r2.1.length : Nat) : Int) != n_.events) with q68 | q68
    · replace hF := hF.1 q68
      refine .gS rfl rfl rfl q68 rfl rfl ?_
      refine .gS rfl rfl rfl q68 rfl rfl ?_
      refine .gS rfl rfl rfl q68 rfl rfl ?_
      refine .gS rfl rfl rfl q68 rfl rfl ?_
      refine .gS rfl rfl rfl q68 rfl rfl ?_
      refine .gS rfl rfl rfl q68 rfl rfl ?_
      refine .gS rfl rfl rfl q68 rfl rfl ?_
      refine .gS rfl rfl rfl q68 rfl rfl ?_
      refine .v (pkT rfl q68 rfl) rfl rfl rfl ?_
      refine .v (mv rfl) rfl rfl rfl ?_
      refine .gS rfl rfl rfl rfl rfl rfl ?_
      refine .gS rfl rfl rfl rfl rfl rfl ?_
      refine .gS rfl rfl rfl rfl rfl rfl ?_
      refine .gS rfl rfl rfl rfl rfl rfl ?_
      refine .gS rfl rfl rfl rfl rfl rfl ?_
      refine .gS rfl rfl rfl rfl rfl rfl ?_
      refine .gS rfl rfl rfl rfl rfl rfl ?_
      refine .gS rfl rfl rfl rfl rfl rfl ?_
      refine .v (pkT rfl rfl rfl) rfl rfl rfl ?_
      refine .fin ?_
      refine .sel0 [] (by decide) rfl ?_
      exact .use q26 true hF (.cons rfl (.cons rfl (.cons rfl (.cons rfl (.cons rfl (.nil)))))) rfl (FH.le_refl _)
    replace hF := hF.2 q68
    refine .gv (mv rfl) rfl rfl rfl q68 rfl rfl ?_
    refine .gv (mv rfl) rfl rfl rfl q68 rfl rfl ?_
    obtain ⟨q69, hF⟩ := hF
    refine .gv (ix rfl rfl tS25 (q4.ne (by decide) (inb_pos q69)) q69) rfl rfl rfl q68 rfl rfl ?_
    obtain ⟨_, ⟨a4, c4, rfl, q70, q71⟩, q72⟩ := q4.elem q69
    refine .gv (ld1 (v := .slice a4 ((gt r2.1 i).length) c4) rfl tO32 (cellH (q72 (by decide) 0 _ rfl))) rfl rfl rfl q68 rfl rfl ?_
    refine .gv (ln rfl tS32.is) rfl rfl rfl q68 rfl rfl ?_
    refine .gv (fa rfl tF24_0) rfl rfl rfl q68 rfl rfl ?_
    refine .gv (ld1 rfl tO3 (cellB (off := 0) (k := 0) rfl rfl)) rfl rfl rfl q68 rfl rfl ?_
    refine .gv (bi rfl rfl rfl) rfl rfl rfl q68 rfl rfl ?_
    refine .v (pkF rfl q68 rfl) rfl rfl rfl ?_
    refine .v (mv rfl) rfl rfl rfl ?_
    rcases Bool.eq_false_or_eq_true ((((gt r2.1 i).length : Nat) : Int) != n_.events) with q73 | q73
    · replace hF := hF.1 q73
      refine .gS rfl rfl rfl q73 rfl rfl ?_
      refine .gS rfl rfl rfl q73 rfl rfl ?_
      refine .gS rfl rfl rfl q73 rfl rfl ?_
      refine .gS rfl rfl rfl q73 rfl rfl ?_
      refine .gS rfl rfl rfl q73 rfl rfl ?_
      refine .gS rfl rfl rfl q73 rfl rfl ?_
      refine .gS rfl rfl rfl q73 rfl rfl ?_
      refine .gS rfl rfl rfl q73 rfl rfl ?_
      refine .v (pkT rfl q73 rfl) rfl rfl rfl ?_
      refine .fin ?_
      refine .sel0 [] (by decide) rfl ?_
      exact .use q26 true hF (.cons rfl (.cons rfl (.cons rfl (.cons rfl (.cons rfl (.nil)))))) rfl (FH.le_refl _)
    replace hF := hF.2 q73
    refine .gv (mv rfl) rfl rfl rfl q73 rfl rfl ?_
    refine .gv (mv rfl) rfl rfl rfl q73 rfl rfl ?_
    obtain ⟨q74, hF⟩ := hF
    refine .gv (ix rfl rfl tS25 (q4.ne (by decide) (inb_pos q74)) q74) rfl rfl rfl q73 rfl rfl ?_
    obtain ⟨_, ⟨a5, c5, rfl, q75, q76⟩, q77⟩ := q4.elem q74
    refine .gv (ld1 (v := .slice a5 ((gt r2.1 j).length) c5) rfl tO32 (cellH (q77 (by decide) 0 _ rfl))) rfl rfl rfl q73 rfl rfl ?_
    refine .gv (ln rfl tS32.is) rfl rfl rfl q73 rfl rfl ?_
    refine .gv (fa rfl tF24_0) rfl rfl rfl q73 rfl rfl ?_
    refine .gv (ld1 rfl tO3 (cellB (off := 0) (k := 0) rfl rfl)) rfl rfl rfl q73 rfl rfl ?_
    refine .gv (bi rfl rfl rfl) rfl rfl rfl q73 rfl rfl ?_
    refine .v (pkF rfl q73 rfl) rfl rfl rfl ?_
    refine .fin ?_
    refine .sel0 [] (by decide) rfl ?_
    exact .use q26 ((((gt r2.1 j).length : Nat) : Int) != n_.events) hF (.cons rfl (.cons rfl (.cons rfl (.cons rfl (.cons rfl (.nil)))))) rfl (FH.le_refl _)
  refine .region ?_
  refine .v (fa rfl tF27_0) rfl rfl rfl ?_
  refine .v (ld1 rfl tO3 (cellB (off := 0) (k := 0) rfl rfl)) rfl rfl rfl ?_
  refine .v (bi rfl rfl rfl) rfl rfl rfl ?_
  refine .v (mv rfl) rfl rfl rfl ?_
  rcases Bool.eq_false_or_eq_true (r2.2.2.code != 0) with q78 | q78
  · replace hF := hF.1 q78
    refine .gS rfl rfl rfl q78 rfl rfl ?_
    refine .gS rfl rfl rfl q78 rfl rfl ?_
    refine .v (pkT rfl q78 rfl) rfl rfl rfl ?_
    refine .v (mv rfl) rfl rfl rfl ?_
    refine .gS rfl rfl rfl rfl rfl rfl ?_
    refine .gS rfl rfl rfl rfl rfl rfl ?_
    refine .gS rfl rfl rfl rfl rfl rfl ?_
    refine .gS rfl rfl rfl rfl rfl rfl ?_
    refine .gS rfl rfl rfl rfl rfl rfl ?_
    refine .gS rfl rfl rfl rfl rfl rfl ?_
    refine .v (pkT rfl rfl rfl) rfl rfl rfl ?_
    refine .v (mv rfl) rfl rfl rfl ?_
    refine .gS rfl rfl rfl rfl rfl rfl ?_
    refine .gS rfl rfl rfl rfl rfl rfl ?_
    refine .gS rfl rfl rfl rfl rfl rfl ?_
    refine .gS rfl rfl rfl rfl rfl rfl ?_
    refine .gS rfl rfl rfl rfl rfl rfl ?_
    refine .gS rfl rfl rfl rfl rfl rfl ?_
    refine .v (pkT rfl rfl rfl) rfl rfl rfl ?_
    refine .v (mv rfl) rfl rfl rfl ?_
    refine .gS rfl rfl rfl rfl rfl rfl ?_
    refine .gS rfl rfl rfl rfl rfl rfl ?_
    refine .gS rfl rfl rfl rfl rfl rfl ?_
    refine .gS rfl rfl rfl rfl rfl rfl ?_
    refine .gS rfl rfl rfl rfl rfl rfl ?_
    refine .gS rfl rfl rfl rfl rfl rfl ?_
    refine .v (pkT rfl rfl rfl) rfl rfl rfl ?_
    refine .nil ?_
    refine .sel0 [1] (by decide) rfl ?_
    exact .use q13 true hF (.cons rfl (.cons rfl (.cons rfl (.cons rfl (.cons rfl (.cons rfl (.nil))))))) rfl (FH.le_refl _)
  replace hF := hF.2 q78
  refine .gv (mv rfl) rfl rfl rfl q78 rfl rfl ?_
  refine .gv (nt rfl) rfl rfl rfl q78 rfl rfl ?_
  refine .v (pkF rfl q78 rfl) rfl rfl rfl ?_
  refine .v (mv rfl) rfl rfl rfl ?_
  rcases Bool.eq_false_or_eq_true (!r2.2.1) with q79 | q79
  · replace hF := hF.1 q79
    refine .gS rfl rfl rfl q79 rfl rfl ?_
    refine .gS rfl rfl rfl q79 rfl rfl ?_
    refine .gS rfl rfl rfl q79 rfl rfl ?_
    refine .gS rfl rfl rfl q79 rfl rfl ?_
    refine .gS rfl rfl rfl q79 rfl rfl ?_
    refine .gS rfl rfl rfl q79 rfl rfl ?_
    refine .v (pkT rfl q79 rfl) rfl rfl rfl ?_
    refine .v (mv rfl) rfl rfl rfl ?_
    refine .gS rfl rfl rfl rfl rfl rfl ?_
    refine .gS rfl rfl rfl rfl rfl rfl ?_
    refine .gS rfl rfl rfl rfl rfl rfl ?_
    refine .gS rfl rfl rfl rfl rfl rfl ?_
    refine .gS rfl rfl rfl rfl rfl rfl ?_
    refine .gS rfl rfl rfl rfl rfl rfl ?_
    refine .v (pkT rfl rfl rfl) rfl rfl rfl ?_
    refine .v (mv rfl) rfl rfl rfl ?_
    refine .gS rfl rfl rfl rfl rfl rfl ?_
    refine .gS rfl rfl rfl rfl rfl rfl ?_
    refine .gS rfl rfl rfl rfl rfl rfl ?_
    refine .gS rfl rfl rfl rfl rfl rfl ?_
    refine .gS rfl rfl rfl rfl rfl rfl ?_
    refine .gS rfl rfl rfl rfl rfl rfl ?_
    refine .v (pkT rfl rfl rfl) rfl rfl rfl ?_
    refine .nil ?_
    refine .sel0 [1] (by decide) rfl ?_
    exact .use q13 true hF (.cons rfl (.cons rfl (.cons rfl (.cons rfl (.cons rfl (.cons rfl (.nil))))))) rfl (FH.le_refl _)
  replace hF := hF.2 q79
  refine .gv (mv rfl) rfl rfl rfl q79 rfl rfl ?_
  refine .gv (fa rfl tF24_0) rfl rfl rfl q79 rfl rfl ?_
  refine .gv (ld1 rfl tO3 (cellB (off := 0) (k := 1) rfl rfl)) rfl rfl rfl q79 rfl rfl ?_
  refine .gv (bi rfl rfl rfl) rfl rfl rfl q79 rfl rfl ?_
  obtain ⟨r7, q80⟩ : ∃ y_ : Bool, y_ = sp_in_ i 0 (IntKind.i64.wrap (n_.events - 1)) := ⟨_, rfl⟩
  replace hF := hF r7 q80
  refine .gc (cl (v := .bool r7) Try.call16 rfl rfl (fun w S => (by rw [q80]; exact c_in_ S.sub i 0 (IntKind.i64.wrap (n_.events - 1)) ))) rfl rfl rfl q79 rfl rfl ?_
  refine .gv (nt rfl) rfl rfl rfl q79 rfl rfl ?_
  refine .v (pkF rfl q79 rfl) rfl rfl rfl ?_
  refine .v (mv rfl) rfl rfl rfl ?_
  rcases Bool.eq_false_or_eq_true (!r7) with q81 | q81
  · replace hF := hF.1 q81
    refine .gS rfl rfl rfl q81 rfl rfl ?_
    refine .gS rfl rfl rfl q81 rfl rfl ?_
    refine .gS rfl rfl rfl q81 rfl rfl ?_
    refine .gS rfl rfl rfl q81 rfl rfl ?_
    refine .gS rfl rfl rfl q81 rfl rfl ?_
    refine .gS rfl rfl rfl q81 rfl rfl ?_
    refine .v (pkT rfl q81 rfl) rfl rfl rfl ?_
    refine .v (mv rfl) rfl rfl rfl ?_
    refine .gS rfl rfl rfl rfl rfl rfl ?_
    refine .gS rfl rfl rfl rfl rfl rfl ?_
    refine .gS rfl rfl rfl rfl rfl rfl ?_
    refine .gS rfl rfl rfl rfl rfl rfl ?_
    refine .gS rfl rfl rfl rfl rfl rfl ?_
    refine .gS rfl rfl rfl rfl rfl rfl ?_
    refine .v (pkT rfl rfl rfl) rfl rfl rfl ?_
    refine .nil ?_
    refine .sel0 [1] (by decide) rfl ?_
    exact .use q13 true hF (.cons rfl (.cons rfl (.cons rfl (.cons rfl (.cons rfl (.cons rfl (.nil))))))) rfl (FH.le_refl _)
  replace hF := hF.2 q81
  refine .gv (mv rfl) rfl rfl rfl q81 rfl rfl ?_
  refine .gv (fa rfl tF24_0) rfl rfl rfl q81 rfl rfl ?_
  refine .gv (ld1 rfl tO3 (cellB (off := 0) (k := 1) rfl rfl)) rfl rfl rfl q81 rfl rfl ?_
  refine .gv (bi rfl rfl rfl) rfl rfl rfl q81 rfl rfl ?_
  obtain ⟨r8, q82⟩ : ∃ y_ : Bool, y_ = sp_in_ j 0 (IntKind.i64.wrap (n_.events - 1)) := ⟨_, rfl⟩
  replace hF := hF r8 q82
  refine .gc (cl (v := .bool r8) Try.call16 rfl rfl (fun w S => (by rw [q82]; exact c_in_ S.sub j 0 (IntKind.i64.wrap (n_.events - 1)) ))) rfl rfl rfl q81 rfl rfl ?_
  refine .gv (nt rfl) rfl rfl rfl q81 rfl rfl ?_
  refine .v (pkF rfl q81 rfl) rfl rfl rfl ?_
  refine .v (mv rfl) rfl rfl rfl ?_
  rcases Bool.eq_false_or_eq_true (!r8) with q83 | q83
  · replace hF := hF.1 q83
    refine .gS rfl rfl rfl q83 rfl rfl ?_
    refine .gS rfl rfl rfl q83 rfl rfl ?_
    refine .gS rfl rfl rfl q83 rfl rfl ?_
    refine .gS rfl rfl rfl q83 rfl rfl ?_
    refine .gS rfl rfl rfl q83 rfl rfl ?_
    refine .gS rfl rfl rfl q83 rfl rfl ?_
    refine .v (pkT rfl q83 rfl) rfl rfl rfl ?_
    refine .nil ?_
    refine .sel0 [1] (by decide) rfl ?_
    exact .use q13 true hF (.cons rfl (.cons rfl (.cons rfl (.cons rfl (.cons rfl (.cons rfl (.nil))))))) rfl (FH.le_refl _)
  replace hF := hF.2 q83
  refine .gv (mv rfl) rfl rfl rfl q83 rfl rfl ?_
  refine .gv (fa rfl tF24_0) rfl rfl rfl q83 rfl rfl ?_
  refine .gv (ld1 rfl tO3 (cellB (off := 0) (k := 1) rfl rfl)) rfl rfl rfl q83 rfl rfl ?_
  refine .gv (bi rfl rfl rfl) rfl rfl rfl q83 rfl rfl ?_
  obtain ⟨r9, q84⟩ : ∃ y_ : Bool, y_ = sp_in_ k 0 (IntKind.i64.wrap (n_.events - 1)) := ⟨_, rfl⟩
  replace hF := hF r9 q84
  refine .gc (cl (v := .bool r9) Try.call16 rfl rfl (fun w S => (by rw [q84]; exact c_in_ S.sub k 0 (IntKind.i64.wrap (n_.events - 1)) ))) rfl rfl rfl q83 rfl rfl ?_
  refine .gv (nt rfl) rfl rfl rfl q83 rfl rfl ?_
  refine .v (pkF rfl q83 rfl) rfl rfl rfl ?_
  refine .nil ?_
  refine .sel0 [1] (by decide) rfl ?_
  exact .use q13 (!r9) hF (.cons rfl (.cons rfl (.cons rfl (.cons rfl (.cons rfl (.cons rfl (.nil))))))) rfl (FH.le_refl _)

theorem c_lawTriangle {h : FH} {w : World} (hs : Sub h w) (n_ : Network) (an_ : Option Addr) (cn_ : Nat) (_q1 : RSl h an_ n_.links) (_q2 : n_.links.length ≤ cn_) (i : Int) (j : Int) (k : Int) : Calls Try.prog 3 #[.agg #[.int .i64 n_.events, .slice an_ n_.links.length cn_], .int .i64 i, .int .i64 j, .int .i64 k] w fun e w' => e = .returned (.bool (sp_lawTriangle n_ i j k)) ∧ Below w.heap.size w w' :=
  (w_lawTriangle hs n_ an_ cn_ _q1 _q2 i j k (fun r => r = sp_lawTriangle n_ i j k) (ok_lawTriangle n_ i j k)).mono fun _ _ ⟨_, hk, he, hb⟩ => ⟨by rw [he, hk], hb⟩

end Go.Proofs.Ytijicdmpidbacaa.Pl
