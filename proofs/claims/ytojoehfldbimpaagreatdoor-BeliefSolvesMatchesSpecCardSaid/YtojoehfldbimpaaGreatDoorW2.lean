/- The walks: from what each function asks to what it does; printed from the code. No condition. -/
import Derived.Test.YtojoehfldbimpaaGreatDoorW1
namespace Go.Proofs.YtojoehfldbimpaaGreatDoor.Pl
open Go Go.RowKit
theorem w_ends {h : FH} {w : World} (hs : Sub h w) (t : Task) (at_ : Option Addr) (ct : Nat) (_q1 : RSl h at_ t.init) (_q2 : t.init.length ≤ ct) (at_2 : Option Addr) (ct2 : Nat) (_q3 : RSl h at_2 t.goal) (_q4 : t.goal.length ≤ ct2) (at_3 : Option Addr) (ct3 : Nat) (_q5 : RSl h at_3 t.ops) (_q6 : t.ops.length ≤ ct3) (s_ : List Int) (as_ : Option Addr) (cs_ : Nat) (_q7 : RSl h as_ s_) (_q8 : s_.length ≤ cs_) (plan : List Int) (aplan : Option Addr) (cplan : Nat) (_q9 : RSl h aplan plan) (_q10 : plan.length ≤ cplan) (K : (List Int × Bool) → Prop) (hF : F_ends t s_ plan K) : Calls Tryz.prog 69 #[.agg #[.int .i64 t.facts, .slice at_ t.init.length ct, .slice at_2 t.goal.length ct2, .slice at_3 t.ops.length ct3], .slice as_ s_.length cs_, .slice aplan plan.length cplan] w fun e w' => ∃ (r : List Int × Bool) (z : Option Addr × Nat) (h1 : FH), K r ∧ e = .returned (.tuple #[.slice z.1 r.1.length z.2, .bool r.2]) ∧ FH.le h h1 ∧ (RSl h1 z.1 r.1 ∧ r.1.length ≤ z.2) ∧ SH (Kp.all w h) h1 w' [] := by
  refine enter (args := [.agg #[.int .i64 t.facts, .slice at_ t.init.length ct, .slice at_2 t.goal.length ct2, .slice at_3 t.ops.length ct3], .slice as_ s_.length cs_, .slice aplan plan.length cplan]) Tryz.func69 rfl Tryz.ntmps69 rfl hs ?_
  refine .seq ?_
  refine .region ?_
  refine bx (vs := [.int .i64 t.facts, .slice at_ t.init.length ct, .slice at_2 t.goal.length ct2, .slice at_3 t.ops.length ct3]) rfl rfl rfl (fun pt => ?_)
  refine .v (asg rfl) rfl rfl rfl ?_
  refine .v (asg rfl) rfl rfl rfl ?_
  refine .nil ?_
  refine .seqN ?_
  refine .seq ?_
  refine .seq ?_
  refine .region ?_
  refine .v (asg rfl) rfl rfl rfl ?_
  refine .nil ?_
  refine .seqN ?_
  refine .block ?_
  obtain ⟨I1, μ1, q182, q183⟩ := hF
  refine .loop' (σ := List Int × Int × Option Addr × Nat × FH) (fun z => I1 z.1 z.2.1 ∧ RSl z.2.2.2.2 z.2.2.1 z.1 ∧ z.1.length ≤ z.2.2.2.1 ∧ FH.le h z.2.2.2.2) (fun z => μ1 z.1 z.2.1) (fun z => [(1, .slice z.2.2.1 z.1.length z.2.2.2.1), (2, .slice aplan plan.length cplan), (3, .pointer (some pt)), (8, .int .i64 z.2.1)]) (fun _ => [Box pt [.int .i64 t.facts, .slice at_ t.init.length ct, .slice at_2 t.goal.length ct2, .slice at_3 t.ops.length ct3]]) (fun z => z.2.2.2.2) (s_, 0, as_, cs_, h) ⟨q182, _q7, _q8, (FH.le_refl _)⟩ (.cons rfl (.cons rfl (.cons rfl (.cons rfl (.nil))))) rfl (FH.le_refl _) ?_
  rintro ⟨s_2, i, as2, cs, h19⟩ ⟨q182, q147, q148, q149⟩
  have hF := q183 s_2 i q182
  show J _ _ _ _ _ [(1, .slice as2 s_2.length cs), (2, .slice aplan plan.length cplan), (3, .pointer (some pt)), (8, .int .i64 i)] [Box pt [.int .i64 t.facts, .slice at_ t.init.length ct, .slice at_2 t.goal.length ct2, .slice at_3 t.ops.length ct3]] h19
  refine .seq ?_
  refine .seq ?_
  refine .region ?_
  refine .v (mv rfl) rfl rfl rfl ?_
  refine .v (mv rfl) rfl rfl rfl ?_
  refine .v (ln rfl tS22.is) rfl rfl rfl ?_
  refine .v (bi rfl rfl rfl) rfl rfl rfl ?_
  refine .nil ?_
  refine .seqN ?_
  refine .cond rfl (fun q185 => ?_) (fun q185 => ?_)
  · replace hF := hF.1 q185
    refine .skip ?_
    refine .seqN ?_
    refine .seq ?_
    refine .block ?_
    refine .seq ?_
    refine .seq ?_
    refine .open_ (by kernel_rfl) (by kernel_rfl) ?_
    refine .v (ldA (cs := [.int .i64 t.facts, .slice at_ t.init.length ct, .slice at_2 t.goal.length ct2, .slice at_3 t.ops.length ct3]) rfl tA25 rfl (cellsB (off := 0) (k := 0) rfl (m := 4) rfl)) rfl rfl rfl ?_
    refine .v (mv rfl) rfl rfl rfl ?_
    refine .v (mv rfl) rfl rfl rfl ?_
    refine .v (mv rfl) rfl rfl rfl ?_
    obtain ⟨q204, hF⟩ := hF
    refine .v (ix rfl rfl tS22 (_q9.ne (by decide) (inb_pos q204)) q204) rfl rfl rfl ?_
    refine .v (ld1 (v := .int .i64 (gt plan i)) rfl tO3 (cellH ((_q9.mono (q149)).elemF q204 (by decide) 0 _ rfl))) rfl rfl rfl ?_
    obtain ⟨q205, hF⟩ := hF
    obtain ⟨r2, q206⟩ : ∃ y_ : Bool, y_ = sp_applies t s_2 (gt plan i) := ⟨_, rfl⟩
    replace hF := hF r2 q206
    refine .c (cl (v := .bool r2) Tryz.call78 rfl rfl (fun w S => (by rw [q206]; exact c_applies S.sub t at_ ct (_q1.mono (q149)) _q2 at_2 ct2 (_q3.mono (q149)) _q4 at_3 ct3 (_q5.mono (q149)) _q6 s_2 as2 cs q147 q148 (gt plan i) q205))) rfl rfl rfl ?_
    refine .v (nt rfl) rfl rfl rfl ?_
    refine .fin ?_
    refine .seqN ?_
    refine .cond rfl (fun q208 => ?_) (fun q208 => ?_)
    · replace hF := hF.1 q208
      refine .seq ?_
      refine .region ?_
      refine .v (asg rfl) rfl rfl rfl ?_
      refine .v (asg rfl) rfl rfl rfl ?_
      refine .nil ?_
      refine .seqN ?_
      refine .ret ?_
      refine .seqR ?_
      refine .blkR ?_
      refine .seqR ?_
      refine .seqR ?_
      refine .blkR ?_
      refine .seqR ?_
      refine .res2 rfl (rvT rfl) (rvT rfl) (fun w' S => ⟨(([] : List Int), false), (none, 0), h19, hF, rfl, (q149), ⟨RSl.nil_, (Nat.le_refl 0)⟩, S.none⟩)
    replace hF := hF.2 q208
    refine .skip ?_
    refine .seqN ?_
    refine .openA (s0 := [(1, .slice as2 s_2.length cs), (2, .slice aplan plan.length cplan), (3, .pointer (some pt)), (8, .int .i64 i)]) [0, 1, 2, 3, 4, 5] [(0, .agg #[.int .i64 t.facts, .slice at_ t.init.length ct, .slice at_2 t.goal.length ct2, .slice at_3 t.ops.length ct3]), (1, .slice as2 s_2.length cs), (2, .slice aplan plan.length cplan), (3, .int .i64 i), (4, .pointer (some (ead aplan (i.toNat * 1)))), (5, .int .i64 (gt plan i))] (by kernel_rfl) (.cons rfl (.cons rfl (.cons rfl (.cons rfl (.nil))))) [1, 2, 3, 8] [7] rfl (by kernel_rfl) ?_
    refine .step [6] 6 rfl (by kernel_rfl) (by kernel_rfl) (.v [] rfl rfl rfl rfl rfl rfl (fun _ => ldA (cs := [.int .i64 t.facts, .slice at_ t.init.length ct, .slice at_2 t.goal.length ct2, .slice at_3 t.ops.length ct3]) rfl tA25 rfl (cellsB (off := 0) (k := 0) rfl (m := 4) rfl)) (.v [] rfl rfl rfl rfl rfl rfl (fun _ => mv rfl) (.v [] rfl rfl rfl rfl rfl rfl (fun _ => mv rfl) (.v [] rfl rfl rfl rfl rfl rfl (fun _ => mv rfl) (.v [(25, .slice aplan plan.length cplan), (26, .int .i64 i)] rfl rfl rfl rfl rfl rfl (fun _ => ix rfl rfl tS22 (_q9.ne (by decide) (inb_pos q204)) q204) (.v [(27, .pointer (some (ead aplan (i.toNat * 1))))] rfl rfl rfl rfl rfl rfl (fun _ => ld1 (v := .int .i64 (gt plan i)) rfl tO3 (cellH ((_q9.mono (q149)).elemF q204 (by decide) 0 _ rfl))) (.nil))))))) (.cons [(23, .agg #[.int .i64 t.facts, .slice at_ t.init.length ct, .slice at_2 t.goal.length ct2, .slice at_3 t.ops.length ct3]), (24, .slice as2 s_2.length cs), (28, .int .i64 (gt plan i))] rfl rfl (fun sL hL => ?_) (.nil))
    obtain ⟨q209, hF⟩ := hF
    obtain ⟨r3, q210⟩ : ∃ y_ : List Int, y_ = sp_after t s_2 (gt plan i) := ⟨_, rfl⟩
    replace hF := hF r3 q210
    refine clR (α := Option Addr × Nat) (Φ := fun h1 z => RSl h1 z.1 r3 ∧ r3.length ≤ z.2) (V := fun z => .slice z.1 r3.length z.2) Tryz.call64 rfl rfl (fun w S => (by rw [q210]; exact c_after S.sub t at_ ct (_q1.mono (q149)) _q2 at_2 ct2 (_q3.mono (q149)) _q4 at_3 ct3 (_q5.mono (q149)) _q6 s_2 as2 cs q147 q148 (gt plan i) q209)) rfl (fun z h26 le26 hz => ?_)
    obtain ⟨a, c⟩ := z
    obtain ⟨q211, q212⟩ := hz
    refine .nil ?_
    refine .ja (M := [0, 1, 5, 4, 2, 3]) (C' := []) (pre := [(6, .slice a r3.length c)]) [(1, .slice as2 s_2.length cs), (2, .slice aplan plan.length cplan), (3, .pointer (some pt)), (8, .int .i64 i)] [1, 2, 3, 8] hL rfl rfl rfl rfl rfl (.cons rfl (.cons rfl (.cons rfl (.cons rfl (.nil))))) rfl rfl (by kernel_rfl) ?_
    refine .step [7] 7 rfl (by kernel_rfl) (by kernel_rfl) (.nil) (.cons [(29, .slice a r3.length c), (29, .slice a r3.length c), (23, .agg #[.int .i64 t.facts, .slice at_ t.init.length ct, .slice at_2 t.goal.length ct2, .slice at_3 t.ops.length ct3]), (24, .slice as2 s_2.length cs), (25, .slice aplan plan.length cplan), (26, .int .i64 i), (27, .pointer (some (ead aplan (i.toNat * 1)))), (28, .int .i64 (gt plan i)), (29, .slice a r3.length c)] rfl rfl (fun sL hL => ?_) (.nil))
    refine .v (asg rfl) rfl rfl rfl ?_
    refine .nil ?_
    refine .ja (M := []) (C' := []) (pre := [(7, .slice a r3.length c)]) [(2, .slice aplan plan.length cplan), (3, .pointer (some pt)), (8, .int .i64 i)] [2, 3, 8] hL rfl rfl rfl rfl rfl (.cons rfl (.cons rfl (.cons rfl (.nil)))) rfl rfl (by kernel_rfl) ?_
    refine .last [(23, .agg #[.int .i64 t.facts, .slice at_ t.init.length ct, .slice at_2 t.goal.length ct2, .slice at_3 t.ops.length ct3]), (24, .slice as2 s_2.length cs), (25, .slice aplan plan.length cplan), (26, .int .i64 i), (27, .pointer (some (ead aplan (i.toNat * 1)))), (28, .int .i64 (gt plan i)), (29, .slice a r3.length c), (1, .slice a r3.length c)] rfl (by kernel_rfl) (.nil) rfl ?_
    refine .blkN ?_
    refine .seqN ?_
    refine .region ?_
    refine .v (mv rfl) rfl rfl rfl ?_
    refine .v (bi rfl rfl rfl) rfl rfl rfl ?_
    refine .v (asg rfl) rfl rfl rfl ?_
    refine .nil ?_
    exact .round (r3, IntKind.i64.wrap (i + 1), a, c, h26) ⟨hF.1, q211, q212, (FH.le_trans (q149) (le26))⟩ hF.2 (.cons rfl (.cons rfl (.cons rfl (.cons rfl (.nil))))) rfl (FH.le_refl _)
  replace hF := hF.2 q185
  refine .exit ?_
  refine .seqX ?_
  refine .seqX ?_
  refine .blkX ?_
  refine .seqN ?_
  refine .seq ?_
  refine .region ?_
  refine .v (mv rfl) rfl rfl rfl ?_
  refine .v (asg rfl) rfl rfl rfl ?_
  refine .v (asg rfl) rfl rfl rfl ?_
  refine .nil ?_
  refine .seqN ?_
  refine .ret ?_
  refine .res2 rfl (rvT rfl) (rvT rfl) (fun w' S => ⟨(s_2, true), (as2, cs), h19, hF, rfl, (q149), ⟨q147, q148⟩, S.none⟩)

theorem c_ends {h : FH} {w : World} (hs : Sub h w) (t : Task) (at_ : Option Addr) (ct : Nat) (_q1 : RSl h at_ t.init) (_q2 : t.init.length ≤ ct) (at_2 : Option Addr) (ct2 : Nat) (_q3 : RSl h at_2 t.goal) (_q4 : t.goal.length ≤ ct2) (at_3 : Option Addr) (ct3 : Nat) (_q5 : RSl h at_3 t.ops) (_q6 : t.ops.length ≤ ct3) (s_ : List Int) (as_ : Option Addr) (cs_ : Nat) (_q7 : RSl h as_ s_) (_q8 : s_.length ≤ cs_) (plan : List Int) (aplan : Option Addr) (cplan : Nat) (_q9 : RSl h aplan plan) (_q10 : plan.length ≤ cplan) (hp : pre_ends t s_ plan) : Calls Tryz.prog 69 #[.agg #[.int .i64 t.facts, .slice at_ t.init.length ct, .slice at_2 t.goal.length ct2, .slice at_3 t.ops.length ct3], .slice as_ s_.length cs_, .slice aplan plan.length cplan] w fun e w' => ∃ (z : Option Addr × Nat) (h1 : FH), e = .returned (.tuple #[.slice z.1 (sp_ends t s_ plan).1.length z.2, .bool (sp_ends t s_ plan).2]) ∧ FH.le h h1 ∧ (RSl h1 z.1 (sp_ends t s_ plan).1 ∧ (sp_ends t s_ plan).1.length ≤ z.2) ∧ SH (Kp.all w h) h1 w' [] :=
  (w_ends hs t at_ ct _q1 _q2 at_2 ct2 _q3 _q4 at_3 ct3 _q5 _q6 s_ as_ cs_ _q7 _q8 plan aplan cplan _q9 _q10 (fun r => r = sp_ends t s_ plan) (ok_ends t s_ plan hp)).mono fun _ _ ⟨r, z, h1, hk, he, hl, hf, hS⟩ => by subst hk; exact ⟨z, h1, he, hl, hf, hS⟩

theorem w_rworks {h : FH} {w : World} (hs : Sub h w) (t : Task) (at_ : Option Addr) (ct : Nat) (_q1 : RSl h at_ t.init) (_q2 : t.init.length ≤ ct) (at_2 : Option Addr) (ct2 : Nat) (_q3 : RSl h at_2 t.goal) (_q4 : t.goal.length ≤ ct2) (at_3 : Option Addr) (ct3 : Nat) (_q5 : RSl h at_3 t.ops) (_q6 : t.ops.length ≤ ct3) (s_ : List Int) (as_ : Option Addr) (cs_ : Nat) (_q7 : RSl h as_ s_) (_q8 : s_.length ≤ cs_) (plan : List Int) (aplan : Option Addr) (cplan : Nat) (_q9 : RSl h aplan plan) (_q10 : plan.length ≤ cplan) (K : Bool → Prop) (hF : F_rworks t s_ plan K) : Calls Tryz.prog 31 #[.agg #[.int .i64 t.facts, .slice at_ t.init.length ct, .slice at_2 t.goal.length ct2, .slice at_3 t.ops.length ct3], .slice as_ s_.length cs_, .slice aplan plan.length cplan] w fun e w' => ∃ r : Bool, K r ∧ e = .returned (.bool r) ∧ Below w.heap.size w w' := by
  refine enter (args := [.agg #[.int .i64 t.facts, .slice at_ t.init.length ct, .slice at_2 t.goal.length ct2, .slice at_3 t.ops.length ct3], .slice as_ s_.length cs_, .slice aplan plan.length cplan]) Tryz.func31 rfl Tryz.ntmps31 rfl hs ?_
  refine .seq ?_
  refine .region ?_
  refine bx (vs := [.int .i64 t.facts, .slice at_ t.init.length ct, .slice at_2 t.goal.length ct2, .slice at_3 t.ops.length ct3]) rfl rfl rfl (fun pt => ?_)
  refine .v (asg rfl) rfl rfl rfl ?_
  refine .nil ?_
  refine .seqN ?_
  refine .seq ?_
  refine .region ?_
  refine .v (ldA (cs := [.int .i64 t.facts, .slice at_ t.init.length ct, .slice at_2 t.goal.length ct2, .slice at_3 t.ops.length ct3]) rfl tA25 rfl (cellsB (off := 0) (k := 0) rfl (m := 4) rfl)) rfl rfl rfl ?_
  refine .v (mv rfl) rfl rfl rfl ?_
  refine .v (mv rfl) rfl rfl rfl ?_
  obtain ⟨q11, hF⟩ := hF
  obtain ⟨r2, q12⟩ : ∃ y_ : List Int × Bool, y_ = sp_ends t s_ plan := ⟨_, rfl⟩
  replace hF := hF r2 q12
  refine clR (α := Option Addr × Nat) (Φ := fun h1 z => RSl h1 z.1 r2.1 ∧ r2.1.length ≤ z.2) (V := fun z => .tuple #[.slice z.1 r2.1.length z.2, .bool r2.2]) Tryz.call69 rfl rfl (fun w S => (by rw [q12]; exact c_ends S.sub t at_ ct _q1 _q2 at_2 ct2 _q3 _q4 at_3 ct3 _q5 _q6 s_ as_ cs_ _q7 _q8 plan aplan cplan _q9 _q10 q11)) rfl (fun z h1 le1 hz => ?_)
  obtain ⟨a, c⟩ := z
  obtain ⟨q13, q14⟩ := hz
  refine .v (mv rfl) rfl rfl rfl ?_
  refine .v (ext rfl rfl) rfl rfl rfl ?_
  refine .v (ext rfl rfl) rfl rfl rfl ?_
  refine .v (asg rfl) rfl rfl rfl ?_
  refine .v (asg rfl) rfl rfl rfl ?_
  refine .nil ?_
  refine .seqN ?_
  refine .seq ?_
  refine .region ?_
  refine .v (mv rfl) rfl rfl rfl ?_
  refine .v (mv rfl) rfl rfl rfl ?_
  rcases Bool.eq_false_or_eq_true (r2.2) with q18 | q18
  · replace hF := hF.1 q18
    refine .gv (fa rfl tF25_2) rfl rfl rfl q18 rfl rfl ?_
    refine .gv (ld1 rfl tO22 (cellB (off := 2) (k := 0) rfl rfl)) rfl rfl rfl q18 rfl rfl ?_
    refine .gv (mv rfl) rfl rfl rfl q18 rfl rfl ?_
    obtain ⟨q19, hF⟩ := hF
    obtain ⟨r3, q20⟩ : ∃ y_ : Bool, y_ = sp_subset t.goal r2.1 := ⟨_, rfl⟩
    replace hF := hF r3 q20
    refine .gc (cl (v := .bool r3) Tryz.call63 rfl rfl (fun w S => (by rw [q20]; exact c_subset S.sub t.goal at_2 ct2 (_q3.mono (le1)) _q4 r2.1 a c q13 q14 q19))) rfl rfl rfl q18 rfl rfl ?_
    refine .v (pkT rfl q18 rfl) rfl rfl rfl ?_
    refine .v (asg rfl) rfl rfl rfl ?_
    refine .nil ?_
    refine .seqN ?_
    refine .ret ?_
    refine .res1 rfl (rvT rfl) (fun w' S => ⟨r3, hF, rfl, S.below⟩)
  replace hF := hF.2 q18
  refine .gS rfl rfl rfl q18 rfl rfl ?_
  refine .gS rfl rfl rfl q18 rfl rfl ?_
  refine .gS rfl rfl rfl q18 rfl rfl ?_
  refine .gS rfl rfl rfl q18 rfl rfl ?_
  refine .v (pkF rfl q18 rfl) rfl rfl rfl ?_
  refine .v (asg rfl) rfl rfl rfl ?_
  refine .nil ?_
  refine .seqN ?_
  refine .ret ?_
  refine .res1 rfl (rvT rfl) (fun w' S => ⟨false, hF, rfl, S.below⟩)

theorem c_rworks {h : FH} {w : World} (hs : Sub h w) (t : Task) (at_ : Option Addr) (ct : Nat) (_q1 : RSl h at_ t.init) (_q2 : t.init.length ≤ ct) (at_2 : Option Addr) (ct2 : Nat) (_q3 : RSl h at_2 t.goal) (_q4 : t.goal.length ≤ ct2) (at_3 : Option Addr) (ct3 : Nat) (_q5 : RSl h at_3 t.ops) (_q6 : t.ops.length ≤ ct3) (s_ : List Int) (as_ : Option Addr) (cs_ : Nat) (_q7 : RSl h as_ s_) (_q8 : s_.length ≤ cs_) (plan : List Int) (aplan : Option Addr) (cplan : Nat) (_q9 : RSl h aplan plan) (_q10 : plan.length ≤ cplan) (hp : pre_rworks t s_ plan) : Calls Tryz.prog 31 #[.agg #[.int .i64 t.facts, .slice at_ t.init.length ct, .slice at_2 t.goal.length ct2, .slice at_3 t.ops.length ct3], .slice as_ s_.length cs_, .slice aplan plan.length cplan] w fun e w' => e = .returned (.bool (sp_rworks t s_ plan)) ∧ Below w.heap.size w w' :=
  (w_rworks hs t at_ ct _q1 _q2 at_2 ct2 _q3 _q4 at_3 ct3 _q5 _q6 s_ as_ cs_ _q7 _q8 plan aplan cplan _q9 _q10 (fun r => r = sp_rworks t s_ plan) (ok_rworks t s_ plan hp)).mono fun _ _ ⟨_, hk, he, hb⟩ => ⟨by rw [he, hk], hb⟩

theorem w_clone {h : FH} {w : World} (hs : Sub h w) (s_ : List Int) (as_ : Option Addr) (cs_ : Nat) (_q1 : RSl h as_ s_) (_q2 : s_.length ≤ cs_) (K : (List Int) → Prop) (hF : F_clone s_ K) : Calls Tryz.prog 112 #[.slice as_ s_.length cs_] w fun e w' => ∃ (r : List Int) (z : Option Addr × Nat) (h1 : FH), K r ∧ e = .returned (.slice z.1 r.length z.2) ∧ FH.le h h1 ∧ (RSl h1 z.1 r ∧ r.length ≤ z.2) ∧ SH (Kp.all w h) h1 w' [] := by
  refine enter (args := [.slice as_ s_.length cs_]) Tryz.func112 rfl Tryz.ntmps112 rfl hs ?_
  refine .seq ?_
  refine .region ?_
  refine .v (asg rfl) rfl rfl rfl ?_
  refine .nil ?_
  refine .seqN ?_
  refine .seq ?_
  refine .seq ?_
  refine .region ?_
  refine .v (mv rfl) rfl rfl rfl ?_
  refine .v (eqnil tS22.is rfl rfl) rfl rfl rfl ?_
  refine .nil ?_
  refine .seqN ?_
  refine .cond rfl (fun q4 => ?_) (fun _ => ?_)
  · replace hF := hF.1 (RSl.nil_of _q1 (by decide) q4)
    refine .seq ?_
    refine .region ?_
    refine .v (asg rfl) rfl rfl rfl ?_
    refine .nil ?_
    refine .seqN ?_
    refine .ret ?_
    refine .seqR ?_
    refine .res1 rfl (rvT rfl) (fun w' S => ⟨([] : List Int), (none, 0), h, hF, rfl, (FH.le_refl _), ⟨RSl.nil_, (Nat.le_refl 0)⟩, S.none⟩)
  replace hF := hF.2
  refine .skip ?_
  refine .seqN ?_
  refine .seq ?_
  refine .region ?_
  refine bs2 (cs := #[]) (pv := []) tS22 rfl rfl (by decide) (by decide) rfl rfl rfl (fun a _ => ?_)
  refine .cast (A' := [OwnSl 3 1 a (([] : List Int).length) 0 (flL ([] : List Int))]) rfl ?_
  refine .v (mv rfl) rfl rfl rfl ?_
  obtain ⟨q6, hF⟩ := hF
  have q7 : ([] : List Int).length + s_.length = ((([] : List Int) ++ s_)).length := len_app rfl rfl
  refine app (k := 0) (news := flL s_) (cs' := flL (([] : List Int) ++ s_)) (nm := ((([] : List Int) ++ s_)).length) tS22 rfl (by decide) rfl rfl rfl (by rw [flL_len]; rfl) (srcH (fun q => _q1.ne (by decide) q) (_q1.raw)) (flL_one _) (room_of q7 q6).1 (room_of q7 q6).2 q7 (flL_append _ _).symm rfl (fun a2 c => ?_)
  refine .cast (A' := [OwnSl 3 1 a2 ((([] : List Int) ++ s_).length) c (flL (([] : List Int) ++ s_))]) rfl ?_
  refine .v (asg rfl) rfl rfl rfl ?_
  refine .nil ?_
  refine .seqN ?_
  refine .freezeL (k := 0) rfl (fun h1 le1 q9 q8 => ?_)
  refine .cast (A' := [tru]) rfl ?_
  refine .ret ?_
  refine .res1 rfl (rvT rfl) (fun w' S => ⟨(([] : List Int) ++ s_), (a2, c), h1, hF, rfl, (le1), ⟨(RSl.of q8), (q9)⟩, S.none⟩)

theorem c_clone {h : FH} {w : World} (hs : Sub h w) (s_ : List Int) (as_ : Option Addr) (cs_ : Nat) (_q1 : RSl h as_ s_) (_q2 : s_.length ≤ cs_) (hp : pre_clone s_) : Calls Tryz.prog 112 #[.slice as_ s_.length cs_] w fun e w' => ∃ (z : Option Addr × Nat) (h1 : FH), e = .returned (.slice z.1 (sp_clone s_).length z.2) ∧ FH.le h h1 ∧ (RSl h1 z.1 (sp_clone s_) ∧ (sp_clone s_).length ≤ z.2) ∧ SH (Kp.all w h) h1 w' [] :=
  (w_clone hs s_ as_ cs_ _q1 _q2 (fun r => r = sp_clone s_) (ok_clone s_ hp)).mono fun _ _ ⟨r, z, h1, hk, he, hl, hf, hS⟩ => by subst hk; exact ⟨z, h1, he, hl, hf, hS⟩

theorem w_update {h : FH} {w : World} (hs : Sub h w) (s_ : List Int) (as_ : Option Addr) (cs_ : Nat) (_q1 : RSl h as_ s_) (_q2 : s_.length ≤ cs_) (add : List Int) (aadd : Option Addr) (cadd : Nat) (_q3 : RSl h aadd add) (_q4 : add.length ≤ cadd) (del : List Int) (adel : Option Addr) (cdel : Nat) (_q5 : RSl h adel del) (_q6 : del.length ≤ cdel) (K : (List Int) → Prop) (hF : F_update s_ add del K) : Calls Tryz.prog 83 #[.slice as_ s_.length cs_, .slice aadd add.length cadd, .slice adel del.length cdel] w fun e w' => ∃ (r : List Int) (z : Option Addr × Nat) (h1 : FH), K r ∧ e = .returned (.slice z.1 r.length z.2) ∧ FH.le h h1 ∧ True ∧ SH (Kp.all w h) h1 w' [OwnSl 3 1 z.1 r.length z.2 (flL r)] := by
  refine enter (args := [.slice as_ s_.length cs_, .slice aadd add.length cadd, .slice adel del.length cdel]) Tryz.func83 rfl Tryz.ntmps83 rfl hs ?_
  refine .seq ?_
  refine .region ?_
  refine .v (asg rfl) rfl rfl rfl ?_
  refine .nil ?_
  refine .seqN ?_
  refine .seq ?_
  refine .region ?_
  refine .v (asg rfl) rfl rfl rfl ?_
  refine .nil ?_
  refine .seqN ?_
  refine .seq ?_
  refine .seq ?_
  refine .region ?_
  refine .v (mv rfl) rfl rfl rfl ?_
  refine .v (ln rfl tS22.is) rfl rfl rfl ?_
  refine .v (mv rfl) rfl rfl rfl ?_
  refine .nil ?_
  refine .seqN ?_
  refine .block ?_
  refine .nilSl 3 1 ?_
  refine .cast (A' := [OwnSl 3 1 none (([] : List Int).length) 0 (flL ([] : List Int))]) rfl ?_
  obtain ⟨I1, μ1, q99, q100⟩ := hF
  refine .loop' (σ := Int × List Int × Option Addr × Nat) (fun z => I1 z.1 z.2.1) (fun z => μ1 z.1 z.2.1) (fun z => [(1, .slice aadd add.length cadd), (2, .slice adel del.length cdel), (7, .slice z.2.2.1 z.2.1.length z.2.2.2), (12, .slice as_ s_.length cs_), (13, .int .i64 ((s_.length : Nat) : Int)), (14, .int .i64 z.1)]) (fun z => [OwnSl 3 1 z.2.2.1 z.2.1.length z.2.2.2 (flL z.2.1)]) (fun _ => h) (0, ([] : List Int), none, 0) q99 (.cons rfl (.cons rfl (.cons rfl (.cons rfl (.cons rfl (.cons rfl (.nil))))))) rfl (FH.le_refl _) ?_
  rintro ⟨t14, out, aout, cout⟩ q99
  have hF := q100 t14 out q99
  show J _ _ _ _ _ [(1, .slice aadd add.length cadd), (2, .slice adel del.length cdel), (7, .slice aout out.length cout), (12, .slice as_ s_.length cs_), (13, .int .i64 ((s_.length : Nat) : Int)), (14, .int .i64 t14)] [OwnSl 3 1 aout out.length cout (flL out)] h
  refine .seq ?_
  refine .region ?_
  refine .v (bi rfl rfl rfl) rfl rfl rfl ?_
  refine .nil ?_
  refine .seqN ?_
  refine .seq ?_
  refine .cond rfl (fun q103 => ?_) (fun q103 => ?_)
  · replace hF := hF.1 q103
    refine .skip ?_
    refine .seqN ?_
    refine .share (σ := List Int × Option Addr × Nat) (fun z => F_update_J1 out t14 I1 μ1 z.1) (fun z => [(1, .slice aadd add.length cadd), (2, .slice adel del.length cdel), (7, .slice z.2.1 z.1.length z.2.2), (12, .slice as_ s_.length cs_), (13, .int .i64 ((s_.length : Nat) : Int)), (14, .int .i64 t14)]) (fun z => [OwnSl 3 1 z.2.1 z.1.length z.2.2 (flL z.1)]) (fun _ => h) ?_ (fun q111 => ?_)
    · rintro ⟨out3, aout3, cout3⟩ hF
      show J _ _ _ _ _ [(1, .slice aadd add.length cadd), (2, .slice adel del.length cdel), (7, .slice aout3 out3.length cout3), (12, .slice as_ s_.length cs_), (13, .int .i64 ((s_.length : Nat) : Int)), (14, .int .i64 t14)] [OwnSl 3 1 aout3 out3.length cout3 (flL out3)] h
      refine .region ?_
      refine .v (bi rfl rfl rfl) rfl rfl rfl ?_
      refine .v (mv rfl) rfl rfl rfl ?_
      refine .nil ?_
      exact .round (IntKind.i64.wrap (t14 + 1), out3, aout3, cout3) hF.1 hF.2 (.cons rfl (.cons rfl (.cons rfl (.cons rfl (.cons rfl (.cons rfl (.nil))))))) rfl (FH.le_refl _)
    refine .block ?_
    refine .seq ?_
    refine .region ?_
    obtain ⟨q112, hF⟩ := hF
    refine .v (ix rfl rfl tS22 (_q1.ne (by decide) (inb_pos q112)) q112) rfl rfl rfl ?_
    refine .v (ld1 (v := .int .i64 (gt s_ t14)) rfl tO3 (cellH (_q1.elemF q112 (by decide) 0 _ rfl))) rfl rfl rfl ?_
    refine .v (asg rfl) rfl rfl rfl ?_
    refine .nil ?_
    refine .seqN ?_
    refine .seq ?_
    refine .region ?_
    refine .v (mv rfl) rfl rfl rfl ?_
    refine .v (mv rfl) rfl rfl rfl ?_
    obtain ⟨q113, hF⟩ := hF
    obtain ⟨r2, q114⟩ : ∃ y_ : Int × Bool, y_ = sp_bsearch del (gt s_ t14) := ⟨_, rfl⟩
    replace hF := hF r2 q114
    refine .c (cl (v := .tuple #[.int .i64 r2.1, .bool r2.2]) Tryz.call104 rfl rfl (fun w S => (by rw [q114]; exact c_bsearch S.sub del adel cdel _q5 _q6 (gt s_ t14) q113))) rfl rfl rfl ?_
    refine .v (mv rfl) rfl rfl rfl ?_
    refine .v (ext rfl rfl) rfl rfl rfl ?_
    refine .v (ext rfl rfl) rfl rfl rfl ?_
    refine .v (asg rfl) rfl rfl rfl ?_
    refine .v (asg rfl) rfl rfl rfl ?_
    refine .nil ?_
    refine .seqN ?_
    refine .seq ?_
    refine .region ?_
    refine .v (mv rfl) rfl rfl rfl ?_
    refine .v (nt rfl) rfl rfl rfl ?_
    refine .nil ?_
    refine .seqN ?_
    refine .cond rfl (fun q115 => ?_) (fun q115 => ?_)
    · replace hF := hF.1 q115
      refine .region ?_
      refine .v (mv rfl) rfl rfl rfl ?_
      refine .v (mv rfl) rfl rfl rfl ?_
      refine bs2 (cs := #[.int .i64 (gt s_ t14)]) (pv := [(0, .int .i64 (gt s_ t14))]) tS22 rfl rfl (by decide) (by decide) rfl rfl rfl (fun a _ => ?_)
      refine .cast (A' := [OwnSl 3 1 a (([(gt s_ t14)] : List Int).length) 1 (flL ([(gt s_ t14)] : List Int)), OwnSl 3 1 aout out.length cout (flL out)]) rfl ?_
      obtain ⟨q117, hF⟩ := hF
      have q118 : out.length + ([(gt s_ t14)] : List Int).length = ((out ++ ([(gt s_ t14)] : List Int))).length := len_app rfl rfl
      refine app (k := 1) (news := flL ([(gt s_ t14)] : List Int)) (cs' := flL (out ++ ([(gt s_ t14)] : List Int))) (nm := ((out ++ ([(gt s_ t14)] : List Int))).length) tS22 rfl (by decide) rfl rfl rfl (by rw [flL_len]; rfl) (srcS (k := 0) rfl) (flL_one _) (room_of q118 q117).1 (room_of q118 q117).2 q118 (flL_append _ _).symm rfl (fun a2 c => ?_)
      refine .cast (A' := [OwnSl 3 1 a (([(gt s_ t14)] : List Int).length) 1 (flL ([(gt s_ t14)] : List Int)), OwnSl 3 1 a2 ((out ++ ([(gt s_ t14)] : List Int)).length) c (flL (out ++ ([(gt s_ t14)] : List Int)))]) rfl ?_
      refine .v (asg rfl) rfl rfl rfl ?_
      refine .nil ?_
      refine .blkN ?_
      refine .sel0 [1] (by decide) rfl ?_
      exact .use q111 ((out ++ ([(gt s_ t14)] : List Int)), a2, c) hF (.cons rfl (.cons rfl (.cons rfl (.cons rfl (.cons rfl (.cons rfl (.nil))))))) rfl (FH.le_refl _)
    replace hF := hF.2 q115
    refine .skip ?_
    refine .blkN ?_
    exact .use q111 (out, aout, cout) hF (.cons rfl (.cons rfl (.cons rfl (.cons rfl (.cons rfl (.cons rfl (.nil))))))) rfl (FH.le_refl _)
  replace hF := hF.2 q103
  refine .exit ?_
  refine .seqX ?_
  refine .seqX ?_
  refine .blkX ?_
  refine .seqN ?_
  refine .seq ?_
  refine .region ?_
  refine .v (mv rfl) rfl rfl rfl ?_
  refine .v (mv rfl) rfl rfl rfl ?_
  obtain ⟨q119, hF⟩ := hF
  have q120 : out.length + add.length = ((out ++ add)).length := len_app rfl rfl
  refine app (k := 0) (news := flL add) (cs' := flL (out ++ add)) (nm := ((out ++ add)).length) tS22 rfl (by decide) rfl rfl rfl (by rw [flL_len]; rfl) (srcH (fun q => _q3.ne (by decide) q) (_q3.raw)) (flL_one _) (room_of q120 q119).1 (room_of q120 q119).2 q120 (flL_append _ _).symm rfl (fun a3 c2 => ?_)
  refine .cast (A' := [OwnSl 3 1 a3 ((out ++ add).length) c2 (flL (out ++ add))]) rfl ?_
  refine .v (asg rfl) rfl rfl rfl ?_
  refine .nil ?_
  refine .seqN ?_
  refine .seq ?_
  refine .region ?_
  refine .v (mv rfl) rfl rfl rfl ?_
  obtain ⟨q121, hF⟩ := hF
  obtain ⟨r3, q122⟩ : ∃ y_ : List Int, y_ = sp_sort (out ++ add) := ⟨_, rfl⟩
  replace hF := hF r3 q122
  refine callX (k := 0) (v := .tuple #[]) (X' := OwnSl 3 1 a3 ((out ++ add).length) c2 (flL r3)) rfl Tryz.call105 rfl rfl (fun w g hx sg hd hs' => ?_) rfl ?_
  · rw [q122]; exact c_sort hs' (out ++ add) a3 c2 hx sg hd q121
  have q123 : r3.length = (out ++ add).length := by rw [q122]; exact (sort_len (out ++ add)).trans rfl
  refine .cast (A' := [OwnSl 3 1 a3 ((out ++ add).length) c2 (flL r3)]) rfl ?_
  refine .nil ?_
  refine .seqN ?_
  refine .seq ?_
  refine .region ?_
  refine .v (mv rfl) rfl rfl rfl ?_
  obtain ⟨q124, hF⟩ := hF
  obtain ⟨r4, q125⟩ : ∃ y_ : List Int, y_ = sp_compact r3 := ⟨_, rfl⟩
  replace hF := hF r4 q125
  refine callX (k := 0) (v := .slice a3 r4.length c2) (X' := OwnSl 3 1 a3 (r4.length) c2 (flL r4)) rfl Tryz.call106 rfl rfl (fun w g hx sg hd hs' => ?_) rfl ?_
  · rw [q125]; have hc_ := c_compact hs' r3 a3 c2 (own_n (q123).symm hx) sg hd q124; rw [q123] at hc_; exact hc_
  refine .cast (A' := [OwnSl 3 1 a3 r4.length c2 (flL r4)]) rfl ?_
  refine .v (asg rfl) rfl rfl rfl ?_
  refine .nil ?_
  refine .seqN ?_
  refine .ret ?_
  refine .res1 rfl (rvT rfl) (fun w' S => ⟨r4, (a3, c2), h, hF, rfl, (FH.le_refl _), trivial, S.pick (k := 0) rfl⟩)

theorem c_update {h : FH} {w : World} (hs : Sub h w) (s_ : List Int) (as_ : Option Addr) (cs_ : Nat) (_q1 : RSl h as_ s_) (_q2 : s_.length ≤ cs_) (add : List Int) (aadd : Option Addr) (cadd : Nat) (_q3 : RSl h aadd add) (_q4 : add.length ≤ cadd) (del : List Int) (adel : Option Addr) (cdel : Nat) (_q5 : RSl h adel del) (_q6 : del.length ≤ cdel) (hp : pre_update s_ add del) : Calls Tryz.prog 83 #[.slice as_ s_.length cs_, .slice aadd add.length cadd, .slice adel del.length cdel] w fun e w' => ∃ (z : Option Addr × Nat) (h0 h1 : FH), e = .returned (.slice z.1 (sp_update s_ add del).length z.2) ∧ (True) ∧ FH.le h h1 ∧ SH (Kp.all w h0) h1 w' [OwnSl 3 1 z.1 (sp_update s_ add del).length z.2 (flL (sp_update s_ add del))] :=
  (w_update hs s_ as_ cs_ _q1 _q2 add aadd cadd _q3 _q4 del adel cdel _q5 _q6 (fun r => r = sp_update s_ add del) (ok_update s_ add del hp)).mono fun _ _ ⟨r, z, h1, hk, he, hl, hψ, hS⟩ => by subst hk; exact ⟨z, h, h1, he, hψ, hl, hS⟩

set_option maxHeartbeats 8000000 in
theorem w_contains2 {h : FH} {w : World} (hs : Sub h w) (s_ : List Int) (as_ : Option Addr) (cs_ : Nat) (_q1 : RSl h as_ s_) (_q2 : s_.length ≤ cs_) (part : List Int) (apart : Option Addr) (cpart : Nat) (_q3 : RSl h apart part) (_q4 : part.length ≤ cpart) (K : Bool → Prop) (hF : F_contains2 s_ part K) : Calls Tryz.prog 88 #[.slice as_ s_.length cs_, .slice apart part.length cpart] w fun e w' => ∃ r : Bool, K r ∧ e = .returned (.bool r) ∧ Below w.heap.size w w' := by
  refine enter (args := [.slice as_ s_.length cs_, .slice apart part.length cpart]) Tryz.func88 rfl Tryz.ntmps88 rfl hs ?_
  refine .seq ?_
  refine .region ?_
  refine .v (asg rfl) rfl rfl rfl ?_
  refine .nil ?_
  refine .seqN ?_
  refine .seq ?_
  refine .region ?_
  refine .v (asg rfl) rfl rfl rfl ?_
  refine .nil ?_
  refine .seqN ?_
  refine .seq ?_
  refine .seq ?_
  refine .region ?_
  refine .v (mv rfl) rfl rfl rfl ?_
  refine .v (ln rfl tS22.is) rfl rfl rfl ?_
  refine .v (mv rfl) rfl rfl rfl ?_
  refine .nil ?_
  refine .seqN ?_
  refine .block ?_
  obtain ⟨I1, μ1, q1162, q1163⟩ := hF
  refine .loop' (σ := Int × Int) (fun z => I1 z.1 z.2) (fun z => μ1 z.1 z.2) (fun z => [(0, .slice as_ s_.length cs_), (5, .int .i64 z.1), (8, .slice apart part.length cpart), (9, .int .i64 ((part.length : Nat) : Int)), (10, .int .i64 z.2)]) (fun _ => []) (fun _ => h) (0, 0) q1162 (.cons rfl (.cons rfl (.cons rfl (.cons rfl (.cons rfl (.nil)))))) rfl (FH.le_refl _) ?_
  rintro ⟨i, t10⟩ q1162
  have hF := q1163 i t10 q1162
  show J _ _ _ _ _ [(0, .slice as_ s_.length cs_), (5, .int .i64 i), (8, .slice apart part.length cpart), (9, .int .i64 ((part.length : Nat) : Int)), (10, .int .i64 t10)] [] h
  refine .seq ?_
  refine .region ?_
  refine .v (bi rfl rfl rfl) rfl rfl rfl ?_
  refine .nil ?_
  refine .seqN ?_
  refine .seq ?_
  refine .cond rfl (fun q1166 => ?_) (fun q1166 => ?_)
  · replace hF := hF.1 q1166
    refine .skip ?_
    refine .seqN ?_
    refine .seq ?_
    refine .block ?_
    refine .seq ?_
    refine .region ?_
    obtain ⟨q1319, hF⟩ := hF
    refine .v (ix rfl rfl tS22 (_q3.ne (by decide) (inb_pos q1319)) q1319) rfl rfl rfl ?_
    refine .v (ld1 (v := .int .i64 (gt part t10)) rfl tO3 (cellH (_q3.elemF q1319 (by decide) 0 _ rfl))) rfl rfl rfl ?_
    refine .v (asg rfl) rfl rfl rfl ?_
    refine .nil ?_
    refine .seqN ?_
    refine .seq ?_
    refine .block ?_
    obtain ⟨I2, μ2, q1380, q1381⟩ := hF
    refine .loop' (σ := Int) (fun z => I2 z) (fun z => μ2 z) (fun z => [(0, .slice as_ s_.length cs_), (5, .int .i64 z), (7, .int .i64 (gt part t10)), (8, .slice apart part.length cpart), (9, .int .i64 ((part.length : Nat) : Int)), (10, .int .i64 t10)]) (fun _ => []) (fun _ => h) i q1380 (.cons rfl (.cons rfl (.cons rfl (.cons rfl (.cons rfl (.cons rfl (.nil))))))) rfl (FH.le_refl _) ?_
    rintro i3 q1380
    have hF := q1381 i3 q1380
    show J _ _ _ _ _ [(0, .slice as_ s_.length cs_), (5, .int .i64 i3), (7, .int .i64 (gt part t10)), (8, .slice apart part.length cpart), (9, .int .i64 ((part.length : Nat) : Int)), (10, .int .i64 t10)] [] h
    refine .seq ?_
    refine .share (σ := Bool) (fun z => F_contains2_J1 s_ part K z i I2 μ2 t10 i3 I1 μ1) (fun z => [(0, .slice as_ s_.length cs_), (5, .int .i64 i3), (7, .int .i64 (gt part t10)), (8, .slice apart part.length cpart), (9, .int .i64 ((part.length : Nat) : Int)), (10, .int .i64 t10), (25, .bool z)]) (fun _ => []) (fun _ => h) ?_ (fun q1384 => ?_)
    · rintro t25 hF
      show J _ _ _ _ _ [(0, .slice as_ s_.length cs_), (5, .int .i64 i3), (7, .int .i64 (gt part t10)), (8, .slice apart part.length cpart), (9, .int .i64 ((part.length : Nat) : Int)), (10, .int .i64 t10), (25, .bool t25)] [] h
      refine .cond rfl (fun q1386 => ?_) (fun q1386 => ?_)
      · replace hF := hF.1 q1386
        refine .skip ?_
        refine .seqN ?_
        refine .block ?_
        refine .region ?_
        refine .v (mv rfl) rfl rfl rfl ?_
        refine .v (bi rfl rfl rfl) rfl rfl rfl ?_
        refine .v (asg rfl) rfl rfl rfl ?_
        refine .nil ?_
        refine .blkN ?_
        exact .round (IntKind.i64.wrap (i3 + 1)) hF.1 hF.2 (.cons rfl (.cons rfl (.cons rfl (.cons rfl (.cons rfl (.cons rfl (.nil))))))) rfl (FH.le_refl _)
      replace hF := hF.2 q1386
      refine .exit ?_
      refine .seqX ?_
      refine .seqX ?_
      refine .blkX ?_
      refine .seqN ?_
      refine .share (σ := Bool) (fun z => F_contains2_J2 K i z t10 i3 I1 μ1) (fun z => [(0, .slice as_ s_.length cs_), (5, .int .i64 i3), (8, .slice apart part.length cpart), (9, .int .i64 ((part.length : Nat) : Int)), (10, .int .i64 t10), (39, .bool z)]) (fun _ => []) (fun _ => h) ?_ (fun q1389 => ?_)
      · rintro t39 hF
        show J _ _ _ _ _ [(0, .slice as_ s_.length cs_), (5, .int .i64 i3), (8, .slice apart part.length cpart), (9, .int .i64 ((part.length : Nat) : Int)), (10, .int .i64 t10), (39, .bool t39)] [] h
        refine .cond rfl (fun q1390 => ?_) (fun q1390 => ?_)
        · replace hF := hF.1 q1390
          refine .seq ?_
          refine .region ?_
          refine .v (asg rfl) rfl rfl rfl ?_
          refine .nil ?_
          refine .seqN ?_
          refine .ret ?_
          refine .blkR ?_
          refine .seqR ?_
          refine .seqR ?_
          refine .blkR ?_
          refine .seqR ?_
          refine .res1 rfl (rvT rfl) (fun w' S => ⟨false, hF, rfl, S.below⟩)
        replace hF := hF.2 q1390
        refine .skip ?_
        refine .blkN ?_
        refine .seqN ?_
        refine .region ?_
        refine .v (bi rfl rfl rfl) rfl rfl rfl ?_
        refine .v (mv rfl) rfl rfl rfl ?_
        refine .nil ?_
        exact .round (i3, IntKind.i64.wrap (t10 + 1)) hF.1 hF.2 (.cons rfl (.cons rfl (.cons rfl (.cons rfl (.cons rfl (.nil)))))) rfl (FH.le_refl _)
      refine .region ?_
      refine .v (mv rfl) rfl rfl rfl ?_
      refine .v (mv rfl) rfl rfl rfl ?_
      refine .v (ln rfl tS22.is) rfl rfl rfl ?_
      refine .v (bi rfl rfl rfl) rfl rfl rfl ?_
      refine .v (mv rfl) rfl rfl rfl ?_
      rcases Bool.eq_false_or_eq_true (i3 == ((s_.length : Nat) : Int)) with q1391 | q1391
      · replace hF := hF.1 q1391
        refine .gS rfl rfl rfl q1391 rfl rfl ?_
        refine .gS rfl rfl rfl q1391 rfl rfl ?_
        refine .gS rfl rfl rfl q1391 rfl rfl ?_
        refine .gS rfl rfl rfl q1391 rfl rfl ?_
        refine .gS rfl rfl rfl q1391 rfl rfl ?_
        refine .gS rfl rfl rfl q1391 rfl rfl ?_
        refine .v (pkT rfl q1391 rfl) rfl rfl rfl ?_
        refine .nil ?_
        exact .use q1389 true hF (.cons rfl (.cons rfl (.cons rfl (.cons rfl (.cons rfl (.cons rfl (.nil))))))) rfl (FH.le_refl _)
      replace hF := hF.2 q1391
      refine .gv (mv rfl) rfl rfl rfl q1391 rfl rfl ?_
      refine .gv (mv rfl) rfl rfl rfl q1391 rfl rfl ?_
      obtain ⟨q1392, hF⟩ := hF
      refine .gv (ix rfl rfl tS22 (_q1.ne (by decide) (inb_pos q1392)) q1392) rfl rfl rfl q1391 rfl rfl ?_
      refine .gv (ld1 (v := .int .i64 (gt s_ i3)) rfl tO3 (cellH (_q1.elemF q1392 (by decide) 0 _ rfl))) rfl rfl rfl q1391 rfl rfl ?_
      refine .gv (mv rfl) rfl rfl rfl q1391 rfl rfl ?_
      refine .gv (bi rfl rfl rfl) rfl rfl rfl q1391 rfl rfl ?_
      refine .v (pkF rfl q1391 rfl) rfl rfl rfl ?_
      refine .nil ?_
      exact .use q1389 ((gt s_ i3) != (gt part t10)) hF (.cons rfl (.cons rfl (.cons rfl (.cons rfl (.cons rfl (.cons rfl (.nil))))))) rfl (FH.le_refl _)
    refine .region ?_
    refine .v (mv rfl) rfl rfl rfl ?_
    refine .v (mv rfl) rfl rfl rfl ?_
    refine .v (ln rfl tS22.is) rfl rfl rfl ?_
    refine .v (bi rfl rfl rfl) rfl rfl rfl ?_
    refine .v (mv rfl) rfl rfl rfl ?_
    rcases Bool.eq_false_or_eq_true (decide (i3 < ((s_.length : Nat) : Int))) with q1393 | q1393
    · replace hF := hF.1 q1393
      refine .gv (mv rfl) rfl rfl rfl q1393 rfl rfl ?_
      refine .gv (mv rfl) rfl rfl rfl q1393 rfl rfl ?_
      obtain ⟨q1394, hF⟩ := hF
      refine .gv (ix rfl rfl tS22 (_q1.ne (by decide) (inb_pos q1394)) q1394) rfl rfl rfl q1393 rfl rfl ?_
      refine .gv (ld1 (v := .int .i64 (gt s_ i3)) rfl tO3 (cellH (_q1.elemF q1394 (by decide) 0 _ rfl))) rfl rfl rfl q1393 rfl rfl ?_
      refine .gv (mv rfl) rfl rfl rfl q1393 rfl rfl ?_
      refine .gv (bi rfl rfl rfl) rfl rfl rfl q1393 rfl rfl ?_
      refine .v (pkT rfl q1393 rfl) rfl rfl rfl ?_
      refine .nil ?_
      exact .use q1384 (decide ((gt s_ i3) < (gt part t10))) hF (.cons rfl (.cons rfl (.cons rfl (.cons rfl (.cons rfl (.cons rfl (.cons rfl (.nil)))))))) rfl (FH.le_refl _)
    replace hF := hF.2 q1393
    refine .gS rfl rfl rfl q1393 rfl rfl ?_
    refine .gS rfl rfl rfl q1393 rfl rfl ?_
    refine .gS rfl rfl rfl q1393 rfl rfl ?_
    refine .gS rfl rfl rfl q1393 rfl rfl ?_
    refine .gS rfl rfl rfl q1393 rfl rfl ?_
    refine .gS rfl rfl rfl q1393 rfl rfl ?_
    refine .v (pkF rfl q1393 rfl) rfl rfl rfl ?_
    refine .nil ?_
    exact .use q1384 false hF (.cons rfl (.cons rfl (.cons rfl (.cons rfl (.cons rfl (.cons rfl (.cons rfl (.nil)))))))) rfl (FH.le_refl _)
  replace hF := hF.2 q1166
  refine .exit ?_
  refine .seqX ?_
  refine .seqX ?_
  refine .blkX ?_
  refine .seqN ?_
  refine .seq ?_
  refine .region ?_
  refine .v (asg rfl) rfl rfl rfl ?_
  refine .nil ?_
  refine .seqN ?_
  refine .ret ?_
  refine .res1 rfl (rvT rfl) (fun w' S => ⟨true, hF, rfl, S.below⟩)

theorem c_contains2 {h : FH} {w : World} (hs : Sub h w) (s_ : List Int) (as_ : Option Addr) (cs_ : Nat) (_q1 : RSl h as_ s_) (_q2 : s_.length ≤ cs_) (part : List Int) (apart : Option Addr) (cpart : Nat) (_q3 : RSl h apart part) (_q4 : part.length ≤ cpart) (hp : pre_contains2 s_ part) : Calls Tryz.prog 88 #[.slice as_ s_.length cs_, .slice apart part.length cpart] w fun e w' => e = .returned (.bool (sp_contains2 s_ part)) ∧ Below w.heap.size w w' :=
  (w_contains2 hs s_ as_ cs_ _q1 _q2 part apart cpart _q3 _q4 (fun r => r = sp_contains2 s_ part) (ok_contains2 s_ part hp)).mono fun _ _ ⟨_, hk, he, hb⟩ => ⟨by rw [he, hk], hb⟩

theorem w_can {h : FH} {w : World} (hs : Sub h w) (t : Task) (at_ : Option Addr) (ct : Nat) (_q1 : RSl h at_ t.init) (_q2 : t.init.length ≤ ct) (at_2 : Option Addr) (ct2 : Nat) (_q3 : RSl h at_2 t.goal) (_q4 : t.goal.length ≤ ct2) (at_3 : Option Addr) (ct3 : Nat) (_q5 : RSl h at_3 t.ops) (_q6 : t.ops.length ≤ ct3) (s_ : List Int) (as_ : Option Addr) (cs_ : Nat) (_q7 : RSl h as_ s_) (_q8 : s_.length ≤ cs_) (op : Int) (K : Bool → Prop) (hF : F_can t s_ op K) : Calls Tryz.prog 100 #[.agg #[.int .i64 t.facts, .slice at_ t.init.length ct, .slice at_2 t.goal.length ct2, .slice at_3 t.ops.length ct3], .slice as_ s_.length cs_, .int .i64 op] w fun e w' => ∃ r : Bool, K r ∧ e = .returned (.bool r) ∧ Below w.heap.size w w' := by
  refine enter (args := [.agg #[.int .i64 t.facts, .slice at_ t.init.length ct, .slice at_2 t.goal.length ct2, .slice at_3 t.ops.length ct3], .slice as_ s_.length cs_, .int .i64 op]) Tryz.func100 rfl Tryz.ntmps100 rfl hs ?_
  refine .seq ?_
  refine .region ?_
  refine bx (vs := [.int .i64 t.facts, .slice at_ t.init.length ct, .slice at_2 t.goal.length ct2, .slice at_3 t.ops.length ct3]) rfl rfl rfl (fun pt => ?_)
  refine .v (asg rfl) rfl rfl rfl ?_
  refine .nil ?_
  refine .seqN ?_
  refine .seq ?_
  refine .region ?_
  refine .v (mv rfl) rfl rfl rfl ?_
  refine .v (fa rfl tF25_3) rfl rfl rfl ?_
  refine .v (ld1 rfl tO23 (cellB (off := 3) (k := 0) rfl rfl)) rfl rfl rfl ?_
  refine .v (mv rfl) rfl rfl rfl ?_
  obtain ⟨q9, hF⟩ := hF
  refine .v (ix rfl rfl tS23 (_q5.ne (by decide) (inb_pos q9)) q9) rfl rfl rfl ?_
  refine .v (fa rfl tF54_0) rfl rfl rfl ?_
  obtain ⟨_, ⟨a, c, a2, c2, a3, c3, rfl, ⟨q10, q11⟩, ⟨q12, q13⟩, q14, q15⟩, q16⟩ := _q5.elem q9
  refine .v (ld1 (v := .slice a ((gt t.ops op).pre.length) c) rfl tO22 (cellH (q16 (by decide) 0 _ rfl))) rfl rfl rfl ?_
  obtain ⟨q17, hF⟩ := hF
  obtain ⟨r2, q18⟩ : ∃ y_ : Bool, y_ = sp_contains2 s_ ((gt t.ops op).pre) := ⟨_, rfl⟩
  replace hF := hF r2 q18
  refine .c (cl (v := .bool r2) Tryz.call88 rfl rfl (fun w S => (by rw [q18]; exact c_contains2 S.sub s_ as_ cs_ _q7 _q8 ((gt t.ops op).pre) a c q11 q10 q17))) rfl rfl rfl ?_
  refine .v (asg rfl) rfl rfl rfl ?_
  refine .nil ?_
  refine .seqN ?_
  refine .ret ?_
  refine .res1 rfl (rvT rfl) (fun w' S => ⟨r2, hF, rfl, S.below⟩)

theorem c_can {h : FH} {w : World} (hs : Sub h w) (t : Task) (at_ : Option Addr) (ct : Nat) (_q1 : RSl h at_ t.init) (_q2 : t.init.length ≤ ct) (at_2 : Option Addr) (ct2 : Nat) (_q3 : RSl h at_2 t.goal) (_q4 : t.goal.length ≤ ct2) (at_3 : Option Addr) (ct3 : Nat) (_q5 : RSl h at_3 t.ops) (_q6 : t.ops.length ≤ ct3) (s_ : List Int) (as_ : Option Addr) (cs_ : Nat) (_q7 : RSl h as_ s_) (_q8 : s_.length ≤ cs_) (op : Int) (hp : pre_can t s_ op) : Calls Tryz.prog 100 #[.agg #[.int .i64 t.facts, .slice at_ t.init.length ct, .slice at_2 t.goal.length ct2, .slice at_3 t.ops.length ct3], .slice as_ s_.length cs_, .int .i64 op] w fun e w' => e = .returned (.bool (sp_applies t s_ op)) ∧ Below w.heap.size w w' :=
  (w_can hs t at_ ct _q1 _q2 at_2 ct2 _q3 _q4 at_3 ct3 _q5 _q6 s_ as_ cs_ _q7 _q8 op (fun r => r = sp_applies t s_ op) (ok_can t s_ op hp)).mono fun _ _ ⟨_, hk, he, hb⟩ => ⟨by rw [he, hk], hb⟩

theorem w_next {h : FH} {w : World} (hs : Sub h w) (t : Task) (at_ : Option Addr) (ct : Nat) (_q1 : RSl h at_ t.init) (_q2 : t.init.length ≤ ct) (at_2 : Option Addr) (ct2 : Nat) (_q3 : RSl h at_2 t.goal) (_q4 : t.goal.length ≤ ct2) (at_3 : Option Addr) (ct3 : Nat) (_q5 : RSl h at_3 t.ops) (_q6 : t.ops.length ≤ ct3) (s_ : List Int) (as_ : Option Addr) (cs_ : Nat) (_q7 : RSl h as_ s_) (_q8 : s_.length ≤ cs_) (op : Int) (K : (List Int) → Prop) (hF : F_next t s_ op K) : Calls Tryz.prog 93 #[.agg #[.int .i64 t.facts, .slice at_ t.init.length ct, .slice at_2 t.goal.length ct2, .slice at_3 t.ops.length ct3], .slice as_ s_.length cs_, .int .i64 op] w fun e w' => ∃ (r : List Int) (z : Option Addr × Nat) (h1 : FH), K r ∧ e = .returned (.slice z.1 r.length z.2) ∧ FH.le h h1 ∧ (RSl h1 z.1 r ∧ r.length ≤ z.2) ∧ SH (Kp.all w h) h1 w' [] := by
  refine enter (args := [.agg #[.int .i64 t.facts, .slice at_ t.init.length ct, .slice at_2 t.goal.length ct2, .slice at_3 t.ops.length ct3], .slice as_ s_.length cs_, .int .i64 op]) Tryz.func93 rfl Tryz.ntmps93 rfl hs ?_
  refine .seq ?_
  refine .region ?_
  refine bx (vs := [.int .i64 t.facts, .slice at_ t.init.length ct, .slice at_2 t.goal.length ct2, .slice at_3 t.ops.length ct3]) rfl rfl rfl (fun pt => ?_)
  refine .v (asg rfl) rfl rfl rfl ?_
  refine .nil ?_
  refine .seqN ?_
  refine .seq ?_
  refine .region ?_
  refine .v (fa rfl tF25_3) rfl rfl rfl ?_
  refine .v (ld1 rfl tO23 (cellB (off := 3) (k := 0) rfl rfl)) rfl rfl rfl ?_
  refine .v (mv rfl) rfl rfl rfl ?_
  obtain ⟨q9, hF⟩ := hF
  refine .v (ix rfl rfl tS23 (_q5.ne (by decide) (inb_pos q9)) q9) rfl rfl rfl ?_
  obtain ⟨_, ⟨a, c, a2, c2, a3, c3, rfl, ⟨q10, q11⟩, ⟨q12, q13⟩, q14, q15⟩, q16⟩ := _q5.elem q9
  refine .v (ldA (cs := [.slice a ((gt t.ops op).pre.length) c, .slice a2 ((gt t.ops op).add.length) c2, .slice a3 ((gt t.ops op).del.length) c3, .int .i64 ((gt t.ops op).cost)]) rfl tA54 rfl (cellsH (q16 (by decide)))) rfl rfl rfl ?_
  refine al tZ54 rfl (fun po => ?_)
  refine st (p := po) (off := 0) (k := 0) (vs := [.slice a ((gt t.ops op).pre.length) c, .slice a2 ((gt t.ops op).add.length) c2, .slice a3 ((gt t.ops op).del.length) c3, .int .i64 ((gt t.ops op).cost)]) rfl rfl rfl (fun w => (tA54 w).2) rfl rfl rfl rfl ?_
  refine .cast (A' := [Box po [.slice a ((gt t.ops op).pre.length) c, .slice a2 ((gt t.ops op).add.length) c2, .slice a3 ((gt t.ops op).del.length) c3, .int .i64 ((gt t.ops op).cost)], Box pt [.int .i64 t.facts, .slice at_ t.init.length ct, .slice at_2 t.goal.length ct2, .slice at_3 t.ops.length ct3]]) rfl ?_
  refine .nil ?_
  refine .seqN ?_
  refine .seq ?_
  refine .region ?_
  refine .v (mv rfl) rfl rfl rfl ?_
  refine .v (fa rfl tF54_1) rfl rfl rfl ?_
  refine .v (ld1 rfl tO22 (cellB (off := 1) (k := 0) rfl rfl)) rfl rfl rfl ?_
  refine .v (fa rfl tF54_2) rfl rfl rfl ?_
  refine .v (ld1 rfl tO22 (cellB (off := 2) (k := 0) rfl rfl)) rfl rfl rfl ?_
  obtain ⟨q17, hF⟩ := hF
  obtain ⟨r2, q18⟩ : ∃ y_ : List Int, y_ = sp_update s_ ((gt t.ops op).add) ((gt t.ops op).del) := ⟨_, rfl⟩
  replace hF := hF r2 q18
  refine clO (α := Option Addr × Nat) (V := fun z => .slice z.1 r2.length z.2) (Ψ := fun z => True) (B := fun z => [OwnSl 3 1 z.1 r2.length z.2 (flL r2)]) Tryz.call83 rfl rfl (fun w S => (by rw [q18]; exact c_update S.sub s_ as_ cs_ _q7 _q8 ((gt t.ops op).add) a2 c2 q13 q12 ((gt t.ops op).del) a3 c3 q15 q14 q17)) rfl (fun z _ => ?_)
  obtain ⟨a4, c4⟩ := z
  refine .cast (A' := [OwnSl 3 1 a4 r2.length c4 (flL r2), Box po [.slice a ((gt t.ops op).pre.length) c, .slice a2 ((gt t.ops op).add.length) c2, .slice a3 ((gt t.ops op).del.length) c3, .int .i64 ((gt t.ops op).cost)], Box pt [.int .i64 t.facts, .slice at_ t.init.length ct, .slice at_2 t.goal.length ct2, .slice at_3 t.ops.length ct3]]) rfl ?_
  refine .v (asg rfl) rfl rfl rfl ?_
  refine .nil ?_
  refine .seqN ?_
  refine .freezeL (k := 0) rfl (fun h1 le1 q20 q19 => ?_)
  refine .cast (A' := [tru, Box po [.slice a ((gt t.ops op).pre.length) c, .slice a2 ((gt t.ops op).add.length) c2, .slice a3 ((gt t.ops op).del.length) c3, .int .i64 ((gt t.ops op).cost)], Box pt [.int .i64 t.facts, .slice at_ t.init.length ct, .slice at_2 t.goal.length ct2, .slice at_3 t.ops.length ct3]]) rfl ?_
  refine .ret ?_
  refine .res1 rfl (rvT rfl) (fun w' S => ⟨r2, (a4, c4), h1, hF, rfl, (le1), ⟨(RSl.of q19), (q20)⟩, S.none⟩)

theorem c_next {h : FH} {w : World} (hs : Sub h w) (t : Task) (at_ : Option Addr) (ct : Nat) (_q1 : RSl h at_ t.init) (_q2 : t.init.length ≤ ct) (at_2 : Option Addr) (ct2 : Nat) (_q3 : RSl h at_2 t.goal) (_q4 : t.goal.length ≤ ct2) (at_3 : Option Addr) (ct3 : Nat) (_q5 : RSl h at_3 t.ops) (_q6 : t.ops.length ≤ ct3) (s_ : List Int) (as_ : Option Addr) (cs_ : Nat) (_q7 : RSl h as_ s_) (_q8 : s_.length ≤ cs_) (op : Int) (hp : pre_next t s_ op) : Calls Tryz.prog 93 #[.agg #[.int .i64 t.facts, .slice at_ t.init.length ct, .slice at_2 t.goal.length ct2, .slice at_3 t.ops.length ct3], .slice as_ s_.length cs_, .int .i64 op] w fun e w' => ∃ (z : Option Addr × Nat) (h1 : FH), e = .returned (.slice z.1 (sp_after t s_ op).length z.2) ∧ FH.le h h1 ∧ (RSl h1 z.1 (sp_after t s_ op) ∧ (sp_after t s_ op).length ≤ z.2) ∧ SH (Kp.all w h) h1 w' [] :=
  (w_next hs t at_ ct _q1 _q2 at_2 ct2 _q3 _q4 at_3 ct3 _q5 _q6 s_ as_ cs_ _q7 _q8 op (fun r => r = sp_after t s_ op) (ok_next t s_ op hp)).mono fun _ _ ⟨r, z, h1, hk, he, hl, hf, hS⟩ => by subst hk; exact ⟨z, h1, he, hl, hf, hS⟩

theorem w_srun {h : FH} {w : World} (hs : Sub h w) (t : Task) (at_ : Option Addr) (ct : Nat) (_q1 : RSl h at_ t.init) (_q2 : t.init.length ≤ ct) (at_2 : Option Addr) (ct2 : Nat) (_q3 : RSl h at_2 t.goal) (_q4 : t.goal.length ≤ ct2) (at_3 : Option Addr) (ct3 : Nat) (_q5 : RSl h at_3 t.ops) (_q6 : t.ops.length ≤ ct3) (s_ : List Int) (as_ : Option Addr) (cs_ : Nat) (_q7 : RSl h as_ s_) (_q8 : s_.length ≤ cs_) (plan : List Int) (aplan : Option Addr) (cplan : Nat) (_q9 : RSl h aplan plan) (_q10 : plan.length ≤ cplan) (K : (List (List Int)) → Prop) (hF : F_srun t s_ plan K) : Calls Tryz.prog 95 #[.agg #[.int .i64 t.facts, .slice at_ t.init.length ct, .slice at_2 t.goal.length ct2, .slice at_3 t.ops.length ct3], .slice as_ s_.length cs_, .slice aplan plan.length cplan] w fun e w' => ∃ (r : List (List Int)) (z : Option Addr × Nat) (h1 : FH), K r ∧ e = .returned (.slice z.1 r.length z.2) ∧ FH.le h h1 ∧ (RSl h1 z.1 r ∧ r.length ≤ z.2) ∧ SH (Kp.all w h) h1 w' [] := by
  refine enter (args := [.agg #[.int .i64 t.facts, .slice at_ t.init.length ct, .slice at_2 t.goal.length ct2, .slice at_3 t.ops.length ct3], .slice as_ s_.length cs_, .slice aplan plan.length cplan]) Tryz.func95 rfl Tryz.ntmps95 rfl hs ?_
  refine .seq ?_
  refine .region ?_
  refine bx (vs := [.int .i64 t.facts, .slice at_ t.init.length ct, .slice at_2 t.goal.length ct2, .slice at_3 t.ops.length ct3]) rfl rfl rfl (fun pt => ?_)
  refine .v (asg rfl) rfl rfl rfl ?_
  refine .nil ?_
  refine .seqN ?_
  refine .seq ?_
  refine .region ?_
  refine .v (mv rfl) rfl rfl rfl ?_
  obtain ⟨q11, hF⟩ := hF
  obtain ⟨r2, q12⟩ : ∃ y_ : List Int, y_ = sp_clone s_ := ⟨_, rfl⟩
  replace hF := hF r2 q12
  refine clR (α := Option Addr × Nat) (Φ := fun h1 z => RSl h1 z.1 r2 ∧ r2.length ≤ z.2) (V := fun z => .slice z.1 r2.length z.2) Tryz.call112 rfl rfl (fun w S => (by rw [q12]; exact c_clone S.sub s_ as_ cs_ _q7 _q8 q11)) rfl (fun z h1 le1 hz => ?_)
  obtain ⟨a, c⟩ := z
  obtain ⟨q13, q14⟩ := hz
  refine bs2 (cs := #[.slice a r2.length c]) (pv := [(0, .slice a r2.length c)]) tS35 rfl rfl (by decide) (by decide) rfl rfl rfl (fun a2 _ => ?_)
  refine .cast (A' := [OwnSl 22 1 a2 (([r2] : List (List Int)).length) 1 [.slice a r2.length c], Box pt [.int .i64 t.facts, .slice at_ t.init.length ct, .slice at_2 t.goal.length ct2, .slice at_3 t.ops.length ct3]]) rfl ?_
  refine .v (asg rfl) rfl rfl rfl ?_
  refine .nil ?_
  refine .seqN ?_
  refine .seq ?_
  refine .seq ?_
  refine .region ?_
  refine .v (mv rfl) rfl rfl rfl ?_
  refine .v (ln rfl tS22.is) rfl rfl rfl ?_
  refine .v (mv rfl) rfl rfl rfl ?_
  refine .nil ?_
  refine .seqN ?_
  refine .block ?_
  refine .sel0 [1, 0] (by decide) rfl ?_
  obtain ⟨I1, μ1, q260, q261⟩ := hF
  refine .loop' (σ := List Int × Int × List (List Int) × Option Addr × Nat × Option Addr × Nat × List Value × FH) (fun z => I1 z.1 z.2.1 z.2.2.1 ∧ RSl z.2.2.2.2.2.2.2.2 z.2.2.2.1 z.1 ∧ z.1.length ≤ z.2.2.2.2.1 ∧ RepL z.2.2.2.2.2.2.2.2 z.2.2.1 z.2.2.2.2.2.2.2.1 ∧ FH.le h1 z.2.2.2.2.2.2.2.2) (fun z => μ1 z.1 z.2.1 z.2.2.1) (fun z => [(1, .slice z.2.2.2.1 z.1.length z.2.2.2.2.1), (3, .pointer (some pt)), (7, .slice z.2.2.2.2.2.1 z.2.2.1.length z.2.2.2.2.2.2.1), (13, .slice aplan plan.length cplan), (14, .int .i64 ((plan.length : Nat) : Int)), (15, .int .i64 z.2.1)]) (fun z => [Box pt [.int .i64 t.facts, .slice at_ t.init.length ct, .slice at_2 t.goal.length ct2, .slice at_3 t.ops.length ct3], OwnSl 22 1 z.2.2.2.2.2.1 z.2.2.1.length z.2.2.2.2.2.2.1 z.2.2.2.2.2.2.2.1]) (fun z => z.2.2.2.2.2.2.2.2) (s_, 0, ([r2] : List (List Int)), as_, cs_, a2, 1, [.slice a r2.length c], h1) ⟨q260, (_q7.mono (le1)), _q8, (show RepL h1 ([r2] : List (List Int)) [.slice a r2.length c] from ⟨[.slice a r2.length c], _, rfl, ⟨a, c, rfl, q14, q13⟩, rfl⟩), (FH.le_refl _)⟩ (.cons rfl (.cons rfl (.cons rfl (.cons rfl (.cons rfl (.cons rfl (.nil))))))) rfl (FH.le_refl _) ?_
  rintro ⟨s_2, t15, out, as2, cs, aout, cout, csout, h20⟩ ⟨q260, q210, q211, q212, q213⟩
  have hF := q261 s_2 t15 out q260
  show J _ _ _ _ _ [(1, .slice as2 s_2.length cs), (3, .pointer (some pt)), (7, .slice aout out.length cout), (13, .slice aplan plan.length cplan), (14, .int .i64 ((plan.length : Nat) : Int)), (15, .int .i64 t15)] [Box pt [.int .i64 t.facts, .slice at_ t.init.length ct, .slice at_2 t.goal.length ct2, .slice at_3 t.ops.length ct3], OwnSl 22 1 aout out.length cout csout] h20
  refine .seq ?_
  refine .region ?_
  refine .v (bi rfl rfl rfl) rfl rfl rfl ?_
  refine .nil ?_
  refine .seqN ?_
  refine .seq ?_
  refine .cond rfl (fun q264 => ?_) (fun q264 => ?_)
  · replace hF := hF.1 q264
    refine .skip ?_
    refine .seqN ?_
    refine .seq ?_
    refine .block ?_
    refine .seq ?_
    refine .region ?_
    obtain ⟨q291, hF⟩ := hF
    refine .v (ix rfl rfl tS22 (_q9.ne (by decide) (inb_pos q291)) q291) rfl rfl rfl ?_
    refine .v (ld1 (v := .int .i64 (gt plan t15)) rfl tO3 (cellH ((_q9.mono (FH.le_trans (le1) (q213))).elemF q291 (by decide) 0 _ rfl))) rfl rfl rfl ?_
    refine .v (asg rfl) rfl rfl rfl ?_
    refine .nil ?_
    refine .seqN ?_
    refine .seq ?_
    refine .seq ?_
    refine .region ?_
    refine .v (ldA (cs := [.int .i64 t.facts, .slice at_ t.init.length ct, .slice at_2 t.goal.length ct2, .slice at_3 t.ops.length ct3]) rfl tA25 rfl (cellsB (off := 0) (k := 0) rfl (m := 4) rfl)) rfl rfl rfl ?_
    refine .v (mv rfl) rfl rfl rfl ?_
    refine .v (mv rfl) rfl rfl rfl ?_
    obtain ⟨q292, hF⟩ := hF
    obtain ⟨r3, q293⟩ : ∃ y_ : Bool, y_ = sp_applies t s_2 (gt plan t15) := ⟨_, rfl⟩
    replace hF := hF r3 q293
    refine .c (cl (v := .bool r3) Tryz.call100 rfl rfl (fun w S => (by rw [q293]; exact c_can S.sub t at_ ct (_q1.mono (FH.le_trans (le1) (q213))) _q2 at_2 ct2 (_q3.mono (FH.le_trans (le1) (q213))) _q4 at_3 ct3 (_q5.mono (FH.le_trans (le1) (q213))) _q6 s_2 as2 cs q210 q211 (gt plan t15) q292))) rfl rfl rfl ?_
    refine .v (nt rfl) rfl rfl rfl ?_
    refine .nil ?_
    refine .seqN ?_
    refine .cond rfl (fun q295 => ?_) (fun q295 => ?_)
    · replace hF := hF.1 q295
      refine .exit ?_
      refine .seqX ?_
      refine .blkY rfl ?_
      refine .seqX ?_
      refine .seqX ?_
      refine .blkX ?_
      refine .seqN ?_
      refine .seq ?_
      refine .region ?_
      refine .v (mv rfl) rfl rfl rfl ?_
      refine .v (asg rfl) rfl rfl rfl ?_
      refine .nil ?_
      refine .seqN ?_
      refine .freezeL (k := 1) rfl (fun h27 le27 q297 q296 => ?_)
      refine .cast (A' := [Box pt [.int .i64 t.facts, .slice at_ t.init.length ct, .slice at_2 t.goal.length ct2, .slice at_3 t.ops.length ct3], tru]) rfl ?_
      refine .ret ?_
      refine .res1 rfl (rvT rfl) (fun w' S => ⟨out, (aout, cout), h27, hF, rfl, (FH.le_trans (FH.le_trans (le1) (q213)) (le27)), ⟨(show RSl h27 aout out from ⟨_, q212.mono (le27), q296⟩), (q297)⟩, S.none⟩)
    replace hF := hF.2 q295
    refine .skip ?_
    refine .seqN ?_
    refine .seq ?_
    refine .region ?_
    refine .v (ldA (cs := [.int .i64 t.facts, .slice at_ t.init.length ct, .slice at_2 t.goal.length ct2, .slice at_3 t.ops.length ct3]) rfl tA25 rfl (cellsB (off := 0) (k := 0) rfl (m := 4) rfl)) rfl rfl rfl ?_
    refine .v (mv rfl) rfl rfl rfl ?_
    refine .v (mv rfl) rfl rfl rfl ?_
    obtain ⟨q298, hF⟩ := hF
    obtain ⟨r4, q299⟩ : ∃ y_ : List Int, y_ = sp_after t s_2 (gt plan t15) := ⟨_, rfl⟩
    replace hF := hF r4 q299
    refine clR (α := Option Addr × Nat) (Φ := fun h1 z => RSl h1 z.1 r4 ∧ r4.length ≤ z.2) (V := fun z => .slice z.1 r4.length z.2) Tryz.call93 rfl rfl (fun w S => (by rw [q299]; exact c_next S.sub t at_ ct (_q1.mono (FH.le_trans (le1) (q213))) _q2 at_2 ct2 (_q3.mono (FH.le_trans (le1) (q213))) _q4 at_3 ct3 (_q5.mono (FH.le_trans (le1) (q213))) _q6 s_2 as2 cs q210 q211 (gt plan t15) q298)) rfl (fun z h28 le28 hz => ?_)
    obtain ⟨a3, c2⟩ := z
    obtain ⟨q300, q301⟩ := hz
    refine .v (asg rfl) rfl rfl rfl ?_
    refine .nil ?_
    refine .seqN ?_
    refine .region ?_
    refine .v (mv rfl) rfl rfl rfl ?_
    refine .v (mv rfl) rfl rfl rfl ?_
    refine bs2 (cs := #[.slice a3 r4.length c2]) (pv := [(0, .slice a3 r4.length c2)]) tS35 rfl rfl (by decide) (by decide) rfl rfl rfl (fun a4 _ => ?_)
    refine .cast (A' := [OwnSl 22 1 a4 (([r4] : List (List Int)).length) 1 [.slice a3 r4.length c2], Box pt [.int .i64 t.facts, .slice at_ t.init.length ct, .slice at_2 t.goal.length ct2, .slice at_3 t.ops.length ct3], OwnSl 22 1 aout out.length cout csout]) rfl ?_
    obtain ⟨q303, hF⟩ := hF
    have q304 : out.length + ([r4] : List (List Int)).length = ((out ++ ([r4] : List (List Int)))).length := len_app rfl rfl
    have q305 := RepL.append (RepL.mono (le28) q212) (show RepL h28 ([r4] : List (List Int)) [.slice a3 r4.length c2] from ⟨[.slice a3 r4.length c2], _, rfl, ⟨a3, c2, rfl, q301, q300⟩, rfl⟩)
    refine app (k := 2) (news := [.slice a3 r4.length c2]) (cs' := (csout ++ [.slice a3 r4.length c2])) (nm := ((out ++ ([r4] : List (List Int)))).length) tS35 rfl (by decide) rfl rfl rfl (RepL.len (show RepL h28 ([r4] : List (List Int)) [.slice a3 r4.length c2] from ⟨[.slice a3 r4.length c2], _, rfl, ⟨a3, c2, rfl, q301, q300⟩, rfl⟩)) (srcS (k := 0) rfl) (RepL.one (show RepL h28 ([r4] : List (List Int)) [.slice a3 r4.length c2] from ⟨[.slice a3 r4.length c2], _, rfl, ⟨a3, c2, rfl, q301, q300⟩, rfl⟩)) (room_of q304 q303).1 (room_of q304 q303).2 q304 rfl rfl (fun a5 c3 => ?_)
    refine .cast (A' := [OwnSl 22 1 a4 (([r4] : List (List Int)).length) 1 [.slice a3 r4.length c2], Box pt [.int .i64 t.facts, .slice at_ t.init.length ct, .slice at_2 t.goal.length ct2, .slice at_3 t.ops.length ct3], OwnSl 22 1 a5 ((out ++ ([r4] : List (List Int))).length) c3 (csout ++ [.slice a3 r4.length c2])]) rfl ?_
    refine .v (asg rfl) rfl rfl rfl ?_
    refine .nil ?_
    refine .blkN ?_
    refine .seqN ?_
    refine .region ?_
    refine .v (bi rfl rfl rfl) rfl rfl rfl ?_
    refine .v (mv rfl) rfl rfl rfl ?_
    refine .nil ?_
    refine .sel0 [1, 2] (by decide) rfl ?_
    exact .round (r4, IntKind.i64.wrap (t15 + 1), (out ++ ([r4] : List (List Int))), a3, c2, a5, c3, (csout ++ [.slice a3 r4.length c2]), h28) ⟨hF.1, q300, q301, q305, (FH.le_trans (q213) (le28))⟩ hF.2 (.cons rfl (.cons rfl (.cons rfl (.cons rfl (.cons rfl (.cons rfl (.nil))))))) rfl (FH.le_refl _)
  replace hF := hF.2 q264
  refine .exit ?_
  refine .seqX ?_
  refine .seqX ?_
  refine .blkX ?_
  refine .seqN ?_
  refine .seq ?_
  refine .region ?_
  refine .v (mv rfl) rfl rfl rfl ?_
  refine .v (asg rfl) rfl rfl rfl ?_
  refine .nil ?_
  refine .seqN ?_
  refine .freezeL (k := 1) rfl (fun h29 le29 q307 q306 => ?_)
  refine .cast (A' := [Box pt [.int .i64 t.facts, .slice at_ t.init.length ct, .slice at_2 t.goal.length ct2, .slice at_3 t.ops.length ct3], tru]) rfl ?_
  refine .ret ?_
  refine .res1 rfl (rvT rfl) (fun w' S => ⟨out, (aout, cout), h29, hF, rfl, (FH.le_trans (FH.le_trans (le1) (q213)) (le29)), ⟨(show RSl h29 aout out from ⟨_, q212.mono (le29), q306⟩), (q307)⟩, S.none⟩)

theorem c_srun {h : FH} {w : World} (hs : Sub h w) (t : Task) (at_ : Option Addr) (ct : Nat) (_q1 : RSl h at_ t.init) (_q2 : t.init.length ≤ ct) (at_2 : Option Addr) (ct2 : Nat) (_q3 : RSl h at_2 t.goal) (_q4 : t.goal.length ≤ ct2) (at_3 : Option Addr) (ct3 : Nat) (_q5 : RSl h at_3 t.ops) (_q6 : t.ops.length ≤ ct3) (s_ : List Int) (as_ : Option Addr) (cs_ : Nat) (_q7 : RSl h as_ s_) (_q8 : s_.length ≤ cs_) (plan : List Int) (aplan : Option Addr) (cplan : Nat) (_q9 : RSl h aplan plan) (_q10 : plan.length ≤ cplan) (hp : pre_srun t s_ plan) : Calls Tryz.prog 95 #[.agg #[.int .i64 t.facts, .slice at_ t.init.length ct, .slice at_2 t.goal.length ct2, .slice at_3 t.ops.length ct3], .slice as_ s_.length cs_, .slice aplan plan.length cplan] w fun e w' => ∃ (z : Option Addr × Nat) (h1 : FH), e = .returned (.slice z.1 (sp_srun t s_ plan).length z.2) ∧ FH.le h h1 ∧ (RSl h1 z.1 (sp_srun t s_ plan) ∧ (sp_srun t s_ plan).length ≤ z.2) ∧ SH (Kp.all w h) h1 w' [] :=
  (w_srun hs t at_ ct _q1 _q2 at_2 ct2 _q3 _q4 at_3 ct3 _q5 _q6 s_ as_ cs_ _q7 _q8 plan aplan cplan _q9 _q10 (fun r => r = sp_srun t s_ plan) (ok_srun t s_ plan hp)).mono fun _ _ ⟨r, z, h1, hk, he, hl, hf, hS⟩ => by subst hk; exact ⟨z, h1, he, hl, hf, hS⟩

theorem w_works {h : FH} {w : World} (hs : Sub h w) (t : Task) (at_ : Option Addr) (ct : Nat) (_q1 : RSl h at_ t.init) (_q2 : t.init.length ≤ ct) (at_2 : Option Addr) (ct2 : Nat) (_q3 : RSl h at_2 t.goal) (_q4 : t.goal.length ≤ ct2) (at_3 : Option Addr) (ct3 : Nat) (_q5 : RSl h at_3 t.ops) (_q6 : t.ops.length ≤ ct3) (s_ : List Int) (as_ : Option Addr) (cs_ : Nat) (_q7 : RSl h as_ s_) (_q8 : s_.length ≤ cs_) (plan : List Int) (aplan : Option Addr) (cplan : Nat) (_q9 : RSl h aplan plan) (_q10 : plan.length ≤ cplan) (K : Bool → Prop) (hF : F_works t s_ plan K) : Calls Tryz.prog 68 #[.agg #[.int .i64 t.facts, .slice at_ t.init.length ct, .slice at_2 t.goal.length ct2, .slice at_3 t.ops.length ct3], .slice as_ s_.length cs_, .slice aplan plan.length cplan] w fun e w' => ∃ r : Bool, K r ∧ e = .returned (.bool r) ∧ Below w.heap.size w w' := by
  refine enter (args := [.agg #[.int .i64 t.facts, .slice at_ t.init.length ct, .slice at_2 t.goal.length ct2, .slice at_3 t.ops.length ct3], .slice as_ s_.length cs_, .slice aplan plan.length cplan]) Tryz.func68 rfl Tryz.ntmps68 rfl hs ?_
  refine .seq ?_
  refine .region ?_
  refine bx (vs := [.int .i64 t.facts, .slice at_ t.init.length ct, .slice at_2 t.goal.length ct2, .slice at_3 t.ops.length ct3]) rfl rfl rfl (fun pt => ?_)
  refine .v (asg rfl) rfl rfl rfl ?_
  refine .nil ?_
  refine .seqN ?_
  refine .seq ?_
  refine .region ?_
  refine .v (ldA (cs := [.int .i64 t.facts, .slice at_ t.init.length ct, .slice at_2 t.goal.length ct2, .slice at_3 t.ops.length ct3]) rfl tA25 rfl (cellsB (off := 0) (k := 0) rfl (m := 4) rfl)) rfl rfl rfl ?_
  refine .v (mv rfl) rfl rfl rfl ?_
  refine .v (mv rfl) rfl rfl rfl ?_
  obtain ⟨q11, hF⟩ := hF
  obtain ⟨r2, q12⟩ : ∃ y_ : List (List Int), y_ = sp_srun t s_ plan := ⟨_, rfl⟩
  replace hF := hF r2 q12
  refine clR (α := Option Addr × Nat) (Φ := fun h1 z => RSl h1 z.1 r2 ∧ r2.length ≤ z.2) (V := fun z => .slice z.1 r2.length z.2) Tryz.call95 rfl rfl (fun w S => (by rw [q12]; exact c_srun S.sub t at_ ct _q1 _q2 at_2 ct2 _q3 _q4 at_3 ct3 _q5 _q6 s_ as_ cs_ _q7 _q8 plan aplan cplan _q9 _q10 q11)) rfl (fun z h1 le1 hz => ?_)
  obtain ⟨a, c⟩ := z
  obtain ⟨q13, q14⟩ := hz
  refine .v (asg rfl) rfl rfl rfl ?_
  refine .nil ?_
  refine .seqN ?_
  refine .seq ?_
  refine .open_ (by kernel_rfl) (by kernel_rfl) ?_
  refine .v (mv rfl) rfl rfl rfl ?_
  refine .v (ln rfl tS35.is) rfl rfl rfl ?_
  refine .v (mv rfl) rfl rfl rfl ?_
  refine .v (ln rfl tS22.is) rfl rfl rfl ?_
  refine .v (bi rfl rfl rfl) rfl rfl rfl ?_
  obtain ⟨x, q23⟩ : ∃ y_ : Bool, y_ = (((r2.length : Nat) : Int) == (IntKind.i64.wrap (((plan.length : Nat) : Int) + 1))) := ⟨_, rfl⟩
  replace hF := hF x q23
  refine .v (v := .bool x) (by rw [q23]; exact bi rfl rfl rfl) rfl rfl rfl ?_
  refine .v (mv rfl) rfl rfl rfl ?_
  rcases Bool.eq_false_or_eq_true (x) with q24 | q24
  · replace hF := hF.1 q24
    refine .gv (mv rfl) rfl rfl rfl q24 rfl rfl ?_
    refine .gv (mv rfl) rfl rfl rfl q24 rfl rfl ?_
    refine .gv (ln rfl tS22.is) rfl rfl rfl q24 rfl rfl ?_
    obtain ⟨q25, hF⟩ := hF
    refine .gv (ix rfl rfl tS35 (q13.ne (by decide) (inb_pos q25)) q25) rfl rfl rfl q24 rfl rfl ?_
    obtain ⟨_, ⟨a2, c2, rfl, q26, q27⟩, q28⟩ := q13.elem q25
    refine .gv (ld1 (v := .slice a2 ((gt r2 ((plan.length : Nat) : Int)).length) c2) rfl tO22 (cellH (q28 (by decide) 0 _ rfl))) rfl rfl rfl q24 rfl rfl ?_
    refine .gv (fa rfl tF25_2) rfl rfl rfl q24 rfl rfl ?_
    refine .gv (ld1 rfl tO22 (cellB (off := 2) (k := 0) rfl rfl)) rfl rfl rfl q24 rfl rfl ?_
    obtain ⟨q29, hF⟩ := hF
    obtain ⟨r3, q30⟩ : ∃ y_ : Bool, y_ = sp_contains2 (gt r2 ((plan.length : Nat) : Int)) t.goal := ⟨_, rfl⟩
    replace hF := hF r3 q30
    refine .gc (cl (v := .bool r3) Tryz.call88 rfl rfl (fun w S => (by rw [q30]; exact c_contains2 S.sub (gt r2 ((plan.length : Nat) : Int)) a2 c2 q27 q26 t.goal at_2 ct2 (_q3.mono (le1)) _q4 q29))) rfl rfl rfl q24 rfl rfl ?_
    refine .v (pkT rfl q24 rfl) rfl rfl rfl ?_
    refine .v (asg rfl) rfl rfl rfl ?_
    refine .fin ?_
    refine .seqN ?_
    refine .ret ?_
    refine .res1 rfl (rvT rfl) (fun w' S => ⟨r3, hF, rfl, S.below⟩)
  replace hF := hF.2 q24
  refine .gS rfl rfl rfl q24 rfl rfl ?_
  refine .gS rfl rfl rfl q24 rfl rfl ?_
  refine .gS rfl rfl rfl q24 rfl rfl ?_
  refine .gS rfl rfl rfl q24 rfl rfl ?_
  refine .gS rfl rfl rfl q24 rfl rfl ?_
  refine .gS rfl rfl rfl q24 rfl rfl ?_
  refine .gS rfl rfl rfl q24 rfl rfl ?_
  refine .gS rfl rfl rfl q24 rfl rfl ?_
  refine .v (pkF rfl q24 rfl) rfl rfl rfl ?_
  refine .v (asg rfl) rfl rfl rfl ?_
  refine .fin ?_
  refine .seqN ?_
  refine .ret ?_
  refine .res1 rfl (rvT rfl) (fun w' S => ⟨false, hF, rfl, S.below⟩)

theorem c_works {h : FH} {w : World} (hs : Sub h w) (t : Task) (at_ : Option Addr) (ct : Nat) (_q1 : RSl h at_ t.init) (_q2 : t.init.length ≤ ct) (at_2 : Option Addr) (ct2 : Nat) (_q3 : RSl h at_2 t.goal) (_q4 : t.goal.length ≤ ct2) (at_3 : Option Addr) (ct3 : Nat) (_q5 : RSl h at_3 t.ops) (_q6 : t.ops.length ≤ ct3) (s_ : List Int) (as_ : Option Addr) (cs_ : Nat) (_q7 : RSl h as_ s_) (_q8 : s_.length ≤ cs_) (plan : List Int) (aplan : Option Addr) (cplan : Nat) (_q9 : RSl h aplan plan) (_q10 : plan.length ≤ cplan) (hp : pre_works t s_ plan) : Calls Tryz.prog 68 #[.agg #[.int .i64 t.facts, .slice at_ t.init.length ct, .slice at_2 t.goal.length ct2, .slice at_3 t.ops.length ct3], .slice as_ s_.length cs_, .slice aplan plan.length cplan] w fun e w' => e = .returned (.bool (sp_rworks t s_ plan)) ∧ Below w.heap.size w w' :=
  (w_works hs t at_ ct _q1 _q2 at_2 ct2 _q3 _q4 at_3 ct3 _q5 _q6 s_ as_ cs_ _q7 _q8 plan aplan cplan _q9 _q10 (fun r => r = sp_rworks t s_ plan) (ok_works t s_ plan hp)).mono fun _ _ ⟨_, hk, he, hb⟩ => ⟨by rw [he, hk], hb⟩

theorem w_compare {h : FH} {w : World} (hs : Sub h w) (x : Int) (y : Int) (K : Int → Prop) (hF : F_compare x y K) : Calls Tryz.prog 111 #[.int .i64 x, .int .i64 y] w fun e w' => ∃ r : Int, K r ∧ e = .returned (.int .i64 r) ∧ Below w.heap.size w w' := by
  refine enter (args := [.int .i64 x, .int .i64 y]) Tryz.func111 rfl Tryz.ntmps111 rfl hs ?_
  refine .seq ?_
  refine .region ?_
  refine .v (asg rfl) rfl rfl rfl ?_
  refine .nil ?_
  refine .seqN ?_
  refine .seq ?_
  refine .region ?_
  refine .v (mv rfl) rfl rfl rfl ?_
  obtain ⟨r2, q1⟩ : ∃ y_ : Bool, y_ = sp_isNaN1 x := ⟨_, rfl⟩
  replace hF := hF r2 q1
  refine .c (cl (v := .bool r2) Tryz.call122 rfl rfl (fun w S => (by rw [q1]; exact c_isNaN1 S.sub x ))) rfl rfl rfl ?_
  refine .v (asg rfl) rfl rfl rfl ?_
  refine .nil ?_
  refine .seqN ?_
  refine .seq ?_
  refine .region ?_
  refine .v (mv rfl) rfl rfl rfl ?_
  obtain ⟨r3, q2⟩ : ∃ y_ : Bool, y_ = sp_isNaN1 y := ⟨_, rfl⟩
  replace hF := hF r3 q2
  refine .c (cl (v := .bool r3) Tryz.call122 rfl rfl (fun w S => (by rw [q2]; exact c_isNaN1 S.sub y ))) rfl rfl rfl ?_
  refine .v (asg rfl) rfl rfl rfl ?_
  refine .nil ?_
  refine .seqN ?_
  refine .seq ?_
  refine .seq ?_
  refine .region ?_
  refine .v (mv rfl) rfl rfl rfl ?_
  refine .nil ?_
  refine .seqN ?_
  refine .cond rfl (fun q6 => ?_) (fun q6 => ?_)
  · replace hF := hF.1 q6
    refine .seq ?_
    refine .seq ?_
    refine .region ?_
    refine .v (mv rfl) rfl rfl rfl ?_
    refine .nil ?_
    refine .seqN ?_
    refine .cond rfl (fun q8 => ?_) (fun q8 => ?_)
    · replace hF := hF.1 q8
      refine .seq ?_
      refine .region ?_
      refine .v (asg rfl) rfl rfl rfl ?_
      refine .nil ?_
      refine .seqN ?_
      refine .ret ?_
      refine .seqR ?_
      refine .seqR ?_
      refine .res1 rfl (rvT rfl) (fun w' S => ⟨0, hF, rfl, S.below⟩)
    replace hF := hF.2 q8
    refine .skip ?_
    refine .seqN ?_
    refine .seq ?_
    refine .region ?_
    refine .v (asg rfl) rfl rfl rfl ?_
    refine .nil ?_
    refine .seqN ?_
    refine .ret ?_
    refine .seqR ?_
    refine .res1 rfl (rvT rfl) (fun w' S => ⟨(-1), hF, rfl, S.below⟩)
  replace hF := hF.2 q6
  refine .skip ?_
  refine .seqN ?_
  refine .seq ?_
  refine .seq ?_
  refine .region ?_
  refine .v (mv rfl) rfl rfl rfl ?_
  refine .nil ?_
  refine .seqN ?_
  refine .cond rfl (fun q10 => ?_) (fun q10 => ?_)
  · replace hF := hF.1 q10
    refine .seq ?_
    refine .region ?_
    refine .v (asg rfl) rfl rfl rfl ?_
    refine .nil ?_
    refine .seqN ?_
    refine .ret ?_
    refine .seqR ?_
    refine .res1 rfl (rvT rfl) (fun w' S => ⟨1, hF, rfl, S.below⟩)
  replace hF := hF.2 q10
  refine .skip ?_
  refine .seqN ?_
  refine .seq ?_
  refine .seq ?_
  refine .region ?_
  refine .v (mv rfl) rfl rfl rfl ?_
  refine .v (mv rfl) rfl rfl rfl ?_
  refine .v (bi rfl rfl rfl) rfl rfl rfl ?_
  refine .nil ?_
  refine .seqN ?_
  refine .cond rfl (fun q12 => ?_) (fun q12 => ?_)
  · replace hF := hF.1 q12
    refine .seq ?_
    refine .region ?_
    refine .v (asg rfl) rfl rfl rfl ?_
    refine .nil ?_
    refine .seqN ?_
    refine .ret ?_
    refine .seqR ?_
    refine .res1 rfl (rvT rfl) (fun w' S => ⟨(-1), hF, rfl, S.below⟩)
  replace hF := hF.2 q12
  refine .skip ?_
  refine .seqN ?_
  refine .seq ?_
  refine .seq ?_
  refine .region ?_
  refine .v (mv rfl) rfl rfl rfl ?_
  refine .v (mv rfl) rfl rfl rfl ?_
  refine .v (bi rfl rfl rfl) rfl rfl rfl ?_
  refine .nil ?_
  refine .seqN ?_
  refine .cond rfl (fun q14 => ?_) (fun q14 => ?_)
  · replace hF := hF.1 q14
    refine .seq ?_
    refine .region ?_
    refine .v (asg rfl) rfl rfl rfl ?_
    refine .nil ?_
    refine .seqN ?_
    refine .ret ?_
    refine .seqR ?_
    refine .res1 rfl (rvT rfl) (fun w' S => ⟨1, hF, rfl, S.below⟩)
  replace hF := hF.2 q14
  refine .skip ?_
  refine .seqN ?_
  refine .seq ?_
  refine .region ?_
  refine .v (asg rfl) rfl rfl rfl ?_
  refine .nil ?_
  refine .seqN ?_
  refine .ret ?_
  refine .res1 rfl (rvT rfl) (fun w' S => ⟨0, hF, rfl, S.below⟩)

theorem c_compare {h : FH} {w : World} (hs : Sub h w) (x : Int) (y : Int) : Calls Tryz.prog 111 #[.int .i64 x, .int .i64 y] w fun e w' => e = .returned (.int .i64 (sp_compare x y)) ∧ Below w.heap.size w w' :=
  (w_compare hs x y (fun r => r = sp_compare x y) (ok_compare x y)).mono fun _ _ ⟨_, hk, he, hb⟩ => ⟨by rw [he, hk], hb⟩

theorem w_changed {h : FH} {w : World} (hs : Sub h w) (facts : Int) (s_ : List Int) (as_ : Option Addr) (cs_ : Nat) (_q1 : RSl h as_ s_) (_q2 : s_.length ≤ cs_) (add : List Int) (aadd : Option Addr) (cadd : Nat) (_q3 : RSl h aadd add) (_q4 : add.length ≤ cadd) (del : List Int) (adel : Option Addr) (cdel : Nat) (_q5 : RSl h adel del) (_q6 : del.length ≤ cdel) (K : (List Int) → Prop) (hF : F_changed facts s_ add del K) : Calls Tryz.prog 58 #[.int .i64 facts, .slice as_ s_.length cs_, .slice aadd add.length cadd, .slice adel del.length cdel] w fun e w' => ∃ (r : List Int) (z : Option Addr × Nat) (h1 : FH), K r ∧ e = .returned (.slice z.1 r.length z.2) ∧ FH.le h h1 ∧ (RSl h1 z.1 r ∧ r.length ≤ z.2) ∧ SH (Kp.all w h) h1 w' [] := by
  refine enter (args := [.int .i64 facts, .slice as_ s_.length cs_, .slice aadd add.length cadd, .slice adel del.length cdel]) Tryz.func58 rfl Tryz.ntmps58 rfl hs ?_
  refine .seq ?_
  refine .region ?_
  refine .v (asg rfl) rfl rfl rfl ?_
  refine .nil ?_
  refine .seqN ?_
  refine .seq ?_
  refine .region ?_
  refine .v (asg rfl) rfl rfl rfl ?_
  refine .nil ?_
  refine .seqN ?_
  refine .seq ?_
  refine .seq ?_
  refine .region ?_
  refine .v (asg rfl) rfl rfl rfl ?_
  refine .nil ?_
  refine .seqN ?_
  refine .block ?_
  refine .nilSl 3 1 ?_
  refine .cast (A' := [OwnSl 3 1 none (([] : List Int).length) 0 (flL ([] : List Int))]) rfl ?_
  obtain ⟨I1, μ1, q234, q235⟩ := hF
  refine .loop' (σ := Int × List Int × Option Addr × Nat) (fun z => I1 z.1 z.2.1) (fun z => μ1 z.1 z.2.1) (fun z => [(0, .int .i64 facts), (1, .slice as_ s_.length cs_), (2, .slice aadd add.length cadd), (3, .slice adel del.length cdel), (9, .slice z.2.2.1 z.2.1.length z.2.2.2), (10, .int .i64 z.1)]) (fun z => [OwnSl 3 1 z.2.2.1 z.2.1.length z.2.2.2 (flL z.2.1)]) (fun _ => h) (0, ([] : List Int), none, 0) q234 (.cons rfl (.cons rfl (.cons rfl (.cons rfl (.cons rfl (.cons rfl (.nil))))))) rfl (FH.le_refl _) ?_
  rintro ⟨p, out, aout, cout⟩ q234
  have hF := q235 p out q234
  show J _ _ _ _ _ [(0, .int .i64 facts), (1, .slice as_ s_.length cs_), (2, .slice aadd add.length cadd), (3, .slice adel del.length cdel), (9, .slice aout out.length cout), (10, .int .i64 p)] [OwnSl 3 1 aout out.length cout (flL out)] h
  refine .seq ?_
  refine .seq ?_
  refine .region ?_
  refine .v (mv rfl) rfl rfl rfl ?_
  refine .v (mv rfl) rfl rfl rfl ?_
  refine .v (bi rfl rfl rfl) rfl rfl rfl ?_
  refine .nil ?_
  refine .seqN ?_
  refine .cond rfl (fun q237 => ?_) (fun q237 => ?_)
  · replace hF := hF.1 q237
    refine .skip ?_
    refine .seqN ?_
    refine .share (σ := List Int × Option Addr × Nat) (fun z => F_changed_J1 out p I1 μ1 z.1) (fun z => [(0, .int .i64 facts), (1, .slice as_ s_.length cs_), (2, .slice aadd add.length cadd), (3, .slice adel del.length cdel), (9, .slice z.2.1 z.1.length z.2.2), (10, .int .i64 p)]) (fun z => [OwnSl 3 1 z.2.1 z.1.length z.2.2 (flL z.1)]) (fun _ => h) ?_ (fun q259 => ?_)
    · rintro ⟨out3, aout3, cout3⟩ hF
      show J _ _ _ _ _ [(0, .int .i64 facts), (1, .slice as_ s_.length cs_), (2, .slice aadd add.length cadd), (3, .slice adel del.length cdel), (9, .slice aout3 out3.length cout3), (10, .int .i64 p)] [OwnSl 3 1 aout3 out3.length cout3 (flL out3)] h
      refine .region ?_
      refine .v (mv rfl) rfl rfl rfl ?_
      refine .v (bi rfl rfl rfl) rfl rfl rfl ?_
      refine .v (asg rfl) rfl rfl rfl ?_
      refine .nil ?_
      exact .round (IntKind.i64.wrap (p + 1), out3, aout3, cout3) hF.1 hF.2 (.cons rfl (.cons rfl (.cons rfl (.cons rfl (.cons rfl (.cons rfl (.nil))))))) rfl (FH.le_refl _)
    refine .block ?_
    refine .share (σ := Bool) (fun z => F_changed_J2 z out p I1 μ1) (fun z => [(0, .int .i64 facts), (1, .slice as_ s_.length cs_), (2, .slice aadd add.length cadd), (3, .slice adel del.length cdel), (9, .slice aout out.length cout), (10, .int .i64 p), (29, .bool z)]) (fun _ => [OwnSl 3 1 aout out.length cout (flL out)]) (fun _ => h) ?_ (fun q268 => ?_)
    · rintro t29 hF
      show J _ _ _ _ _ [(0, .int .i64 facts), (1, .slice as_ s_.length cs_), (2, .slice aadd add.length cadd), (3, .slice adel del.length cdel), (9, .slice aout out.length cout), (10, .int .i64 p), (29, .bool t29)] [OwnSl 3 1 aout out.length cout (flL out)] h
      refine .cond rfl (fun q269 => ?_) (fun q269 => ?_)
      · replace hF := hF.1 q269
        refine .region ?_
        refine .v (mv rfl) rfl rfl rfl ?_
        refine .v (mv rfl) rfl rfl rfl ?_
        refine bs2 (cs := #[.int .i64 p]) (pv := [(0, .int .i64 p)]) tS22 rfl rfl (by decide) (by decide) rfl rfl rfl (fun a _ => ?_)
        refine .cast (A' := [OwnSl 3 1 a (([p] : List Int).length) 1 (flL ([p] : List Int)), OwnSl 3 1 aout out.length cout (flL out)]) rfl ?_
        obtain ⟨q271, hF⟩ := hF
        have q272 : out.length + ([p] : List Int).length = ((out ++ ([p] : List Int))).length := len_app rfl rfl
        refine app (k := 1) (news := flL ([p] : List Int)) (cs' := flL (out ++ ([p] : List Int))) (nm := ((out ++ ([p] : List Int))).length) tS22 rfl (by decide) rfl rfl rfl (by rw [flL_len]; rfl) (srcS (k := 0) rfl) (flL_one _) (room_of q272 q271).1 (room_of q272 q271).2 q272 (flL_append _ _).symm rfl (fun a2 c => ?_)
        refine .cast (A' := [OwnSl 3 1 a (([p] : List Int).length) 1 (flL ([p] : List Int)), OwnSl 3 1 a2 ((out ++ ([p] : List Int)).length) c (flL (out ++ ([p] : List Int)))]) rfl ?_
        refine .v (asg rfl) rfl rfl rfl ?_
        refine .nil ?_
        refine .blkN ?_
        refine .sel0 [1] (by decide) rfl ?_
        exact .use q259 ((out ++ ([p] : List Int)), a2, c) hF (.cons rfl (.cons rfl (.cons rfl (.cons rfl (.cons rfl (.cons rfl (.nil))))))) rfl (FH.le_refl _)
      replace hF := hF.2 q269
      refine .skip ?_
      refine .blkN ?_
      exact .use q259 (out, aout, cout) hF (.cons rfl (.cons rfl (.cons rfl (.cons rfl (.cons rfl (.cons rfl (.nil))))))) rfl (FH.le_refl _)
    refine .region ?_
    refine .v (mv rfl) rfl rfl rfl ?_
    refine .v (mv rfl) rfl rfl rfl ?_
    obtain ⟨q273, hF⟩ := hF
    obtain ⟨r2, q274⟩ : ∃ y_ : Bool, y_ = sp_has add p := ⟨_, rfl⟩
    replace hF := hF r2 q274
    refine .c (cl (v := .bool r2) Tryz.call76 rfl rfl (fun w S => (by rw [q274]; exact c_has S.sub add aadd cadd _q3 _q4 p q273))) rfl rfl rfl ?_
    refine .v (mv rfl) rfl rfl rfl ?_
    rcases Bool.eq_false_or_eq_true (r2) with q275 | q275
    · replace hF := hF.1 q275
      refine .gS rfl rfl rfl q275 rfl rfl ?_
      refine .gS rfl rfl rfl q275 rfl rfl ?_
      refine .gS rfl rfl rfl q275 rfl rfl ?_
      refine .gS rfl rfl rfl q275 rfl rfl ?_
      refine .gU rfl rfl rfl rfl rfl ?_
      refine .gU rfl rfl rfl rfl rfl ?_
      refine .gU rfl rfl rfl rfl rfl ?_
      refine .gU rfl rfl rfl rfl rfl ?_
      refine .gS rfl rfl rfl q275 rfl rfl ?_
      refine .v (pkT rfl q275 rfl) rfl rfl rfl ?_
      refine .nil ?_
      exact .use q268 true hF (.cons rfl (.cons rfl (.cons rfl (.cons rfl (.cons rfl (.cons rfl (.cons rfl (.nil)))))))) rfl (FH.le_refl _)
    replace hF := hF.2 q275
    refine .gv (mv rfl) rfl rfl rfl q275 rfl rfl ?_
    refine .gv (mv rfl) rfl rfl rfl q275 rfl rfl ?_
    obtain ⟨q276, hF⟩ := hF
    obtain ⟨r3, q277⟩ : ∃ y_ : Bool, y_ = sp_has s_ p := ⟨_, rfl⟩
    replace hF := hF r3 q277
    refine .gc (cl (v := .bool r3) Tryz.call76 rfl rfl (fun w S => (by rw [q277]; exact c_has S.sub s_ as_ cs_ _q1 _q2 p q276))) rfl rfl rfl q275 rfl rfl ?_
    refine .gv (mv rfl) rfl rfl rfl q275 rfl rfl ?_
    rcases Bool.eq_false_or_eq_true (r3) with q278 | q278
    · replace hF := hF.1 q278
      refine .gv (mv rfl) rfl rfl rfl q278 rfl rfl ?_
      refine .gv (mv rfl) rfl rfl rfl q278 rfl rfl ?_
      obtain ⟨q279, hF⟩ := hF
      obtain ⟨r4, q280⟩ : ∃ y_ : Bool, y_ = sp_has del p := ⟨_, rfl⟩
      replace hF := hF r4 q280
      refine .gc (cl (v := .bool r4) Tryz.call76 rfl rfl (fun w S => (by rw [q280]; exact c_has S.sub del adel cdel _q5 _q6 p q279))) rfl rfl rfl q278 rfl rfl ?_
      refine .gv (nt rfl) rfl rfl rfl q278 rfl rfl ?_
      refine .gv (pkT rfl q278 rfl) rfl rfl rfl q275 rfl rfl ?_
      refine .v (pkF rfl q275 rfl) rfl rfl rfl ?_
      refine .nil ?_
      exact .use q268 (!r4) hF (.cons rfl (.cons rfl (.cons rfl (.cons rfl (.cons rfl (.cons rfl (.cons rfl (.nil)))))))) rfl (FH.le_refl _)
    replace hF := hF.2 q278
    refine .gS rfl rfl rfl q278 rfl rfl ?_
    refine .gS rfl rfl rfl q278 rfl rfl ?_
    refine .gS rfl rfl rfl q278 rfl rfl ?_
    refine .gS rfl rfl rfl q278 rfl rfl ?_
    refine .gv (pkF rfl q278 rfl) rfl rfl rfl q275 rfl rfl ?_
    refine .v (pkF rfl q275 rfl) rfl rfl rfl ?_
    refine .nil ?_
    exact .use q268 false hF (.cons rfl (.cons rfl (.cons rfl (.cons rfl (.cons rfl (.cons rfl (.cons rfl (.nil)))))))) rfl (FH.le_refl _)
  replace hF := hF.2 q237
  refine .exit ?_
  refine .seqX ?_
  refine .seqX ?_
  refine .blkX ?_
  refine .seqN ?_
  refine .seq ?_
  refine .region ?_
  refine .v (mv rfl) rfl rfl rfl ?_
  refine .v (asg rfl) rfl rfl rfl ?_
  refine .nil ?_
  refine .seqN ?_
  refine .freezeL (k := 0) rfl (fun h1 le1 q282 q281 => ?_)
  refine .cast (A' := [tru]) rfl ?_
  refine .ret ?_
  refine .res1 rfl (rvT rfl) (fun w' S => ⟨out, (aout, cout), h1, hF, rfl, (le1), ⟨(RSl.of q281), (q282)⟩, S.none⟩)

theorem c_changed {h : FH} {w : World} (hs : Sub h w) (facts : Int) (s_ : List Int) (as_ : Option Addr) (cs_ : Nat) (_q1 : RSl h as_ s_) (_q2 : s_.length ≤ cs_) (add : List Int) (aadd : Option Addr) (cadd : Nat) (_q3 : RSl h aadd add) (_q4 : add.length ≤ cadd) (del : List Int) (adel : Option Addr) (cdel : Nat) (_q5 : RSl h adel del) (_q6 : del.length ≤ cdel) (hp : pre_changed facts s_ add del) : Calls Tryz.prog 58 #[.int .i64 facts, .slice as_ s_.length cs_, .slice aadd add.length cadd, .slice adel del.length cdel] w fun e w' => ∃ (z : Option Addr × Nat) (h1 : FH), e = .returned (.slice z.1 (sp_changed facts s_ add del).length z.2) ∧ FH.le h h1 ∧ (RSl h1 z.1 (sp_changed facts s_ add del) ∧ (sp_changed facts s_ add del).length ≤ z.2) ∧ SH (Kp.all w h) h1 w' [] :=
  (w_changed hs facts s_ as_ cs_ _q1 _q2 add aadd cadd _q3 _q4 del adel cdel _q5 _q6 (fun r => r = sp_changed facts s_ add del) (ok_changed facts s_ add del hp)).mono fun _ _ ⟨r, z, h1, hk, he, hl, hf, hS⟩ => by subst hk; exact ⟨z, h1, he, hl, hf, hS⟩

end Go.Proofs.YtojoehfldbimpaaGreatDoor.Pl

