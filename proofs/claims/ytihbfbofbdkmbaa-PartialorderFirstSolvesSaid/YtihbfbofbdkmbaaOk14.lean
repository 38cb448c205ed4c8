/- The first order solves; the pairs that interfere; a plan whose order is kept where it matters works in every order. Plain Lean. No condition. -/
import Derived.Test.YtihbfbofbdkmbaaOk13
namespace Go.Proofs.Ytihbfbofbdkmbaa.Pl
open Go Go.RowKit
theorem planFault_zero {t : Task} {p : List Int} (h1 : sp_validate t = ⟨0, 0⟩) (h2 : p.length ≤ 60) (h3 : ∀ x ∈ p, inb t.ops x) : sp_planFault t p = ⟨0, 0⟩ := by
  rw [sp_planFault, if_pos h1, sp_steps, if_neg (by omega), if_pos (List.all_eq_true.2 fun x hx => decide_eq_true (show 0 ≤ x ∧ x < (t.ops.length : Int) from h3 x hx))]
theorem ok_lawFirst : ∀ (t : Task) (steps : List Int) (before : List (Int × Int)), F_lawFirst t steps before (fun r => r = sp_lawFirst t steps before) := fun t steps before => by
  unfold F_lawFirst
  simp only [forall_eq, bne_iff_ne, ne_eq, bne_eq_false_iff_eq]
  have yes : ∀ r, F_lawFirst_J1 t steps (fun r => r = sp_lawFirst t steps before) r true := fun r => by
    unfold F_lawFirst_J1
    exact ⟨fun _ r hr => hr, fun g => absurd g (by decide)⟩
  refine ⟨fun _ => yes _, fun h => ⟨fun _ => yes _, fun _ => ?_⟩⟩
  cases hok : (sp_pcheck t steps before).1
  · exact yes _
  have z : sp_pvalidate t steps before = ⟨0, 0⟩ := by
    unfold sp_pcheck at h
    split at h
    · assumption
    · exact pvalidate_code h
  have pv := pv_ok z
  obtain ⟨ok, hne⟩ := ordOK_of pv.ord
  have h7 := ok.hi
  have hall : sp_allWork t steps before = true := by
    rw [sp_pcheck, if_pos z] at hok; exact hok
  have hpos : 0 < (sp_orders steps.length before []).length := List.length_pos_iff.2 hne
  obtain ⟨o, ho, hmem⟩ : ∃ o, (sp_first steps.length before).1 = o ∧ o ∈ sp_orders steps.length before [] := by
    refine ⟨_, rfl, ?_⟩
    rw [sp_first, if_pos pv.ord]
    show (sp_orders steps.length before []).headD [] ∈ _
    cases e : sp_orders steps.length before [] with
    | nil => rw [e] at hpos; exact absurd hpos (by decide)
    | cons a r => exact List.mem_cons_self
  have hsol := List.all_eq_true.1 hall o hmem
  rw [sp_orders_nil, Int.toNat_natCast, orders_V] at hmem
  have hin : ∀ x ∈ o, inb steps x := fun x hx => hmem.1.inv.rng x hx
  unfold F_lawFirst_J1
  refine ⟨fun g => absurd g (by decide), fun _ => ⟨fun x plan => ∃ k : Nat, x = k ∧ k ≤ o.length ∧ plan = (o.take k).map fun i => gt steps i, fun x _ => (o.length - x).toNat, ⟨0, rfl, Nat.zero_le _, rfl⟩, ?_⟩⟩
  rintro _ plan ⟨k, rfl, k1, k2⟩
  unfold F_lawFirst_L1
  rw [ho]
  simp only [decide_eq_true_eq, decide_eq_false_iff_not, forall_eq, List.length_append, List.length_singleton]
  have hl : plan.length ≤ 7 := by rw [k2, List.length_map, List.length_take]; omega
  refine ⟨fun g => ?_, fun g => ?_⟩
  · have hk : k < o.length := by omega
    refine ⟨⟨by omega, g⟩, hin _ (gt_memN hk), ⟨by simp only [maxLen]; omega, by omega⟩, ?_⟩
    rw [w64 (by omega)]
    refine ⟨⟨k + 1, by omega, by omega, ?_⟩, by omega⟩
    rw [takeN_gt hk, List.map_append, ← k2]; rfl
  · rw [List.take_of_length_le (by omega)] at k2
    have hs : sp_solves t plan = (true, ⟨0, 0⟩) := by
      rw [sp_solves, if_pos (planFault_zero pv.task (by omega) fun x hx => ?_), k2, hsol]
      rw [k2] at hx
      obtain ⟨i, hi, rfl⟩ := List.mem_map.1 hx
      exact pv.ops _ (gt_mem (hin i hi))
    have hlen : plan.length = steps.length := by rw [k2, List.length_map, hmem.2]
    rw [hs]
    refine ⟨fun _ => ⟨fun _ => ⟨fun _ => rfl, fun q => ?_⟩, fun q => absurd (show true = false from q) (by decide)⟩, fun q => absurd (show true = false from q) (by decide)⟩
    rw [hlen] at q
    simp at q
theorem ok_lawDeorder : ∀ (t : Task) (plan : List Int), F_lawDeorder t plan (fun r => r = sp_lawDeorder t plan) := fun t plan => by
  have four : ∀ c i : Int, c ≠ 0 → sp_deorder t plan = ([], ⟨c, i⟩) → F_lawDeorder_J4 t plan (fun r => r = sp_lawDeorder t plan) (sp_deorder t plan) c i := fun c i hc e => by
    unfold F_lawDeorder_J4
    rw [e]
    simp only [forall_eq, bne_iff_ne, ne_eq, bne_eq_false_iff_eq]
    exact ⟨fun _ => ⟨fun _ => ⟨fun _ => rfl, fun g => absurd (show true = false from g) (by decide)⟩, fun g => by simp at g⟩, fun g => absurd g hc⟩
  have three : ∀ c i : Int, F_lawDeorder_J4 t plan (fun r => r = sp_lawDeorder t plan) (sp_deorder t plan) c i → F_lawDeorder_J3 t plan (fun r => r = sp_lawDeorder t plan) (sp_deorder t plan) c i false := fun c i h => by
    unfold F_lawDeorder_J3
    exact ⟨fun g => absurd g (by decide), fun _ => h⟩
  have two : ∀ c i : Int, c ≠ 0 → sp_deorder t plan = ([], ⟨c, i⟩) → F_lawDeorder_J2 t plan (fun r => r = sp_lawDeorder t plan) (sp_deorder t plan) c i := fun c i hc e => by
    unfold F_lawDeorder_J2
    simp only [beq_iff_eq, beq_eq_false_iff_ne]
    exact ⟨fun g => absurd g hc, fun _ => three c i (four c i hc e)⟩
  unfold F_lawDeorder F_lawDeorder_J1
  simp only [forall_eq, beq_iff_eq, beq_eq_false_iff_ne, ne_eq, decide_eq_true_eq, decide_eq_false_iff_not, sp_at_]
  refine ⟨fun h => ⟨fun q => ?_, fun q => ?_⟩, fun h => ⟨fun g => absurd g (by decide), fun _ => two _ _ h ?_⟩⟩
  · exact two 2 (-5) (by decide) (by rw [sp_deorder, if_pos (planFault_code h), if_pos (by omega)])
  · have hz := planFault_code h
    obtain ⟨h1, h2, h3⟩ := plan_ok hz
    have tk := taskOK_of h1
    have hin := set_len tk.facts.1 tk.init
    have hf := tk.facts
    rw [hz]
    unfold F_lawDeorder_J2
    simp only [forall_eq, beq_iff_eq, beq_eq_false_iff_ne, ne_eq]
    refine ⟨fun _ => ⟨⟨h1, by omega, by omega, h3⟩, ?_⟩, fun g => absurd trivial g⟩
    cases hs : sp_rsolves t plan
    · unfold F_lawDeorder_J3
      refine ⟨fun _ r hr => ?_, fun g => absurd g (by decide)⟩
      rw [hr]
      exact four 11 (-8) (by decide) (by rw [sp_deorder, if_pos hz, if_neg (by omega), if_neg (by rw [hs]; decide)])
    · refine three 0 0 ?_
      have e : sp_deorder t plan = (sp_pairsOf t plan, ⟨0, 0⟩) := by rw [sp_deorder, if_pos hz, if_neg (by omega), if_pos hs]
      unfold F_lawDeorder_J4
      rw [e]
      simp only [forall_eq, bne_iff_ne, ne_eq, bne_eq_false_iff_eq, sp_twoInts]
      have hl := rows_len (t := t) (plan := plan) plan.length
      have hm : plan.length * plan.length ≤ 7 * 7 := Nat.mul_le_mul (by omega) (by omega)
      refine ⟨fun g => absurd trivial g, fun _ => ⟨fun _ => ⟨⟨h1, by omega, h3⟩, show (rows t plan plan.length).length ≤ 1000 by omega, fun _ => rfl, fun g => by simp at g⟩, fun g => absurd (show true = false from g) (by decide)⟩⟩
  · rw [sp_deorder, if_neg fun e => h (by rw [e])]
section
variable {t : Task} {plan : List Int}
theorem mem_pairs {i j : Int} : (i, j) ∈ sp_pairsOf t plan ↔ 0 ≤ i ∧ i < j ∧ j < plan.length ∧ sp_interfere t (gt plan i) (gt plan j) = true := by
  unfold sp_pairsOf pairRow
  rw [List.mem_flatMap]
  constructor
  · rintro ⟨a, ha, h⟩
    obtain ⟨b, hb, e⟩ := List.mem_map.1 h
    obtain ⟨h1, h2⟩ := List.mem_filter.1 hb
    have h3 := List.mem_range.1 h1
    rw [Bool.and_eq_true, decide_eq_true_eq] at h2
    simp only [Prod.mk.injEq] at e
    obtain ⟨rfl, rfl⟩ := e
    exact ⟨by omega, by omega, by omega, h2.2⟩
  · rintro ⟨h1, h2, h3, h4⟩
    have e1 : ((i.toNat : Nat) : Int) = i := by omega
    have e2 : ((j.toNat : Nat) : Int) = j := by omega
    refine ⟨i.toNat, List.mem_range.2 (by omega), List.mem_map.2 ⟨j.toNat, List.mem_filter.2 ⟨List.mem_range.2 (by omega), ?_⟩, by rw [e1, e2]⟩⟩
    rw [Bool.and_eq_true, decide_eq_true_eq, e1, e2]
    exact ⟨by omega, h4⟩
theorem pairs_up {a b : Int} (h : Reach (sp_pairsOf t plan) a b) : a < b := by
  induction h with
  | one h => exact (mem_pairs.1 h).2.1
  | more _ h ih => exact Int.lt_trans ih (mem_pairs.1 h).2.1
theorem meets_of {a b : List Int} {f : Int} (h1 : f ∈ a) (h2 : f ∈ b) : sp_meets a b = true := List.any_eq_true.2 ⟨f, h1, decide_eq_true h2⟩
variable {A B : Int → Prop}
theorem tr_cases : ∀ {d : List Int} {I : Prop}, Tr A B I d → (I ∧ ∀ x ∈ d, ¬ B x) ∨ ∃ d1 a d2, d = d1 ++ a :: d2 ∧ A a ∧ ∀ x ∈ d2, ¬ B x
  | [], _, h => .inl ⟨h, by simp⟩
  | y :: r, I, h => by
    rcases tr_cases (show Tr A B (A y ∨ (I ∧ ¬ B y)) r from h) with ⟨h1, h2⟩ | ⟨d1, a, d2, e, h1, h2⟩
    · rcases h1 with h1 | ⟨h1, h3⟩
      · exact .inr ⟨[], y, r, rfl, h1, h2⟩
      · refine .inl ⟨h1, fun x hx => ?_⟩
        rcases List.mem_cons.1 hx with rfl | hx
        · exact h3
        · exact h2 x hx
    · exact .inr ⟨y :: d1, a, d2, by rw [e]; rfl, h1, h2⟩
theorem map_allS {α : Type} [Inhabited α] (xs : List α) : ∀ k : Nat, k ≤ xs.length → (allS k).map (fun i => gt xs i) = xs.take k
  | 0, _ => rfl
  | k + 1, h => by rw [allS_succ, List.map_append, map_allS xs k (by omega), takeN_gt (by omega)]; rfl
/-- the value before J is the same in every order of the pairs that interfere -/
theorem keep_tr {n J : Nat} {I : Prop} (hAB : ∀ x, A x → ¬ B x) {d : List Int} (hin : ∀ x ∈ d, (0 ≤ x ∧ x < n) ∧ x ≠ J)
    (h1 : ∀ x : Int, (0 ≤ x ∧ x < J) → A x → x ∈ d) (h2 : ∀ x ∈ d, B x → x < J) (h3 : ∀ d1 a d2 x, d = d1 ++ a :: d2 → A a → x ∈ d2 → B x → ¬ x < a)
    (h : Tr A B I (allS J)) : Tr A B I d := by
  rcases tr_cases h with ⟨g1, g2⟩ | ⟨e1, a, e2, e, ha, g2⟩
  · exact tr_keep g1 fun x hx hB => g2 x (mem_allS.2 ⟨(hin x hx).1.1, h2 x hx hB⟩) hB
  · have hs := allS_sorted J
    have hmem : a ∈ allS J := by rw [e]; exact List.mem_append_right _ List.mem_cons_self
    have har := mem_allS.1 hmem
    rw [e] at hs
    obtain ⟨d1, d2, ed⟩ := List.append_of_mem (h1 a har ha)
    rw [ed]
    refine tr_add ha fun x hx hB => ?_
    have hxd : x ∈ d := by rw [ed]; exact List.mem_append_right _ (List.mem_cons_of_mem _ hx)
    have hlt := h2 x hxd hB
    have hge := h3 d1 a d2 x ed ha hx hB
    have hne : x ≠ a := fun q => hAB a ha (q ▸ hB)
    have hx2 : x ∈ e1 ++ a :: e2 := by rw [← e]; exact mem_allS.2 ⟨(hin x hxd).1.1, hlt⟩
    rcases List.mem_append.1 hx2 with q | q
    · have := (List.pairwise_append.1 hs).2.2 x q a List.mem_cons_self
      exact hge this
    · rcases List.mem_cons.1 q with q | q
      · exact hne q
      · exact g2 x q hB
end
theorem ok_lawDeorderW : ∀ (t : Task) (plan : List Int), F_lawDeorderW t plan (fun r => r = sp_lawDeorderW t plan) := fun t plan => by
  have yes : ∀ r, F_lawDeorderW_J1 t plan (fun r => r = sp_lawDeorderW t plan) r true := fun r => by
    unfold F_lawDeorderW_J1
    exact ⟨fun _ r hr => hr, fun g => absurd g (by decide)⟩
  unfold F_lawDeorderW
  simp only [forall_eq, bne_iff_ne, ne_eq, bne_eq_false_iff_eq]
  refine ⟨fun _ => yes _, fun h => ?_⟩
  have hde : sp_planFault t plan = ⟨0, 0⟩ ∧ plan.length ≤ 7 ∧ sp_rsolves t plan = true ∧ sp_deorder t plan = (sp_pairsOf t plan, ⟨0, 0⟩) := by
    unfold sp_deorder at h ⊢
    split at h
    · rename_i h1
      rw [if_pos h1]
      split at h
      · exact absurd (show (2 : Int) = 0 from h) (by decide)
      · rename_i h2
        rw [if_neg h2]
        split at h
        · rename_i h3
          exact ⟨h1, by omega, h3, by rw [if_pos h3]⟩
        · exact absurd (show (11 : Int) = 0 from h) (by decide)
    · rename_i h1
      exact absurd (planFault_code h) h1
  obtain ⟨hz, h7, hsol, he⟩ := hde
  obtain ⟨h1, h2, h3⟩ := plan_ok hz
  have tk := taskOK_of h1
  have hf := tk.facts.1
  rw [he]
  by_cases hbig : (30 : Int) < ((sp_pairsOf t plan).length : Int)
  · rw [show decide ((30 : Int) < (((sp_pairsOf t plan, (⟨0, 0⟩ : Fault)).1.length : Nat) : Int)) = true from decide_eq_true hbig]
    exact yes _
  have hrng : Rng plan.length (sp_pairsOf t plan) := fun p hp => by
    obtain ⟨i, j⟩ := p
    have := mem_pairs.1 hp
    exact ⟨⟨this.1, show i < plan.length by omega⟩, show 0 ≤ j by omega, this.2.2.1⟩
  have ok : OrdOK plan.length (sp_pairsOf t plan) := ⟨by omega, by omega, by omega, hrng⟩
  have ac : Acyc (sp_pairsOf t plan) := fun a ha => by have := pairs_up ha; omega
  have hord : sp_orderFault plan.length (sp_pairsOf t plan) = ⟨0, 0⟩ := by rw [ok.zero, if_neg ((acyc_iff ok).2 ac)]
  have hpv : sp_pvalidate t plan (sp_pairsOf t plan) = ⟨0, 0⟩ := by rw [sp_pvalidate, if_pos hz, hord]
  have hid := works_iff.1 hsol
  have key : ∀ (J : Nat) (d : List Int), J ≤ plan.length → UpTo (sp_pairsOf t plan) plan.length J d → ∀ f, (0 ≤ f ∧ f < t.facts) → (J < plan.length → f ∈ (gt t.ops (gt plan (J : Int))).pre) → f ∈ run t t.init (plan.take J) → f ∈ run t t.init (d.map fun i => gt plan i) := fun J d hJ hu f hfr hpre hrun => by
    rw [← map_allS plan J hJ, run_tr hf hfr] at hrun
    rw [run_tr hf hfr]
    have hd := hu.1.inv
    have notJ : ∀ x ∈ d, x ≠ (J : Int) := fun x hx e => by
      have hr := hd.rng x hx
      exact (ready_iff.1 (hu.2.1 (by omega)).last.2.2).2 (e ▸ hx)
    have before : ∀ x y : Int, (x, y) ∈ sp_pairsOf t plan → y ∈ d → x ∈ d := fun x y hp hy => (hd.cl y hy x (.one hp)).1
    have toJ : ∀ x : Int, (x, (J : Int)) ∈ sp_pairsOf t plan → x ∈ d := fun x hp => hu.has (by omega) (hrng _ hp).1 (.inr (.one hp))
    refine keep_tr (n := plan.length) (fun x ha => tk.apart _ _ ha) (fun x hx => ⟨hd.rng x hx, notJ x hx⟩) (fun x hx ha => ?_) (fun x hx hb => ?_) (fun d1 a d2 x e ha hx hb hlt => ?_) hrun
    · by_cases q : J < plan.length
      · refine toJ x (mem_pairs.2 ⟨hx.1, hx.2, by omega, ?_⟩)
        have := meets_of ha (hpre q)
        simp [sp_interfere, this]
      · exact hu.has (by omega) ⟨hx.1, by omega⟩ (.inl (by omega))
    · refine Classical.byContradiction fun q => ?_
      have hr := hd.rng x hx
      have hne := notJ x hx
      have hp : ((J : Int), x) ∈ sp_pairsOf t plan := by
        refine mem_pairs.2 ⟨by omega, by omega, hr.2, ?_⟩
        have := meets_of hb (hpre (by omega))
        simp [sp_interfere, this]
      exact notJ _ (before _ _ hp hx) rfl
    · have hxd : x ∈ d := by rw [e]; exact List.mem_append_right _ (List.mem_cons_of_mem _ hx)
      have had : a ∈ d := by rw [e]; exact List.mem_append_right _ List.mem_cons_self
      have hp : (x, a) ∈ sp_pairsOf t plan := by
        refine mem_pairs.2 ⟨(hd.rng x hxd).1, hlt, (hd.rng a had).2, ?_⟩
        have := meets_of hb ha
        simp [sp_interfere, this]
      have hv := hu.1
      rw [e] at hv
      obtain ⟨v1, v2, _, _⟩ := hv.split
      have hx1 := (ready_iff.1 v2.last.2.2).1 _ hp rfl
      have hnd := hv.inv.nd
      exact (List.nodup_append.1 hnd).2.2 x hx1 x (List.mem_cons_of_mem _ hx) rfl
  have hall : sp_allWork t plan (sp_pairsOf t plan) = true := by
    rw [sp_allWork, List.all_eq_true]
    intro o ho
    rw [sp_orders_nil, Int.toNat_natCast, orders_V] at ho
    refine works_iff.2 ⟨fun d op r e f hff => ?_, fun f hff => ?_⟩
    · obtain ⟨d', x, rfl, rfl, e2⟩ := List.map_eq_append_iff.1 e
      obtain ⟨j, r', rfl, rfl, rfl⟩ := List.map_eq_cons_iff.1 e2
      obtain ⟨v1, v2, v3, _⟩ := ho.1.split
      have ej : ((j.toNat : Nat) : Int) = j := by omega
      refine key j.toNat d' (by omega) ⟨v1, fun _ => by rw [ej]; exact v2, fun q => by omega⟩ f (set_rng (tk.op (h3 _ (gt_mem ⟨v3.1, v3.2⟩))).1 f hff) (fun _ => by rw [ej]; exact hff) ?_
      have hj : j.toNat < plan.length := by omega
      refine hid.1 (plan.take j.toNat) (gt plan ((j.toNat : Nat) : Int)) (plan.drop (j.toNat + 1)) ?_ f (by rw [ej]; exact hff)
      have hd := drop_gt (xs := plan) (i := ((j.toNat : Nat) : Int)) ⟨by omega, by omega⟩
      rw [Int.toNat_natCast, show (((j.toNat : Nat) : Int) + 1).toNat = j.toNat + 1 by omega] at hd
      rw [← hd, List.take_append_drop]
    · refine key plan.length o (Nat.le_refl _) ⟨ho.1, fun q => by omega, fun _ => ho.2⟩ f (set_rng tk.goal f hff) (fun q => by omega) ?_
      rw [List.take_length]
      exact hid.2 f hff
  have hch : sp_pcheck t plan (sp_pairsOf t plan) = (true, ⟨0, 0⟩) := by rw [sp_pcheck, if_pos hpv, hall]
  rw [show decide ((30 : Int) < (((sp_pairsOf t plan, (⟨0, 0⟩ : Fault)).1.length : Nat) : Int)) = false from decide_eq_false hbig]
  unfold F_lawDeorderW_J1
  simp only [forall_eq, hch]
  exact ⟨fun g => absurd g (by decide), fun _ => ⟨fun _ => ⟨fun _ => rfl, fun g => absurd g (by decide)⟩, fun g => absurd (show true = false from g) (by decide)⟩⟩
end Go.Proofs.Ytihbfbofbdkmbaa.Pl
