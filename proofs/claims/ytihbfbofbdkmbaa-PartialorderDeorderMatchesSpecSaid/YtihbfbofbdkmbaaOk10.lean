/- The check agrees with all orders, one by one; the law. Plain Lean. No condition. -/
import Derived.Test.YtihbfbofbdkmbaaOk9
namespace Go.Proofs.Ytihbfbofbdkmbaa.Pl
open Go Go.RowKit
section
variable {t : Task} {steps : List Int} {before : List (Int × Int)}
/-- the plan that is being checked -/
noncomputable def thePlan (t : Task) (steps : List Int) (before : List (Int × Int)) : PPlan := ⟨t, steps, matB steps.length (reachB before)⟩
theorem earlier_iff {i : Nat} {j : Int} (hi : i < steps.length) (hj : 0 ≤ j ∧ j ≤ steps.length) : sp_earlier (thePlan t steps before) i j = true ↔ j = steps.length ∨ Reach before i j := by
  unfold sp_earlier thePlan
  simp only [Bool.or_eq_true, decide_eq_true_eq]
  by_cases q : j = steps.length
  · exact ⟨fun _ => .inl q, fun _ => .inl q⟩
  · have e : j = ((j.toNat : Nat) : Int) := by omega
    rw [e, matB_gt hi (by omega), reachB_iff]
theorem later_iff {i : Nat} {j : Int} (hi : i < steps.length) (hj : 0 ≤ j ∧ j ≤ steps.length) : sp_later (thePlan t steps before) i j = true ↔ (i : Int) = j ∨ (j < steps.length ∧ Reach before j i) := by
  unfold sp_later thePlan
  simp only [Bool.or_eq_true, Bool.and_eq_true, decide_eq_true_eq]
  by_cases q : j < steps.length
  · have e : j = ((j.toNat : Nat) : Int) := by omega
    rw [e, matB_gt (by omega) hi, reachB_iff]
  · simp [q]
theorem certain_iff {f j : Int} (hj : 0 ≤ j ∧ j ≤ steps.length) : sp_certain (thePlan t steps before) f j = true ↔ Cert before steps.length j (Ad t steps f) (De t steps f) (f ∈ t.init) := by
  have hm : ∀ i : Nat, i < steps.length → (cMade (thePlan t steps before) f j i = true ↔ (i : Int) ≠ j ∧ (j = steps.length ∨ Reach before i j) ∧ Ad t steps f i) := fun i hi => by
    rw [cMade, Bool.and_eq_true, Bool.and_eq_true, earlier_iff hi hj, sp_adds, decide_eq_true_eq, decide_eq_true_eq]; rfl
  have hr : ∀ k w : Nat, k < steps.length → w < steps.length → (cRep (thePlan t steps before) f j k w = true ↔ (w : Int) ≠ j ∧ Ad t steps f w ∧ Reach before k w ∧ (j = steps.length ∨ Reach before w j)) := fun k w hk hw => by
    rw [cRep, Bool.and_eq_true, Bool.and_eq_true, Bool.and_eq_true, earlier_iff hw hj, sp_adds, decide_eq_true_eq, decide_eq_true_eq]
    show _ ∧ _ ∧ gt (gt (matB steps.length (reachB before)) (k : Int)) (w : Int) = true ∧ _ ↔ _
    rw [matB_gt hk hw, reachB_iff]; rfl
  have ho : ∀ k : Nat, k < steps.length → (cOne (thePlan t steps before) f j k = true ↔ (De t steps f k → ((k : Int) = j ∨ (j < steps.length ∧ Reach before j k)) ∨ ∃ w : Nat, w < steps.length ∧ cRep (thePlan t steps before) f j k w = true)) := fun k hk => by
    rw [cOne, Bool.or_eq_true, Bool.or_eq_true, later_iff hk hj, Bool.not_eq_true', sp_deletes, decide_eq_false_iff_not, List.any_eq_true]
    show (¬ De t steps f k ∨ _) ↔ _
    constructor
    · rintro (h | h | ⟨w, h1, h2⟩) g
      · exact absurd g h
      · exact .inl h
      · exact .inr ⟨w, List.mem_range.1 h1, h2⟩
    · intro h
      by_cases g : De t steps f k
      · rcases h g with h | ⟨w, h1, h2⟩
        · exact .inr (.inl h)
        · exact .inr (.inr ⟨w, List.mem_range.2 h1, h2⟩)
      · exact .inl g
  rw [sp_certain, Bool.and_eq_true, Bool.or_eq_true, decide_eq_true_eq, List.any_eq_true, List.all_eq_true]
  refine and_congr (or_congr Iff.rfl ?_) ?_
  · constructor
    · rintro ⟨i, h1, h2⟩
      have hi : i < steps.length := List.mem_range.1 h1
      obtain ⟨a, b, c⟩ := (hm i hi).1 h2
      exact ⟨i, ⟨by omega, by omega⟩, a, b, c⟩
    · rintro ⟨i, h1, a, b, c⟩
      have e : ((i.toNat : Nat) : Int) = i := by omega
      exact ⟨i.toNat, List.mem_range.2 (show i.toNat < steps.length by omega), (hm _ (by omega)).2 (by rw [e]; exact ⟨a, b, c⟩)⟩
  · constructor
    · intro h k hk hB
      have e : ((k.toNat : Nat) : Int) = k := by omega
      have h1 := (ho k.toNat (by omega)).1 (h _ (List.mem_range.2 (show k.toNat < steps.length by omega)))
      rw [e] at h1
      rcases h1 hB with h2 | ⟨w, hw, h2⟩
      · exact .inl h2
      · obtain ⟨a, b, c, d⟩ := (hr _ w (by omega) hw).1 h2
        rw [e] at c
        exact .inr ⟨w, ⟨by omega, by omega⟩, a, b, c, d⟩
    · intro h k hk
      have hk' : k < steps.length := List.mem_range.1 hk
      refine (ho k hk').2 fun hB => ?_
      rcases h k ⟨by omega, by omega⟩ hB with h2 | ⟨w, hw, a, b, c, d⟩
      · exact .inl h2
      · have e : ((w.toNat : Nat) : Int) = w := by omega
        exact .inr ⟨w.toNat, by omega, (hr k _ hk' (by omega)).2 (by rw [e]; exact ⟨a, b, c, d⟩)⟩
/-- what is needed at a step; at the end, the goal -/
def need (t : Task) (steps : List Int) (j : Nat) : List Int := if j < steps.length then (gt t.ops (gt steps (j : Int))).pre else t.goal
theorem need_rng (tk : TaskOK t) (ho : ∀ x ∈ steps, inb t.ops x) (j : Nat) : ∀ f ∈ need t steps j, 0 ≤ f ∧ f < t.facts := by
  unfold need
  split
  · rename_i h
    exact set_rng (tk.op (ho _ (gt_memN h))).1
  · exact set_rng tk.goal
theorem need_len (tk : TaskOK t) (ho : ∀ x ∈ steps, inb t.ops x) (j : Nat) : (need t steps j).length ≤ 1000 := by
  have hf := tk.facts
  unfold need
  split
  · rename_i h
    have := (tk.lens (ho _ (gt_memN h))).1
    omega
  · have := set_len hf.1 tk.goal
    omega
theorem orders_V {n : Nat} {o : List Int} : o ∈ ordersF before n n [] ↔ V before n o ∧ o.length = n := by
  rw [mem_orders n .nil]
  constructor
  · rintro ⟨r, h1, h2, h3⟩
    exact ⟨h3, by rw [h2]; simpa using h1⟩
  · rintro ⟨h1, h2⟩
    exact ⟨o, h2, rfl, h1⟩
theorem allWork_iff (h : sp_pvalidate t steps before = ⟨0, 0⟩) : sp_allWork t steps before = true ↔ ∀ j : Nat, j ≤ steps.length → ∀ f ∈ need t steps j, sp_certain (thePlan t steps before) f j = true := by
  have pv := pv_ok h
  obtain ⟨ok, hne⟩ := ordOK_of pv.ord
  have ac := (acyc_iff ok).1 hne
  have hr : Rng steps.length before := by have := ok.rngN; rwa [Int.toNat_natCast] at this
  have tk := taskOK_of pv.task
  have hf := tk.facts.1
  have hAB : ∀ f x, Ad t steps f x → ¬ De t steps f x := fun f x ha => tk.apart _ _ ha
  rw [sp_allWork, List.all_eq_true, sp_orders_nil, Int.toNat_natCast]
  constructor
  · intro ha j hj f hff
    have hfr := need_rng tk pv.ops j f hff
    rw [certain_iff ⟨by omega, by omega⟩, cert_iff ac hr (hAB f) ⟨by omega, by omega⟩]
    intro d hd
    rw [← run_tr hf hfr]
    by_cases q : j < steps.length
    · have hv := hd.2.1 (by omega)
      obtain ⟨r, h1, h2⟩ := hv.full ac hr
      have hw := (works_iff.1 (ha _ (orders_V.2 ⟨h1, h2⟩))).1 (d.map fun i => gt steps i) (gt steps (j : Int)) (r.map fun i => gt steps i) (by simp)
      rw [need, if_pos q] at hff
      exact hw f hff
    · have hl := hd.2.2 (by omega)
      rw [need, if_neg q] at hff
      exact (works_iff.1 (ha _ (orders_V.2 ⟨hd.1, hl⟩))).2 f hff
  · intro hc o ho
    obtain ⟨hv, hl⟩ := orders_V.1 ho
    refine works_iff.2 ⟨fun d op r e f hff => ?_, fun f hff => ?_⟩
    · obtain ⟨d', x, rfl, rfl, e2⟩ := List.map_eq_append_iff.1 e
      obtain ⟨j, r', rfl, rfl, rfl⟩ := List.map_eq_cons_iff.1 e2
      obtain ⟨h1, h2, h3, _⟩ := hv.split
      have ej : ((j.toNat : Nat) : Int) = j := by omega
      have hn : need t steps j.toNat = (gt t.ops (gt steps j)).pre := by rw [need, if_pos (by omega), ej]
      rw [← hn] at hff
      have hfr := need_rng tk pv.ops _ f hff
      have := hc j.toNat (by omega) f hff
      rw [certain_iff ⟨by omega, by omega⟩, cert_iff ac hr (hAB f) ⟨by omega, by omega⟩, ej] at this
      rw [run_tr hf hfr]
      exact this _ ⟨h1, fun _ => h2, fun q => by omega⟩
    · have hn : need t steps steps.length = t.goal := by rw [need, if_neg (by omega)]
      rw [← hn] at hff
      have hfr := need_rng tk pv.ops _ f hff
      have := hc steps.length (Nat.le_refl _) f hff
      rw [certain_iff ⟨by omega, by omega⟩, cert_iff ac hr (hAB f) ⟨by omega, by omega⟩] at this
      rw [run_tr hf hfr]
      exact this _ ⟨hv, fun q => by omega, fun _ => hl⟩
theorem thePlan_ok (h : sp_pvalidate t steps before = ⟨0, 0⟩) : PlanOK (thePlan t steps before) := by
  have pv := pv_ok h
  obtain ⟨ok, _⟩ := ordOK_of pv.ord
  have tk := taskOK_of pv.task
  have h7 := ok.hi
  have hin := set_len tk.facts.1 tk.init
  have hf := tk.facts
  refine ⟨show steps.length ≤ 7 by omega, by simp [thePlan, matB], fun a ha => ?_, fun a ha => pv.ops _ (gt_memN ha), fun a ha => ?_, show t.init.length ≤ 1000 by omega⟩
  · show (gt (matB steps.length (reachB before)) (a : Int)).length = steps.length
    rw [matB_row (show a < steps.length from ha)]; simp
  · have := tk.lens (pv.ops _ (gt_memN ha))
    exact ⟨show _ ≤ 1000 by exact Nat.le_trans this.2.1 (by omega), Nat.le_trans this.2.2 (by omega)⟩
end
theorem ok_pcheck : ∀ (t : Task) (steps : List Int) (before : List (Int × Int)), F_pcheck t steps before (fun r => r = sp_pcheck t steps before) := fun t steps before => by
  unfold F_pcheck
  simp only [forall_eq, fault_ne, fault_eq]
  refine ⟨fun h => ?_, fun h => ?_⟩
  · rw [sp_pcheck, if_neg h]
  have pv := pv_ok h
  obtain ⟨ok, hne⟩ := ordOK_of pv.ord
  have tk := taskOK_of pv.task
  have h7 := ok.hi
  have hp := thePlan_ok h
  refine ⟨ok, ?_⟩
  have hs : sp_pcheck t steps before = (sp_allWork t steps before, ⟨0, 0⟩) := by rw [sp_pcheck, if_pos h]
  have hcl : sp_closure steps.length before = (matB steps.length (reachB before), true) := by rw [sp_closure, if_neg hne, Int.toNat_natCast]
  rw [hs, hcl]
  have ep : (⟨t, steps, matB steps.length (reachB before)⟩ : PPlan) = thePlan t steps before := rfl
  refine ⟨fun x => ∃ k : Nat, x = k ∧ k ≤ steps.length + 1 ∧ ∀ j, j < k → ∀ f ∈ need t steps j, sp_certain (thePlan t steps before) f j = true, fun x => (steps.length + 1 - x).toNat, ⟨0, rfl, Nat.zero_le _, fun j hj => by omega⟩, ?_⟩
  rintro _ ⟨k, rfl, k1, k2⟩
  have key : k < steps.length + 1 → F_pcheck_J1 t steps (fun r => r = (sp_allWork t steps before, (⟨0, 0⟩ : Fault))) (matB steps.length (reachB before), true) (need t steps k) k (fun x => ∃ k : Nat, x = k ∧ k ≤ steps.length + 1 ∧ ∀ j, j < k → ∀ f ∈ need t steps j, sp_certain (thePlan t steps before) f j = true) (fun x => (steps.length + 1 - x).toNat) := fun hk => by
    unfold F_pcheck_J1
    simp only [ep, forall_eq]
    refine ⟨⟨need_len tk pv.ops k, fun f _ => ⟨hp, by omega, show (k : Int) ≤ steps.length by omega⟩⟩, fun q => ?_, fun q => ?_⟩
    · obtain ⟨f, hff, hq⟩ := List.any_eq_true.1 q
      cases e : sp_allWork t steps before
      · rfl
      · have := (allWork_iff h).1 e k (by omega) f hff
        rw [sp_pcheck1, this] at hq
        exact absurd hq (by decide)
    · rw [w64 (by omega)]
      refine ⟨⟨k + 1, by omega, by omega, fun j hj f hff => ?_⟩, by omega⟩
      rcases Nat.lt_or_ge j k with g | g
      · exact k2 j g f hff
      · have e : j = k := by omega
        subst e
        have := List.any_eq_false.1 q f hff
        rw [sp_pcheck1] at this
        simpa using this
  unfold F_pcheck_L1
  rw [w64 (by omega)]
  simp only [forall_eq, decide_eq_true_eq, decide_eq_false_iff_not]
  refine ⟨fun hk => ⟨fun h2 => ?_, fun h2 => ?_⟩, fun hk => ?_⟩
  · have := key (by omega)
    rw [need, if_pos (by omega)] at this
    exact ⟨⟨by omega, h2⟩, pv.ops _ (gt_memN (by omega)), this⟩
  · have := key (by omega)
    rw [need, if_neg (by omega)] at this
    exact this
  · have := (allWork_iff h).2 fun j hj => k2 j (by omega)
    rw [this]
theorem pvalidate_code {t : Task} {steps : List Int} {before : List (Int × Int)} : (sp_pvalidate t steps before).code = 0 → sp_pvalidate t steps before = ⟨0, 0⟩ := by
  unfold sp_pvalidate
  split
  · exact orderFault_code
  · exact planFault_code
theorem fault_same' (f : Fault) : ((f.code == f.code) && (f.index == f.index)) = true := by simp
theorem ok_lawCheck : ∀ (t : Task) (steps : List Int) (before : List (Int × Int)), F_lawCheck t steps before (fun r => r = sp_lawCheck t steps before) := fun t steps before => by
  unfold F_lawCheck
  simp only [forall_eq, bne_iff_ne, ne_eq, bne_eq_false_iff_eq]
  refine ⟨fun h => ?_, fun h => ?_⟩
  · have e : sp_pcheck t steps before = (false, sp_pvalidate t steps before) := by rw [sp_pcheck, if_neg fun e => h (by rw [e])]
    rw [e]
    exact ⟨fun _ => ⟨fun _ => rfl, fun g => absurd (show true = false from g) (by decide)⟩, fun g => by rw [fault_same'] at g; exact absurd g (by decide)⟩
  · have hz := pvalidate_code h
    have e : sp_pcheck t steps before = (sp_allWork t steps before, ⟨0, 0⟩) := by rw [sp_pcheck, if_pos hz]
    rw [e]
    exact ⟨fun _ => ⟨hz, fun _ => rfl, fun g => by simp at g⟩, fun g => absurd (show true = false from g) (by decide)⟩
end Go.Proofs.Ytihbfbofbdkmbaa.Pl
