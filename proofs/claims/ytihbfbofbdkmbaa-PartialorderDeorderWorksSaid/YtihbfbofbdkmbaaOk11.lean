/- An additional pair. Plain Lean. No condition. -/
import Derived.Test.YtihbfbofbdkmbaaOk10
namespace Go.Proofs.Ytihbfbofbdkmbaa.Pl
open Go Go.RowKit
section
variable {before : List (Int × Int)} {b : Int × Int} {n : Nat}
theorem ready_less {d : List Int} {i : Int} (h : sp_ready (before ++ [b]) d i = true) : sp_ready before d i = true :=
  ready_iff.2 ⟨fun p hp => (ready_iff.1 h).1 p (List.mem_append_left _ hp), (ready_iff.1 h).2⟩
theorem V.less {l : List Int} (h : V (before ++ [b]) n l) : V before n l := by
  induction h with
  | nil => exact .nil
  | add _ h2 h3 ih => exact ih.add h2 (ready_less h3)
theorem sumN_le {f g : Nat → Nat} : ∀ {k : Nat}, (∀ i, i < k → f i ≤ g i) → sumN f k ≤ sumN g k
  | 0, _ => Nat.le_refl _
  | k + 1, h => by
    have := sumN_le (f := f) (g := g) (k := k) fun i hi => h i (by omega)
    have := h k (by omega)
    rw [sumN, sumN]; omega
theorem orders_less : ∀ (k : Nat) (d : List Int), (ordersF (before ++ [b]) n k d).length ≤ (ordersF before n k d).length
  | 0, _ => Nat.le_refl _
  | k + 1, d => by
    rw [ordersF, ordersF, flat_sum, flat_sum]
    refine sumN_le fun i _ => ?_
    by_cases q : sp_ready (before ++ [b]) d i = true
    · rw [if_pos q, if_pos (ready_less q)]
      exact orders_less k _
    · rw [if_neg q]; exact Nat.zero_le _
end
theorem ok_lawMore : ∀ (t : Task) (steps : List Int) (before : List (Int × Int)) (b : Int × Int), pre_lawMore t steps before b → F_lawMore t steps before b (fun r => r = sp_lawMore t steps before b) := fun t steps before b hp => by
  unfold pre_lawMore at hp
  unfold F_lawMore F_lawMore_J1 F_lawMore_J2
  simp only [forall_eq, List.nil_append, List.length_append, List.length_singleton, bne_iff_ne, ne_eq, bne_eq_false_iff_eq]
  refine ⟨⟨by simp only [maxLen]; omega, by omega⟩, ⟨by simp only [maxLen]; omega, by omega⟩, fun h => ⟨fun _ => rfl, fun g => absurd g (by decide)⟩, fun h => ⟨fun _ => rfl, fun h2 => ?_⟩⟩
  have code : ∀ bf, (sp_pcheck t steps bf).2.code = 0 → sp_pvalidate t steps bf = ⟨0, 0⟩ := fun bf hc => by
    unfold sp_pcheck at hc
    split at hc
    · assumption
    · exact pvalidate_code hc
  have z1 := code _ h
  have z2 := code _ h2
  have pv1 := pv_ok z1
  have pv2 := pv_ok z2
  obtain ⟨ok2, hne2⟩ := ordOK_of pv2.ord
  have e1 : sp_pcheck t steps before = (sp_allWork t steps before, ⟨0, 0⟩) := by rw [sp_pcheck, if_pos z1]
  have e2 : sp_pcheck t steps (before ++ [b]) = (sp_allWork t steps (before ++ [b]), ⟨0, 0⟩) := by rw [sp_pcheck, if_pos z2]
  have c1 : sp_count steps.length before = (((sp_orders steps.length before []).length : Int), (⟨0, 0⟩ : Fault)) := by rw [sp_count, if_pos pv1.ord]
  have c2 : sp_count steps.length (before ++ [b]) = (((sp_orders steps.length (before ++ [b]) []).length : Int), (⟨0, 0⟩ : Fault)) := by rw [sp_count, if_pos pv2.ord]
  have hle : (sp_orders steps.length (before ++ [b]) []).length ≤ (sp_orders steps.length before []).length := by
    rw [sp_orders_nil, sp_orders_nil]
    exact orders_less _ _
  have hpos : 0 < (sp_orders steps.length (before ++ [b]) []).length := List.length_pos_iff.2 hne2
  rw [e1, e2, c1, c2]
  have fin : ∀ K : Bool → Prop, K true → ((decide (((sp_orders steps.length (before ++ [b]) []).length : Int) ≤ ((sp_orders steps.length before []).length : Int))) = true →
      ((decide ((1 : Int) ≤ ((sp_orders steps.length (before ++ [b]) []).length : Int))) = true → K true) ∧ ((decide ((1 : Int) ≤ ((sp_orders steps.length (before ++ [b]) []).length : Int))) = false → K false)) ∧
      ((decide (((sp_orders steps.length (before ++ [b]) []).length : Int) ≤ ((sp_orders steps.length before []).length : Int))) = false → K false) := fun K hK =>
    ⟨fun _ => ⟨fun _ => hK, fun g => absurd (of_decide_eq_false g) (by omega)⟩, fun g => absurd (of_decide_eq_false g) (by omega)⟩
  refine ⟨fun _ => ⟨fun _ => ⟨fun _ => fin (fun r => r = true) rfl, fun hok => ⟨fun _ => fin (fun r => r = true) rfl, fun his => ?_⟩⟩, fun g => absurd (show true = false from g) (by decide)⟩, fun g => absurd (show true = false from g) (by decide)⟩
  have hok' : sp_allWork t steps before = true := by simpa using hok
  have : sp_allWork t steps (before ++ [b]) = true := by
    rw [sp_allWork, List.all_eq_true] at hok' ⊢
    intro o ho
    refine hok' o ?_
    rw [sp_orders_nil, Int.toNat_natCast, orders_V] at ho ⊢
    exact ⟨ho.1.less, ho.2⟩
  have his' : sp_allWork t steps (before ++ [b]) = false := his
  rw [this] at his'
  exact absurd his' (by decide)
end Go.Proofs.Ytihbfbofbdkmbaa.Pl
