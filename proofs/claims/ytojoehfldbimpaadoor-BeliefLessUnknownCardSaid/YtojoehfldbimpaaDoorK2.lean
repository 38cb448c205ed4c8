/- What the checks of beliefs ask and give. Plain Lean. No condition. -/
import Derived.Test.YtojoehfldbimpaaDoorK1
import Derived.Test.YtojoehfldbimpaaDoorB6
namespace Go.Proofs.YtojoehfldbimpaaDoor.Pl
open Go Go.RowKit
theorem ok_sure1 : ∀ (s_ : List Int) (x : List Int), pre_sure1 s_ x → F_sure1 s_ x (fun r => r = sp_sure1 s_ x) := fun s x hp => by
  refine ⟨hp, fun r hr => ?_⟩
  subst hr; rfl
theorem ok_sure : ∀ (worlds : List (List Int)) (facts : List Int), pre_sure worlds facts → F_sure worlds facts (fun r => r = sp_sure worlds facts) := fun w f ⟨h1, h2⟩ => by
  refine ⟨⟨h1, h2⟩, fun r hr => ?_⟩
  subst hr; rfl
theorem ok_compare : ∀ (x : Int) (y : Int), F_compare x y (fun r => r = sp_compare x y) := fun x y => by
  unfold F_compare
  simp only [forall_eq, sp_isNaN1, decide_eq_true_eq, decide_eq_false_iff_not]
  refine ⟨fun h => absurd h (by decide), fun _ => ⟨fun h => absurd h (by decide), fun _ => ⟨fun h => ?_, fun h => ⟨fun g => ?_, fun g => ?_⟩⟩⟩⟩
  · rw [sp_compare, if_pos h]
  · rw [sp_compare, if_neg h, if_pos g]
  · rw [sp_compare, if_neg h, if_neg g]
theorem mem_changed {n : Int} (hn : 0 ≤ n) {s add del : List Int} {x : Int} : x ∈ sp_changed n s add del ↔ (0 ≤ x ∧ x < n) ∧ (x ∈ add ∨ (x ∈ s ∧ x ∉ del)) := by
  rw [sp_changed, List.mem_filter, mem_allS, decide_eq_true_eq, Int.toNat_of_nonneg hn]
theorem changed_set {n : Int} (hn : 0 ≤ n) (s add del : List Int) : sp_isSet (sp_changed n s add del) n = true :=
  decide_eq_true ⟨(allS_sorted _).filter _, fun _ hx => ((mem_changed hn).1 hx).1⟩
theorem update_changed {n : Int} (hn : 0 ≤ n) {s add del : List Int} (hs : sp_isSet s n = true) (ha : sp_isSet add n = true) : sp_update s add del = sp_changed n s add del := by
  refine sorted_ext _ _ (update_sorted _ _ _) (set_sorted (changed_set hn s add del)) fun x => ?_
  rw [mem_update, mem_changed hn]
  constructor
  · rintro (⟨a, b⟩ | a)
    · exact ⟨set_rng hs x a, .inr ⟨a, b⟩⟩
    · exact ⟨set_rng ha x a, .inl a⟩
  · rintro ⟨_, a | a⟩
    · exact .inr a
    · exact .inl a
end Go.Proofs.YtojoehfldbimpaaDoor.Pl
