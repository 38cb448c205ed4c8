/- What the checks of beliefs ask and give. Plain Lean. No condition. -/
import Derived.Test.YtojoehfldbimpaaGreatDoorK1
import Derived.Test.YtojoehfldbimpaaGreatDoorB6
namespace Go.Proofs.YtojoehfldbimpaaGreatDoor.Pl
open Go Go.RowKit
theorem ok_sure1 : ∀ (s_ : List Int) (x : List Int), pre_sure1 s_ x → F_sure1 s_ x (fun r => r = sp_sure1 s_ x) := fun s x hp => by
  refine ⟨hp, fun r hr => ?_⟩
  subst hr; rfl
theorem ok_sure : ∀ (worlds : List (List Int)) (facts : List Int), pre_sure worlds facts → F_sure worlds facts (fun r => r = sp_sure worlds facts) := fun w f ⟨h1, h2⟩ => by
  refine ⟨⟨h1, h2⟩, fun r hr => ?_⟩
  subst hr; rfl
theorem ok_compare : ∀ (x : Int) (y : Int), F_compare x y (fun r => r = sp_compare x y) := fun x y => by
  unfold F_compare
  simp only [forall_eq, sp_isNaN1, decide_eq_true_eq, decide_eq_false_iff_not]
  refine ⟨fun h => absurd h (by decide), fun _ => ⟨fun h => absurd h (by decide), fun _ => ⟨fun h => ?_, fun h => ⟨fun g => ?_, fun g => ?_⟩⟩⟩⟩
  · rw [sp_compare, if_pos h]
  · rw [sp_compare, if_neg h, if_pos g]
  · rw [sp_compare, if_neg h, if_neg g]
theorem mem_changed {n : Int} (hn : 0 ≤ n) {s add del : List Int} {x : Int} : x ∈ sp_changed n s add del ↔ (0 ≤ x ∧ x < n) ∧ (x ∈ add ∨ (x ∈ s ∧ x ∉ del)) := by
  rw [sp_changed, List.mem_filter, mem_allS, decide_eq_true_eq, Int.toNat_of_nonneg hn]
theorem changed_set {n : Int} (hn : 0 ≤ n) (s add del : List Int) : sp_isSet (sp_changed n s add del) n = true :=
  decide_eq_true ⟨(allS_sorted _).filter _, fun _ hx => ((mem_changed hn).1 hx).1⟩
theorem ok_changed : ∀ (facts : Int) (s_ : List Int) (add : List Int) (del : List Int), pre_changed facts s_ add del → F_changed facts s_ add del (fun r => r = sp_changed facts s_ add del) := fun n s add del ⟨n0, n1, h1, h2, h3⟩ => by
  refine ⟨fun i out => ∃ k : Nat, i = k ∧ (k : Int) ≤ n ∧ out = (allS k).filter fun p => decide (p ∈ add ∨ (p ∈ s ∧ p ∉ del)), fun i _ => (n - i).toNat, ⟨0, rfl, by omega, rfl⟩, ?_⟩
  rintro _ out ⟨k, rfl, k1, k2⟩
  have hlen : out.length ≤ k := by rw [k2]; exact Nat.le_trans (List.length_filter_le _ _) (by rw [allS_len]; exact Nat.le_refl _)
  have step : ∀ b : Bool, (b = true ↔ ((k : Int) ∈ add ∨ ((k : Int) ∈ s ∧ (k : Int) ∉ del))) → (k : Int) < n → F_changed_J2 b out (k : Int) (fun i out => ∃ k : Nat, i = k ∧ (k : Int) ≤ n ∧ out = (allS k).filter fun p => decide (p ∈ add ∨ (p ∈ s ∧ p ∉ del))) (fun i _ => (n - i).toNat) := fun b hb h => by
    unfold F_changed_J2 F_changed_J1
    rw [w64 (n := (k : Int) + 1) (by omega)]
    refine ⟨fun q => ⟨⟨by rw [List.length_append]; simp only [maxLen, List.length_singleton]; omega, by rw [List.length_append]; simp only [List.length_singleton]; omega⟩, ⟨k + 1, by omega, by omega, ?_⟩, by dsimp only; omega⟩, fun q => ⟨⟨k + 1, by omega, by omega, ?_⟩, by dsimp only; omega⟩⟩
    · rw [allS_succ, List.filter_append, ← k2, filter1_pos (p := fun p => decide (p ∈ add ∨ (p ∈ s ∧ p ∉ del))) (decide_eq_true (hb.1 q))]
    · rw [allS_succ, List.filter_append, ← k2, filter1_neg (p := fun p => decide (p ∈ add ∨ (p ∈ s ∧ p ∉ del))) (decide_eq_false fun g => by rw [hb.2 g] at q; cases q), List.append_nil]
  unfold F_changed_L1
  simp only [decide_eq_true_eq, decide_eq_false_iff_not, forall_eq, sp_has]
  refine ⟨fun h => ⟨h2, fun q => step true (by simp [q]) h, fun q => ⟨h1, fun q2 => ⟨h3, step _ ?_ h⟩, fun q2 => step false ?_ h⟩⟩, fun h => ?_⟩
  · simp [q, q2]
  · simp [q, q2]
  · have e : k = n.toNat := by omega
    rw [k2, e]; rfl
end Go.Proofs.YtojoehfldbimpaaGreatDoor.Pl

