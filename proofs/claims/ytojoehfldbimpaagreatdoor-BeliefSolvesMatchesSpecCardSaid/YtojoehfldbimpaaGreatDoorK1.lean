/- What Key asks and gives. Plain Lean. No condition. -/
import Derived.Test.YtojoehfldbimpaaGreatDoorF
import Derived.Test.YtojoehfldbimpaaGreatDoorHp
namespace Go.Proofs.YtojoehfldbimpaaGreatDoor.Pl
open Go Go.RowKit
theorem rowL_len {s : List Int} (h : ∀ x ∈ s, -9223372036854775808 ≤ x ∧ x ≤ 9223372036854775807) : (rowL s).length ≤ 22 * s.length := by
  induction s with
  | nil => simp [rowL]
  | cons x r ih =>
    have h1 := Lib.itoa_length_le x (h x List.mem_cons_self).1 (h x List.mem_cons_self).2
    have h2 := ih fun y hy => h y (List.mem_cons_of_mem _ hy)
    have e : rowL (x :: r) = (Lib.itoa x ++ [44]) ++ rowL r := rfl
    rw [e]; simp; omega
theorem keyL_len {l : List (List Int)} (h : ∀ s ∈ l, s.length ≤ 1000 ∧ ∀ x ∈ s, -9223372036854775808 ≤ x ∧ x ≤ 9223372036854775807) : (keyL l).length ≤ 22001 * l.length := by
  induction l with
  | nil => simp [keyL]
  | cons s r ih =>
    have h1 := rowL_len (h s List.mem_cons_self).2
    have h0 := (h s List.mem_cons_self).1
    have h2 := ih fun y hy => h y (List.mem_cons_of_mem _ hy)
    have e : keyL (s :: r) = (rowL s ++ [59]) ++ keyL r := rfl
    rw [e]; simp; omega
theorem rowL_take {s : List Int} {j : Nat} (h : j < s.length) : rowL (s.take (j + 1)) = rowL (s.take j) ++ (Lib.itoa (gt s j) ++ [44]) := by
  rw [takeN_gt h]; simp [rowL]
theorem keyL_take {l : List (List Int)} {k : Nat} (h : k < l.length) : keyL (l.take (k + 1)) = keyL (l.take k) ++ (rowL (gt l k) ++ [59]) := by
  rw [takeN_gt h]; simp [keyL]
theorem ok_key : ∀ (l : List (List Int)), pre_key l → F_key l (fun r => r = sp_key l) := fun l ⟨hl, hp⟩ => by
  unfold F_key
  refine ⟨fun t b => ∃ k : Nat, t = k ∧ k ≤ l.length ∧ b = keyL (l.take k), fun t _ => (l.length - t).toNat, ⟨0, rfl, Nat.zero_le _, rfl⟩, ?_⟩
  rintro _ _ ⟨k, rfl, k1, rfl⟩
  unfold F_key_L1
  simp only [decide_eq_true_eq, decide_eq_false_iff_not]
  refine ⟨fun h => ?_, fun h => ?_⟩
  · have hk : k < l.length := by omega
    have hrow := hp _ (gt_memN hk)
    have hkl := keyL_len (l := l.take k) fun s hs => hp s (List.mem_of_mem_take hs)
    rw [List.length_take] at hkl
    refine ⟨⟨by omega, h⟩, fun t b => ∃ j : Nat, t = j ∧ j ≤ (gt l k).length ∧ b = keyL (l.take k) ++ rowL ((gt l k).take j), fun t _ => ((gt l k).length - t).toNat, ⟨0, rfl, Nat.zero_le _, by simp [rowL]⟩, ?_⟩
    rintro _ _ ⟨j, rfl, j1, rfl⟩
    unfold F_key_L2
    simp only [decide_eq_true_eq, decide_eq_false_iff_not]
    have hrl := rowL_len (s := (gt l k).take j) fun x hx => hrow.2 x (List.mem_of_mem_take hx)
    rw [List.length_take] at hrl
    refine ⟨fun g => ?_, fun g => ?_⟩
    · have hj : j < (gt l k).length := by omega
      have hx := hrow.2 _ (gt_memN hj)
      have hil := Lib.itoa_length_le _ hx.1 hx.2
      rw [w64 (by omega)]
      refine ⟨⟨by omega, g⟩, hx, by rw [List.length_append]; omega, ⟨?_, ?_⟩, ⟨j + 1, by omega, by omega, by rw [rowL_take hj]; simp⟩, show (((gt l k).length : Int) - ((j : Int) + 1)).toNat < (((gt l k).length : Int) - (j : Int)).toNat by omega⟩
      · simp only [List.length_append, List.length_singleton, maxLen]; omega
      · simp only [List.length_append, List.length_singleton]; omega
    · have ej : (gt l k).take j = gt l k := List.take_of_length_le (by omega)
      rw [ej] at hrl ⊢
      rw [w64 (by omega)]
      refine ⟨⟨?_, ?_⟩, ⟨k + 1, by omega, by omega, by rw [keyL_take hk, List.append_assoc]⟩, show ((l.length : Int) - ((k : Int) + 1)).toNat < ((l.length : Int) - (k : Int)).toNat by omega⟩
      · simp only [List.length_append, List.length_singleton, maxLen]; omega
      · simp only [List.length_append, List.length_singleton]; omega
  · rw [List.take_of_length_le (by omega)]; rfl
end Go.Proofs.YtojoehfldbimpaaGreatDoor.Pl

