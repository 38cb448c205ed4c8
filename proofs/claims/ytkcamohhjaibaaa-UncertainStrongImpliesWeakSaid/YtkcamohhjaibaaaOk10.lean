/- Direct bounds, schedules, cycles: what the functions ask and give. Plain Lean. No condition. -/
import Derived.Test.YtkcamohhjaibaaaOk9
namespace Go.Proofs.Ytkcamohhjaibaaa.Pl
open Go Go.RowKit
theorem ok_direct : ∀ (n_ : Network) (i : Int) (j : Int), pre_direct n_ i j → F_direct n_ i j (fun r => r = sp_direct n_ i j) := fun n i j ok => by
  have hlen := ok.len
  have main : ∀ d0, sp_direct n i j = n.links.foldl (dirStep i j) d0 → F_direct_J1 n i j (fun r => r = sp_direct n i j) d0 := by
    intro d0 hs
    refine ⟨fun d k => 0 ≤ k ∧ k ≤ n.links.length ∧ d = (n.links.take k.toNat).foldl (dirStep i j) d0, fun _ k => (n.links.length - k).toNat, ⟨Int.le_refl _, by omega, by simp⟩, ?_⟩
    rintro d k ⟨h0, h1, h2⟩
    unfold F_direct_L1
    simp only [decide_eq_true_eq, decide_eq_false_iff_not]
    refine ⟨fun h => ⟨⟨h0, h⟩, ?_⟩, fun h => ?_⟩
    · have hb : inb n.links k := ⟨h0, h⟩
      have lo := ok.low _ (gt_mem hb)
      have e1 := w64 (n := k + 1) (by omega)
      have e2 := w64 (n := 0 - (gt n.links k).low) (by omega)
      unfold F_direct_J3 F_direct_J4 F_direct_J5 F_direct_J2
      simp only [e1, e2, beq_iff_eq, beq_eq_false_iff_ne, ne_eq, decide_eq_true_eq, decide_eq_false_iff_not]
      rw [take_gt hb, List.foldl_append, ← h2]
      simp only [List.foldl_cons, List.foldl_nil, dirStep]
      repeat' (first | apply And.intro | intro)
      all_goals first | omega | contradiction | ((repeat' split) <;> omega)
    · rw [h2, hs, List.take_of_length_le (by omega)]
  unfold F_direct
  simp only [beq_iff_eq, beq_eq_false_iff_ne, ne_eq]
  refine ⟨fun h => by simp [sp_direct, h], fun h => ⟨fun h2 => main _ ?_, fun h2 => main _ ?_⟩⟩
  · rw [sp_direct, if_neg h, dirL, if_pos (.inr h2)]
  · rw [sp_direct, if_neg h, dirL, if_neg (by omega)]
theorem evFault_cons (n x : Int) (r : List Int) (i : Int) : evFault n (x :: r) i = if x < 0 ∨ n ≤ x then ⟨3, -3 - i⟩ else evFault n r (i + 1) := rfl
theorem evFault_zero {n : Int} : ∀ {ts : List Int} {i : Int}, evFault n ts i = ⟨0, 0⟩ → ∀ t ∈ ts, 0 ≤ t ∧ t < n
  | [], _, _, t, ht => by cases ht
  | x :: r, i, h, t, ht => by
    rw [evFault_cons] at h
    by_cases c : x < 0 ∨ n ≤ x
    · rw [if_pos c] at h; exact absurd (congrArg Fault.code h) (by simp)
    · rw [if_neg c] at h
      rcases List.mem_cons.1 ht with rfl | ht
      · omega
      · exact evFault_zero h t ht
theorem bounds_at {n : Network} {i j : Int} (hi : 0 ≤ i ∧ i < n.events) (hj : 0 ≤ j ∧ j < n.events) : inb (sp_bounds n) i ∧ inb (gt (sp_bounds n) i) j ∧ gt (gt (sp_bounds n) i) j = dirL n.links i j := by
  obtain ⟨a, rfl⟩ : ∃ a : Nat, i = a := ⟨i.toNat, by omega⟩
  obtain ⟨b, rfl⟩ : ∃ b : Nat, j = b := ⟨j.toNat, by omega⟩
  have ha : a < n.events.toNat := by omega
  have hb : b < n.events.toNat := by omega
  have sq := mat_sq n.events.toNat (Wd n)
  exact ⟨sq.inb ha, sq.inb2 ha hb, by
    show gt (gt (mat n.events.toNat (Wd n)) (a : Int)) (b : Int) = _
    rw [sq.gt]; exact mat_at ha hb⟩
theorem cycSum_low {n : Network} (ok : Okay n) (c : List Int) : ∀ k : Nat, -3000 * (k : Int) ≤ cycSum n c k ∧ cycSum n c k ≤ 1000000000 * (k : Int)
  | 0 => by simp [cycSum]
  | k + 1 => by
    have := cycSum_low ok c k
    have h2 := dirL_bounds ok.low ok.high (gt c k) (cycNext c k)
    simp only [inf] at h2
    simp only [cycSum]
    omega
theorem cycSum_mono {n : Network} (ok : Okay n) (c : List Int) : ∀ (d k : Nat), cycSum n c k - 3000 * (d : Int) ≤ cycSum n c (k + d)
  | 0, k => by simp
  | d + 1, k => by
    have := cycSum_mono ok c d k
    have h2 := dirL_bounds ok.low ok.high (gt c ((k + d : Nat) : Int)) (cycNext c ((k + d : Nat) : Int))
    show _ ≤ cycSum n c (k + d + 1)
    simp only [cycSum]
    omega
end Go.Proofs.Ytkcamohhjaibaaa.Pl
