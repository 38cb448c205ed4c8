/- The first order, and how many there are. Plain Lean. No condition. -/
import Derived.Test.YtihbfbofbdkmbaaOk5
namespace Go.Proofs.Ytihbfbofbdkmbaa.Pl
open Go Go.RowKit
theorem matB_row {n : Nat} {f : Nat → Nat → Bool} {a : Nat} (ha : a < n) : gt (matB n f) (a : Int) = (List.range n).map fun b => f a b := by
  rw [gt_of ⟨by omega, by simp [matB]; omega⟩]
  simp [matB]
theorem matB_gt {n : Nat} {f : Nat → Nat → Bool} {a b : Nat} (ha : a < n) (hb : b < n) : gt (gt (matB n f) (a : Int)) (b : Int) = f a b := by
  rw [matB_row ha, gt_of ⟨by omega, by simp; omega⟩]
  simp
theorem matB_i1 {n : Nat} {f : Nat → Nat → Bool} {a : Nat} (ha : a < n) : inb (matB n f) (a : Int) := ⟨by omega, by simp [matB]; omega⟩
theorem matB_i2 {n : Nat} {f : Nat → Nat → Bool} {a b : Nat} (ha : a < n) (hb : b < n) : inb (gt (matB n f) (a : Int)) (b : Int) := ⟨by omega, by rw [matB_row ha]; simp; omega⟩
theorem free_ready {before : List (Int × Int)} {n : Nat} {done : List Int} (h : Inv before n done) (hr : Rng n before) {i : Nat} : sp_ready before done i = true ↔ (i : Int) ∉ done ∧ ∀ p : Nat, p < n → Reach before p i → (p : Int) ∈ done := by
  rw [ready_iff]
  refine ⟨fun g => ⟨g.2, fun p _ hp => ?_⟩, fun g => ⟨fun p hp e => ?_, g.1⟩⟩
  · cases hp with
    | one q => exact g.1 _ q rfl
    | more q1 q2 => exact (h.cl _ (g.1 _ q2 rfl) _ q1).1
  · obtain ⟨a, b⟩ := p
    have hab := hr _ hp
    have e1 : a = ((a.toNat : Nat) : Int) := by have := hab.1.1; omega
    have e2 : b = (i : Int) := e
    subst e2
    show a ∈ done
    rw [e1]
    exact g.2 _ (by have := hab.1.2; have := hab.1.1; omega) (by rw [← e1]; exact .one hp)
theorem flat_first {β : Type} (f : Nat → List β) : ∀ (n i : Nat), i < n → (∀ j, j < i → f j = []) → f i ≠ [] → ((List.range n).flatMap f).head? = (f i).head?
  | 0, i, h, _, _ => by omega
  | n + 1, i, h, h1, h2 => by
    rw [List.range_succ, List.flatMap_append, List.flatMap_singleton, List.head?_append]
    rcases Nat.lt_or_ge i n with q | q
    · rw [flat_first f n i q h1 h2]
      cases e : f i with
      | nil => exact absurd e h2
      | cons a r => rfl
    · have e : i = n := by omega
      subst e
      have : (List.range i).flatMap f = [] := List.flatMap_eq_nil_iff.2 fun j hj => h1 j (List.mem_range.1 hj)
      rw [this]; rfl
theorem ok_first : ∀ (n_ : Int) (before : List (Int × Int)), F_first n_ before (fun r => r = sp_first n_ before) := fun m before => by
  unfold F_first
  simp only [forall_eq, fault_ne, fault_eq]
  refine ⟨fun h => ?_, fun h => ?_⟩
  · rw [sp_first, if_neg h]
  obtain ⟨ok, hne⟩ := ordOK_of h
  have ac := (acyc_iff ok).1 hne
  have hs : sp_first m before = ((sp_orders m before []).headD [], ⟨0, 0⟩) := by rw [sp_first, if_pos h]
  refine ⟨ok, ?_⟩
  rw [hs, sp_closure, if_neg hne, sp_orders_nil]
  obtain ⟨n, rfl⟩ := Int.eq_ofNat_of_zero_le ok.lo
  have hr : Rng n before := ok.rngN
  have h7 := ok.hi
  rw [Int.toNat_natCast]
  refine ⟨fun out => Inv before n out ∧ (ordersF before n n []).head? = (ordersF before n (n - out.length) out).head?, fun out => n - out.length, ⟨.nil, rfl⟩, ?_⟩
  rintro out ⟨h1, h2⟩
  have hlen := len_le h1.nd h1.rng
  unfold F_first_L1
  simp only [decide_eq_true_eq, decide_eq_false_iff_not]
  refine ⟨fun hl => ?_, fun hl => ?_⟩
  · refine ⟨fun t => ∃ i : Nat, t = i ∧ i ≤ n ∧ ∀ j : Nat, j < i → sp_ready before out j = false, fun t => (n - t).toNat, ⟨0, rfl, Nat.zero_le _, fun j hj => by omega⟩, ?_⟩
    rintro _ ⟨i, rfl, i1, i2⟩
    unfold F_first_L2
    simp only [decide_eq_true_eq, decide_eq_false_iff_not, forall_eq, sp_contains]
    refine ⟨fun hi => ⟨show out.length ≤ 1000 by omega, ?_⟩, fun hi => ?_⟩
    · refine ⟨fun fr t => ∃ j : Nat, t = j ∧ j ≤ n ∧ (fr = true ↔ (i : Int) ∉ out ∧ ∀ p : Nat, p < j → Reach before p i → (p : Int) ∈ out), fun _ t => (n - t).toNat, ⟨0, rfl, Nat.zero_le _, by simp⟩, ?_⟩
      rintro fr _ ⟨j, rfl, j1, j2⟩
      unfold F_first_L3 F_first_J1
      simp only [decide_eq_true_eq, decide_eq_false_iff_not, forall_eq, sp_contains, Bool.not_eq_true', Bool.not_eq_false']
      refine ⟨fun hj => ?_, fun hj => ?_⟩
      · have hj' : j < n := by omega
        have hi' : i < n := by omega
        rw [matB_gt hj' hi', w64 (by omega)]
        have next : ∀ fr' : Prop, (fr' ↔ fr = true ∧ (Reach before j i → (j : Int) ∈ out)) → (∃ j' : Nat, (j : Int) + 1 = j' ∧ j' ≤ n ∧ (fr' ↔ (i : Int) ∉ out ∧ ∀ p : Nat, p < j' → Reach before p i → (p : Int) ∈ out)) ∧ ((n : Int) - (j + 1)).toNat < ((n : Int) - j).toNat := fun fr' hf => by
          refine ⟨⟨j + 1, by omega, by omega, ?_⟩, by omega⟩
          rw [hf, j2]
          refine ⟨fun g => ⟨g.1.1, fun p hp => ?_⟩, fun g => ⟨⟨g.1, fun p hp => g.2 p (by omega)⟩, g.2 j (by omega)⟩⟩
          rcases Nat.lt_or_ge p j with q | q
          · exact g.1.2 p q
          · rw [show p = j by omega]; exact g.2
        refine ⟨fun q => ⟨matB_i1 hj', matB_i2 hj' hi', fun q2 => next _ ?_, fun q2 => ⟨show out.length ≤ 1000 by omega, next _ ?_⟩⟩, fun q => next _ ?_⟩
        · have : ¬ Reach before j i := fun g => by
            rw [reachB_iff.2 g] at q2
            exact absurd q2 (by decide)
          simp [q, this]
        · have := reachB_iff.1 q2
          simp [q, this]
        · simp [q]
      · have e : j = n := by omega
        subst e
        rw [← free_ready h1 hr] at j2
        refine ⟨fun q => ?_, fun q => ?_⟩
        · have hrd := j2.1 q
          refine ⟨⟨by simp only [List.length_append, List.length_singleton, maxLen]; omega, by simp only [List.length_append, List.length_singleton]; omega⟩, ⟨h1.add hrd ⟨by omega, by omega⟩, ?_⟩, by simp only [List.length_append, List.length_singleton]; omega⟩
          obtain ⟨k, hk⟩ : ∃ k, j - out.length = k + 1 := ⟨j - out.length - 1, by omega⟩
          rw [h2, hk, ordersF, flat_first _ j i (by omega) (fun p hp => by rw [if_neg (by rw [i2 p hp]; decide)]), if_pos hrd, List.length_append, List.length_singleton, show j - (out.length + 1) = k by omega]
          rw [if_pos hrd]
          obtain ⟨o, ho⟩ := orders_some ac hr k (out ++ [(i : Int)]) (by rw [List.length_append, List.length_singleton]; omega)
          exact List.ne_nil_of_mem ho
        · rw [w64 (by omega)]
          refine ⟨⟨i + 1, by omega, by omega, fun p hp => ?_⟩, by omega⟩
          rcases Nat.lt_or_ge p i with g | g
          · exact i2 p g
          · rw [show p = i by omega]
            cases e : sp_ready before out i
            · rfl
            · rw [j2.2 e] at q; exact absurd q (by decide)
    · obtain ⟨p, hp, hq⟩ := some_ready ac hr (done := out) (by omega)
      rw [i2 p (by omega)] at hq
      exact absurd hq (by decide)
  · rw [show n - out.length = 0 by omega] at h2
    rw [List.headD_eq_head?_getD, h2]
    rfl
end Go.Proofs.Ytihbfbofbdkmbaa.Pl
