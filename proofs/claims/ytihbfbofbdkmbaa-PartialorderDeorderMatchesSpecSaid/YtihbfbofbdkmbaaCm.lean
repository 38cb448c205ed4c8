/- Counting orders by sets of steps: what is passed on is never lost. Plain Lean, no program in sight. No condition. -/
import Derived.Test.YtihbfbofbdkmbaaOk6
namespace Go.Proofs.Ytihbfbofbdkmbaa.Pl
open Go Go.RowKit
def sumN (g : Nat → Nat) : Nat → Nat
  | 0 => 0
  | k + 1 => sumN g k + g k
theorem sumN_congr {g f : Nat → Nat} : ∀ {k : Nat}, (∀ i, i < k → g i = f i) → sumN g k = sumN f k
  | 0, _ => rfl
  | k + 1, h => by rw [sumN, sumN, sumN_congr fun i hi => h i (by omega), h k (by omega)]
theorem sumN_mono {g : Nat → Nat} {i : Nat} : ∀ {k : Nat}, i ≤ k → sumN g i ≤ sumN g k
  | 0, h => by rw [show i = 0 by omega]; exact Nat.le_refl _
  | k + 1, h => by
    rcases Nat.lt_or_ge k i with q | q
    · rw [show i = k + 1 by omega]; exact Nat.le_refl _
    · have := sumN_mono (g := g) q
      rw [sumN]; omega
theorem sumN_one {g : Nat → Nat} {i : Nat} : ∀ {k : Nat}, i < k → g i ≤ sumN g k
  | 0, h => by omega
  | k + 1, h => by
    rw [sumN]
    rcases Nat.lt_or_ge i k with q | q
    · have := sumN_one (g := g) q; omega
    · rw [show i = k by omega]; omega
theorem sumN_zero {g : Nat → Nat} : ∀ {k : Nat}, (∀ i, i < k → g i = 0) → sumN g k = 0
  | 0, _ => rfl
  | k + 1, h => by rw [sumN, sumN_zero fun i hi => h i (by omega), h k (by omega)]
theorem sumN_upd {g f : Nat → Nat} {m : Nat} : ∀ {k : Nat}, m < k → (∀ i, i < k → i ≠ m → f i = g i) → sumN f k + g m = sumN g k + f m
  | 0, h, _ => by omega
  | k + 1, h, e => by
    rw [sumN, sumN]
    rcases Nat.lt_or_ge m k with q | q
    · have := sumN_upd q fun i hi hn => e i (by omega) hn
      have := e k (by omega) (by omega)
      omega
    · have e1 : m = k := by omega
      subst e1
      have := sumN_congr (g := f) (f := g) (k := m) fun i hi => e i (by omega) (by omega)
      omega
theorem flat_sum {β : Type} (f : Nat → List β) : ∀ n, ((List.range n).flatMap f).length = sumN (fun i => (f i).length) n
  | 0 => rfl
  | n + 1 => by rw [List.range_succ, List.flatMap_append, List.flatMap_singleton, List.length_append, flat_sum f n, sumN]
section
variable (before : List (Int × Int)) (n : Nat)
/-- step i may come after the set S -/
def Fr (S i : Nat) : Prop := S.testBit i = false ∧ ∀ p, p < n → Reach before p i → S.testBit p = true
open Classical in
/-- the ways to go on from the set S -/
noncomputable def cnt : Nat → Nat → Nat
  | 0, S => if S = 2 ^ n - 1 then 1 else 0
  | f + 1, S => if S = 2 ^ n - 1 then 1 else sumN (fun i => if Fr before n S i then cnt f (S ||| 2 ^ i) else 0) n
noncomputable def wy (S : Nat) : Nat := cnt before n (2 ^ n) S
end
section
variable {before : List (Int × Int)} {n : Nat}
theorem or_lt {S i : Nat} (hS : S < 2 ^ n) (hi : i < n) : S ||| 2 ^ i < 2 ^ n := Nat.or_lt_two_pow hS (Nat.pow_lt_pow_right (by omega) hi)
theorem or_gt {S i : Nat} (h : S.testBit i = false) : S < S ||| 2 ^ i := by
  refine Nat.lt_of_le_of_ne Nat.left_le_or fun e => ?_
  have : (S ||| 2 ^ i).testBit i = true := by rw [Nat.testBit_or, Nat.testBit_two_pow_self, Bool.or_true]
  rw [← e, h] at this
  exact absurd this (by decide)
theorem cnt_more : ∀ (f S : Nat), S < 2 ^ n → 2 ^ n ≤ S + f + 1 → cnt before n f S = cnt before n (f + 1) S
  | 0, S, h1, h2 => by
    have : S = 2 ^ n - 1 := by omega
    rw [cnt, cnt, if_pos this, if_pos this]
  | f + 1, S, h1, h2 => by
    rw [cnt]
    conv => rhs; rw [cnt]
    by_cases e : S = 2 ^ n - 1
    · rw [if_pos e, if_pos e]
    · rw [if_neg e, if_neg e]
      refine sumN_congr fun i hi => ?_
      by_cases q : Fr before n S i
      · rw [if_pos q, if_pos q]
        exact cnt_more f _ (or_lt h1 hi) (by have := or_gt q.1; omega)
      · rw [if_neg q, if_neg q]
open Classical in
theorem wy_eq {S : Nat} (hS : S < 2 ^ n) (hf : S ≠ 2 ^ n - 1) : wy before n S = sumN (fun i => if Fr before n S i then wy before n (S ||| 2 ^ i) else 0) n := by
  have hp : 0 < 2 ^ n := Nat.two_pow_pos n
  obtain ⟨k, hk⟩ : ∃ k, 2 ^ n = k + 1 := ⟨2 ^ n - 1, by omega⟩
  have e : wy before n S = cnt before n (k + 1) S := by rw [wy, hk]
  rw [e, cnt, if_neg hf]
  refine sumN_congr fun i hi => ?_
  by_cases q : Fr before n S i
  · rw [if_pos q, if_pos q, wy]
    rw [cnt_more k _ (or_lt hS hi) (by have := or_gt q.1; omega), hk]
  · rw [if_neg q, if_neg q]
/-- a list of steps and its set -/
structure Msk (n S : Nat) (done : List Int) : Prop where
  lt : S < 2 ^ n
  bit : ∀ j : Nat, j < n → (S.testBit j = true ↔ (j : Int) ∈ done)
theorem Msk.nil : Msk n 0 [] := ⟨Nat.two_pow_pos n, fun j _ => by simp⟩
theorem Msk.add {S : Nat} {done : List Int} (h : Msk n S done) {i : Nat} (hi : i < n) : Msk n (S ||| 2 ^ i) (done ++ [(i : Int)]) := ⟨or_lt h.lt hi, fun j hj => by
  rw [Nat.testBit_or, Bool.or_eq_true, h.bit j hj, List.mem_append, List.mem_singleton, Nat.testBit_two_pow, decide_eq_true_eq]
  constructor
  · rintro (q | q)
    · exact .inl q
    · exact .inr (by omega)
  · rintro (q | q)
    · exact .inl q
    · exact .inr (by omega)⟩
theorem Msk.fr {S : Nat} {done : List Int} (h : Msk n S done) (hI : Inv before n done) (hr : Rng n before) {i : Nat} (hi : i < n) : Fr before n S i ↔ sp_ready before done i = true := by
  rw [free_ready hI hr, Fr, ← h.bit i hi, Bool.not_eq_true]
  exact ⟨fun g => ⟨g.1, fun p hp q => (h.bit p hp).1 (g.2 p hp q)⟩, fun g => ⟨g.1, fun p hp q => (h.bit p hp).2 (g.2 p hp q)⟩⟩
theorem full_of {S : Nat} (hS : S < 2 ^ n) (h : ∀ j, j < n → S.testBit j = true) : S = 2 ^ n - 1 := by
  refine Nat.eq_of_testBit_eq fun j => ?_
  rw [Nat.testBit_two_pow_sub_one]
  rcases Nat.lt_or_ge j n with q | q
  · rw [h j q, decide_eq_true q]
  · rw [decide_eq_false (by omega)]
    exact Nat.testBit_lt_two_pow (Nat.lt_of_lt_of_le hS (Nat.pow_le_pow_right (by omega) q))
theorem full_bit {j : Nat} (h : j < n) : (2 ^ n - 1).testBit j = true := by rw [Nat.testBit_two_pow_sub_one, decide_eq_true h]
theorem cnt_full : ∀ f, cnt before n f (2 ^ n - 1) = 1
  | 0 => by rw [cnt, if_pos rfl]
  | _ + 1 => by rw [cnt, if_pos rfl]
theorem wy_full : wy before n (2 ^ n - 1) = 1 := cnt_full _
theorem orders_cnt (hr : Rng n before) : ∀ (k : Nat) (done : List Int) (S f : Nat), Inv before n done → done.length + k = n → Msk n S done → k ≤ f → (ordersF before n k done).length = cnt before n f S
  | 0, done, S, f, hI, hl, hm, _ => by
    have : S = 2 ^ n - 1 := full_of hm.lt fun j hj => (hm.bit j hj).2 (all_in hI.nd hI.rng (by omega) ⟨by omega, by omega⟩)
    rw [this, cnt_full]; rfl
  | k + 1, done, S, 0, _, _, _, hf => by omega
  | k + 1, done, S, f + 1, hI, hl, hm, hf => by
    have hne : S ≠ 2 ^ n - 1 := fun e => by
      obtain ⟨i, h1, h2⟩ := some_free (n := n) (l := done) (by omega)
      exact h2 ((hm.bit i h1).1 (by rw [e]; exact full_bit h1))
    rw [ordersF, flat_sum, cnt, if_neg hne]
    refine sumN_congr fun i hi => ?_
    by_cases q : Fr before n S i
    · have hrd := (hm.fr hI hr hi).1 q
      rw [if_pos q, if_pos hrd]
      exact orders_cnt hr k _ _ f (hI.add hrd ⟨by omega, by omega⟩) (by rw [List.length_append, List.length_singleton]; omega) (hm.add hi) (by omega)
    · rw [if_neg q, if_neg fun g => q ((hm.fr hI hr hi).2 g)]; rfl
theorem n_le_pow (n : Nat) : n ≤ 2 ^ n := Nat.le_of_lt Nat.lt_two_pow_self
theorem orders_wy (hr : Rng n before) {done : List Int} {S : Nat} (hI : Inv before n done) (hl : done.length ≤ n) (hm : Msk n S done) : (ordersF before n (n - done.length) done).length = wy before n S :=
  orders_cnt hr _ _ _ _ hI (by omega) hm (by have := n_le_pow n; omega)
theorem wy_pos (ac : Acyc before) (hr : Rng n before) {done : List Int} {S : Nat} (hI : Inv before n done) (hm : Msk n S done) : 1 ≤ wy before n S := by
  have hl := len_le hI.nd hI.rng
  rw [← orders_wy hr hI hl hm]
  obtain ⟨o, ho⟩ := orders_some ac hr (n - done.length) done (by omega)
  exact List.length_pos_of_mem ho
end
end Go.Proofs.Ytihbfbofbdkmbaa.Pl
