/- Relaxation with predecessors: where an event is lowered in the last round, its predecessors run into a cycle of negative weight. Plain Lean, no program in sight. No condition. -/
import Derived.Test.YtijicdmpidbacaaBf
namespace Go.Proofs.Ytijicdmpidbacaa.Pl
section
variable {N : Nat} {W : Nat → Nat → Int} {D : Nat → Int} {f : Nat → Option Nat}
/-- what is known in round r, at the pair (a, b): ρ tells in which round an event was lowered last, τ orders the lowerings -/
structure Pr (N : Nat) (W : Nat → Nat → Int) (r a b : Nat) (D : Nat → Int) (f : Nat → Option Nat) (last : Option Nat) (ρ τ : Nat → Nat) : Prop where
  rng : ∀ j i, f j = some i → i < N ∧ W i j < inf
  low : ∀ j i, f j = some i → D i + W i j ≤ D j
  str : ∀ j i, f j = some i → τ j ≤ τ i → D i + W i j < D j
  rho : ∀ j i, f j = some i → ρ j ≤ ρ i + 1
  mx : ∀ j, ρ j ≤ r
  has : ∀ j, j < N → 1 ≤ ρ j → f j ≠ none
  don : ∀ i j, i < N → j < N → (i < a ∨ (i = a ∧ j < b)) → W i j < inf → i ≠ j → D j ≤ D i + W i j ∨ r ≤ ρ i
  yet : ∀ i j, i < N → j < N → ¬ (i < a ∨ (i = a ∧ j < b)) → W i j < inf → i ≠ j → D j ≤ D i + W i j ∨ r ≤ ρ i + 1
  las : ∀ j, last = some j → j < N ∧ ρ j = r
  non : last = none → ∀ i j, i < N → j < N → (i < a ∨ (i = a ∧ j < b)) → W i j < inf → i ≠ j → D j ≤ D i + W i j
  bnd : ∀ j, j < N → -3000 * ((r * 100 + a * 10 + b : Nat) : Int) ≤ D j ∧ D j ≤ 0
variable {r a b : Nat} {last : Option Nat} {ρ τ : Nat → Nat}
theorem Pr.init (hD : ∀ j, j < N → D j = 0) (hf : ∀ j, f j = none) : Pr N W 1 0 0 D f none (fun _ => 0) (fun _ => 0) where
  rng j i h := by rw [hf] at h; cases h
  low j i h := by rw [hf] at h; cases h
  str j i h := by rw [hf] at h; cases h
  rho j i h := by rw [hf] at h; cases h
  mx j := Nat.zero_le _
  has j _ h := by omega
  don i j _ _ h := by omega
  yet i j _ _ _ _ _ := .inr (by omega)
  las j h := by cases h
  non _ i j _ _ h := by omega
  bnd j hj := by rw [hD j hj]; omega
theorem Pr.skip (p : Pr N W r a b D f last ρ τ) (h : ¬ (a ≠ b ∧ W a b < inf ∧ D a + W a b < D b)) : Pr N W r a (b + 1) D f last ρ τ where
  rng := p.rng
  low := p.low
  str := p.str
  rho := p.rho
  mx := p.mx
  has := p.has
  don i j hi hj hc hw hne := by
    by_cases c : i < a ∨ (i = a ∧ j < b)
    · exact p.don i j hi hj c hw hne
    · obtain ⟨rfl, rfl⟩ : i = a ∧ j = b := by omega
      exact .inl (Int.not_lt.1 fun q => h ⟨hne, hw, q⟩)
  yet i j hi hj hc hw hne := p.yet i j hi hj (by omega) hw hne
  las := p.las
  non hl i j hi hj hc hw hne := by
    by_cases c : i < a ∨ (i = a ∧ j < b)
    · exact p.non hl i j hi hj c hw hne
    · obtain ⟨rfl, rfl⟩ : i = a ∧ j = b := by omega
      exact Int.not_lt.1 fun q => h ⟨hne, hw, q⟩
  bnd j hj := by have := p.bnd j hj; omega
theorem fresh (τ : Nat → Nat) : ∀ N, ∃ t, ∀ j, j < N → τ j < t
  | 0 => ⟨0, fun j h => by omega⟩
  | N + 1 => by
    obtain ⟨t, ht⟩ := fresh τ N
    refine ⟨t + τ N + 1, fun j hj => ?_⟩
    by_cases c : j < N
    · have := ht j c; omega
    · have : j = N := by omega
      subst this; omega
theorem Pr.relax {D' : Nat → Int} {f' : Nat → Option Nat} (p : Pr N W r a b D f last ρ τ) (hW : ∀ a b, -3000 ≤ W a b) (ha : a < N) (hb : b < N) (hne : a ≠ b) (hw : W a b < inf) (hlt : D a + W a b < D b)
    (hD : ∀ j, j < N → D' j = if j = b then D a + W a b else D j) (hf : ∀ j, j < N → f' j = if j = b then some a else f j) (hfN : ∀ j, N ≤ j → f' j = none) :
    ∃ ρ' τ', Pr N W r a (b + 1) D' f' (some b) ρ' τ' := by
  obtain ⟨t, ht⟩ := fresh τ N
  have hra : r ≤ ρ a + 1 := by
    rcases p.yet a b ha hb (by omega) hw hne with q | q
    · omega
    · exact q
  have dn : ∀ j, j < N → D' j ≤ D j := fun j hj => by
    rw [hD j hj]; split
    · rename_i e; subst e; omega
    · omega
  have db : D' b = D a + W a b := by rw [hD b hb, if_pos rfl]
  have da : D' a = D a := by rw [hD a ha, if_neg hne]
  have ed : ∀ j i, f' j = some i → (j = b ∧ i = a) ∨ (j ≠ b ∧ j < N ∧ f j = some i) := fun j i h => by
    by_cases hj : j < N
    · rw [hf j hj] at h
      by_cases c : j = b
      · rw [if_pos c] at h; cases h; exact .inl ⟨c, rfl⟩
      · rw [if_neg c] at h; exact .inr ⟨c, hj, h⟩
    · rw [hfN j (by omega)] at h; cases h
  refine ⟨fun j => if j = b then r else ρ j, fun j => if j = b then t else τ j, fun j i h => ?_, fun j i h => ?_, fun j i h => ?_, fun j i h => ?_, fun j => ?_, fun j hj h => ?_, fun i j hi hj hc hw' hne' => ?_, fun i j hi hj hc hw' hne' => ?_, fun j h => ?_, fun h => (by cases h), fun j hj => ?_⟩
  · rcases ed j i h with ⟨rfl, rfl⟩ | ⟨_, _, h⟩
    · exact ⟨ha, hw⟩
    · exact p.rng j i h
  · rcases ed j i h with ⟨rfl, rfl⟩ | ⟨c, hj, h⟩
    · rw [db, da]; omega
    · have h1 := p.low j i h
      have h2 := dn i (p.rng j i h).1
      have h3 : D' j = D j := by rw [hD j hj, if_neg c]
      omega
  · rcases ed j i h with ⟨rfl, rfl⟩ | ⟨c, hj, h⟩
    · intro q
      simp only [if_true] at q
      rw [if_neg hne] at q
      have := ht i ha
      omega
    · intro q
      simp only [if_neg c] at q
      have h3 : D' j = D j := by rw [hD j hj, if_neg c]
      have h1 := p.low j i h
      by_cases ci : i = b
      · subst ci; rw [db, h3]; omega
      · rw [if_neg ci] at q
        have := p.str j i h q
        have h4 : D' i = D i := by rw [hD i (p.rng j i h).1, if_neg ci]
        rw [h3, h4]; exact this
  · rcases ed j i h with ⟨rfl, rfl⟩ | ⟨c, hj, h⟩
    · simp only [if_true]; rw [if_neg hne]; exact hra
    · simp only [if_neg c]
      have := p.rho j i h
      by_cases ci : i = b
      · subst ci
        rw [if_pos rfl]
        have := p.mx i
        omega
      · rw [if_neg ci]; exact this
  · show (if j = b then r else ρ j) ≤ r
    split
    · exact Nat.le_refl _
    · exact p.mx j
  · rw [hf j hj]
    split
    · simp
    · rename_i c
      simp only [if_neg c] at h
      exact p.has j hj h
  · by_cases ci : i = b
    · right; simp [ci]
    · simp only [if_neg ci]
      have h4 : D' i = D i := by rw [hD i hi, if_neg ci]
      by_cases c : i < a ∨ (i = a ∧ j < b)
      · rcases p.don i j hi hj c hw' hne' with q | q
        · left; have := dn j hj; omega
        · exact .inr q
      · obtain ⟨rfl, rfl⟩ : i = a ∧ j = b := by omega
        left; rw [db, h4]; omega
  · by_cases ci : i = b
    · right; simp [ci]
    · simp only [if_neg ci]
      have h4 : D' i = D i := by rw [hD i hi, if_neg ci]
      rcases p.yet i j hi hj (by omega) hw' hne' with q | q
      · left; have := dn j hj; omega
      · exact .inr q
  · cases h
    exact ⟨hb, by simp⟩
  · have := p.bnd j hj
    have := p.bnd a ha
    have := p.bnd b hb
    have := hW a b
    rw [hD j hj]; split <;> omega
theorem Pr.next (p : Pr N W r a N D f last ρ τ) (hN : N ≤ 10) : Pr N W r (a + 1) 0 D f last ρ τ :=
  ⟨p.rng, p.low, p.str, p.rho, p.mx, p.has, fun i j hi hj hc => p.don i j hi hj (by omega), fun i j hi hj hc => p.yet i j hi hj (by omega), p.las, fun hl i j hi hj hc => p.non hl i j hi hj (by omega), fun j hj => by have := p.bnd j hj; omega⟩
theorem Pr.round (p : Pr N W r N 0 D f last ρ τ) (hN : N ≤ 10) : Pr N W (r + 1) 0 0 D f none ρ τ :=
  ⟨p.rng, p.low, p.str, p.rho, fun j => Nat.le_succ_of_le (p.mx j), p.has, fun i j hi hj hc => by omega, fun i j hi hj _ hw hne => by
    rcases p.don i j hi hj (.inl hi) hw hne with q | q
    · exact .inl q
    · exact .inr (by omega), fun j h => (by cases h), fun _ i j hi hj hc => by omega, fun j hj => by have := p.bnd j hj; omega⟩
/-- no event was lowered in the last round: there are times -/
theorem Pr.feasible (p : Pr N W r N 0 D f none ρ τ) (hd : ∀ i, i < N → W i i = 0) : Feasible N W D := fun i j hi hj hw => by
  by_cases c : i = j
  · subst c; rw [hd i hi]; omega
  · have := p.non rfl i j hi hj (.inl hi) hw c
    omega
/-- the predecessors of an event, one after the other -/
def pre (f : Nat → Option Nat) (x : Nat) : Nat → Nat
  | 0 => x
  | k + 1 => (f (pre f x k)).getD 0
theorem pre_add (f : Nat → Option Nat) (x : Nat) (a : Nat) : ∀ b, pre f x (a + b) = pre f (pre f x a) b
  | 0 => rfl
  | b + 1 => by
    show (f (pre f x (a + b))).getD 0 = (f (pre f (pre f x a) b)).getD 0
    rw [pre_add f x a b]
theorem pigeon (N : Nat) (y : Nat → Nat) (h : ∀ k, k ≤ N → y k < N) : ∃ a b, a < b ∧ b ≤ N ∧ y a = y b := by
  refine Classical.byContradiction fun hn => ?_
  have hnd : ((List.range (N + 1)).map y).Nodup := by
    rw [List.nodup_iff_pairwise_ne, List.pairwise_map]
    refine List.Pairwise.imp_of_mem ?_ (List.pairwise_lt_range (n := N + 1))
    intro a b _ hb hab e
    exact hn ⟨a, b, hab, by have := List.mem_range.1 hb; omega, e⟩
  have := nodup_len N _ hnd fun v hv => by
    obtain ⟨k, hk, rfl⟩ := List.mem_map.1 hv
    exact h k (by have := List.mem_range.1 hk; omega)
  simp at this
  omega
theorem Pr.cycle {x : Nat} (p : Pr N W N N 0 D f (some x) ρ τ) : (∀ k, pre f x k < N ∧ f (pre f x k) ≠ none) ∧ ∃ m, 1 ≤ m ∧ m ≤ N ∧ pre f (pre f x N) m = pre f x N := by
  obtain ⟨hx, hr⟩ := p.las x rfl
  have step : ∀ k, pre f x k < N → f (pre f x k) ≠ none → pre f x (k + 1) < N ∧ ρ (pre f x k) ≤ ρ (pre f x (k + 1)) + 1 := fun k _ hf => by
    obtain ⟨i, hi⟩ := Option.ne_none_iff_exists'.1 hf
    have e : pre f x (k + 1) = i := by show (f (pre f x k)).getD 0 = i; rw [hi]; rfl
    rw [e]
    exact ⟨(p.rng _ _ hi).1, p.rho _ _ hi⟩
  have key : ∀ k, k ≤ N → pre f x k < N ∧ N ≤ ρ (pre f x k) + k := by
    intro k
    induction k with
    | zero => intro _; exact ⟨hx, by show N ≤ ρ x + 0; omega⟩
    | succ k ih =>
      intro hk
      obtain ⟨h1, h2⟩ := ih (by omega)
      obtain ⟨g1, g2⟩ := step k h1 (p.has _ h1 (by omega))
      exact ⟨g1, by omega⟩
  obtain ⟨a, b, hab, hb, e⟩ := pigeon N (pre f x) fun k hk => (key k hk).1
  have per : ∀ k, pre f x (a + (b - a) + k) = pre f x (a + k) := fun k => by
    rw [pre_add, pre_add f x a k, show a + (b - a) = b by omega, e]
  have all : ∀ k, pre f x k < N ∧ f (pre f x k) ≠ none := by
    intro k
    induction k using Nat.strongRecOn with
    | _ k ih =>
      by_cases c : k < b
      · have := key k (by omega)
        exact ⟨this.1, p.has _ this.1 (by omega)⟩
      · have q := per (k - b)
        rw [show a + (b - a) + (k - b) = k by omega] at q
        rw [q]
        exact ih _ (by omega)
  refine ⟨all, b - a, by omega, by omega, ?_⟩
  have q := per (N - a)
  rw [show a + (b - a) + (N - a) = N + (b - a) by omega, show a + (N - a) = N by omega, pre_add] at q
  exact q
/-- along a closed way of predecessors the weight is negative -/
theorem Pr.neg {last : Option Nat} (p : Pr N W r a b D f last ρ τ) {y : Nat → Nat} {m : Nat} (hm : 1 ≤ m) (hy : ∀ k, k < m → f (y k) = some (y (k + 1))) (hc : y m = y 0) : ∃ s : Nat → Int, s 0 = 0 ∧ (∀ k, k < m → s (k + 1) = s k + W (y (k + 1)) (y k)) ∧ s m < 0 := by
  obtain ⟨k, hk, hs⟩ : ∃ k, k < m ∧ τ (y k) ≤ τ (y (k + 1)) := by
    refine Classical.byContradiction fun hn => ?_
    have : ∀ k, k ≤ m → τ (y k) + k ≤ τ (y 0) := by
      intro k
      induction k with
      | zero => intro _; omega
      | succ k ih =>
        intro hk
        have := ih (by omega)
        have : ¬ τ (y k) ≤ τ (y (k + 1)) := fun q => hn ⟨k, by omega, q⟩
        omega
    have := this m (Nat.le_refl _)
    rw [hc] at this
    omega
  let s : Nat → Int := fun t => Nat.rec 0 (fun j z => z + W (y (j + 1)) (y j)) t
  have s1 : ∀ t, s (t + 1) = s t + W (y (t + 1)) (y t) := fun t => rfl
  refine ⟨s, rfl, fun t _ => s1 t, ?_⟩
  have key : ∀ t, t ≤ m → s t + (if k < t then 1 else 0) ≤ D (y 0) - D (y t) := by
    intro t
    induction t with
    | zero => intro _; rw [if_neg (by omega)]; show (0 : Int) + 0 ≤ _; omega
    | succ t ih =>
      intro ht
      have h1 := ih (by omega)
      have h2 := p.low _ _ (hy t (by omega))
      rw [s1]
      by_cases c : k = t
      · subst c
        have h3 := p.str _ _ (hy k hk) hs
        rw [if_neg (by omega)] at h1
        rw [if_pos (by omega)]
        omega
      · by_cases c2 : k < t
        · rw [if_pos c2] at h1; rw [if_pos (by omega)]; omega
        · rw [if_neg c2] at h1; rw [if_neg (by omega)]; omega
  have := key m (Nat.le_refl _)
  rw [if_pos hk, hc] at this
  omega
end
end Go.Proofs.Ytijicdmpidbacaa.Pl
