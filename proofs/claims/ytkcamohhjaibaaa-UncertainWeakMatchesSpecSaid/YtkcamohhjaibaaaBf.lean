/- Relaxation, source by source: what a row of bounds is after each round. Plain Lean, no program in sight. No condition. -/
import Derived.Test.YtkcamohhjaibaaaFw
namespace Go.Proofs.Ytkcamohhjaibaaa.Pl
section
variable {N : Nat} {W : Nat → Nat → Int} {i j k : Nat} {r : List Nat} {R : Nat → Int}
theorem Way.snoc_inv : ∀ {p : List Nat} {i b : Nat}, Way N W i j (p ++ [b]) → b = j ∧ j < N ∧ ∃ u, Way N W i u p ∧ W u j < inf ∧ wt W (i :: (p ++ [b])) = wt W (i :: p) + W u j
  | [], i, b, w => by
    obtain ⟨h1, h2, h3⟩ := w.uncons
    have := h3.unnil; subst this
    exact ⟨rfl, h3.start, i, .nil h1, h2, by simp [wt]⟩
  | c :: p, i, b, w => by
    obtain ⟨h1, h2, h3⟩ := Way.uncons (b := c) (r := p ++ [b]) w
    obtain ⟨g0, gN, u, g1, g2, g3⟩ := Way.snoc_inv h3
    refine ⟨g0, gN, u, .cons h1 h2 g1, g2, ?_⟩
    simp only [List.cons_append, wt] at g3 ⊢; omega
/-- every place that is reached is reached without passing a place twice -/
theorem Way.short (w : Way N W i j r) : ∃ r', Way N W i j r' ∧ (i :: r').Nodup := by
  induction r generalizing i with
  | nil => exact ⟨[], w, by simp⟩
  | cons b r ih =>
    obtain ⟨h1, h2, h3⟩ := w.uncons
    obtain ⟨q, g1, g2⟩ := ih h3
    by_cases hi : i ∈ b :: q
    · obtain ⟨s, t, e⟩ := List.append_of_mem hi
      have w2 : Way N W i j (s ++ i :: t) := by rw [← e]; exact .cons h1 h2 g1
      refine ⟨t, w2.split.2.1, ?_⟩
      rw [e] at g2; exact (List.nodup_append.1 g2).2.1
    · exact ⟨b :: q, .cons h1 h2 g1, List.nodup_cons.2 ⟨hi, g2⟩⟩
theorem Way.le (hW : ∀ a b, W a b < inf → W a b ≤ 3000) (w : Way N W i j r) : wt W (i :: r) ≤ 3000 * (r.length : Int) := by
  induction r generalizing i with
  | nil => simp [wt]
  | cons b r ih =>
    obtain ⟨h1, h2, h3⟩ := w.uncons
    have := ih h3
    have := hW _ _ h2
    simp only [wt, List.length_cons]; omega
/-- a row of bounds, in a round, at a pair -/
structure Row (N : Nat) (W : Nat → Nat → Int) (i ρ a b : Nat) (R : Nat → Int) : Prop where
  le : ∀ v, v < N → R v ≤ inf
  re : ∀ v, v < N → R v < inf → Real N W i v (R v)
  zero : R i ≤ 0
  cov : ∀ v r, Way N W i v r → r.length ≤ ρ → R v ≤ wt W (i :: r)
  par : ∀ u v r, (u < a ∨ (u = a ∧ v < b)) → Way N W i u r → r.length ≤ ρ → v < N → W u v < inf → R v ≤ wt W (i :: r) + W u v
  fin : ρ = N → ∀ u v, (u < a ∨ (u = a ∧ v < b)) → v < N → R u < inf → W u v < inf → R v ≤ R u + W u v
  low : ∀ v, v < N → -3000 * ((ρ * 100 + a * 10 + b : Nat) : Int) ≤ R v
variable {ρ a b : Nat}
theorem Row.init (hi : i < N) (h : ∀ v, v < N → R v = if v = i then 0 else inf) : Row N W i 0 0 0 R where
  le v hv := by rw [h v hv]; split <;> simp only [inf] <;> omega
  re v hv hlt := by
    rw [h v hv] at hlt ⊢
    split
    · rename_i e; subst e; exact ⟨[], .nil hv, rfl⟩
    · rename_i e; rw [if_neg e] at hlt; omega
  zero := by rw [h i hi, if_pos rfl]; omega
  cov v r w hl := by
    cases r with
    | nil => have := w.unnil; subst this; rw [h i hi, if_pos rfl]; simp [wt]
    | cons _ _ => simp at hl
  par u v r hc := by omega
  fin _ u v hc := by omega
  low v hv := by
    have : inf = 1000000000 := rfl
    rw [h v hv]; split <;> omega
theorem Row.skip (q : Row N W i ρ a b R) (hW : ∀ a b, W a b < inf → W a b ≤ 3000) (hr : ρ ≤ 10) (h : ¬ (R a < inf ∧ W a b < inf ∧ R a + W a b < R b)) : Row N W i ρ a (b + 1) R where
  le := q.le
  re := q.re
  zero := q.zero
  cov := q.cov
  par u v r hc w hl hv hw := by
    by_cases c : u < a ∨ (u = a ∧ v < b)
    · exact q.par u v r c w hl hv hw
    · obtain ⟨rfl, rfl⟩ : u = a ∧ v = b := by omega
      have h1 := q.cov u r w hl
      have h2 := w.le hW
      have h3 : R u < inf := by simp only [inf]; omega
      have : ¬ R u + W u v < R v := fun e => h ⟨h3, hw, e⟩
      omega
  fin e u v hc hv hu hw := by
    by_cases c : u < a ∨ (u = a ∧ v < b)
    · exact q.fin e u v c hv hu hw
    · obtain ⟨rfl, rfl⟩ : u = a ∧ v = b := by omega
      have : ¬ R u + W u v < R v := fun e => h ⟨hu, hw, e⟩
      omega
  low v hv := by have := q.low v hv; omega
theorem Row.relax {R' : Nat → Int} (q : Row N W i ρ a b R) (hW : ∀ a b, -3000 ≤ W a b) (hr : ρ ≠ N) (ha : a < N) (hb : b < N) (h1 : R a < inf) (h2 : W a b < inf) (h3 : R a + W a b < R b)
    (hR : ∀ v, v < N → R' v = if v = b then R a + W a b else R v) (hi : i < N) : Row N W i ρ a (b + 1) R' := by
  have down : ∀ v, v < N → R' v ≤ R v := fun v hv => by
    rw [hR v hv]; split
    · rename_i e; subst e; omega
    · omega
  exact {
    le := fun v hv => Int.le_trans (down v hv) (q.le v hv)
    re := fun v hv hlt => by
      rw [hR v hv] at hlt ⊢
      split
      · rename_i e; subst e
        exact (q.re a ha h1).add ⟨[v], .cons ha h2 (.nil hv), by simp [wt]⟩
      · rename_i e; rw [if_neg e] at hlt; exact q.re v hv hlt
    zero := Int.le_trans (down i hi) q.zero
    cov := fun v r w hl => Int.le_trans (down v w.stop) (q.cov v r w hl)
    par := fun u v r hc w hl hv hw => by
      by_cases c : u < a ∨ (u = a ∧ v < b)
      · exact Int.le_trans (down v hv) (q.par u v r c w hl hv hw)
      · obtain ⟨rfl, rfl⟩ : u = a ∧ v = b := by omega
        have := q.cov u r w hl
        rw [hR v hv, if_pos rfl]; omega
    fin := fun e => absurd e hr
    low := fun v hv => by
      have hv' := q.low v hv
      have ha' := q.low a ha
      have := hW a b
      rw [hR v hv]; split <;> omega }
theorem Row.next (q : Row N W i ρ a N R) (hN : N ≤ 10) : Row N W i ρ (a + 1) 0 R :=
  ⟨q.le, q.re, q.zero, q.cov, fun u v r hc w hl hv hw => q.par u v r (by omega) w hl hv hw, fun e u v hc hv hu hw => q.fin e u v (by omega) hv hu hw, fun v hv => by have := q.low v hv; omega⟩
theorem Row.round (q : Row N W i ρ N 0 R) (hN : N ≤ 10) : Row N W i (ρ + 1) 0 0 R where
  le := q.le
  re := q.re
  zero := q.zero
  cov v r w hl := by
    by_cases c : r.length ≤ ρ
    · exact q.cov v r w c
    · rcases List.eq_nil_or_concat r with rfl | ⟨p, b, rfl⟩
      · simp at c
      · rw [List.concat_eq_append] at w hl ⊢
        obtain ⟨rfl, hv, u, w', hw, e⟩ := w.snoc_inv
        rw [e]
        exact q.par u b p (.inl w'.stop) w' (by simp at hl; omega) hv hw
  par u v r hc := by omega
  fin _ u v hc := by omega
  low v hv := by have := q.low v hv; omega
/-- an improvement in the last round -/
theorem Row.neg (q : Row N W i N a b R) (ha : a < N) (hb : b < N) (h1 : R a < inf) (h2 : W a b < inf) (h3 : R a + W a b < R b) : Neg N W := by
  refine Classical.byContradiction fun hn => ?_
  obtain ⟨r, w, hw⟩ := q.re a ha h1
  obtain ⟨g1, g2⟩ := w.append (r' := [b]) (.cons ha h2 (.nil hb))
  obtain ⟨s, k1, k2, k3⟩ := g1.simple hn
  have hl := nodup_len N _ k2 k1.mem
  simp only [List.length_cons] at hl
  have := q.cov b s k1 (by omega)
  have e : wt W [a, b] = W a b := by simp [wt]
  omega
/-- a row without an improvement in the last round -/
structure RowGood (N : Nat) (W : Nat → Nat → Int) (i : Nat) (R : Nat → Int) : Prop where
  le : ∀ v, v < N → R v ≤ inf
  re : ∀ v, v < N → R v < inf → Real N W i v (R v)
  lo : ∀ v r, Way N W i v r → R v ≤ wt W (i :: r)
theorem Row.good (q : Row N W i N N 0 R) (hW : ∀ a b, W a b < inf → W a b ≤ 3000) (hN : N ≤ 10) : RowGood N W i R := by
  have fin : ∀ u r, Way N W i u r → R u < inf := fun u r w => by
    obtain ⟨s, k1, k2⟩ := w.short
    have hl := nodup_len N _ k2 k1.mem
    simp only [List.length_cons] at hl
    have := q.cov u s k1 (by omega)
    have := k1.le hW
    simp only [inf]; omega
  have main : ∀ (m : Nat) (v : Nat) (r : List Nat), r.length = m → Way N W i v r → R v ≤ wt W (i :: r) := by
    intro m
    induction m with
    | zero =>
      intro v r hl w
      have : r = [] := List.eq_nil_of_length_eq_zero hl
      subst this
      have := w.unnil; subst this
      simp only [wt]; exact q.zero
    | succ m ih =>
      intro v r hl w
      rcases List.eq_nil_or_concat r with rfl | ⟨p, b, rfl⟩
      · simp at hl
      · rw [List.concat_eq_append] at w hl ⊢
        obtain ⟨rfl, hv, u, w', hw, e⟩ := w.snoc_inv
        have h1 := ih u p (by simpa using hl) w'
        have h2 := q.fin rfl u b (.inl w'.stop) hv (fin u p w') hw
        omega
  exact ⟨q.le, q.re, fun v r w => main _ v r rfl w⟩
theorem tight_rows {D : Nat → Nat → Int} (h : ∀ i, i < N → RowGood N W i (D i)) : Tight N W D :=
  ⟨fun i j hi hj => (h i hi).le j hj, fun i j r w => (h i w.start).lo j r w, fun i j hi hj hlt => (h i hi).re j hj hlt⟩
end
end Go.Proofs.Ytkcamohhjaibaaa.Pl
