/- All tightest bounds at once, vertex by vertex. Plain Lean, no program in sight. No condition. -/
import Derived.Test.YtkcamohhjaibaaaPm
namespace Go.Proofs.Ytkcamohhjaibaaa.Pl
def Real (N : Nat) (W : Nat → Nat → Int) (i j : Nat) (x : Int) : Prop := ∃ r, Way N W i j r ∧ wt W (i :: r) = x
/-- ahead of vertex k -/
structure Ph (N : Nat) (W : Nat → Nat → Int) (k : Nat) (D : Nat → Nat → Int) : Prop where
  le : ∀ i j, i < N → j < N → D i j ≤ inf
  hi : ∀ i j, i < N → j < N → D i j < inf → D i j ≤ 3000 * 2 ^ k
  lo : ∀ i j, i < N → j < N → -1000000 ≤ D i j
  re : ∀ i j, i < N → j < N → D i j < inf → Real N W i j (D i j)
  w : ∀ i j, i < N → j < N → D i j ≤ W i j
  dg : ∀ i, i < N → D i i ≤ 0
  tri : (∀ i, i < N → 0 ≤ D i i) → ∀ m, m < k → m < N → ∀ i j, i < N → j < N → D i m < inf → D m j < inf → D i j ≤ D i m + D m j
/-- while vertex k is handled: the entries ahead of (i, j) are done -/
structure In (N : Nat) (W : Nat → Nat → Int) (k : Nat) (D : Nat → Nat → Int) (i j : Nat) (C : Nat → Nat → Int) : Prop where
  old : ∀ a b, a < N → b < N → (i < a ∨ (a = i ∧ j ≤ b)) → C a b = D a b
  s1 : ∀ a b, a < N → b < N → C a b ≤ D a b
  s2 : ∀ a b, a < N → b < N → (a < i ∨ (a = i ∧ b < j)) → D a k < inf → D k b < inf → C a b ≤ D a k + D k b
  s3 : ∀ a b, a < N → b < N → C a b < inf → Real N W a b (C a b)
  s4 : 0 ≤ D k k → ∀ a b, a < N → b < N → C a b = D a b ∨ (D a k < inf ∧ D k b < inf ∧ C a b = D a k + D k b)
  s5 : ∀ a b, a < N → b < N → C a b < inf → C a b ≤ 3000 * 2 ^ (k + 1)
  s6 : (∀ a, a < N → C a k < inf → D a k < inf) ∧ (∀ b, b < N → C k b < inf → D k b < inf)
  s7 : 0 ≤ D k k → (∀ a, a < N → C a k = D a k) ∧ (∀ b, b < N → C k b = D k b)
  b0 : -2000000 ≤ C k k
  b1 : (∀ a, a < N → -3000000 ≤ C a k) ∧ (∀ b, b < N → -3000000 ≤ C k b)
  b3 : ∀ a b, a < N → b < N → -6000000 ≤ C a b
section
variable {N k i j : Nat} {W D C : Nat → Nat → Int}
theorem pow_le (hk : k ≤ 10) : (3000 : Int) * 2 ^ k ≤ 3072000 := by
  have h : ∀ k : Fin 11, (3000 : Int) * 2 ^ (k : Nat) ≤ 3072000 := by decide
  exact h ⟨k, by omega⟩
theorem In.start (p : Ph N W k D) (hk : k < N) : In N W k D 0 0 D where
  old := fun _ _ _ _ _ => rfl
  s1 := fun _ _ _ _ => Int.le_refl _
  s2 := fun _ _ _ _ h => by omega
  s3 := p.re
  s4 := fun _ _ _ _ _ => .inl rfl
  s5 := fun a b ha hb h => by have := p.hi a b ha hb h; have : (0 : Int) ≤ 2 ^ k := Int.pow_nonneg (by decide); rw [Int.pow_succ]; omega
  s6 := ⟨fun _ _ h => h, fun _ _ h => h⟩
  s7 := fun _ => ⟨fun _ _ => rfl, fun _ _ => rfl⟩
  b0 := by have := p.lo k k hk hk; omega
  b1 := ⟨fun a ha => by have := p.lo a k ha hk; omega, fun b hb => by have := p.lo k b hk hb; omega⟩
  b3 := fun a b ha hb => by have := p.lo a b ha hb; omega
theorem In.row (q : In N W k D i N C) : In N W k D (i + 1) 0 C where
  old := fun a b ha hb h => q.old a b ha hb (by omega)
  s1 := q.s1
  s2 := fun a b ha hb h => q.s2 a b ha hb (by omega)
  s3 := q.s3
  s4 := q.s4
  s5 := q.s5
  s6 := q.s6
  s7 := q.s7
  b0 := q.b0
  b1 := q.b1
  b3 := q.b3
theorem Real.add {x y : Int} {m : Nat} (h1 : Real N W i m x) (h2 : Real N W m j y) : Real N W i j (x + y) := by
  obtain ⟨p, p1, p2⟩ := h1
  obtain ⟨q, q1, q2⟩ := h2
  obtain ⟨g1, g2⟩ := p1.append q1
  exact ⟨_, g1, by omega⟩
/-- one entry is left as it is -/
theorem In.skip (q : In N W k D i j C) (hi : i < N) (hj : j < N) (h : ¬ (C i k < inf ∧ C k j < inf)) (hk : k < N) : In N W k D i (j + 1) C where
  old := fun a b ha hb g => q.old a b ha hb (by omega)
  s1 := q.s1
  s2 := fun a b ha hb g h1 h2 => by
    by_cases e : a = i ∧ b = j
    · obtain ⟨rfl, rfl⟩ := e
      have := q.s1 a k ha hk
      have := q.s1 k b hk hb
      exact absurd ⟨by omega, by omega⟩ h
    · exact q.s2 a b ha hb (by omega) h1 h2
  s3 := q.s3
  s4 := q.s4
  s5 := q.s5
  s6 := q.s6
  s7 := q.s7
  b0 := q.b0
  b1 := q.b1
  b3 := q.b3
/-- one entry is made smaller, or stays -/
theorem In.step {C' : Nat → Nat → Int} (p : Ph N W k D) (q : In N W k D i j C) (hi : i < N) (hj : j < N) (hk : k < N) (h1 : C i k < inf) (h2 : C k j < inf)
    (hC : ∀ a b, C' a b = if a = i ∧ b = j then (if C i k + C k j < C i j then C i k + C k j else C i j) else C a b) : In N W k D i (j + 1) C' := by
  have x1 := q.s6.1 i hi h1
  have y1 := q.s6.2 j hj h2
  have x2 := q.s1 i k hi hk
  have y2 := q.s1 k j hk hj
  have o := q.old i j hi hj (.inr ⟨rfl, Nat.le_refl _⟩)
  have hx := p.hi i k hi hk x1
  have hy := p.hi k j hk hj y1
  have at_ : C' i j = if C i k + C k j < C i j then C i k + C k j else C i j := by rw [hC, if_pos ⟨rfl, rfl⟩]
  have ne_ : ∀ a b, ¬ (a = i ∧ b = j) → C' a b = C a b := fun a b h => by rw [hC, if_neg h]
  have hlo := p.lo i j hi hj
  have bx := q.b1.1 i hi
  have by' := q.b1.2 j hj
  have le1 : C' i j ≤ C i j := by rw [at_]; split <;> omega
  have le2 : C' i j ≤ C i k + C k j := by rw [at_]; split <;> omega
  have or1 : C' i j = C i k + C k j ∨ C' i j = C i j := by rw [at_]; split <;> simp
  have colk : j = k → -3000000 ≤ C' i j := fun e => by
    subst e
    have := q.b0
    have := p.lo i j hi hj
    rcases or1 with g | g <;> omega
  have rowk : i = k → -3000000 ≤ C' i j := fun e => by
    subst e
    have := q.b0
    have := p.lo i j hi hj
    rcases or1 with g | g <;> omega
  have kk : i = k → j = k → -2000000 ≤ C' i j := fun e e' => by
    have a1 := q.old i k hi hk (.inr ⟨rfl, by omega⟩)
    have a2 := q.old k j hk hj (.inr ⟨e.symm, Nat.le_refl _⟩)
    have := p.lo i k hi hk
    have := p.lo k j hk hj
    rcases or1 with g | g <;> omega
  refine ⟨fun a b ha hb g => ?_, fun a b ha hb => ?_, fun a b ha hb g g1 g2 => ?_, fun a b ha hb g => ?_, fun h0 a b ha hb => ?_, fun a b ha hb g => ?_, ⟨fun a ha g => ?_, fun b hb g => ?_⟩, fun h0 => ⟨fun a ha => ?_, fun b hb => ?_⟩, ?_, ⟨fun a ha => ?_, fun b hb => ?_⟩, fun a b ha hb => ?_⟩
  · rw [ne_ a b (by omega)]; exact q.old a b ha hb (by omega)
  · by_cases e : a = i ∧ b = j
    · obtain ⟨rfl, rfl⟩ := e; omega
    · rw [ne_ a b e]; exact q.s1 a b ha hb
  · by_cases e : a = i ∧ b = j
    · obtain ⟨rfl, rfl⟩ := e; omega
    · rw [ne_ a b e]; exact q.s2 a b ha hb (by omega) g1 g2
  · by_cases e : a = i ∧ b = j
    · obtain ⟨rfl, rfl⟩ := e
      rcases or1 with g' | g'
      · rw [g']; exact (q.s3 a k ha hk h1).add (q.s3 k b hk hb h2)
      · rw [g'] at g ⊢; exact q.s3 a b ha hb g
    · rw [ne_ a b e] at g ⊢; exact q.s3 a b ha hb g
  · by_cases e : a = i ∧ b = j
    · obtain ⟨rfl, rfl⟩ := e
      obtain ⟨z1, z2⟩ := q.s7 h0
      rcases or1 with g' | g'
      · right; rw [g', z1 a ha, z2 b hb]; exact ⟨x1, y1, rfl⟩
      · left; rw [g']; exact o
    · rw [ne_ a b e]; exact q.s4 h0 a b ha hb
  · by_cases e : a = i ∧ b = j
    · obtain ⟨rfl, rfl⟩ := e
      rcases or1 with g' | g'
      · rw [Int.pow_succ]; omega
      · rw [g'] at g ⊢; exact q.s5 a b ha hb g
    · rw [ne_ a b e] at g ⊢; exact q.s5 a b ha hb g
  · by_cases e : a = i ∧ k = j
    · obtain ⟨rfl, rfl⟩ := e; exact x1
    · rw [ne_ a k e] at g; exact q.s6.1 a ha g
  · by_cases e : k = i ∧ b = j
    · obtain ⟨rfl, rfl⟩ := e; exact y1
    · rw [ne_ k b e] at g; exact q.s6.2 b hb g
  · obtain ⟨z1, z2⟩ := q.s7 h0
    by_cases e : a = i ∧ k = j
    · obtain ⟨rfl, rfl⟩ := e
      have := z2 k hk
      rw [at_]; split <;> omega
    · rw [ne_ a k e]; exact z1 a ha
  · obtain ⟨z1, z2⟩ := q.s7 h0
    by_cases e : k = i ∧ b = j
    · obtain ⟨rfl, rfl⟩ := e
      have := z1 k hk
      rw [at_]; split <;> omega
    · rw [ne_ k b e]; exact z2 b hb
  · by_cases e : k = i ∧ k = j
    · have := kk e.1.symm e.2.symm; rw [← e.1, ← e.2] at this; exact this
    · rw [ne_ k k e]; exact q.b0
  · by_cases e : a = i ∧ k = j
    · have := colk e.2.symm; rw [← e.1, ← e.2] at this; exact this
    · rw [ne_ a k e]; exact q.b1.1 a ha
  · by_cases e : k = i ∧ b = j
    · have := rowk e.1.symm; rw [← e.1, ← e.2] at this; exact this
    · rw [ne_ k b e]; exact q.b1.2 b hb
  · by_cases e : a = i ∧ b = j
    · obtain ⟨rfl, rfl⟩ := e
      rcases or1 with g' | g' <;> omega
    · rw [ne_ a b e]; exact q.b3 a b ha hb
/-- vertex k is done -/
theorem In.done (p : Ph N W k D) (q : In N W k D N 0 C) (hk : k < N) (hN : N ≤ 10) (hl : ∀ i j, i < N → j < N → -1000000 ≤ C i j) : Ph N W (k + 1) C := by
  have s2 : ∀ a b, a < N → b < N → D a k < inf → D k b < inf → C a b ≤ D a k + D k b := fun a b ha hb => q.s2 a b ha hb (by omega)
  have hp := pow_le (k := k) (by omega)
  refine ⟨fun i j hi hj => Int.le_trans (q.s1 i j hi hj) (p.le i j hi hj), q.s5, hl, q.s3, fun i j hi hj => Int.le_trans (q.s1 i j hi hj) (p.w i j hi hj), fun i hi => Int.le_trans (q.s1 i i hi hi) (p.dg i hi), fun hd m hm hmN i j hi hj h1 h2 => ?_⟩
  have hd' : ∀ i, i < N → 0 ≤ D i i := fun i hi => Int.le_trans (hd i hi) (q.s1 i i hi hi)
  have tri := p.tri hd'
  have hkk := hd' k hk
  have fin : ∀ a b, a < N → b < N → D a b < inf → D a b ≤ 3072000 := fun a b ha hb h => by have := p.hi a b ha hb h; omega
  rcases Nat.lt_or_ge m k with hmk | hmk
  · rcases q.s4 hkk i m hi hmN with e1 | ⟨a1, a2, e1⟩ <;> rcases q.s4 hkk m j hmN hj with e2 | ⟨c1, c2, e2⟩
    · have := tri m hmk hmN i j hi hj (by omega) (by omega)
      have := q.s1 i j hi hj
      omega
    · have g := tri m hmk hmN i k hi hk (by omega) c1
      have f1 := fin i m hi hmN (by omega)
      have f2 := fin m k hmN hk c1
      have := s2 i j hi hj (by simp only [inf]; omega) c2
      omega
    · have g := tri m hmk hmN k j hk hj a2 (by omega)
      have f1 := fin k m hk hmN a2
      have f2 := fin m j hmN hj (by omega)
      have := s2 i j hi hj a1 (by simp only [inf]; omega)
      omega
    · have g := tri m hmk hmN k k hk hk a2 c1
      have := s2 i j hi hj a1 c2
      omega
  · have e : m = k := by omega
    subst e
    have x1 := q.s6.1 i hi h1
    have y1 := q.s6.2 j hj h2
    obtain ⟨z1, z2⟩ := q.s7 hkk
    rw [z1 i hi, z2 j hj]
    exact s2 i j hi hj x1 y1
theorem Ph.tight (p : Ph N W N D) (hN : N ≤ 10) (hd : ∀ i, i < N → 0 ≤ D i i) : Tight N W D := by
  have tri := p.tri hd
  have hp := pow_le (k := N) hN
  refine ⟨p.le, fun i j r w => ?_, p.re⟩
  suffices h : D i j < inf ∧ D i j ≤ wt W (i :: r) from h.2
  induction r generalizing i with
  | nil =>
    have := w.unnil; subst this
    have := p.dg i w.start
    exact ⟨by simp only [inf]; omega, by simpa [wt] using this⟩
  | cons b r ih =>
    obtain ⟨h1, h2, h3⟩ := w.uncons
    obtain ⟨g1, g2⟩ := ih b h3
    have hb := h3.start
    have hj := h3.stop
    have w1 := p.w i b h1 hb
    have f1 := p.hi i b h1 hb (by omega)
    have f2 := p.hi b j hb hj g1
    have t := tri b hb hb i j h1 hj (by omega) g1
    refine ⟨by simp only [inf]; omega, ?_⟩
    simp only [wt]; omega
/-- an entry below all simple walks, or a negative one on the diagonal -/
theorem neg_of_low (hW : ∀ a b, -3000 ≤ W a b) (hN : N ≤ 10) {x : Int} (h : Real N W i j x) (hx : x < -1000000) : Neg N W := by
  obtain ⟨r, w, e⟩ := h
  refine Classical.byContradiction fun hn => ?_
  have := w.ge hn hW
  omega
theorem neg_of_diag {x : Int} (h : Real N W i i x) (hx : x < 0) : Neg N W := by
  obtain ⟨r, w, e⟩ := h
  exact ⟨i, r, w, by omega⟩
/-- without a closed walk of negative weight there are tightest bounds -/
theorem exists_tight (p0 : Ph N W 0 W) (hW : ∀ a b, -3000 ≤ W a b) (hN : N ≤ 10) (hn : ¬ Neg N W) : ∃ D, Tight N W D := by
  have key : ∀ k, k ≤ N → ∃ D, Ph N W k D := by
    intro k
    induction k with
    | zero => intro _; exact ⟨W, p0⟩
    | succ k ih =>
      intro hk1
      obtain ⟨D, p⟩ := ih (by omega)
      have hk : k < N := by omega
      have hp := pow_le (k := k) (by omega)
      refine ⟨fun a b => if D a k < inf ∧ D k b < inf ∧ D a k + D k b < D a b then D a k + D k b else D a b, In.done p ⟨fun a b ha _ h => by omega, fun a b ha hb => ?_, fun a b ha hb _ h1 h2 => ?_, fun a b ha hb h => ?_, fun _ a b ha hb => ?_, fun a b ha hb h => ?_, ⟨fun a ha h => ?_, fun b hb h => ?_⟩, fun h0 => ⟨fun a ha => ?_, fun b hb => ?_⟩, ?_, ⟨fun a ha => ?_, fun b hb => ?_⟩, fun a b ha hb => ?_⟩ hk hN fun a b ha hb => ?_⟩
      · split <;> omega
      · split <;> omega
      · split
        · rename_i c; exact (p.re a k ha hk c.1).add (p.re k b hk hb c.2.1)
        · rename_i c; rw [if_neg c] at h; exact p.re a b ha hb h
      · split
        · rename_i c; exact .inr ⟨c.1, c.2.1, rfl⟩
        · exact .inl rfl
      · rw [Int.pow_succ]
        split
        · rename_i c
          have := p.hi a k ha hk c.1
          have := p.hi k b hk hb c.2.1
          omega
        · rename_i c; rw [if_neg c] at h
          have := p.hi a b ha hb h
          have : (0 : Int) ≤ 2 ^ k := Int.pow_nonneg (by decide)
          omega
      · split at h
        · rename_i c; exact c.1
        · exact h
      · split at h
        · rename_i c; exact c.2.1
        · exact h
      · split <;> omega
      · split <;> omega
      · have := p.lo k k hk hk
        split <;> omega
      · have := p.lo k k hk hk
        have := p.lo a k ha hk
        split <;> omega
      · have := p.lo k k hk hk
        have := p.lo k b hk hb
        split <;> omega
      · have := p.lo a k ha hk
        have := p.lo k b hk hb
        have := p.lo a b ha hb
        split <;> omega
      · refine Int.not_lt.1 fun hl => hn ?_
        split at hl
        · rename_i c; exact neg_of_low hW hN ((p.re a k ha hk c.1).add (p.re k b hk hb c.2.1)) hl
        · have := p.lo a b ha hb; omega
  obtain ⟨D, p⟩ := key N (Nat.le_refl _)
  refine ⟨D, p.tight hN fun i hi => Int.not_lt.1 fun hl => hn (neg_of_diag (p.re i i hi hi (by simp only [inf]; omega)) hl)⟩
end
end Go.Proofs.Ytkcamohhjaibaaa.Pl
