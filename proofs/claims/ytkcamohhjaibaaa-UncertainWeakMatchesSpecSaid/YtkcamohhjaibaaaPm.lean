/- Walks in a weighted graph, tightest bounds, and when there are any. Plain Lean, no program in sight. No condition. -/
import Derived.Test.YtkcamohhjaibaaaPl7
namespace Go.Proofs.Ytkcamohhjaibaaa.Pl
abbrev inf : Int := 1000000000
/-- the weight of a walk, vertex by vertex -/
def wt (W : Nat → Nat → Int) : List Nat → Int
  | a :: b :: r => W a b + wt W (b :: r)
  | _ => 0
def IsWalk (N : Nat) (W : Nat → Nat → Int) : List Nat → Prop
  | a :: b :: r => a < N ∧ W a b < inf ∧ IsWalk N W (b :: r)
  | [a] => a < N
  | [] => False
def last : List Nat → Nat
  | [] => 0
  | [a] => a
  | _ :: b :: r => last (b :: r)
/-- a walk from i to j: what follows i -/
structure Way (N : Nat) (W : Nat → Nat → Int) (i j : Nat) (r : List Nat) : Prop where
  walk : IsWalk N W (i :: r)
  last : last (i :: r) = j
section
variable {N : Nat} {W : Nat → Nat → Int} {i j k : Nat} {r r' : List Nat}
theorem Way.nil (h : i < N) : Way N W i i [] := ⟨h, rfl⟩
theorem Way.cons (h : i < N) (hw : W i k < inf) (w : Way N W k j r) : Way N W i j (k :: r) := ⟨⟨h, hw, w.walk⟩, w.last⟩
theorem Way.start (w : Way N W i j r) : i < N := by
  cases r with
  | nil => exact w.walk
  | cons b r => exact w.walk.1
theorem Way.uncons {b : Nat} (w : Way N W i j (b :: r)) : i < N ∧ W i b < inf ∧ Way N W b j r := ⟨w.walk.1, w.walk.2.1, w.walk.2.2, w.last⟩
theorem Way.unnil (w : Way N W i j []) : i = j := w.last
theorem Way.stop (w : Way N W i j r) : j < N := by
  induction r generalizing i with
  | nil => have := w.unnil; subst this; exact w.start
  | cons b r ih => exact ih w.uncons.2.2
theorem Way.append (w : Way N W i k r) (w' : Way N W k j r') : Way N W i j (r ++ r') ∧ wt W (i :: (r ++ r')) = wt W (i :: r) + wt W (k :: r') := by
  induction r generalizing i with
  | nil =>
    have := w.unnil; subst this
    exact ⟨w', by simp [wt]⟩
  | cons b r ih =>
    obtain ⟨h1, h2, h3⟩ := w.uncons
    obtain ⟨g1, g2⟩ := ih h3
    refine ⟨.cons h1 h2 g1, ?_⟩
    simp only [List.cons_append, wt, g2]; omega
theorem Way.split {b : Nat} {p q : List Nat} (w : Way N W i j (p ++ b :: q)) : Way N W i b (p ++ [b]) ∧ Way N W b j q ∧ wt W (i :: (p ++ b :: q)) = wt W (i :: (p ++ [b])) + wt W (b :: q) := by
  induction p generalizing i with
  | nil =>
    obtain ⟨h1, h2, h3⟩ := w.uncons
    refine ⟨.cons h1 h2 (.nil h3.start), h3, ?_⟩
    simp [wt]
  | cons c p ih =>
    obtain ⟨h1, h2, h3⟩ := w.uncons
    obtain ⟨g1, g2, g3⟩ := ih h3
    refine ⟨.cons h1 h2 g1, g2, ?_⟩
    simp only [List.cons_append, wt] at g3 ⊢; omega
/-- there is a closed walk of negative weight -/
def Neg (N : Nat) (W : Nat → Nat → Int) : Prop := ∃ i r, Way N W i i r ∧ wt W (i :: r) < 0
/-- without one, every walk may be made simple -/
theorem Way.simple (hn : ¬ Neg N W) (w : Way N W i j r) : ∃ r', Way N W i j r' ∧ (i :: r').Nodup ∧ wt W (i :: r') ≤ wt W (i :: r) := by
  induction r generalizing i with
  | nil => exact ⟨[], w, by simp, Int.le_refl _⟩
  | cons b r ih =>
    obtain ⟨h1, h2, h3⟩ := w.uncons
    obtain ⟨q, g1, g2, g3⟩ := ih h3
    by_cases hi : i ∈ b :: q
    · obtain ⟨s, t, e⟩ := List.append_of_mem hi
      have w2 : Way N W i j (s ++ i :: t) := by rw [← e]; exact .cons h1 h2 g1
      obtain ⟨c1, c2, c3⟩ := w2.split
      refine ⟨t, c2, ?_, ?_⟩
      · rw [e] at g2; exact (List.nodup_append.1 g2).2.1
      · have hc : 0 ≤ wt W (i :: (s ++ [i])) := Int.not_lt.1 fun hlt => hn ⟨i, _, c1, hlt⟩
        rw [← e] at c3
        simp only [wt] at c3 ⊢; omega
    · exact ⟨b :: q, .cons h1 h2 g1, List.nodup_cons.2 ⟨hi, g2⟩, by simp only [wt]; omega⟩
theorem Way.mem (w : Way N W i j r) : ∀ v ∈ i :: r, v < N := by
  induction r generalizing i with
  | nil => intro v hv; simp at hv; subst hv; exact w.start
  | cons b r ih =>
    intro v hv
    rcases List.mem_cons.1 hv with rfl | hv
    · exact w.start
    · exact ih w.uncons.2.2 v hv
theorem nodup_len : ∀ (N : Nat) (l : List Nat), l.Nodup → (∀ v ∈ l, v < N) → l.length ≤ N
  | 0, l, _, h => by
    cases l with
    | nil => simp
    | cons a r => exact absurd (h a List.mem_cons_self) (by omega)
  | N + 1, l, hn, h => by
    have h1 := nodup_len N (l.filter (· != N)) (hn.filter _) (fun v hv => by
      obtain ⟨a, b⟩ := List.mem_filter.1 hv
      have := h v a
      have : v ≠ N := by simpa using b
      omega)
    have h2 : l.length ≤ (l.filter (· != N)).length + 1 := by
      clear h h1
      induction l with
      | nil => simp
      | cons a r ih =>
        obtain ⟨ha, hr⟩ := List.nodup_cons.1 hn
        by_cases e : a = N
        · subst e
          have : r.filter (· != a) = r := List.filter_eq_self.2 fun v hv => by
            have : v ≠ a := fun e => ha (e ▸ hv)
            simpa using this
          simp [this]
        · have := ih hr
          simp [e]; omega
    omega
theorem wt_ge (hW : ∀ a b, -3000 ≤ W a b) : ∀ (a : Nat) (r : List Nat), -3000 * (r.length : Int) ≤ wt W (a :: r)
  | _, [] => by simp [wt]
  | a, b :: r => by
    have h1 := wt_ge hW b r
    have h2 := hW a b
    simp only [wt, List.length_cons]; omega
theorem Way.ge (hn : ¬ Neg N W) (hW : ∀ a b, -3000 ≤ W a b) (w : Way N W i j r) : -3000 * (N : Int) ≤ wt W (i :: r) := by
  obtain ⟨r', h1, h2, h3⟩ := w.simple hn
  have h4 := nodup_len N _ h2 h1.mem
  have h5 := wt_ge hW i r'
  simp only [List.length_cons] at h4
  omega
/-- the tightest bounds -/
structure Tight (N : Nat) (W D : Nat → Nat → Int) : Prop where
  le : ∀ i j, i < N → j < N → D i j ≤ inf
  lo : ∀ i j r, Way N W i j r → D i j ≤ wt W (i :: r)
  re : ∀ i j, i < N → j < N → D i j < inf → ∃ r, Way N W i j r ∧ wt W (i :: r) = D i j
theorem Tight.notNeg {D : Nat → Nat → Int} (t : Tight N W D) : ¬ Neg N W := by
  rintro ⟨i, r, w, h⟩
  have h1 := t.lo i i r w
  obtain ⟨q, hq, he⟩ := t.re i i w.start w.start (by simp only [inf]; omega)
  obtain ⟨g1, g2⟩ := hq.append w
  have := t.lo i i _ g1
  omega
theorem Tight.diag {D : Nat → Nat → Int} (t : Tight N W D) (hi : i < N) : D i i = 0 := by
  have h1 := t.lo i i [] (.nil hi)
  simp only [wt] at h1
  rcases Int.lt_or_eq_of_le h1 with h | h
  · obtain ⟨q, hq, he⟩ := t.re i i hi hi (by simp only [inf]; omega)
    exact absurd ⟨i, q, hq, by omega⟩ t.notNeg
  · exact h
theorem Tight.tri {D : Nat → Nat → Int} (t : Tight N W D) (hi : i < N) (hj : j < N) (hk : k < N) (h1 : D i j < inf) (h2 : D j k < inf) : D i k ≤ D i j + D j k := by
  obtain ⟨p, p1, p2⟩ := t.re i j hi hj h1
  obtain ⟨q, q1, q2⟩ := t.re j k hj hk h2
  obtain ⟨g1, g2⟩ := p1.append q1
  have := t.lo i k _ g1
  omega
theorem Tight.uniq {D E : Nat → Nat → Int} (t : Tight N W D) (u : Tight N W E) (hi : i < N) (hj : j < N) : D i j = E i j := by
  have key : ∀ {D E : Nat → Nat → Int}, Tight N W D → Tight N W E → D i j ≤ E i j := fun t u => by
    rcases Int.lt_or_eq_of_le (u.le i j hi hj) with h | h
    · obtain ⟨p, p1, p2⟩ := u.re i j hi hj h
      have := t.lo i j p p1
      omega
    · rw [h]; exact t.le i j hi hj
  exact Int.le_antisymm (key t u) (key u t)
/-- times that respect all bounds -/
def Feasible (N : Nat) (W : Nat → Nat → Int) (T : Nat → Int) : Prop := ∀ i j, i < N → j < N → W i j < inf → T j - T i ≤ W i j
theorem Feasible.way {T : Nat → Int} (f : Feasible N W T) (w : Way N W i j r) : T j - T i ≤ wt W (i :: r) := by
  induction r generalizing i with
  | nil => have := w.unnil; subst this; simp [wt]
  | cons b r ih =>
    obtain ⟨h1, h2, h3⟩ := w.uncons
    have := ih h3
    have := f i b h1 h3.start h2
    simp only [wt]; omega
theorem Feasible.notNeg {T : Nat → Int} (f : Feasible N W T) : ¬ Neg N W := by
  rintro ⟨i, r, w, h⟩
  have := f.way w
  omega
theorem Tight.feasible {D : Nat → Nat → Int} {T : Nat → Int} (t : Tight N W D) (f : Feasible N W T) (hi : i < N) (hj : j < N) (h : D i j < inf) : T j - T i ≤ D i j := by
  obtain ⟨p, p1, p2⟩ := t.re i j hi hj h
  have := f.way p1
  omega
end
end Go.Proofs.Ytkcamohhjaibaaa.Pl
