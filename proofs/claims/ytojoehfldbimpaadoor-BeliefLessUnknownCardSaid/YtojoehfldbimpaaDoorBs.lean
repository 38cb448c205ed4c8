/- Breadth-first search, in plain Lean: what the search gives is the least of the shortest ways. No condition. -/
import Derived.Test.YtojoehfldbimpaaDoorPl5
namespace Go.Proofs.YtojoehfldbimpaaDoor.Pl
/-! ### the order of ways: by length, then number by number -/
def lexlt : List Int → List Int → Prop
  | [], _ => False
  | _ :: _, [] => False
  | x :: r, y :: q => x < y ∨ (x = y ∧ lexlt r q)
def slt (p q : List Int) : Prop := p.length < q.length ∨ (p.length = q.length ∧ lexlt p q)
def sle (p q : List Int) : Prop := p = q ∨ slt p q
theorem lexlt_irr : ∀ p : List Int, ¬ lexlt p p
  | [], h => h
  | x :: r, h => by
    rcases h with h | ⟨_, h⟩
    · exact absurd h (Int.lt_irrefl _)
    · exact lexlt_irr r h
theorem lexlt_trans : ∀ p q r : List Int, lexlt p q → lexlt q r → lexlt p r
  | [], _, _, h, _ => h.elim
  | _ :: _, [], _, h, _ => h.elim
  | _ :: _, _ :: _, [], _, h => h.elim
  | x :: a, y :: b, z :: c, h, g => by
    rcases h with h | ⟨rfl, h⟩
    · rcases g with g | ⟨rfl, g⟩
      · exact .inl (Int.lt_trans h g)
      · exact .inl h
    · rcases g with g | ⟨rfl, g⟩
      · exact .inl g
      · exact .inr ⟨rfl, lexlt_trans a b c h g⟩
theorem lexlt_tri : ∀ p q : List Int, p.length = q.length → lexlt p q ∨ p = q ∨ lexlt q p
  | [], [], _ => .inr (.inl rfl)
  | [], _ :: _, h => by simp at h
  | _ :: _, [], h => by simp at h
  | x :: a, y :: b, h => by
    rcases Int.lt_trichotomy x y with g | rfl | g
    · exact .inl (.inl g)
    · rcases lexlt_tri a b (by simpa using h) with k | rfl | k
      · exact .inl (.inr ⟨rfl, k⟩)
      · exact .inr (.inl rfl)
      · exact .inr (.inr (.inr ⟨rfl, k⟩))
    · exact .inr (.inr (.inl g))
theorem lexlt_app : ∀ p q r s : List Int, lexlt p q → lexlt (p ++ r) (q ++ s)
  | [], _, _, _, h => h.elim
  | _ :: _, [], _, _, h => h.elim
  | _ :: a, _ :: b, r, s, h => h.imp id fun ⟨e, k⟩ => ⟨e, lexlt_app a b r s k⟩
theorem lexlt_same : ∀ (p r s : List Int), lexlt r s → lexlt (p ++ r) (p ++ s)
  | [], _, _, h => h
  | _ :: a, r, s, h => .inr ⟨rfl, lexlt_same a r s h⟩
theorem slt_irr (p : List Int) : ¬ slt p p := fun h => by
  rcases h with h | ⟨_, h⟩
  · omega
  · exact lexlt_irr p h
theorem slt_trans {p q r : List Int} (h : slt p q) (g : slt q r) : slt p r := by
  rcases h with h | ⟨e, h⟩
  · rcases g with g | ⟨e', _⟩ <;> exact .inl (by omega)
  · rcases g with g | ⟨e', g⟩
    · exact .inl (by omega)
    · exact .inr ⟨by omega, lexlt_trans _ _ _ h g⟩
theorem slt_tri (p q : List Int) : slt p q ∨ p = q ∨ slt q p := by
  rcases Nat.lt_trichotomy p.length q.length with h | h | h
  · exact .inl (.inl h)
  · rcases lexlt_tri p q h with g | g | g
    · exact .inl (.inr ⟨h, g⟩)
    · exact .inr (.inl g)
    · exact .inr (.inr (.inr ⟨h.symm, g⟩))
  · exact .inr (.inr (.inl h))
theorem sle_refl (p : List Int) : sle p p := .inl rfl
theorem sle_trans {p q r : List Int} (h : sle p q) (g : sle q r) : sle p r := by
  rcases h with rfl | h
  · exact g
  · rcases g with rfl | g
    · exact .inr h
    · exact .inr (slt_trans h g)
theorem sle_antisymm {p q : List Int} (h : sle p q) (g : sle q p) : p = q := by
  rcases h with h | h
  · exact h
  · rcases g with g | g
    · exact g.symm
    · exact absurd (slt_trans h g) (slt_irr p)
theorem sle_len {p q : List Int} (h : sle p q) : p.length ≤ q.length := by
  rcases h with rfl | h | ⟨h, _⟩ <;> omega
theorem slt_snoc {p q : List Int} (x y : Int) (h : slt p q) : slt (p ++ [x]) (q ++ [y]) := by
  rcases h with h | ⟨e, h⟩
  · exact .inl (by simp; omega)
  · exact .inr ⟨by simp [e], lexlt_app _ _ _ _ h⟩
theorem slt_snoc_same (p : List Int) {x y : Int} (h : x < y) : slt (p ++ [x]) (p ++ [y]) := .inr ⟨by simp, lexlt_same p _ _ (.inl h)⟩
theorem sle_snoc {p q : List Int} (x : Int) (h : sle p q) : sle (p ++ [x]) (q ++ [x]) := by
  rcases h with rfl | h
  · exact sle_refl _
  · exact .inr (slt_snoc x x h)
theorem sle_app (p r : List Int) : sle p (p ++ r) := by
  cases r with
  | nil => exact .inl (by simp)
  | cons x q => exact .inr (.inl (by simp))

section
variable {N : Type}
/-- an entry of the queue: a node, where it was come upon, by which step -/
structure Ent (N : Type) where
  node : N
  from_ : Int
  step : Int
  deriving DecidableEq, Inhabited
/-- the steps from an entry back to the first -/
def backR (q : List (Ent N)) : Nat → Int → List Int
  | 0, _ => []
  | k + 1, i => match q[i.toNat]? with
    | some e => if e.from_ < 0 then [] else e.step :: backR q k e.from_
    | none => []
def pathTo (q : List (Ent N)) (i : Nat) : List Int := (backR q (i + 1) i).reverse
/-- a way -/
def Way (succ : N → List (Int × N)) : N → List Int → N → Prop
  | u, [], v => u = v
  | u, o :: p, v => ∃ x, (o, x) ∈ succ u ∧ Way succ x p v
theorem Way.snoc {succ : N → List (Int × N)} : ∀ {p : List Int} {u v x : N} {o : Int}, Way succ u p v → (o, x) ∈ succ v → Way succ u (p ++ [o]) x
  | [], _, _, x, _, h, g => ⟨x, h ▸ g, rfl⟩
  | _ :: _, _, _, _, _, ⟨y, h1, h2⟩, g => ⟨y, h1, h2.snoc g⟩
theorem Way.unsnoc {succ : N → List (Int × N)} : ∀ {p : List Int} {u x : N} {o : Int}, Way succ u (p ++ [o]) x → ∃ v, Way succ u p v ∧ (o, x) ∈ succ v
  | [], u, x, o, ⟨y, h1, h2⟩ => ⟨u, rfl, h2 ▸ h1⟩
  | _ :: _, _, _, _, ⟨y, h1, h2⟩ => by
    obtain ⟨v, g1, g2⟩ := Way.unsnoc h2
    exact ⟨v, ⟨y, h1, g1⟩, g2⟩
/-- the queue's shape: entry 0 is the start; each other entry comes of one ahead of it; nodes differ -/
structure Shape (succ : N → List (Int × N)) (start : N) (q : List (Ent N)) : Prop where
  head : q[0]? = some ⟨start, -1, 0⟩
  link : ∀ i e, q[i]? = some e → 0 < i → ∃ (j : Nat) (u : Ent N), e.from_ = (j : Int) ∧ j < i ∧ q[j]? = some u ∧ (e.step, e.node) ∈ succ u.node
  nodup : (q.map (·.node)).Nodup
theorem Shape.len {succ : N → List (Int × N)} {start : N} {q : List (Ent N)} (h : Shape succ start q) : 0 < q.length := by
  have := h.head
  cases q with
  | nil => simp at this
  | cons a r => simp
theorem Shape.start (succ : N → List (Int × N)) (start : N) : Shape succ start [⟨start, -1, 0⟩] :=
  ⟨rfl, fun i e h hi => by cases i with
    | zero => omega
    | succ i => simp at h, by simp⟩
/-- the fuel of a way back does not matter -/
theorem backR_fuel {succ : N → List (Int × N)} {start : N} {q : List (Ent N)} (h : Shape succ start q) : ∀ (i k : Nat), i < q.length → i < k → backR q k i = backR q (i + 1) i := by
  intro i
  induction i using Nat.strongRecOn with
  | _ i ih =>
    intro k hi hk
    obtain ⟨k, rfl⟩ : ∃ k', k = k' + 1 := ⟨k - 1, by omega⟩
    have hq : q[((i : Nat) : Int).toNat]? = some q[i] := by simp [hi]
    simp only [backR, hq]
    split
    · rfl
    · rename_i hf
      by_cases h0 : 0 < i
      · obtain ⟨j, u, e1, e2, e3, _⟩ := h.link i q[i] (List.getElem?_eq_getElem hi) h0
        rw [e1, ih j e2 k (by omega) (by omega), ih j e2 i (by omega) (by omega)]
      · have : i = 0 := by omega
        subst this
        have h1 := h.head
        rw [List.getElem?_eq_getElem hi] at h1
        obtain e := Option.some.inj h1
        rw [e] at hf
        exact absurd (by decide : (-1 : Int) < 0) hf
theorem path_zero {succ : N → List (Int × N)} {start : N} {q : List (Ent N)} (h : Shape succ start q) : pathTo q 0 = [] := by
  unfold pathTo
  have : q[((0 : Nat) : Int).toNat]? = some ⟨start, -1, 0⟩ := h.head
  simp only [backR, this]
  rfl
theorem path_link {succ : N → List (Int × N)} {start : N} {q : List (Ent N)} (h : Shape succ start q) {i j : Nat} {e : Ent N} (hi : q[i]? = some e) (hf : e.from_ = (j : Int)) (hj : j < i) : pathTo q i = pathTo q j ++ [e.step] := by
  have hil := (List.getElem?_eq_some_iff.1 hi).1
  unfold pathTo
  have e1 : backR q (i + 1) i = e.step :: backR q i j := by
    have : q[((i : Nat) : Int).toNat]? = some e := by simpa using hi
    simp only [backR, this, hf]
    rw [if_neg (by omega)]
  rw [e1, backR_fuel h j i (by omega) hj]
  simp
theorem path_way {succ : N → List (Int × N)} {start : N} {q : List (Ent N)} (h : Shape succ start q) : ∀ (i : Nat) (e : Ent N), q[i]? = some e → Way succ start (pathTo q i) e.node := by
  intro i
  induction i using Nat.strongRecOn with
  | _ i ih =>
    intro e hi
    by_cases h0 : 0 < i
    · obtain ⟨j, u, e1, e2, e3, e4⟩ := h.link i e hi h0
      rw [path_link h hi e1 e2]
      exact (ih j e2 u e3).snoc e4
    · have : i = 0 := by omega
      subst this
      rw [h.head] at hi
      cases hi
      rw [path_zero h]
      rfl
/-- what lies in front stays as it is -/
theorem backR_app {succ : N → List (Int × N)} {start : N} {q : List (Ent N)} (h : Shape succ start q) (r : List (Ent N)) : ∀ (k i : Nat), i < q.length → backR (q ++ r) k i = backR q k i := by
  intro k
  induction k with
  | zero => intros; rfl
  | succ k ih =>
    intro i hi
    have e1 : (q ++ r)[((i : Nat) : Int).toNat]? = q[((i : Nat) : Int).toNat]? := List.getElem?_append_left (by simpa using hi)
    simp only [backR, e1]
    have hq : q[((i : Nat) : Int).toNat]? = some q[i] := by simp [hi]
    simp only [hq]
    split
    · rfl
    · rename_i hf
      by_cases h0 : 0 < i
      · obtain ⟨j, u, e1, e2, e3, _⟩ := h.link i q[i] (List.getElem?_eq_getElem hi) h0
        rw [e1, ih j (by omega)]
      · have : i = 0 := by omega
        subst this
        have h1 := h.head
        rw [List.getElem?_eq_getElem hi] at h1
        rw [Option.some.inj h1] at hf
        exact absurd (by decide : (-1 : Int) < 0) hf
theorem path_app {succ : N → List (Int × N)} {start : N} {q : List (Ent N)} (h : Shape succ start q) (r : List (Ent N)) {i : Nat} (hi : i < q.length) : pathTo (q ++ r) i = pathTo q i := by
  unfold pathTo
  rw [backR_app h r _ _ hi]
theorem Shape.push {succ : N → List (Int × N)} {start : N} {q : List (Ent N)} (h : Shape succ start q) {j : Nat} {u : Ent N} {s : Int} {n : N} (hj : q[j]? = some u) (hs : (s, n) ∈ succ u.node) (hn : n ∉ q.map (·.node)) : Shape succ start (q ++ [⟨n, j, s⟩]) := by
  have hl := h.len
  refine ⟨by rw [List.getElem?_append_left hl]; exact h.head, fun i e hi h0 => ?_, ?_⟩
  · by_cases hlt : i < q.length
    · rw [List.getElem?_append_left hlt] at hi
      obtain ⟨a, b, e1, e2, e3, e4⟩ := h.link i e hi h0
      exact ⟨a, b, e1, e2, by rw [List.getElem?_append_left (by omega)]; exact e3, e4⟩
    · rw [List.getElem?_append_right (by omega)] at hi
      have hjl := (List.getElem?_eq_some_iff.1 hj).1
      have : i - q.length = 0 := by
        have := (List.getElem?_eq_some_iff.1 hi).1
        simp at this; omega
      rw [this] at hi
      simp at hi
      subst hi
      exact ⟨j, u, rfl, by omega, by rw [List.getElem?_append_left hjl]; exact hj, hs⟩
  · rw [List.map_append, List.nodup_append]
    refine ⟨h.nodup, by simp, fun a ha b hb => ?_⟩
    simp at hb
    subst hb
    exact fun e => hn (e ▸ ha)
/-- the successors that are new go to the end; none if there are too many -/
def expand [DecidableEq N] (at_ : Int) : List (Int × N) → List (Ent N) → Option (List (Ent N))
  | [], q => some q
  | (s, n) :: r, q => if n ∈ q.map (·.node) then expand at_ r q else if q.length = 2000 then none else expand at_ r (q ++ [⟨n, at_, s⟩])
def bfs [DecidableEq N] (succ : N → List (Int × N)) (done : N → Bool) : Nat → List (Ent N) → Nat → List Int × Bool × Bool
  | 0, _, _ => ([], false, true)
  | k + 1, q, i => match q[i]? with
    | none => ([], false, true)
    | some e => if done e.node = true then (pathTo q i, true, true) else match expand i (succ e.node) q with
      | none => ([], false, false)
      | some q' => bfs succ done k q' (i + 1)
def search [DecidableEq N] (succ : N → List (Int × N)) (done : N → Bool) (start : N) : List Int × Bool × Bool := bfs succ done 2001 [⟨start, -1, 0⟩] 0
/-- what one node's expansion leaves -/
theorem expand_spec [DecidableEq N] {succ : N → List (Int × N)} {start : N} {i : Nat} {u : Ent N} : ∀ (l : List (Int × N)) (q q' : List (Ent N)), Shape succ start q → q[i]? = some u → (∀ x ∈ l, x ∈ succ u.node) → q.length ≤ 2000 → expand i l q = some q' → Shape succ start q' ∧ (∃ r, q' = q ++ r) ∧ (∀ x ∈ l, x.2 ∈ q'.map (·.node)) ∧ q'.length ≤ 2000
  | [], q, q', h, _, _, h2, he => by
    cases he
    exact ⟨h, ⟨[], by simp⟩, by simp, h2⟩
  | (s, n) :: l, q, q', h, hu, hl, h2, he => by
    simp only [expand] at he
    split at he
    · rename_i hn
      obtain ⟨g1, ⟨r, rfl⟩, g3, g4⟩ := expand_spec l q q' h hu (fun x hx => hl x (List.mem_cons_of_mem _ hx)) h2 he
      refine ⟨g1, ⟨r, rfl⟩, fun x hx => ?_, g4⟩
      rcases List.mem_cons.1 hx with rfl | hx
      · rw [List.map_append]; exact List.mem_append_left _ hn
      · exact g3 x hx
    · rename_i hn
      split at he
      · cases he
      · rename_i h2000
        have hil := (List.getElem?_eq_some_iff.1 hu).1
        have h' := h.push hu (hl _ List.mem_cons_self) hn
        obtain ⟨g1, ⟨r, rfl⟩, g3, g4⟩ := expand_spec l _ q' h' (by rw [List.getElem?_append_left hil]; exact hu) (fun x hx => hl x (List.mem_cons_of_mem _ hx)) (by simp; omega) he
        refine ⟨g1, ⟨[⟨n, i, s⟩] ++ r, by simp⟩, fun x hx => ?_, g4⟩
        rcases List.mem_cons.1 hx with rfl | hx
        · simp
        · exact g3 x hx
/-- the queue's order, while node i is expanded and steps below o are done -/
structure Ord (succ : N → List (Int × N)) (start : N) (i : Nat) (o : Int → Prop) (q : List (Ent N)) : Prop where
  shape : Shape succ start q
  inc : ∀ a b, a < b → b < q.length → slt (pathTo q a) (pathTo q b)
  late : ∀ (a : Nat) (e : Ent N), 0 < a → q[a]? = some e → e.from_ ≤ (i : Int) ∧ (e.from_ = (i : Int) → o e.step)
theorem Ord.below {succ : N → List (Int × N)} {start : N} {i : Nat} {o : Int → Prop} {q : List (Ent N)} (h : Ord succ start i o q) (hi : i < q.length) {s : Int} (hs : ∀ x, o x → x < s) {k : Nat} (hk : k < q.length) : slt (pathTo q k) (pathTo q i ++ [s]) := by
  by_cases h0 : 0 < k
  · obtain ⟨a, u, e1, e2, e3, _⟩ := h.shape.link k q[k] (List.getElem?_eq_getElem hk) h0
    obtain ⟨g1, g2⟩ := h.late k q[k] h0 (List.getElem?_eq_getElem hk)
    rw [path_link h.shape (List.getElem?_eq_getElem hk) e1 e2]
    rw [e1] at g1 g2
    by_cases ha : a < i
    · exact slt_snoc _ _ (h.inc a i ha hi)
    · have : a = i := by omega
      subst this
      exact slt_snoc_same _ (hs _ (g2 rfl))
  · have : k = 0 := by omega
    subst this
    rw [path_zero h.shape]
    exact .inl (by simp)
theorem expand_ord [DecidableEq N] {succ : N → List (Int × N)} {start : N} {i : Nat} {u : Ent N} : ∀ (l : List (Int × N)) (o : Int → Prop) (q q' : List (Ent N)), Ord succ start i o q → q[i]? = some u → (∀ x ∈ l, x ∈ succ u.node) → (l.map (·.1)).Pairwise (· < ·) → (∀ x y, o x → y ∈ l → x < y.1) → q.length ≤ 2000 → expand i l q = some q' →
    Ord succ start i (fun x => o x ∨ x ∈ l.map (·.1)) q' ∧ (∃ r, q' = q ++ r) ∧ (∀ x ∈ l, ∃ (k : Nat) (e : Ent N), q'[k]? = some e ∧ e.node = x.2 ∧ sle (pathTo q' k) (pathTo q' i ++ [x.1]))
  | [], o, q, q', h, _, _, _, _, _, he => by
    cases he
    refine ⟨⟨h.shape, h.inc, fun a e ha hq => ?_⟩, ⟨[], by simp⟩, fun x hx => (by cases hx)⟩
    obtain ⟨g1, g2⟩ := h.late a e ha hq
    exact ⟨g1, fun k => .inl (g2 k)⟩
  | (s, n) :: l, o, q, q', h, hu, hl, hp, ho, h2, he => by
    have hil := (List.getElem?_eq_some_iff.1 hu).1
    have hos : ∀ x, o x → x < s := fun x hx => ho x (s, n) hx List.mem_cons_self
    simp only [List.map_cons, List.pairwise_cons] at hp
    have hw : ∀ {q1 : List (Ent N)}, Ord succ start i o q1 → Ord succ start i (fun x => o x ∨ x = s) q1 := fun h => ⟨h.shape, h.inc, fun a e ha hq => ⟨(h.late a e ha hq).1, fun k => .inl ((h.late a e ha hq).2 k)⟩⟩
    have ho' : ∀ x y, (o x ∨ x = s) → y ∈ l → x < y.1 := fun x y hx hy => by
      rcases hx with hx | rfl
      · exact ho x y hx (List.mem_cons_of_mem _ hy)
      · exact hp.1 _ (List.mem_map_of_mem hy)
    have fin : ∀ {q1 : List (Ent N)}, Ord succ start i (fun x => (o x ∨ x = s) ∨ x ∈ l.map (·.1)) q1 → Ord succ start i (fun x => o x ∨ x ∈ ((s, n) :: l).map (·.1)) q1 := fun h => ⟨h.shape, h.inc, fun a e ha hq => ⟨(h.late a e ha hq).1, fun k => by
      rcases (h.late a e ha hq).2 k with (g | g) | g
      · exact .inl g
      · exact .inr (by rw [g]; simp)
      · exact .inr (List.mem_cons_of_mem _ g)⟩⟩
    simp only [expand] at he
    split at he
    · rename_i hn
      obtain ⟨g1, ⟨r, rfl⟩, g3⟩ := expand_ord l (fun x => o x ∨ x = s) q q' (hw h) hu (fun x hx => hl x (List.mem_cons_of_mem _ hx)) hp.2 ho' h2 he
      refine ⟨fin g1, ⟨r, rfl⟩, fun x hx => ?_⟩
      rcases List.mem_cons.1 hx with rfl | hx
      · obtain ⟨e, he1, he2⟩ := List.mem_map.1 hn
        obtain ⟨k, hk, rfl⟩ := List.mem_iff_getElem.1 he1
        refine ⟨k, q[k], by rw [List.getElem?_append_left hk]; exact List.getElem?_eq_getElem hk, he2, .inr ?_⟩
        rw [path_app h.shape r hk, path_app h.shape r hil]
        exact h.below hil hos hk
      · exact g3 x hx
    · rename_i hn
      split at he
      · cases he
      · rename_i h2000
        have h' := h.shape.push hu (hl _ List.mem_cons_self) hn
        have hu' : (q ++ [⟨n, (i : Int), s⟩])[i]? = some u := by rw [List.getElem?_append_left hil]; exact hu
        have hq' : (q ++ [(⟨n, (i : Int), s⟩ : Ent N)])[q.length]? = some ⟨n, (i : Int), s⟩ := by simp
        have hlast : pathTo (q ++ [⟨n, (i : Int), s⟩]) q.length = pathTo q i ++ [s] := by
          rw [path_link h' hq' rfl hil, path_app h.shape _ hil]
        have ord' : Ord succ start i (fun x => o x ∨ x = s) (q ++ [⟨n, (i : Int), s⟩]) := by
          refine ⟨h', fun a b hab hb => ?_, fun a e ha hq => ?_⟩
          · simp at hb
            rw [path_app h.shape _ (show a < q.length by omega)]
            by_cases hbl : b < q.length
            · rw [path_app h.shape _ hbl]; exact h.inc a b hab hbl
            · have : b = q.length := by omega
              subst this
              rw [hlast]
              exact h.below hil hos (by omega)
          · by_cases hal : a < q.length
            · rw [List.getElem?_append_left hal] at hq
              exact ⟨(h.late a e ha hq).1, fun k => .inl ((h.late a e ha hq).2 k)⟩
            · have hal2 := (List.getElem?_eq_some_iff.1 hq).1
              simp at hal2
              have : a = q.length := by omega
              subst this
              rw [hq'] at hq
              cases hq
              exact ⟨Int.le_refl _, fun _ => .inr rfl⟩
        obtain ⟨g1, ⟨r, rfl⟩, g3⟩ := expand_ord l (fun x => o x ∨ x = s) _ q' ord' hu' (fun x hx => hl x (List.mem_cons_of_mem _ hx)) hp.2 ho' (by simp; omega) he
        refine ⟨fin g1, ⟨[⟨n, (i : Int), s⟩] ++ r, by simp⟩, fun x hx => ?_⟩
        rcases List.mem_cons.1 hx with rfl | hx
        · refine ⟨q.length, ⟨n, (i : Int), s⟩, by rw [List.getElem?_append_left (by simp)]; exact hq', rfl, .inl ?_⟩
          rw [path_app h' r (by simp), hlast, path_app h' r (by simp; omega), path_app h.shape _ hil]
        · exact g3 x hx
/-- nodes ahead of i are expanded -/
def Comp (succ : N → List (Int × N)) (q : List (Ent N)) (i : Nat) : Prop := ∀ (j : Nat) (u : Ent N), j < i → q[j]? = some u → ∀ x ∈ succ u.node, ∃ (k : Nat) (e : Ent N), q[k]? = some e ∧ e.node = x.2 ∧ sle (pathTo q k) (pathTo q j ++ [x.1])
structure BInv (succ : N → List (Int × N)) (start : N) (q : List (Ent N)) (i : Nat) : Prop where
  ord : Ord succ start i (fun _ => False) q
  comp : Comp succ q i
  len : q.length ≤ 2000
  le : i ≤ q.length
theorem BInv.start (succ : N → List (Int × N)) (start : N) : BInv succ start [⟨start, -1, 0⟩] 0 :=
  ⟨⟨Shape.start succ start, fun a b hab hb => by simp at hb; omega, fun a e ha hq => by cases a with
    | zero => omega
    | succ a => simp at hq⟩, fun j u hj => by omega, by simp, by simp⟩
theorem BInv.next [DecidableEq N] {succ : N → List (Int × N)} (hs : ∀ n, ((succ n).map (·.1)).Pairwise (· < ·)) {start : N} {q q' : List (Ent N)} {i : Nat} {u : Ent N} (h : BInv succ start q i) (hu : q[i]? = some u) (he : expand i (succ u.node) q = some q') : BInv succ start q' (i + 1) ∧ ∃ r, q' = q ++ r := by
  have hil := (List.getElem?_eq_some_iff.1 hu).1
  obtain ⟨g1, ⟨r, rfl⟩, g3⟩ := expand_ord (succ u.node) (fun _ => False) q q' h.ord hu (fun x hx => hx) (hs _) (fun _ _ k => k.elim) h.len he
  obtain ⟨k1, _, _, k4⟩ := expand_spec (succ u.node) q _ h.ord.shape hu (fun x hx => hx) h.len he
  refine ⟨⟨⟨k1, g1.inc, fun a e ha hq => ?_⟩, fun j v hj hv x hx => ?_, k4, by simp; omega⟩, r, rfl⟩
  · have := (g1.late a e ha hq).1
    exact ⟨by omega, fun k => by omega⟩
  · by_cases hji : j < i
    · rw [List.getElem?_append_left (by omega)] at hv
      obtain ⟨k, e, e1, e2, e3⟩ := h.comp j v hji hv x hx
      have hkl := (List.getElem?_eq_some_iff.1 e1).1
      refine ⟨k, e, by rw [List.getElem?_append_left hkl]; exact e1, e2, ?_⟩
      rw [path_app h.ord.shape r hkl, path_app h.ord.shape r (by omega)]
      exact e3
    · have : j = i := by omega
      subst this
      rw [List.getElem?_append_left hil, hu] at hv
      cases hv
      exact g3 x hx
/-- a way leads to an entry, or past one that is not expanded yet -/
theorem BInv.reach {succ : N → List (Int × N)} {start : N} {q : List (Ent N)} {i : Nat} (h : BInv succ start q i) : ∀ (m : Nat) (p : List Int) (v : N), p.length = m → Way succ start p v →
    (∃ (k : Nat) (e : Ent N), q[k]? = some e ∧ e.node = v ∧ sle (pathTo q k) p) ∨ (∃ k, i ≤ k ∧ k < q.length ∧ sle (pathTo q k) p)
  | 0, p, v, hm, hw => by
    have : p = [] := List.length_eq_zero_iff.1 hm
    subst this
    refine .inl ⟨0, _, h.ord.shape.head, hw, ?_⟩
    rw [path_zero h.ord.shape]
    exact sle_refl _
  | m + 1, p, v, hm, hw => by
    have hp : p = p.dropLast ++ [p.getLast (by intro e; rw [e] at hm; simp at hm)] := (List.dropLast_concat_getLast _).symm
    generalize p.dropLast = p0 at hp
    generalize p.getLast _ = o at hp
    subst hp
    obtain ⟨v0, w1, w2⟩ := hw.unsnoc
    rcases h.reach m p0 v0 (by simpa using hm) w1 with ⟨k, e, e1, e2, e3⟩ | ⟨k, k1, k2, k3⟩
    · by_cases hk : k < i
      · obtain ⟨k', e', f1, f2, f3⟩ := h.comp k e hk e1 (o, v) (e2 ▸ w2)
        exact .inl ⟨k', e', f1, f2, sle_trans f3 (sle_snoc o e3)⟩
      · exact .inr ⟨k, by omega, (List.getElem?_eq_some_iff.1 e1).1, sle_trans e3 (sle_app _ _)⟩
    · exact .inr ⟨k, k1, k2, sle_trans k3 (sle_app _ _)⟩
/-- what the search gives -/
def Least (succ : N → List (Int × N)) (done : N → Bool) (start : N) (p : List Int) : Prop := (∃ v, Way succ start p v ∧ done v = true) ∧ ∀ p' v', Way succ start p' v' → done v' = true → sle p p'
theorem bfs_found [DecidableEq N] {succ : N → List (Int × N)} (hs : ∀ n, ((succ n).map (·.1)).Pairwise (· < ·)) {done : N → Bool} {start : N} : ∀ (k : Nat) (q : List (Ent N)) (i : Nat) (p : List Int) (b : Bool), BInv succ start q i → (∀ (j : Nat) (e : Ent N), j < i → q[j]? = some e → done e.node = false) → bfs succ done k q i = (p, true, b) → b = true ∧ Least succ done start p
  | 0, q, i, p, b, _, _, he => by simp [bfs] at he
  | k + 1, q, i, p, b, h, hd, he => by
    rw [bfs] at he
    split at he
    · simp at he
    · rename_i e hu
      have hil := (List.getElem?_eq_some_iff.1 hu).1
      split at he
      · rename_i hdone
        simp only [Prod.mk.injEq, true_and] at he
        obtain ⟨rfl, rfl⟩ := he
        refine ⟨rfl, ⟨_, path_way h.ord.shape i e hu, hdone⟩, fun p' v' w' d' => ?_⟩
        have up : ∀ j, i ≤ j → j < q.length → sle (pathTo q i) (pathTo q j) := fun j h1 h2 => by
          rcases Nat.lt_or_ge i j with g | g
          · exact .inr (h.ord.inc i j g h2)
          · rw [show j = i by omega]; exact sle_refl _
        rcases h.reach _ p' v' rfl w' with ⟨j, e', f1, f2, f3⟩ | ⟨j, j1, j2, j3⟩
        · refine sle_trans (up j (Nat.le_of_not_lt fun g => ?_) (List.getElem?_eq_some_iff.1 f1).1) f3
          have := hd j e' g f1
          rw [f2, d'] at this
          cases this
        · exact sle_trans (up j j1 j2) j3
      · rename_i hdone
        split at he
        · simp at he
        · rename_i q' hx
          obtain ⟨g1, r, rfl⟩ := h.next hs hu hx
          refine bfs_found hs k _ (i + 1) p b g1 (fun j e' hj hq => ?_) he
          by_cases hji : j < i
          · rw [List.getElem?_append_left (by omega)] at hq
            exact hd j e' hji hq
          · have : j = i := by omega
            subst this
            rw [List.getElem?_append_left hil, hu] at hq
            cases hq
            simpa using hdone
theorem bfs_none [DecidableEq N] {succ : N → List (Int × N)} (hs : ∀ n, ((succ n).map (·.1)).Pairwise (· < ·)) {done : N → Bool} {start : N} : ∀ (k : Nat) (q : List (Ent N)) (i : Nat) (p : List Int), BInv succ start q i → (∀ (j : Nat) (e : Ent N), j < i → q[j]? = some e → done e.node = false) → 2001 ≤ k + i → bfs succ done k q i = (p, false, true) → p = [] ∧ ∀ p' v', Way succ start p' v' → done v' = false
  | 0, q, i, p, h, _, hk, _ => by
    have h1 := h.len
    have h2 := h.le
    omega
  | k + 1, q, i, p, h, hd, hk, he => by
    rw [bfs] at he
    split at he
    · rename_i hu
      have hl : q.length ≤ i := by simpa using hu
      simp at he
      refine ⟨he, fun p' v' w' => ?_⟩
      rcases h.reach _ p' v' rfl w' with ⟨j, e', f1, f2, _⟩ | ⟨j, j1, j2, _⟩
      · have := (List.getElem?_eq_some_iff.1 f1).1
        rw [← f2]
        exact hd j e' (by omega) f1
      · omega
    · rename_i e hu
      have hil := (List.getElem?_eq_some_iff.1 hu).1
      split at he
      · simp at he
      · rename_i hdone
        split at he
        · simp at he
        · rename_i q' hx
          obtain ⟨g1, r, rfl⟩ := h.next hs hu hx
          refine bfs_none hs k _ (i + 1) p g1 (fun j e' hj hq => ?_) (by omega) he
          by_cases hji : j < i
          · rw [List.getElem?_append_left (by omega)] at hq
            exact hd j e' hji hq
          · have : j = i := by omega
            subst this
            rw [List.getElem?_append_left hil, hu] at hq
            cases hq
            simpa using hdone
theorem bfs_big [DecidableEq N] {succ : N → List (Int × N)} {done : N → Bool} : ∀ (k : Nat) (q : List (Ent N)) (i : Nat) (p : List Int) (f : Bool), bfs succ done k q i = (p, f, false) → p = [] ∧ f = false
  | 0, q, i, p, f, he => by simp [bfs] at he
  | k + 1, q, i, p, f, he => by
    rw [bfs] at he
    split at he
    · simp at he
    · split at he
      · simp at he
      · split at he
        · simp at he; exact ⟨he.1, he.2⟩
        · exact bfs_big k _ _ p f he
/-- a search that is not too large without a goal is not too large with one -/
theorem bfs_small [DecidableEq N] {succ : N → List (Int × N)} {done : N → Bool} : ∀ (k : Nat) (q : List (Ent N)) (i : Nat), (bfs succ (fun _ => false) k q i).2.2 = true → (bfs succ done k q i).2.2 = true
  | 0, _, _, _ => rfl
  | k + 1, q, i, h => by
    rw [bfs] at h ⊢
    split
    · rfl
    · rename_i e hu
      simp only [hu, Bool.false_eq_true, if_false] at h
      split
      · rfl
      · split
        · rename_i hx
          simp [hx] at h
        · rename_i q' hx
          simp only [hx] at h
          exact bfs_small k _ _ h
theorem nodup_sub_len {α : Type} [DecidableEq α] : ∀ (l m : List α), l.Nodup → (∀ x ∈ l, x ∈ m) → l.length ≤ m.length
  | [], _, _, _ => Nat.zero_le _
  | a :: l, m, hn, hs => by
    obtain ⟨h1, h2⟩ := List.nodup_cons.1 hn
    have ha := hs a List.mem_cons_self
    have := nodup_sub_len l (m.erase a) h2 fun x hx => (List.mem_erase_of_ne (fun e : x = a => h1 (e ▸ hx))).2 (hs x (List.mem_cons_of_mem _ hx))
    rw [List.length_erase_of_mem ha] at this
    have := List.length_pos_of_mem ha
    simp; omega
theorem expand_fits [DecidableEq N] {all : List N} (hall : all.length ≤ 2000) {i : Int} : ∀ (l : List (Int × N)) (q : List (Ent N)), (q.map (·.node)).Nodup → (∀ e ∈ q, e.node ∈ all) → (∀ x ∈ l, x.2 ∈ all) → ∃ q', expand i l q = some q' ∧ (q'.map (·.node)).Nodup ∧ ∀ e ∈ q', e.node ∈ all
  | [], q, h1, h2, _ => ⟨q, rfl, h1, h2⟩
  | (s, n) :: l, q, h1, h2, h3 => by
    simp only [expand]
    by_cases hn : n ∈ q.map (·.node)
    · rw [if_pos hn]
      exact expand_fits hall l q h1 h2 fun x hx => h3 x (List.mem_cons_of_mem _ hx)
    · rw [if_neg hn]
      have h1' : ((q ++ [(⟨n, i, s⟩ : Ent N)]).map (·.node)).Nodup := by
        rw [List.map_append, List.nodup_append]
        refine ⟨h1, by simp, fun a ha b hb => ?_⟩
        simp at hb
        subst hb
        exact fun e => hn (e ▸ ha)
      have h2' : ∀ e ∈ q ++ [(⟨n, i, s⟩ : Ent N)], e.node ∈ all := fun e he => by
        rcases List.mem_append.1 he with he | he
        · exact h2 e he
        · rw [List.mem_singleton.1 he]; exact h3 (s, n) List.mem_cons_self
      have hl := nodup_sub_len _ all h1' (fun x hx => by
        obtain ⟨e, he, rfl⟩ := List.mem_map.1 hx
        exact h2' e he)
      rw [if_neg (by simp at hl; omega)]
      exact expand_fits hall l _ h1' h2' fun x hx => h3 x (List.mem_cons_of_mem _ hx)
/-- a small closed list of nodes: the search is not too large -/
theorem bfs_fits [DecidableEq N] {succ : N → List (Int × N)} {done : N → Bool} {all : List N} (hall : all.length ≤ 2000) (hc : ∀ n ∈ all, ∀ x ∈ succ n, x.2 ∈ all) : ∀ (k : Nat) (q : List (Ent N)) (i : Nat), (q.map (·.node)).Nodup → (∀ e ∈ q, e.node ∈ all) → (bfs succ done k q i).2.2 = true
  | 0, _, _, _, _ => rfl
  | k + 1, q, i, h1, h2 => by
    rw [bfs]
    split
    · rfl
    · rename_i e hu
      split
      · rfl
      · obtain ⟨q', e1, e2, e3⟩ := expand_fits hall (i := (i : Int)) (succ e.node) q h1 h2 (hc _ (h2 e (List.mem_of_getElem? hu)))
        simp only [e1]
        exact bfs_fits hall hc k q' (i + 1) e2 e3
theorem search_found [DecidableEq N] {succ : N → List (Int × N)} (hs : ∀ n, ((succ n).map (·.1)).Pairwise (· < ·)) {done : N → Bool} {start : N} {p : List Int} {b : Bool} (h : search succ done start = (p, true, b)) : b = true ∧ Least succ done start p :=
  bfs_found hs 2001 _ 0 p b (BInv.start succ start) (fun j e hj => by omega) h
theorem search_none [DecidableEq N] {succ : N → List (Int × N)} (hs : ∀ n, ((succ n).map (·.1)).Pairwise (· < ·)) {done : N → Bool} {start : N} {p : List Int} (h : search succ done start = (p, false, true)) : p = [] ∧ ∀ p' v', Way succ start p' v' → done v' = false :=
  bfs_none hs 2001 _ 0 p (BInv.start succ start) (fun j e hj => by omega) (by omega) h
theorem search_small [DecidableEq N] {succ : N → List (Int × N)} {done : N → Bool} {start : N} (h : (search succ (fun _ => false) start).2.2 = true) : (search succ done start).2.2 = true := bfs_small _ _ _ h
theorem search_fits [DecidableEq N] {succ : N → List (Int × N)} {done : N → Bool} {start : N} {all : List N} (hall : all.length ≤ 2000) (h0 : start ∈ all) (hc : ∀ n ∈ all, ∀ x ∈ succ n, x.2 ∈ all) : (search succ done start).2.2 = true :=
  bfs_fits hall hc _ _ _ (by simp) (by simpa using h0)
theorem Least.unique {succ : N → List (Int × N)} {done : N → Bool} {start : N} {p p' : List Int} (h : Least succ done start p) (h' : Least succ done start p') : p = p' := by
  obtain ⟨⟨v, w, d⟩, m⟩ := h
  obtain ⟨⟨v', w', d'⟩, m'⟩ := h'
  exact sle_antisymm (m _ _ w' d') (m' _ _ w d)
end
abbrev Entry := Ent (List (List Int))
end Go.Proofs.YtojoehfldbimpaaDoor.Pl
