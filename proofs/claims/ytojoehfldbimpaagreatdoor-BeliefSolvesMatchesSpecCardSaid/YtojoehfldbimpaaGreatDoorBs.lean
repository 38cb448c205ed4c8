/- Breadth-first search, in plain Lean: what the search gives is the least of the shortest ways. No condition. -/
import Derived.Test.YtojoehfldbimpaaGreatDoorPl5
namespace Go.Proofs.YtojoehfldbimpaaGreatDoor.Pl
/-! ### the order of ways: by length, then number by number -/
def lexlt : List Int → List Int → Prop
  | [], _ => False
  | _ :: _, [] => False
  | x :: r, y :: q => x < y ∨ (x = y ∧ lexlt r q)
def slt (p q : List Int) : Prop := p.length < q.length ∨ (p.length = q.length ∧ lexlt p q)
def sle (p q : List Int) : Prop := p = q ∨ slt p q
theorem lexlt_app : ∀ p q r s : List Int, lexlt p q → lexlt (p ++ r) (q ++ s)
  | [], _, _, _, h => h.elim
  | _ :: _, [], _, _, h => h.elim
  | _ :: a, _ :: b, r, s, h => h.imp id fun ⟨e, k⟩ => ⟨e, lexlt_app a b r s k⟩
theorem lexlt_same : ∀ (p r s : List Int), lexlt r s → lexlt (p ++ r) (p ++ s)
  | [], _, _, h => h
  | _ :: a, r, s, h => .inr ⟨rfl, lexlt_same a r s h⟩
theorem sle_len {p q : List Int} (h : sle p q) : p.length ≤ q.length := by
  rcases h with rfl | h | ⟨h, _⟩ <;> omega
theorem slt_snoc {p q : List Int} (x y : Int) (h : slt p q) : slt (p ++ [x]) (q ++ [y]) := by
  rcases h with h | ⟨e, h⟩
  · exact .inl (by simp; omega)
  · exact .inr ⟨by simp [e], lexlt_app _ _ _ _ h⟩
theorem slt_snoc_same (p : List Int) {x y : Int} (h : x < y) : slt (p ++ [x]) (p ++ [y]) := .inr ⟨by simp, lexlt_same p _ _ (.inl h)⟩
section
variable {N : Type}
/-- an entry of the queue: a node, where it was come upon, by which step -/
structure Ent (N : Type) where
  node : N
  from_ : Int
  step : Int
  deriving DecidableEq, Inhabited
/-- the steps from an entry back to the first -/
def backR (q : List (Ent N)) : Nat → Int → List Int
  | 0, _ => []
  | k + 1, i => match q[i.toNat]? with
    | some e => if e.from_ < 0 then [] else e.step :: backR q k e.from_
    | none => []
def pathTo (q : List (Ent N)) (i : Nat) : List Int := (backR q (i + 1) i).reverse
/-- a way -/
def Way (succ : N → List (Int × N)) : N → List Int → N → Prop
  | u, [], v => u = v
  | u, o :: p, v => ∃ x, (o, x) ∈ succ u ∧ Way succ x p v
/-- the queue's shape: entry 0 is the start; each other entry comes of one ahead of it; nodes differ -/
structure Shape (succ : N → List (Int × N)) (start : N) (q : List (Ent N)) : Prop where
  head : q[0]? = some ⟨start, -1, 0⟩
  link : ∀ i e, q[i]? = some e → 0 < i → ∃ (j : Nat) (u : Ent N), e.from_ = (j : Int) ∧ j < i ∧ q[j]? = some u ∧ (e.step, e.node) ∈ succ u.node
  nodup : (q.map (·.node)).Nodup
theorem Shape.len {succ : N → List (Int × N)} {start : N} {q : List (Ent N)} (h : Shape succ start q) : 0 < q.length := by
  have := h.head
  cases q with
  | nil => simp at this
  | cons a r => simp
theorem Shape.start (succ : N → List (Int × N)) (start : N) : Shape succ start [⟨start, -1, 0⟩] :=
  ⟨rfl, fun i e h hi => by cases i with
    | zero => omega
    | succ i => simp at h, by simp⟩
/-- the fuel of a way back does not matter -/
theorem backR_fuel {succ : N → List (Int × N)} {start : N} {q : List (Ent N)} (h : Shape succ start q) : ∀ (i k : Nat), i < q.length → i < k → backR q k i = backR q (i + 1) i := by
  intro i
  induction i using Nat.strongRecOn with
  | _ i ih =>
    intro k hi hk
    obtain ⟨k, rfl⟩ : ∃ k', k = k' + 1 := ⟨k - 1, by omega⟩
    have hq : q[((i : Nat) : Int).toNat]? = some q[i] := by simp [hi]
    simp only [backR, hq]
    split
    · rfl
    · rename_i hf
      by_cases h0 : 0 < i
      · obtain ⟨j, u, e1, e2, e3, _⟩ := h.link i q[i] (List.getElem?_eq_getElem hi) h0
        rw [e1, ih j e2 k (by omega) (by omega), ih j e2 i (by omega) (by omega)]
      · have : i = 0 := by omega
        subst this
        have h1 := h.head
        rw [List.getElem?_eq_getElem hi] at h1
        obtain e := Option.some.inj h1
        rw [e] at hf
        exact absurd (by decide : (-1 : Int) < 0) hf
theorem path_zero {succ : N → List (Int × N)} {start : N} {q : List (Ent N)} (h : Shape succ start q) : pathTo q 0 = [] := by
  unfold pathTo
  have : q[((0 : Nat) : Int).toNat]? = some ⟨start, -1, 0⟩ := h.head
  simp only [backR, this]
  rfl
theorem path_link {succ : N → List (Int × N)} {start : N} {q : List (Ent N)} (h : Shape succ start q) {i j : Nat} {e : Ent N} (hi : q[i]? = some e) (hf : e.from_ = (j : Int)) (hj : j < i) : pathTo q i = pathTo q j ++ [e.step] := by
  have hil := (List.getElem?_eq_some_iff.1 hi).1
  unfold pathTo
  have e1 : backR q (i + 1) i = e.step :: backR q i j := by
    have : q[((i : Nat) : Int).toNat]? = some e := by simpa using hi
    simp only [backR, this, hf]
    rw [if_neg (by omega)]
  rw [e1, backR_fuel h j i (by omega) hj]
  simp
/-- what lies in front stays as it is -/
theorem backR_app {succ : N → List (Int × N)} {start : N} {q : List (Ent N)} (h : Shape succ start q) (r : List (Ent N)) : ∀ (k i : Nat), i < q.length → backR (q ++ r) k i = backR q k i := by
  intro k
  induction k with
  | zero => intros; rfl
  | succ k ih =>
    intro i hi
    have e1 : (q ++ r)[((i : Nat) : Int).toNat]? = q[((i : Nat) : Int).toNat]? := List.getElem?_append_left (by simpa using hi)
    simp only [backR, e1]
    have hq : q[((i : Nat) : Int).toNat]? = some q[i] := by simp [hi]
    simp only [hq]
    split
    · rfl
    · rename_i hf
      by_cases h0 : 0 < i
      · obtain ⟨j, u, e1, e2, e3, _⟩ := h.link i q[i] (List.getElem?_eq_getElem hi) h0
        rw [e1, ih j (by omega)]
      · have : i = 0 := by omega
        subst this
        have h1 := h.head
        rw [List.getElem?_eq_getElem hi] at h1
        rw [Option.some.inj h1] at hf
        exact absurd (by decide : (-1 : Int) < 0) hf
theorem path_app {succ : N → List (Int × N)} {start : N} {q : List (Ent N)} (h : Shape succ start q) (r : List (Ent N)) {i : Nat} (hi : i < q.length) : pathTo (q ++ r) i = pathTo q i := by
  unfold pathTo
  rw [backR_app h r _ _ hi]
theorem Shape.push {succ : N → List (Int × N)} {start : N} {q : List (Ent N)} (h : Shape succ start q) {j : Nat} {u : Ent N} {s : Int} {n : N} (hj : q[j]? = some u) (hs : (s, n) ∈ succ u.node) (hn : n ∉ q.map (·.node)) : Shape succ start (q ++ [⟨n, j, s⟩]) := by
  have hl := h.len
  refine ⟨by rw [List.getElem?_append_left hl]; exact h.head, fun i e hi h0 => ?_, ?_⟩
  · by_cases hlt : i < q.length
    · rw [List.getElem?_append_left hlt] at hi
      obtain ⟨a, b, e1, e2, e3, e4⟩ := h.link i e hi h0
      exact ⟨a, b, e1, e2, by rw [List.getElem?_append_left (by omega)]; exact e3, e4⟩
    · rw [List.getElem?_append_right (by omega)] at hi
      have hjl := (List.getElem?_eq_some_iff.1 hj).1
      have : i - q.length = 0 := by
        have := (List.getElem?_eq_some_iff.1 hi).1
        simp at this; omega
      rw [this] at hi
      simp at hi
      subst hi
      exact ⟨j, u, rfl, by omega, by rw [List.getElem?_append_left hjl]; exact hj, hs⟩
  · rw [List.map_append, List.nodup_append]
    refine ⟨h.nodup, by simp, fun a ha b hb => ?_⟩
    simp at hb
    subst hb
    exact fun e => hn (e ▸ ha)
/-- the successors that are new go to the end; none if there are too many -/
def expand [DecidableEq N] (at_ : Int) : List (Int × N) → List (Ent N) → Option (List (Ent N))
  | [], q => some q
  | (s, n) :: r, q => if n ∈ q.map (·.node) then expand at_ r q else if q.length = 2000 then none else expand at_ r (q ++ [⟨n, at_, s⟩])
def bfs [DecidableEq N] (succ : N → List (Int × N)) (done : N → Bool) : Nat → List (Ent N) → Nat → List Int × Bool × Bool
  | 0, _, _ => ([], false, true)
  | k + 1, q, i => match q[i]? with
    | none => ([], false, true)
    | some e => if done e.node = true then (pathTo q i, true, true) else match expand i (succ e.node) q with
      | none => ([], false, false)
      | some q' => bfs succ done k q' (i + 1)
def search [DecidableEq N] (succ : N → List (Int × N)) (done : N → Bool) (start : N) : List Int × Bool × Bool := bfs succ done 2001 [⟨start, -1, 0⟩] 0
/-- what one node's expansion leaves -/
theorem expand_spec [DecidableEq N] {succ : N → List (Int × N)} {start : N} {i : Nat} {u : Ent N} : ∀ (l : List (Int × N)) (q q' : List (Ent N)), Shape succ start q → q[i]? = some u → (∀ x ∈ l, x ∈ succ u.node) → q.length ≤ 2000 → expand i l q = some q' → Shape succ start q' ∧ (∃ r, q' = q ++ r) ∧ (∀ x ∈ l, x.2 ∈ q'.map (·.node)) ∧ q'.length ≤ 2000
  | [], q, q', h, _, _, h2, he => by
    cases he
    exact ⟨h, ⟨[], by simp⟩, by simp, h2⟩
  | (s, n) :: l, q, q', h, hu, hl, h2, he => by
    simp only [expand] at he
    split at he
    · rename_i hn
      obtain ⟨g1, ⟨r, rfl⟩, g3, g4⟩ := expand_spec l q q' h hu (fun x hx => hl x (List.mem_cons_of_mem _ hx)) h2 he
      refine ⟨g1, ⟨r, rfl⟩, fun x hx => ?_, g4⟩
      rcases List.mem_cons.1 hx with rfl | hx
      · rw [List.map_append]; exact List.mem_append_left _ hn
      · exact g3 x hx
    · rename_i hn
      split at he
      · cases he
      · rename_i h2000
        have hil := (List.getElem?_eq_some_iff.1 hu).1
        have h' := h.push hu (hl _ List.mem_cons_self) hn
        obtain ⟨g1, ⟨r, rfl⟩, g3, g4⟩ := expand_spec l _ q' h' (by rw [List.getElem?_append_left hil]; exact hu) (fun x hx => hl x (List.mem_cons_of_mem _ hx)) (by simp; omega) he
        refine ⟨g1, ⟨[⟨n, i, s⟩] ++ r, by simp⟩, fun x hx => ?_, g4⟩
        rcases List.mem_cons.1 hx with rfl | hx
        · simp
        · exact g3 x hx
/-- the queue's order, while node i is expanded and steps below o are done -/
structure Ord (succ : N → List (Int × N)) (start : N) (i : Nat) (o : Int → Prop) (q : List (Ent N)) : Prop where
  shape : Shape succ start q
  inc : ∀ a b, a < b → b < q.length → slt (pathTo q a) (pathTo q b)
  late : ∀ (a : Nat) (e : Ent N), 0 < a → q[a]? = some e → e.from_ ≤ (i : Int) ∧ (e.from_ = (i : Int) → o e.step)
theorem Ord.below {succ : N → List (Int × N)} {start : N} {i : Nat} {o : Int → Prop} {q : List (Ent N)} (h : Ord succ start i o q) (hi : i < q.length) {s : Int} (hs : ∀ x, o x → x < s) {k : Nat} (hk : k < q.length) : slt (pathTo q k) (pathTo q i ++ [s]) := by
  by_cases h0 : 0 < k
  · obtain ⟨a, u, e1, e2, e3, _⟩ := h.shape.link k q[k] (List.getElem?_eq_getElem hk) h0
    obtain ⟨g1, g2⟩ := h.late k q[k] h0 (List.getElem?_eq_getElem hk)
    rw [path_link h.shape (List.getElem?_eq_getElem hk) e1 e2]
    rw [e1] at g1 g2
    by_cases ha : a < i
    · exact slt_snoc _ _ (h.inc a i ha hi)
    · have : a = i := by omega
      subst this
      exact slt_snoc_same _ (hs _ (g2 rfl))
  · have : k = 0 := by omega
    subst this
    rw [path_zero h.shape]
    exact .inl (by simp)
theorem expand_ord [DecidableEq N] {succ : N → List (Int × N)} {start : N} {i : Nat} {u : Ent N} : ∀ (l : List (Int × N)) (o : Int → Prop) (q q' : List (Ent N)), Ord succ start i o q → q[i]? = some u → (∀ x ∈ l, x ∈ succ u.node) → (l.map (·.1)).Pairwise (· < ·) → (∀ x y, o x → y ∈ l → x < y.1) → q.length ≤ 2000 → expand i l q = some q' →
    Ord succ start i (fun x => o x ∨ x ∈ l.map (·.1)) q' ∧ (∃ r, q' = q ++ r) ∧ (∀ x ∈ l, ∃ (k : Nat) (e : Ent N), q'[k]? = some e ∧ e.node = x.2 ∧ sle (pathTo q' k) (pathTo q' i ++ [x.1]))
  | [], o, q, q', h, _, _, _, _, _, he => by
    cases he
    refine ⟨⟨h.shape, h.inc, fun a e ha hq => ?_⟩, ⟨[], by simp⟩, fun x hx => (by cases hx)⟩
    obtain ⟨g1, g2⟩ := h.late a e ha hq
    exact ⟨g1, fun k => .inl (g2 k)⟩
  | (s, n) :: l, o, q, q', h, hu, hl, hp, ho, h2, he => by
    have hil := (List.getElem?_eq_some_iff.1 hu).1
    have hos : ∀ x, o x → x < s := fun x hx => ho x (s, n) hx List.mem_cons_self
    simp only [List.map_cons, List.pairwise_cons] at hp
    have hw : ∀ {q1 : List (Ent N)}, Ord succ start i o q1 → Ord succ start i (fun x => o x ∨ x = s) q1 := fun h => ⟨h.shape, h.inc, fun a e ha hq => ⟨(h.late a e ha hq).1, fun k => .inl ((h.late a e ha hq).2 k)⟩⟩
    have ho' : ∀ x y, (o x ∨ x = s) → y ∈ l → x < y.1 := fun x y hx hy => by
      rcases hx with hx | rfl
      · exact ho x y hx (List.mem_cons_of_mem _ hy)
      · exact hp.1 _ (List.mem_map_of_mem hy)
    have fin : ∀ {q1 : List (Ent N)}, Ord succ start i (fun x => (o x ∨ x = s) ∨ x ∈ l.map (·.1)) q1 → Ord succ start i (fun x => o x ∨ x ∈ ((s, n) :: l).map (·.1)) q1 := fun h => ⟨h.shape, h.inc, fun a e ha hq => ⟨(h.late a e ha hq).1, fun k => by
      rcases (h.late a e ha hq).2 k with (g | g) | g
      · exact .inl g
      · exact .inr (by rw [g]; simp)
      · exact .inr (List.mem_cons_of_mem _ g)⟩⟩
    simp only [expand] at he
    split at he
    · rename_i hn
      obtain ⟨g1, ⟨r, rfl⟩, g3⟩ := expand_ord l (fun x => o x ∨ x = s) q q' (hw h) hu (fun x hx => hl x (List.mem_cons_of_mem _ hx)) hp.2 ho' h2 he
      refine ⟨fin g1, ⟨r, rfl⟩, fun x hx => ?_⟩
      rcases List.mem_cons.1 hx with rfl | hx
      · obtain ⟨e, he1, he2⟩ := List.mem_map.1 hn
        obtain ⟨k, hk, rfl⟩ := List.mem_iff_getElem.1 he1
        refine ⟨k, q[k], by rw [List.getElem?_append_left hk]; exact List.getElem?_eq_getElem hk, he2, .inr ?_⟩
        rw [path_app h.shape r hk, path_app h.shape r hil]
        exact h.below hil hos hk
      · exact g3 x hx
    · rename_i hn
      split at he
      · cases he
      · rename_i h2000
        have h' := h.shape.push hu (hl _ List.mem_cons_self) hn
        have hu' : (q ++ [⟨n, (i : Int), s⟩])[i]? = some u := by rw [List.getElem?_append_left hil]; exact hu
        have hq' : (q ++ [(⟨n, (i : Int), s⟩ : Ent N)])[q.length]? = some ⟨n, (i : Int), s⟩ := by simp
        have hlast : pathTo (q ++ [⟨n, (i : Int), s⟩]) q.length = pathTo q i ++ [s] := by
          rw [path_link h' hq' rfl hil, path_app h.shape _ hil]
        have ord' : Ord succ start i (fun x => o x ∨ x = s) (q ++ [⟨n, (i : Int), s⟩]) := by
          refine ⟨h', fun a b hab hb => ?_, fun a e ha hq => ?_⟩
          · simp at hb
            rw [path_app h.shape _ (show a < q.length by omega)]
            by_cases hbl : b < q.length
            · rw [path_app h.shape _ hbl]; exact h.inc a b hab hbl
            · have : b = q.length := by omega
              subst this
              rw [hlast]
              exact h.below hil hos (by omega)
          · by_cases hal : a < q.length
            · rw [List.getElem?_append_left hal] at hq
              exact ⟨(h.late a e ha hq).1, fun k => .inl ((h.late a e ha hq).2 k)⟩
            · have hal2 := (List.getElem?_eq_some_iff.1 hq).1
              simp at hal2
              have : a = q.length := by omega
              subst this
              rw [hq'] at hq
              cases hq
              exact ⟨Int.le_refl _, fun _ => .inr rfl⟩
        obtain ⟨g1, ⟨r, rfl⟩, g3⟩ := expand_ord l (fun x => o x ∨ x = s) _ q' ord' hu' (fun x hx => hl x (List.mem_cons_of_mem _ hx)) hp.2 ho' (by simp; omega) he
        refine ⟨fin g1, ⟨[⟨n, (i : Int), s⟩] ++ r, by simp⟩, fun x hx => ?_⟩
        rcases List.mem_cons.1 hx with rfl | hx
        · refine ⟨q.length, ⟨n, (i : Int), s⟩, by rw [List.getElem?_append_left (by simp)]; exact hq', rfl, .inl ?_⟩
          rw [path_app h' r (by simp), hlast, path_app h' r (by simp; omega), path_app h.shape _ hil]
        · exact g3 x hx
/-- nodes ahead of i are expanded -/
def Comp (succ : N → List (Int × N)) (q : List (Ent N)) (i : Nat) : Prop := ∀ (j : Nat) (u : Ent N), j < i → q[j]? = some u → ∀ x ∈ succ u.node, ∃ (k : Nat) (e : Ent N), q[k]? = some e ∧ e.node = x.2 ∧ sle (pathTo q k) (pathTo q j ++ [x.1])
structure BInv (succ : N → List (Int × N)) (start : N) (q : List (Ent N)) (i : Nat) : Prop where
  ord : Ord succ start i (fun _ => False) q
  comp : Comp succ q i
  len : q.length ≤ 2000
  le : i ≤ q.length
theorem BInv.start (succ : N → List (Int × N)) (start : N) : BInv succ start [⟨start, -1, 0⟩] 0 :=
  ⟨⟨Shape.start succ start, fun a b hab hb => by simp at hb; omega, fun a e ha hq => by cases a with
    | zero => omega
    | succ a => simp at hq⟩, fun j u hj => by omega, by simp, by simp⟩
theorem BInv.next [DecidableEq N] {succ : N → List (Int × N)} (hs : ∀ n, ((succ n).map (·.1)).Pairwise (· < ·)) {start : N} {q q' : List (Ent N)} {i : Nat} {u : Ent N} (h : BInv succ start q i) (hu : q[i]? = some u) (he : expand i (succ u.node) q = some q') : BInv succ start q' (i + 1) ∧ ∃ r, q' = q ++ r := by
  have hil := (List.getElem?_eq_some_iff.1 hu).1
  obtain ⟨g1, ⟨r, rfl⟩, g3⟩ := expand_ord (succ u.node) (fun _ => False) q q' h.ord hu (fun x hx => hx) (hs _) (fun _ _ k => k.elim) h.len he
  obtain ⟨k1, _, _, k4⟩ := expand_spec (succ u.node) q _ h.ord.shape hu (fun x hx => hx) h.len he
  refine ⟨⟨⟨k1, g1.inc, fun a e ha hq => ?_⟩, fun j v hj hv x hx => ?_, k4, by simp; omega⟩, r, rfl⟩
  · have := (g1.late a e ha hq).1
    exact ⟨by omega, fun k => by omega⟩
  · by_cases hji : j < i
    · rw [List.getElem?_append_left (by omega)] at hv
      obtain ⟨k, e, e1, e2, e3⟩ := h.comp j v hji hv x hx
      have hkl := (List.getElem?_eq_some_iff.1 e1).1
      refine ⟨k, e, by rw [List.getElem?_append_left hkl]; exact e1, e2, ?_⟩
      rw [path_app h.ord.shape r hkl, path_app h.ord.shape r (by omega)]
      exact e3
    · have : j = i := by omega
      subst this
      rw [List.getElem?_append_left hil, hu] at hv
      cases hv
      exact g3 x hx
/-- what the search gives -/
def Least (succ : N → List (Int × N)) (done : N → Bool) (start : N) (p : List Int) : Prop := (∃ v, Way succ start p v ∧ done v = true) ∧ ∀ p' v', Way succ start p' v' → done v' = true → sle p p'
end
abbrev Entry := Ent (List (List Int))
end Go.Proofs.YtojoehfldbimpaaGreatDoor.Pl

