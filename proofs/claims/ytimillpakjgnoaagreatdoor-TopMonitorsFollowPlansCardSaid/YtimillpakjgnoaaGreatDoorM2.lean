import Derived.Test.YtimillpakjgnoaaGreatDoorM1
import Derived.Lib.SlicesCompact
import Derived.Test.YtimillpakjgnoaaGreatDoorRows
import Derived.ChangeKeysEq
import Derived.Laws.Bits64
import Derived.Shelf.Sort.Plain
import Derived.Shelf.Slices.In.SortNone
import Derived.Shelf.Slices.CompactI
import Derived.Lib.RowBridge
import Derived.Ground.Names2Prog
namespace Go.Proofs.YtimillpakjgnoaaGreatDoor.Pl
def lexlt : List Int → List Int → Prop
 | [], _ => False
 | _ :: _, [] => False
 | x :: r, y :: q => x < y ∨ (x = y ∧ lexlt r q)
def slt (p q : List Int) : Prop := p.length < q.length ∨ (p.length = q.length ∧ lexlt p q)
def sle (p q : List Int) : Prop := p = q ∨ slt p q
theorem lexlt_irr : ∀ p : List Int, ¬ lexlt p p
 | [], h => h
 | x :: r, h => by
  rcases h with h | ⟨_, h⟩
  ·exact absurd h (Int.lt_irrefl _)
  ·exact lexlt_irr r h
theorem lexlt_trans : ∀ p q r : List Int, lexlt p q → lexlt q r → lexlt p r
 | [], _, _, h, _ => h.elim
 | _ :: _, [], _, h, _ => h.elim
 | _ :: _, _ :: _, [], _, h => h.elim
 | x :: a, y :: b, z :: c, h, g => by
  rcases h with h | ⟨rfl, h⟩
  ·rcases g with g | ⟨rfl, g⟩
   ·exact .inl (Int.lt_trans h g)
   ·exact .inl h
  ·rcases g with g | ⟨rfl, g⟩
   ·exact .inl g
   ·exact .inr ⟨rfl, lexlt_trans a b c h g⟩
theorem lexlt_app : ∀ p q r s : List Int, lexlt p q → lexlt (p ++ r) (q ++ s)
 | [], _, _, _, h => h.elim
 | _ :: _, [], _, _, h => h.elim
 | _ :: a, _ :: b, r, s, h => h.imp id fun ⟨e, k⟩ => ⟨e, lexlt_app a b r s k⟩
theorem lexlt_same : ∀ (p r s : List Int), lexlt r s → lexlt (p ++ r) (p ++ s)
 | [], _, _, h => h
 | _ :: a, r, s, h => .inr ⟨rfl, lexlt_same a r s h⟩
theorem slt_irr (p : List Int) : ¬ slt p p := fun h => by
 rcases h with h | ⟨_, h⟩
 ·omega
 ·exact lexlt_irr p h
theorem slt_trans {p q r : List Int} (h : slt p q) (g : slt q r) : slt p r := by
 rcases h with h | ⟨e, h⟩
 ·rcases g with g | ⟨e', _⟩ <;> exact .inl (by omega)
 ·rcases g with g | ⟨e', g⟩
  ·exact .inl (by omega)
  ·exact .inr ⟨by omega, lexlt_trans _ _ _ h g⟩
theorem sle_antisymm {p q : List Int} (h : sle p q) (g : sle q p) : p = q := by
 rcases h with h | h
 ·exact h
 ·rcases g with g | g
  ·exact g.symm
  ·exact absurd (slt_trans h g) (slt_irr p)
theorem slt_snoc {p q : List Int} (x y : Int) (h : slt p q) : slt (p ++ [x]) (q ++ [y]) := by
 rcases h with h | ⟨e, h⟩
 ·exact .inl (by simp; omega)
 ·exact .inr ⟨by simp [e], lexlt_app _ _ _ _ h⟩
theorem slt_snoc_same (p : List Int) {x y : Int} (h : x < y) : slt (p ++ [x]) (p ++ [y]) := .inr ⟨by simp, lexlt_same p _ _ (.inl h)⟩
section
variable {N : Type}
structure Ent (N : Type) where
 node : N
 from_ : Int
 step : Int
 deriving DecidableEq, Inhabited
def backR (q : List (Ent N)) : Nat → Int → List Int
 | 0, _ => []
 | k + 1, i => match q[i.toNat]? with
  | some e => if e.from_ < 0 then [] else e.step :: backR q k e.from_
  | none => []
def pathTo (q : List (Ent N)) (i : Nat) : List Int := (backR q (i + 1) i).reverse
def Way (succ : N → List (Int × N)) : N → List Int → N → Prop
 | u, [], v => u = v
 | u, o :: p, v => ∃ x, (o, x) ∈ succ u ∧ Way succ x p v
structure Shape (succ : N → List (Int × N)) (start : N) (q : List (Ent N)) : Prop where
 head : q[0]? = some ⟨start, -1, 0⟩
 link : ∀ i e, q[i]? = some e → 0 < i → ∃ (j : Nat) (u : Ent N), e.from_ = (j : Int) ∧ j < i ∧ q[j]? = some u ∧ (e.step, e.node) ∈ succ u.node
 nodup : (q.map (·.node)).Nodup
theorem Shape.len {succ : N → List (Int × N)} {start : N} {q : List (Ent N)} (h : Shape succ start q) : 0 < q.length := by
 have := h.head
 cases q with
 | nil => simp at this
 | cons a r => simp
theorem Shape.start (succ : N → List (Int × N)) (start : N) : Shape succ start [⟨start, -1, 0⟩] :=
 ⟨rfl, fun i e h hi => by cases i with
  | zero => omega
  | succ i => simp at h, by simp⟩
theorem backR_fuel {succ : N → List (Int × N)} {start : N} {q : List (Ent N)} (h : Shape succ start q) : ∀ (i k : Nat), i < q.length → i < k → backR q k i = backR q (i + 1) i := by
 intro i
 induction i using Nat.strongRecOn with
 | _ i ih =>
  intro k hi hk
  obtain ⟨k, rfl⟩ : ∃ k', k = k' + 1 := ⟨k - 1, by omega⟩
  have hq : q[((i : Nat) : Int).toNat]? = some q[i] := by simp [hi]
  simp only [backR, hq]
  split
  ·rfl
  ·rename_i hf
   by_cases h0 : 0 < i
   ·obtain ⟨j, u, e1, e2, e3, _⟩ := h.link i q[i] (List.getElem?_eq_getElem hi) h0
    rw [e1, ih j e2 k (by omega) (by omega), ih j e2 i (by omega) (by omega)]
   ·have : i = 0 := by omega
    subst this
    have h1 := h.head
    rw [List.getElem?_eq_getElem hi] at h1
    obtain e := Option.some.inj h1
    rw [e] at hf
    exact absurd (by decide : (-1 : Int) < 0) hf
theorem path_zero {succ : N → List (Int × N)} {start : N} {q : List (Ent N)} (h : Shape succ start q) : pathTo q 0 = [] := by
 unfold pathTo
 have : q[((0 : Nat) : Int).toNat]? = some ⟨start, -1, 0⟩ := h.head
 simp only [backR, this]
 rfl
theorem path_link {succ : N → List (Int × N)} {start : N} {q : List (Ent N)} (h : Shape succ start q) {i j : Nat} {e : Ent N} (hi : q[i]? = some e) (hf : e.from_ = (j : Int)) (hj : j < i) : pathTo q i = pathTo q j ++ [e.step] := by
 have hil := (List.getElem?_eq_some_iff.1 hi).1
 unfold pathTo
 have e1 : backR q (i + 1) i = e.step :: backR q i j := by
  have : q[((i : Nat) : Int).toNat]? = some e := by simpa using hi
  simp only [backR, this, hf]
  rw [if_neg (by omega)]
 rw [e1, backR_fuel h j i (by omega) hj]
 simp
theorem backR_app {succ : N → List (Int × N)} {start : N} {q : List (Ent N)} (h : Shape succ start q) (r : List (Ent N)) : ∀ (k i : Nat), i < q.length → backR (q ++ r) k i = backR q k i := by
 intro k
 induction k with
 | zero => intros; rfl
 | succ k ih =>
  intro i hi
  have e1 : (q ++ r)[((i : Nat) : Int).toNat]? = q[((i : Nat) : Int).toNat]? := List.getElem?_append_left (by simpa using hi)
  simp only [backR, e1]
  have hq : q[((i : Nat) : Int).toNat]? = some q[i] := by simp [hi]
  simp only [hq]
  split
  ·rfl
  ·rename_i hf
   by_cases h0 : 0 < i
   ·obtain ⟨j, u, e1, e2, e3, _⟩ := h.link i q[i] (List.getElem?_eq_getElem hi) h0
    rw [e1, ih j (by omega)]
   ·have : i = 0 := by omega
    subst this
    have h1 := h.head
    rw [List.getElem?_eq_getElem hi] at h1
    rw [Option.some.inj h1] at hf
    exact absurd (by decide : (-1 : Int) < 0) hf
theorem path_app {succ : N → List (Int × N)} {start : N} {q : List (Ent N)} (h : Shape succ start q) (r : List (Ent N)) {i : Nat} (hi : i < q.length) : pathTo (q ++ r) i = pathTo q i := by
 unfold pathTo
 rw [backR_app h r _ _ hi]
theorem Shape.push {succ : N → List (Int × N)} {start : N} {q : List (Ent N)} (h : Shape succ start q) {j : Nat} {u : Ent N} {s : Int} {n : N} (hj : q[j]? = some u) (hs : (s, n) ∈ succ u.node) (hn : n ∉ q.map (·.node)) : Shape succ start (q ++ [⟨n, j, s⟩]) := by
 have hl := h.len
 refine ⟨by rw [List.getElem?_append_left hl]; exact h.head, fun i e hi h0 => ?_, ?_⟩
 ·by_cases hlt : i < q.length
  ·rw [List.getElem?_append_left hlt] at hi
   obtain ⟨a, b, e1, e2, e3, e4⟩ := h.link i e hi h0
   exact ⟨a, b, e1, e2, by rw [List.getElem?_append_left (by omega)]; exact e3, e4⟩
  ·rw [List.getElem?_append_right (by omega)] at hi
   have hjl := (List.getElem?_eq_some_iff.1 hj).1
   have : i - q.length = 0 := by
    have := (List.getElem?_eq_some_iff.1 hi).1
    simp at this; omega
   rw [this] at hi
   simp at hi
   subst hi
   exact ⟨j, u, rfl, by omega, by rw [List.getElem?_append_left hjl]; exact hj, hs⟩
 ·rw [List.map_append, List.nodup_append]
  refine ⟨h.nodup, by simp, fun a ha b hb => ?_⟩
  simp at hb
  subst hb
  exact fun e => hn (e ▸ ha)
def expand [DecidableEq N] (at_ : Int) : List (Int × N) → List (Ent N) → Option (List (Ent N))
 | [], q => some q
 | (s, n) :: r, q => if n ∈ q.map (·.node) then expand at_ r q else if q.length = 2000 then none else expand at_ r (q ++ [⟨n, at_, s⟩])
def bfs [DecidableEq N] (succ : N → List (Int × N)) (done : N → Bool) : Nat → List (Ent N) → Nat → List Int × Bool × Bool
 | 0, _, _ => ([], false, true)
 | k + 1, q, i => match q[i]? with
  | none => ([], false, true)
  | some e => if done e.node = true then (pathTo q i, true, true) else match expand i (succ e.node) q with
   | none => ([], false, false)
   | some q' => bfs succ done k q' (i + 1)
def search [DecidableEq N] (succ : N → List (Int × N)) (done : N → Bool) (start : N) : List Int × Bool × Bool := bfs succ done 2001 [⟨start, -1, 0⟩] 0
theorem expand_spec [DecidableEq N] {succ : N → List (Int × N)} {start : N} {i : Nat} {u : Ent N} : ∀ (l : List (Int × N)) (q q' : List (Ent N)), Shape succ start q → q[i]? = some u → (∀ x ∈ l, x ∈ succ u.node) → q.length ≤ 2000 → expand i l q = some q' → Shape succ start q' ∧ (∃ r, q' = q ++ r) ∧ (∀ x ∈ l, x.2 ∈ q'.map (·.node)) ∧ q'.length ≤ 2000
 | [], q, q', h, _, _, h2, he => by
  cases he
  exact ⟨h, ⟨[], by simp⟩, by simp, h2⟩
 | (s, n) :: l, q, q', h, hu, hl, h2, he => by
  simp only [expand] at he
  split at he
  ·rename_i hn
   obtain ⟨g1, ⟨r, rfl⟩, g3, g4⟩ := expand_spec l q q' h hu (fun x hx => hl x (List.mem_cons_of_mem _ hx)) h2 he
   refine ⟨g1, ⟨r, rfl⟩, fun x hx => ?_, g4⟩
   rcases List.mem_cons.1 hx with rfl | hx
   ·rw [List.map_append]; exact List.mem_append_left _ hn
   ·exact g3 x hx
  ·rename_i hn
   split at he
   ·cases he
   ·rename_i h2000
    have hil := (List.getElem?_eq_some_iff.1 hu).1
    have h' := h.push hu (hl _ List.mem_cons_self) hn
    obtain ⟨g1, ⟨r, rfl⟩, g3, g4⟩ := expand_spec l _ q' h' (by rw [List.getElem?_append_left hil]; exact hu) (fun x hx => hl x (List.mem_cons_of_mem _ hx)) (by simp; omega) he
    refine ⟨g1, ⟨[⟨n, i, s⟩] ++ r, by simp⟩, fun x hx => ?_, g4⟩
    rcases List.mem_cons.1 hx with rfl | hx
    ·simp
    ·exact g3 x hx
structure Ord (succ : N → List (Int × N)) (start : N) (i : Nat) (o : Int → Prop) (q : List (Ent N)) : Prop where
 shape : Shape succ start q
 inc : ∀ a b, a < b → b < q.length → slt (pathTo q a) (pathTo q b)
 late : ∀ (a : Nat) (e : Ent N), 0 < a → q[a]? = some e → e.from_ ≤ (i : Int) ∧ (e.from_ = (i : Int) → o e.step)
theorem Ord.below {succ : N → List (Int × N)} {start : N} {i : Nat} {o : Int → Prop} {q : List (Ent N)} (h : Ord succ start i o q) (hi : i < q.length) {s : Int} (hs : ∀ x, o x → x < s) {k : Nat} (hk : k < q.length) : slt (pathTo q k) (pathTo q i ++ [s]) := by
 by_cases h0 : 0 < k
 ·obtain ⟨a, u, e1, e2, e3, _⟩ := h.shape.link k q[k] (List.getElem?_eq_getElem hk) h0
  obtain ⟨g1, g2⟩ := h.late k q[k] h0 (List.getElem?_eq_getElem hk)
  rw [path_link h.shape (List.getElem?_eq_getElem hk) e1 e2]
  rw [e1] at g1 g2
  by_cases ha : a < i
  ·exact slt_snoc _ _ (h.inc a i ha hi)
  ·have : a = i := by omega
   subst this
   exact slt_snoc_same _ (hs _ (g2 rfl))
 ·have : k = 0 := by omega
  subst this
  rw [path_zero h.shape]
  exact .inl (by simp)
theorem expand_ord [DecidableEq N] {succ : N → List (Int × N)} {start : N} {i : Nat} {u : Ent N} : ∀ (l : List (Int × N)) (o : Int → Prop) (q q' : List (Ent N)), Ord succ start i o q → q[i]? = some u → (∀ x ∈ l, x ∈ succ u.node) → (l.map (·.1)).Pairwise (· < ·) → (∀ x y, o x → y ∈ l → x < y.1) → q.length ≤ 2000 → expand i l q = some q' →
  Ord succ start i (fun x => o x ∨ x ∈ l.map (·.1)) q' ∧ (∃ r, q' = q ++ r) ∧ (∀ x ∈ l, ∃ (k : Nat) (e : Ent N), q'[k]? = some e ∧ e.node = x.2 ∧ sle (pathTo q' k) (pathTo q' i ++ [x.1]))
 | [], o, q, q', h, _, _, _, _, _, he => by
  cases he
  refine ⟨⟨h.shape, h.inc, fun a e ha hq => ?_⟩, ⟨[], by simp⟩, fun x hx => (by cases hx)⟩
  obtain ⟨g1, g2⟩ := h.late a e ha hq
  exact ⟨g1, fun k => .inl (g2 k)⟩
 | (s, n) :: l, o, q, q', h, hu, hl, hp, ho, h2, he => by
  have hil := (List.getElem?_eq_some_iff.1 hu).1
  have hos : ∀ x, o x → x < s := fun x hx => ho x (s, n) hx List.mem_cons_self
  simp only [List.map_cons, List.pairwise_cons] at hp
  have hw : ∀ {q1 : List (Ent N)}, Ord succ start i o q1 → Ord succ start i (fun x => o x ∨ x = s) q1 := fun h => ⟨h.shape, h.inc, fun a e ha hq => ⟨(h.late a e ha hq).1, fun k => .inl ((h.late a e ha hq).2 k)⟩⟩
  have ho' : ∀ x y, (o x ∨ x = s) → y ∈ l → x < y.1 := fun x y hx hy => by
   rcases hx with hx | rfl
   ·exact ho x y hx (List.mem_cons_of_mem _ hy)
   ·exact hp.1 _ (List.mem_map_of_mem hy)
  have fin : ∀ {q1 : List (Ent N)}, Ord succ start i (fun x => (o x ∨ x = s) ∨ x ∈ l.map (·.1)) q1 → Ord succ start i (fun x => o x ∨ x ∈ ((s, n) :: l).map (·.1)) q1 := fun h => ⟨h.shape, h.inc, fun a e ha hq => ⟨(h.late a e ha hq).1, fun k => by
   rcases (h.late a e ha hq).2 k with (g | g) | g
   ·exact .inl g
   ·exact .inr (by rw [g]; simp)
   ·exact .inr (List.mem_cons_of_mem _ g)⟩⟩
  simp only [expand] at he
  split at he
  ·rename_i hn
   obtain ⟨g1, ⟨r, rfl⟩, g3⟩ := expand_ord l (fun x => o x ∨ x = s) q q' (hw h) hu (fun x hx => hl x (List.mem_cons_of_mem _ hx)) hp.2 ho' h2 he
   refine ⟨fin g1, ⟨r, rfl⟩, fun x hx => ?_⟩
   rcases List.mem_cons.1 hx with rfl | hx
   ·obtain ⟨e, he1, he2⟩ := List.mem_map.1 hn
    obtain ⟨k, hk, rfl⟩ := List.mem_iff_getElem.1 he1
    refine ⟨k, q[k], by rw [List.getElem?_append_left hk]; exact List.getElem?_eq_getElem hk, he2, .inr ?_⟩
    rw [path_app h.shape r hk, path_app h.shape r hil]
    exact h.below hil hos hk
   ·exact g3 x hx
  ·rename_i hn
   split at he
   ·cases he
   ·rename_i h2000
    have h' := h.shape.push hu (hl _ List.mem_cons_self) hn
    have hu' : (q ++ [⟨n, (i : Int), s⟩])[i]? = some u := by rw [List.getElem?_append_left hil]; exact hu
    have hq' : (q ++ [(⟨n, (i : Int), s⟩ : Ent N)])[q.length]? = some ⟨n, (i : Int), s⟩ := by simp
    have hlast : pathTo (q ++ [⟨n, (i : Int), s⟩]) q.length = pathTo q i ++ [s] := by
     rw [path_link h' hq' rfl hil, path_app h.shape _ hil]
    have ord' : Ord succ start i (fun x => o x ∨ x = s) (q ++ [⟨n, (i : Int), s⟩]) := by
     refine ⟨h', fun a b hab hb => ?_, fun a e ha hq => ?_⟩
     ·simp at hb
      rw [path_app h.shape _ (show a < q.length by omega)]
      by_cases hbl : b < q.length
      ·rw [path_app h.shape _ hbl]; exact h.inc a b hab hbl
      ·have : b = q.length := by omega
       subst this
       rw [hlast]
       exact h.below hil hos (by omega)
     ·by_cases hal : a < q.length
      ·rw [List.getElem?_append_left hal] at hq
       exact ⟨(h.late a e ha hq).1, fun k => .inl ((h.late a e ha hq).2 k)⟩
      ·have hal2 := (List.getElem?_eq_some_iff.1 hq).1
       simp at hal2
       have : a = q.length := by omega
       subst this
       rw [hq'] at hq
       cases hq
       exact ⟨Int.le_refl _, fun _ => .inr rfl⟩
    obtain ⟨g1, ⟨r, rfl⟩, g3⟩ := expand_ord l (fun x => o x ∨ x = s) _ q' ord' hu' (fun x hx => hl x (List.mem_cons_of_mem _ hx)) hp.2 ho' (by simp; omega) he
    refine ⟨fin g1, ⟨[⟨n, (i : Int), s⟩] ++ r, by simp⟩, fun x hx => ?_⟩
    rcases List.mem_cons.1 hx with rfl | hx
    ·refine ⟨q.length, ⟨n, (i : Int), s⟩, by rw [List.getElem?_append_left (by simp)]; exact hq', rfl, .inl ?_⟩
     rw [path_app h' r (by simp), hlast, path_app h' r (by simp; omega), path_app h.shape _ hil]
    ·exact g3 x hx
def Comp (succ : N → List (Int × N)) (q : List (Ent N)) (i : Nat) : Prop := ∀ (j : Nat) (u : Ent N), j < i → q[j]? = some u → ∀ x ∈ succ u.node, ∃ (k : Nat) (e : Ent N), q[k]? = some e ∧ e.node = x.2 ∧ sle (pathTo q k) (pathTo q j ++ [x.1])
structure BInv (succ : N → List (Int × N)) (start : N) (q : List (Ent N)) (i : Nat) : Prop where
 ord : Ord succ start i (fun _ => False) q
 comp : Comp succ q i
 len : q.length ≤ 2000
 le : i ≤ q.length
theorem BInv.start (succ : N → List (Int × N)) (start : N) : BInv succ start [⟨start, -1, 0⟩] 0 :=
 ⟨⟨Shape.start succ start, fun a b hab hb => by simp at hb; omega, fun a e ha hq => by cases a with
  | zero => omega
  | succ a => simp at hq⟩, fun j u hj => by omega, by simp, by simp⟩
theorem BInv.next [DecidableEq N] {succ : N → List (Int × N)} (hs : ∀ n, ((succ n).map (·.1)).Pairwise (· < ·)) {start : N} {q q' : List (Ent N)} {i : Nat} {u : Ent N} (h : BInv succ start q i) (hu : q[i]? = some u) (he : expand i (succ u.node) q = some q') : BInv succ start q' (i + 1) ∧ ∃ r, q' = q ++ r := by
 have hil := (List.getElem?_eq_some_iff.1 hu).1
 obtain ⟨g1, ⟨r, rfl⟩, g3⟩ := expand_ord (succ u.node) (fun _ => False) q q' h.ord hu (fun x hx => hx) (hs _) (fun _ _ k => k.elim) h.len he
 obtain ⟨k1, _, _, k4⟩ := expand_spec (succ u.node) q _ h.ord.shape hu (fun x hx => hx) h.len he
 refine ⟨⟨⟨k1, g1.inc, fun a e ha hq => ?_⟩, fun j v hj hv x hx => ?_, k4, by simp; omega⟩, r, rfl⟩
 ·have := (g1.late a e ha hq).1
  exact ⟨by omega, fun k => by omega⟩
 ·by_cases hji : j < i
  ·rw [List.getElem?_append_left (by omega)] at hv
   obtain ⟨k, e, e1, e2, e3⟩ := h.comp j v hji hv x hx
   have hkl := (List.getElem?_eq_some_iff.1 e1).1
   refine ⟨k, e, by rw [List.getElem?_append_left hkl]; exact e1, e2, ?_⟩
   rw [path_app h.ord.shape r hkl, path_app h.ord.shape r (by omega)]
   exact e3
  ·have : j = i := by omega
   subst this
   rw [List.getElem?_append_left hil, hu] at hv
   cases hv
   exact g3 x hx
def Least (succ : N → List (Int × N)) (done : N → Bool) (start : N) (p : List Int) : Prop := (∃ v, Way succ start p v ∧ done v = true) ∧ ∀ p' v', Way succ start p' v' → done v' = true → sle p p'
theorem Least.unique {succ : N → List (Int × N)} {done : N → Bool} {start : N} {p p' : List Int} (h : Least succ done start p) (h' : Least succ done start p') : p = p' := by
 obtain ⟨⟨v, w, d⟩, m⟩ := h
 obtain ⟨⟨v', w', d'⟩, m'⟩ := h'
 exact sle_antisymm (m _ _ w' d') (m' _ _ w d)
end
abbrev Entry := Ent (List (List Int))
end Go.Proofs.YtimillpakjgnoaaGreatDoor.Pl

namespace Go.Proofs.YtimillpakjgnoaaGreatDoor.Pl
open Go Go.RowKit
structure Operator where
 pre : List Int
 add : List Int
 del : List Int
 cost : Int
 deriving DecidableEq, Inhabited
instance : Rep Operator := ⟨4, fun h x cs => ∃ (a0 : Option Addr) (c0 : Nat) (a1 : Option Addr) (c1 : Nat) (a2 : Option Addr) (c2 : Nat), cs = [.slice a0 x.pre.length c0, .slice a1 x.add.length c1, .slice a2 x.del.length c2, .int .i64 x.cost] ∧ (x.pre.length ≤ c0 ∧ RSl h a0 x.pre) ∧ (x.add.length ≤ c1 ∧ RSl h a1 x.add) ∧ (x.del.length ≤ c2 ∧ RSl h a2 x.del),
 fun ⟨_, _, _, _, _, _, e, _⟩ => by rw [e]; rfl,
 fun hl ⟨a0, c0, a1, c1, a2, c2, e, ⟨l0, r0⟩, ⟨l1, r1⟩, l2, r2⟩ => ⟨a0, c0, a1, c1, a2, c2, e, ⟨l0, r0.mono hl⟩, ⟨l1, r1.mono hl⟩, l2, r2.mono hl⟩,
 fun ⟨_, _, _, _, _, _, e, _⟩ v hv => by
  rw [e] at hv
  simp only [List.mem_cons, List.not_mem_nil, or_false] at hv
  rcases hv with rfl | rfl | rfl | rfl <;> rfl⟩
structure Task where
 facts : Int
 init : List Int
 goal : List Int
 ops : List Operator
 deriving DecidableEq, Inhabited
instance : Rep Task := ⟨4, fun h x cs => ∃ (a0 : Option Addr) (c0 : Nat) (a1 : Option Addr) (c1 : Nat) (a2 : Option Addr) (c2 : Nat), cs = [.int .i64 x.facts, .slice a0 x.init.length c0, .slice a1 x.goal.length c1, .slice a2 x.ops.length c2] ∧ (x.init.length ≤ c0 ∧ RSl h a0 x.init) ∧ (x.goal.length ≤ c1 ∧ RSl h a1 x.goal) ∧ (x.ops.length ≤ c2 ∧ RSl h a2 x.ops),
 fun ⟨_, _, _, _, _, _, e, _⟩ => by rw [e]; rfl,
 fun hl ⟨a0, c0, a1, c1, a2, c2, e, ⟨l0, r0⟩, ⟨l1, r1⟩, l2, r2⟩ => ⟨a0, c0, a1, c1, a2, c2, e, ⟨l0, r0.mono hl⟩, ⟨l1, r1.mono hl⟩, l2, r2.mono hl⟩,
 fun ⟨_, _, _, _, _, _, e, _⟩ v hv => by
  rw [e] at hv
  simp only [List.mem_cons, List.not_mem_nil, or_false] at hv
  rcases hv with rfl | rfl | rfl | rfl <;> rfl⟩
structure Fault where
 code : Int
 index : Int
 deriving DecidableEq, Inhabited
instance : Flat Fault := ⟨2, fun x => [.int .i64 x.code, .int .i64 x.index], fun _ => rfl, fun x v hv => by
 simp only [List.mem_cons, List.not_mem_nil, or_false] at hv; rcases hv with rfl | rfl <;> rfl⟩
instance : Rep Entry := ⟨3, fun h x cs => ∃ (a0 : Option Addr) (c0 : Nat), cs = [.slice a0 x.node.length c0, .int .i64 x.from_, .int .i64 x.step] ∧ (x.node.length ≤ c0 ∧ RSl h a0 x.node),
 fun ⟨_, _, e, _⟩ => by rw [e]; rfl,
 fun hl ⟨a0, c0, e, l0, r0⟩ => ⟨a0, c0, e, l0, r0.mono hl⟩,
 fun ⟨_, _, e, _⟩ v hv => by
  rw [e] at hv
  simp only [List.mem_cons, List.not_mem_nil, or_false] at hv
  rcases hv with rfl | rfl | rfl <;> rfl⟩
structure Need where
 facts : List Int
 never : Bool
 deriving DecidableEq, Inhabited
instance : Rep Need := ⟨2, fun h x cs => ∃ (a0 : Option Addr) (c0 : Nat), cs = [.slice a0 x.facts.length c0, .bool x.never] ∧ (x.facts.length ≤ c0 ∧ RSl h a0 x.facts),
 fun ⟨_, _, e, _⟩ => by rw [e]; rfl,
 fun hl ⟨a0, c0, e, l0, r0⟩ => ⟨a0, c0, e, l0, r0.mono hl⟩,
 fun ⟨_, _, e, _⟩ v hv => by
  rw [e] at hv
  simp only [List.mem_cons, List.not_mem_nil, or_false] at hv
  rcases hv with rfl | rfl <;> rfl⟩
structure Masks where
 pre : Int
 add : Int
 del : Int
 cost : Int
 deriving DecidableEq, Inhabited
instance : Flat Masks := ⟨4, fun x => [.int .u32 x.pre, .int .u32 x.add, .int .u32 x.del, .int .i64 x.cost], fun _ => rfl, fun x v hv => by
 simp only [List.mem_cons, List.not_mem_nil, or_false] at hv; rcases hv with rfl | rfl | rfl | rfl <;> rfl⟩
structure WordsT where
 start : Int
 goal : Int
 ops : List Masks
 deriving DecidableEq, Inhabited
instance : Rep WordsT := ⟨3, fun h x cs => ∃ (a0 : Option Addr) (c0 : Nat), cs = [.int .u32 x.start, .int .u32 x.goal, .slice a0 x.ops.length c0] ∧ (x.ops.length ≤ c0 ∧ RSl h a0 x.ops),
 fun ⟨_, _, e, _⟩ => by rw [e]; rfl,
 fun hl ⟨a0, c0, e, l0, r0⟩ => ⟨a0, c0, e, l0, r0.mono hl⟩,
 fun ⟨_, _, e, _⟩ v hv => by
  rw [e] at hv
  simp only [List.mem_cons, List.not_mem_nil, or_false] at hv
  rcases hv with rfl | rfl | rfl <;> rfl⟩
structure Back where
 from_ : Int
 op : Int
 deriving DecidableEq, Inhabited
instance : Flat Back := ⟨2, fun x => [.int .u32 x.from_, .int .i64 x.op], fun _ => rfl, fun x v hv => by
 simp only [List.mem_cons, List.not_mem_nil, or_false] at hv; rcases hv with rfl | rfl <;> rfl⟩
structure StepT where
 op : Int
 cost : Int
 to_ : Int
 deriving DecidableEq, Inhabited
instance : Flat StepT := ⟨3, fun x => [.int .i64 x.op, .int .i64 x.cost, .int .u32 x.to_], fun _ => rfl, fun x v hv => by
 simp only [List.mem_cons, List.not_mem_nil, or_false] at hv; rcases hv with rfl | rfl | rfl <;> rfl⟩
end Go.Proofs.YtimillpakjgnoaaGreatDoor.Pl

namespace Go.Proofs.YtimillpakjgnoaaGreatDoor.Pl
open Go Go.RowKit
theorem w64 {n : Int} (h : -9223372036854775808 ≤ n ∧ n ≤ 9223372036854775807) : IntKind.i64.wrap n = n := by rw [IntKind.wrap_i64]; omega
theorem gt_of {α : Type} [Inhabited α] {xs : List α} {i : Int} (h : inb xs i) : gt xs i = xs[i.toNat]'(inb_lt h) := by
 have := inb_lt h
 simp [gt, this]
theorem drop_gt {α : Type} [Inhabited α] {xs : List α} {i : Int} (h : inb xs i) : xs.drop i.toNat = gt xs i :: xs.drop (i + 1).toNat := by
 have h1 := inb_lt h
 have h2 : (i + 1).toNat = i.toNat + 1 := by have := h.1; omega
 rw [gt_of h, h2, List.drop_eq_getElem_cons h1]
theorem gt_mem {α : Type} [Inhabited α] {xs : List α} {i : Int} (h : inb xs i) : gt xs i ∈ xs := by rw [gt_of h]; exact List.getElem_mem _
theorem take_gt {α : Type} [Inhabited α] {xs : List α} {i : Int} (h : inb xs i) : xs.take (i + 1).toNat = xs.take i.toNat ++ [gt xs i] := by
 have h1 := inb_lt h
 have h2 : (i + 1).toNat = i.toNat + 1 := by have := h.1; omega
 rw [gt_of h, h2, List.take_succ_eq_append_getElem h1]
theorem gt_memN {α : Type} [Inhabited α] {xs : List α} {i : Nat} (h : i < xs.length) : gt xs (i : Int) ∈ xs := gt_mem ⟨by omega, by omega⟩
theorem mem_gt {α : Type} [Inhabited α] {xs : List α} {x : α} (h : x ∈ xs) : ∃ i : Nat, i < xs.length ∧ gt xs (i : Int) = x := by
 obtain ⟨i, hi, e⟩ := List.mem_iff_getElem.1 h
 exact ⟨i, hi, by rw [gt_of ⟨by omega, by omega⟩]; simpa using e⟩
theorem takeN_gt {α : Type} [Inhabited α] {xs : List α} {k : Nat} (h : k < xs.length) : xs.take (k + 1) = xs.take k ++ [gt xs k] := by
 have := take_gt (xs := xs) (i := (k : Int)) ⟨by omega, by omega⟩
 simpa using this
theorem gt_set {α : Type} [Inhabited α] {xs : List α} {i : Int} {x : α} (h : inb xs i) : gt (xs.set i.toNat x) i = x := by
 have := inb_lt h
 simp [gt, this]
theorem gt_setI {α : Type} [Inhabited α] {xs : List α} {i j : Int} {x : α} (hi : inb xs i) (hj : 0 ≤ j) : gt (xs.set i.toNat x) j = if j = i then x else gt xs j := by
 by_cases e : j = i
 ·subst e; rw [if_pos rfl, gt_set hi]
 ·rw [if_neg e]
  have h1 := hi.1
  unfold gt
  rw [List.getD_eq_getElem?_getD, List.getD_eq_getElem?_getD, List.getElem?_set_ne (by omega)]
theorem ext_gt {a b : List Int} (hl : a.length = b.length) (h : ∀ i : Nat, i < a.length → gt a (i : Int) = gt b (i : Int)) : a = b := by
 refine List.ext_getElem hl fun i h1 h2 => ?_
 have := h i h1
 rw [gt_of ⟨by omega, by omega⟩, gt_of ⟨by omega, by omega⟩] at this
 simpa using this
theorem any_split {α : Type} [Inhabited α] {xs : List α} {p : α → Bool} {t : Int} (h0 : 0 ≤ t) (hp : ∀ x ∈ xs.take t.toNat, p x = false) : (t < xs.length → p (gt xs t) = true → (if xs.any p then (xs.findIdx p : Int) else -1) = t) ∧ (¬ t < xs.length → (if xs.any p then (xs.findIdx p : Int) else -1) = -1) := by
 refine ⟨fun h hq => ?_, fun h => ?_⟩
 ·have hi : inb xs t := ⟨h0, h⟩
  have ha : xs.any p = true := List.any_eq_true.2 ⟨_, gt_mem hi, hq⟩
  rw [if_pos ha]
  have : xs.findIdx p = t.toNat := by
   rw [List.findIdx_eq (inb_lt hi)]
   refine ⟨by rw [← gt_of hi]; exact hq, fun j hj => ?_⟩
   have hjl : j < xs.length := by have := inb_lt hi; omega
   exact hp _ (List.mem_take_iff_getElem.2 ⟨j, by omega, rfl⟩)
  omega
 ·have : xs.any p = false := by
   rw [List.take_of_length_le (by omega)] at hp
   simpa using hp
  simp [this]
theorem any_next {α : Type} [Inhabited α] {xs : List α} {p : α → Bool} {t : Int} (h0 : 0 ≤ t) (hp : ∀ x ∈ xs.take t.toNat, p x = false) (h : t < xs.length) (hq : p (gt xs t) = false) : ∀ x ∈ xs.take (t + 1).toNat, p x = false := fun x hx => by
 rw [take_gt ⟨h0, h⟩] at hx
 rcases List.mem_append.1 hx with hx | hx
 ·exact hp x hx
 ·rw [List.mem_singleton.1 hx]; exact hq
def ffirst (f : Nat → Fault) (n : Nat) : Fault := match (List.range n).find? (fun i => decide (f i ≠ ⟨0, 0⟩)) with
 | some i => f i
 | none => ⟨0, 0⟩
theorem ffirst_hit {f : Nat → Fault} {n i : Nat} (hi : i < n) (hz : ∀ j, j < i → f j = ⟨0, 0⟩) (hf : f i ≠ ⟨0, 0⟩) : ffirst f n = f i := by
 unfold ffirst
 have : (List.range n).find? (fun i => decide (f i ≠ ⟨0, 0⟩)) = some i := by
  rw [List.find?_range_eq_some]
  exact ⟨by simpa using hf, List.mem_range.2 hi, fun j hj => by simpa using hz j hj⟩
 rw [this]
theorem ffirst_none {f : Nat → Fault} {n : Nat} (hz : ∀ j, j < n → f j = ⟨0, 0⟩) : ffirst f n = ⟨0, 0⟩ := by
 unfold ffirst
 have : (List.range n).find? (fun i => decide (f i ≠ ⟨0, 0⟩)) = none := by
  rw [List.find?_eq_none]
  intro x hx
  simpa using hz x (List.mem_range.1 hx)
 rw [this]
theorem ffirst_zero {f : Nat → Fault} {n : Nat} (h : ffirst f n = ⟨0, 0⟩) : ∀ j, j < n → f j = ⟨0, 0⟩ := by
 intro j
 induction j using Nat.strongRecOn with
 | _ j ih =>
  intro hj
  refine Classical.byContradiction fun hf => ?_
  have := ffirst_hit hj (fun k hk => ih k hk (by omega)) hf
  rw [h] at this
  exact hf this.symm
theorem zero_next {f : Nat → Fault} {k : Nat} (h : ∀ j, j < k → f j = ⟨0, 0⟩) (hk : f k = ⟨0, 0⟩) : ∀ j, j < k + 1 → f j = ⟨0, 0⟩ := fun j hj => by
 rcases Nat.lt_succ_iff_lt_or_eq.1 hj with q | rfl
 ·exact h j q
 ·exact hk
theorem fault_mk {c i : Int} (h : c ≠ 0) : (⟨c, i⟩ : Fault) ≠ ⟨0, 0⟩ := fun e => h (congrArg Fault.code e)
theorem fault_ne {f : Fault} : (!((f.code == 0) && (f.index == 0))) = true ↔ f ≠ ⟨0, 0⟩ := by
 obtain ⟨c, i⟩ := f
 simp only [Bool.not_eq_true', Bool.and_eq_false_iff, beq_eq_false_iff_ne, ne_eq, Fault.mk.injEq]
 omega
theorem fault_eq {f : Fault} : (!((f.code == 0) && (f.index == 0))) = false ↔ f = ⟨0, 0⟩ := by
 obtain ⟨c, i⟩ := f
 simp
end Go.Proofs.YtimillpakjgnoaaGreatDoor.Pl

namespace Go.Proofs.YtimillpakjgnoaaGreatDoor.Pl
open Go Go.RowKit
def sp_in_ (n lo hi : Int) : Bool := decide (lo ≤ n) && decide (n ≤ hi)
def sp_isNaN1 (_ : Int) : Bool := false
def sp_less (x y : Int) : Bool := decide (x < y)
def sp_bsearch (x : List Int) (t : Int) : Int × Bool := ((x.filter (fun a => decide (a < t))).length, decide (t ∈ x))
def pre_bsearch (x : List Int) (_ : Int) : Prop := x.Pairwise (· < ·) ∧ x.length ≤ 1000
def sp_any {α : Type} (xs : List α) (p : α → Bool) (_ : α → Prop) : Bool := xs.any p
def pre_any {α : Type} (xs : List α) (_ : α → Bool) (D : α → Prop) : Prop := xs.length ≤ 1000 ∧ ∀ x ∈ xs, D x
def sp_indexF {α : Type} (xs : List α) (p : α → Bool) (_ : α → Prop) : Int := if xs.any p then xs.findIdx p else -1
def sp_isSet (l : List Int) (n : Int) : Bool := decide (l.Pairwise (· < ·) ∧ ∀ x ∈ l, 0 ≤ x ∧ x < n)
def pre_isSet (_ : List Int) (n : Int) : Prop := 0 ≤ n ∧ n ≤ 1000
def sp_meets1 (x : Int) (b : List Int) : Bool := decide (x ∈ b)
def pre_meets1 (_ : Int) (b : List Int) : Prop := b.Pairwise (· < ·) ∧ b.length ≤ 1000
def sp_meets (a b : List Int) : Bool := a.any fun x => decide (x ∈ b)
def pre_meets (a b : List Int) : Prop := a.length ≤ 1000 ∧ b.Pairwise (· < ·) ∧ b.length ≤ 1000
def sp_operator (o : Operator) (n : Int) : Int :=
 if sp_isSet o.pre n = true ∧ sp_isSet o.add n = true ∧ sp_isSet o.del n = true ∧ sp_meets o.add o.del = false then
  if 0 ≤ o.cost ∧ o.cost ≤ 100 then 0 else 3
 else 5
def pre_operator (_ : Operator) (n : Int) : Prop := 0 ≤ n ∧ n ≤ 1000
def opFault (t : Task) (i : Nat) : Fault := if sp_operator (gt t.ops i) t.facts = 0 then ⟨0, 0⟩ else ⟨sp_operator (gt t.ops i) t.facts, i⟩
def sp_validate (t : Task) : Fault :=
 if t.facts < 0 ∨ 24 < t.facts then ⟨3, -1⟩
 else if sp_isSet t.init t.facts = false then ⟨5, -2⟩
 else if sp_isSet t.goal t.facts = false then ⟨5, -3⟩
 else if 40 < t.ops.length then ⟨2, -1⟩
 else ffirst (opFault t) t.ops.length
def sp_steps (n : Int) (p : List Int) : Fault :=
 if 60 < p.length then ⟨2, -5⟩ else if (p.all fun x => decide (0 ≤ x ∧ x < n)) = true then ⟨0, 0⟩ else ⟨3, -6⟩
def pre_steps (n : Int) (_ : List Int) : Prop := 0 ≤ n ∧ n ≤ 1000
def sp_planFault (t : Task) (p : List Int) : Fault := if sp_validate t = ⟨0, 0⟩ then sp_steps t.ops.length p else sp_validate t
def allS (n : Nat) : List Int := (List.range n).map fun j : Nat => (j : Int)
def sp_subset (a b : List Int) : Bool := a.all fun x => decide (x ∈ b)
def sp_applies (t : Task) (s : List Int) (op : Int) : Bool := sp_subset (gt t.ops op).pre s
def sp_after (t : Task) (s : List Int) (op : Int) : List Int := (allS t.facts.toNat).filter fun p => decide (p ∈ (gt t.ops op).add ∨ (p ∈ s ∧ p ∉ (gt t.ops op).del))
def sp_ends (t : Task) : List Int → List Int → List Int × Bool
 | s, [] => (s, true)
 | s, op :: r => if sp_applies t s op = true then sp_ends t (sp_after t s op) r else ([], false)
def sp_rworks (t : Task) (s plan : List Int) : Bool := (sp_ends t s plan).2 && sp_subset t.goal (sp_ends t s plan).1
def sp_rsolves (t : Task) (plan : List Int) : Bool := sp_rworks t t.init plan
def sp_sort (xs : List Int) : List Int := xs.mergeSort fun x y => decide (x ≤ y)
def pre_sort (xs : List Int) : Prop := xs.length ≤ 100000
def sp_compact (xs : List Int) : List Int := Lib.compact xs
def pre_compact (xs : List Int) : Prop := xs.length ≤ 100000
def sp_clone (s : List Int) : List Int := s
def pre_clone (s : List Int) : Prop := s.length ≤ 1000
def sp_update (s add del : List Int) : List Int := sp_compact (sp_sort (s.filter (fun x => decide (x ∉ del)) ++ add))
def pre_update (s add del : List Int) : Prop := s.length ≤ 1000 ∧ add.length ≤ 1000 ∧ pre_bsearch del 0
def sp_contains2 (s part : List Int) : Bool := sp_subset part s
def pre_contains2 (s part : List Int) : Prop := s.length ≤ 1000 ∧ part.length ≤ 1000 ∧ s.Pairwise (· < ·) ∧ part.Pairwise (· < ·)
def pre_next (t : Task) (s : List Int) (op : Int) : Prop := sp_validate t = ⟨0, 0⟩ ∧ inb t.ops op ∧ sp_isSet s t.facts = true
def pre_can (t : Task) (s : List Int) (op : Int) : Prop := pre_next t s op
def sp_srun (t : Task) : List Int → List Int → List (List Int)
 | s, [] => [s]
 | s, op :: r => if sp_applies t s op = true then s :: sp_srun t (sp_after t s op) r else [s]
def pre_srun (t : Task) (s plan : List Int) : Prop := sp_validate t = ⟨0, 0⟩ ∧ sp_isSet s t.facts = true ∧ plan.length ≤ 1000 ∧ ∀ op ∈ plan, inb t.ops op
def pre_works (t : Task) (s plan : List Int) : Prop := pre_srun t s plan
def sp_solves (t : Task) (plan : List Int) : Bool × Fault := if sp_planFault t plan = ⟨0, 0⟩ then (sp_rsolves t plan, ⟨0, 0⟩) else (false, sp_planFault t plan)
end Go.Proofs.YtimillpakjgnoaaGreatDoor.Pl

namespace Go.Proofs.YtimillpakjgnoaaGreatDoor.Pl
open Go Go.RowKit
def rowL (s : List Int) : List UInt8 := s.flatMap fun x => Lib.itoa x ++ [44]
def keyL (l : List (List Int)) : List UInt8 := l.flatMap fun s => rowL s ++ [59]
def sp_key (l : List (List Int)) : List UInt8 := keyL l
def pre_key (l : List (List Int)) : Prop := l.length ≤ 1000 ∧ ∀ s ∈ l, s.length ≤ 1000 ∧ ∀ x ∈ s, -9223372036854775808 ≤ x ∧ x ≤ 9223372036854775807
def sp_reverse (s : List Int) : List Int := s.reverse
def pre_reverse (s : List Int) : Prop := s.length ≤ 100000
theorem sp_reverse_len (s : List Int) : (sp_reverse s).length = s.length := List.length_reverse
def sp_compare (x y : Int) : Int := if x < y then -1 else if y < x then 1 else 0
def sp_scompare : List Int → List Int → Int
 | [], [] => 0
 | [], _ :: _ => -1
 | _ :: _, [] => 1
 | x :: r, y :: q => if x < y then -1 else if y < x then 1 else sp_scompare r q
def pre_scompare (a b : List Int) : Prop := a.length ≤ 1000 ∧ b.length ≤ 1000
def sp_sequal (a b : List Int) : Bool := decide (a = b)
def pre_sequal (a b : List Int) : Prop := a.length ≤ 1000 ∧ b.length ≤ 1000
def sp_unknownFault (t : Task) (unknown : List Int) : Fault :=
 if sp_validate t = ⟨0, 0⟩ then if 4 < unknown.length then ⟨2, -8⟩ else if sp_isSet unknown t.facts = true then ⟨0, 0⟩ else ⟨5, -8⟩ else sp_validate t
def sp_sure1 (s x : List Int) : Bool := !sp_contains2 s x
def pre_sure1 (s x : List Int) : Prop := pre_contains2 s x
def sp_sure (worlds : List (List Int)) (facts : List Int) : Bool := !(worlds.any fun s => sp_sure1 s facts)
def pre_sure (worlds : List (List Int)) (facts : List Int) : Prop := worlds.length ≤ 1000 ∧ ∀ s ∈ worlds, pre_sure1 s facts
abbrev Bel := List (List Int)
def sp_before : List Int → List Int → Bool
 | [], [] => false
 | [], _ :: _ => true
 | _ :: _, [] => false
 | x :: r, y :: q => if x = y then sp_before r q else decide (x < y)
def sp_ints (a b : List Int) : Bool := decide (a = b)
def pre_ints (a b : List Int) : Prop := a.length ≤ 1000 ∧ b.length ≤ 1000
def sp_insert : Bel → List Int → Bel
 | [], s => [s]
 | x :: r, s => if sp_before x s = true then x :: sp_insert r s else if x = s then x :: r else s :: x :: r
def sp_normal (l : Bel) : Bel := l.foldl sp_insert []
def pre_normal (l : Bel) : Prop := l.length ≤ 1000 ∧ ∀ x ∈ l, x.length ≤ 1000
def sp_sortR (l : Bel) : Bel := l.mergeSort fun x y => !sp_before y x
def pre_sortR (l : Bel) : Prop := l.length ≤ 1000 ∧ ∀ x ∈ l, x.length ≤ 1000
def sp_compactR (l : Bel) : Bel := l.foldl (fun acc x => if acc.getLast? = some x then acc else acc ++ [x]) []
def pre_compactR (l : Bel) : Prop := l.length ≤ 1000 ∧ ∀ x ∈ l, x.length ≤ 1000
def maskAdd (u : List Int) (m : Nat) : List Int := (u.zipIdx.filter fun p => m.testBit p.2).map (·.1)
def sp_worlds (t : Task) (u : List Int) : Bel := sp_normal ((List.range (2 ^ u.length)).map fun m => sp_update t.init (maskAdd u m) u)
def UOK (t : Task) (u : List Int) : Prop := sp_validate t = ⟨0, 0⟩ ∧ u.length ≤ 4 ∧ sp_isSet u t.facts = true
def pre_worlds (t : Task) (u : List Int) : Prop := UOK t u
def WsOK (t : Task) (ws : Bel) : Prop := ws.length ≤ 16 ∧ ∀ s ∈ ws, sp_isSet s t.facts = true
def sp_bafter (t : Task) (ws : Bel) (op : Int) : Bel := sp_normal (ws.map fun s => sp_after t s op)
def pre_bafter (t : Task) (ws : Bel) (op : Int) : Prop := sp_validate t = ⟨0, 0⟩ ∧ inb t.ops op ∧ WsOK t ws
def bsucc (t : Task) (ws : Bel) : List (Int × Bel) := (allS t.ops.length).filterMap fun op => if sp_sure ws (gt t.ops op).pre = true then some (op, sp_bafter t ws op) else none
def sp_succ (_ : Task) (_ : Bel) : Unit := ()
def sp_bnext (_ : Task) : Unit := ()
def sp_bnext1 (_ : Bel) (_ : Task) : Unit := ()
def sp_small1 (_ : Bel) : Bool := false
def sp_plan1 (w : Bel) (t : Task) : Bool := sp_sure w t.goal
def pre_plan1 (w : Bel) (t : Task) : Prop := sp_validate t = ⟨0, 0⟩ ∧ WsOK t w
def sp_breadthS (start : Bel) (t : Task) : List Int × Bool × Bool := search (bsucc t) (fun _ => false) start
def pre_breadthS (start : Bel) (t : Task) : Prop := sp_validate t = ⟨0, 0⟩ ∧ WsOK t start
def sp_breadthP (start : Bel) (t t' : Task) : List Int × Bool × Bool := search (bsucc t) (fun w => sp_sure w t'.goal) start
def pre_breadthP (start : Bel) (t t' : Task) : Prop := sp_validate t = ⟨0, 0⟩ ∧ WsOK t start ∧ t' = t
def sp_small (start : Bel) (t : Task) : Bool := (search (bsucc t) (fun _ => false) start).2.2
def pre_small (start : Bel) (t : Task) : Prop := pre_breadthS start t
def sp_bplan (t : Task) (u : List Int) : List Int × Bool × Fault :=
 if sp_unknownFault t u = ⟨0, 0⟩ then
  if sp_small (sp_worlds t u) t = true then
   if 60 < (sp_breadthP (sp_worlds t u) t t).1.length then ([], false, ⟨10, -5⟩) else ((sp_breadthP (sp_worlds t u) t t).1, (sp_breadthP (sp_worlds t u) t t).2.1, ⟨0, 0⟩)
  else ([], false, ⟨10, -7⟩)
 else ([], false, sp_unknownFault t u)
end Go.Proofs.YtimillpakjgnoaaGreatDoor.Pl

namespace Go.Proofs.YtimillpakjgnoaaGreatDoor.Pl
open Go Go.RowKit
def sp_stateFault (t : Task) (s : List Int) : Fault := if sp_validate t = ⟨0, 0⟩ then if sp_isSet s t.facts = true then ⟨0, 0⟩ else ⟨5, -4⟩ else sp_validate t
def sp_mcheck (t : Task) (plan s : List Int) : Fault := if sp_stateFault t s = ⟨0, 0⟩ then sp_steps t.ops.length plan else sp_stateFault t s
def sp_play (t : Task) (s plan : List Int) : List (List Int) × Fault :=
 if sp_mcheck t plan s = ⟨0, 0⟩ then if (sp_srun t s plan).length ≤ plan.length then ([], ⟨11, ((sp_srun t s plan).length : Int) - 1⟩) else (sp_srun t s plan, ⟨0, 0⟩) else ([], sp_mcheck t plan s)
def sp_union (a b : List Int) : List Int := sp_update a b []
def pre_union (a b : List Int) : Prop := pre_update a b []
def needAt (t : Task) (o : Int) (later : Need) : Need :=
 if later.never = true ∨ sp_meets later.facts (gt t.ops o).del = true then ⟨[], true⟩ else ⟨sp_union (sp_update later.facts [] (gt t.ops o).add) (gt t.ops o).pre, false⟩
def sp_needs (t : Task) : List Int → List Need
 | [] => [⟨sp_union t.goal [], false⟩]
 | o :: r => needAt t o ((sp_needs t r).headD default) :: sp_needs t r
def pre_needs (t : Task) (plan : List Int) : Prop := sp_planFault t plan = ⟨0, 0⟩
def sp_missing (t : Task) (plan s : List Int) (i : Int) : List Int × Bool × Fault :=
 if sp_mcheck t plan s = ⟨0, 0⟩ then
  if i < 0 ∨ (plan.length : Int) < i then ([], false, ⟨3, -8⟩)
  else if (gt (sp_needs t plan) i).never = true then ([], false, ⟨0, 0⟩) else (sp_update (gt (sp_needs t plan) i).facts [] s, true, ⟨0, 0⟩)
 else ([], false, sp_mcheck t plan s)
def canFrom (t : Task) (plan s : List Int) (k : Nat) : Bool := !(gt (sp_needs t plan) (k : Int)).never && sp_contains2 s (gt (sp_needs t plan) (k : Int)).facts
def sp_resume (t : Task) (plan s : List Int) : Int × Bool × Fault :=
 if sp_mcheck t plan s = ⟨0, 0⟩ then match (List.range (plan.length + 1)).reverse.find? (canFrom t plan s) with
  | some k => (k, true, ⟨0, 0⟩)
  | none => (0, false, ⟨0, 0⟩)
 else (0, false, sp_mcheck t plan s)
def h11Used : Task := ⟨2, ([] : List Int), ([0, 1] : List Int), ([(⟨([] : List Int), ([0, 1] : List Int), ([] : List Int), 2⟩ : Operator)] : List Operator)⟩
def sp_optimalL (_ : Task) : Int × Fault := (2, ⟨0, 0⟩)
def pre_optimalL (t : Task) : Prop := t = h11Used
def sp_h11Solved : Bool := true
def sp_lawMonitors (_ : Task) (_ : List Int) (_ : Int) : Bool := true
def bitW (p : Int) : Int := IntKind.u32.wrap (1 * 2 ^ (min p.toNat (IntKind.bits .u32)))
def sp_word (s : List Int) : Int := s.foldl (fun w p => bits .or .u32 w (bitW p)) 0
def pre_word (s : List Int) : Prop := s.length ≤ 1000 ∧ ∀ p ∈ s, 0 ≤ p
def sp_facts (w : Int) : List Int := (allS 32).filter fun p => bits .and .u32 (Int.fdiv w (2 ^ (min p.toNat (IntKind.bits .u32)))) 1 == 1
def pre_facts (_ : Int) : Prop := True
def sp_wcmp (a b : Int) : Int := sp_scompare (sp_facts a) (sp_facts b)
def pre_wcmp (_ _ : Int) : Prop := True
def U32 (w : Int) : Prop := 0 ≤ w ∧ w < 4294967296
def sp_sortW (xs : List Int) : List Int := xs.mergeSort fun a b => decide (sp_wcmp a b ≤ 0)
def pre_sortW (xs : List Int) : Prop := xs.length ≤ 100000 ∧ ∀ x ∈ xs, U32 x
def wopS (W : WordsT) (s i : Int) : Option (Int × Int) := if (bits .and .u32 s (gt W.ops i).pre == (gt W.ops i).pre) = true then some (i, bits .or .u32 (bits .andNot .u32 s (gt W.ops i).del) (gt W.ops i).add) else none
def wsucc (W : WordsT) (s : Int) : List (Int × Int) := (allS W.ops.length).filterMap (wopS W s)
def pushW : List (Int × Int) → List Int × List (Int × Unit) → List Int × List (Int × Unit)
 | [], z => z
 | x :: r, z => if (getA z.2 x.2).isSome = true then pushW r z else pushW r (z.1 ++ [x.2], setA z.2 x.2 ())
def dfs (W : WordsT) : Nat → List Int → List (Int × Unit) → List Int → List Int × Bool
 | 0, _, _, out => (out, true)
 | k + 1, l, m, out => match l.getLast? with
  | none => (out, true)
  | some s => if 2000 < (pushW (wsucc W s) (l.dropLast, m)).2.length then ([], false) else dfs W k (pushW (wsucc W s) (l.dropLast, m)).1 (pushW (wsucc W s) (l.dropLast, m)).2 (out ++ [s])
def sp_all (W : WordsT) : List Int × Bool := dfs W 2001 [W.start] [(W.start, ())] []
def pre_all (W : WordsT) : Prop := W.ops.length ≤ 40
end Go.Proofs.YtimillpakjgnoaaGreatDoor.Pl

namespace Go.Proofs.YtimillpakjgnoaaGreatDoor.Pl
open Go Go.RowKit
theorem tS22 : TSl Tryz.prog 22 3 1 8 [.int .i64 0] := tSl_mk (z := .int .i64 0) Tryz.underlying22 (by kernel_rfl) rfl
theorem tO3 : TOne Tryz.prog 3 := tOne_mk Tryz.underlying3 rfl (by kernel_rfl)
theorem tO22 : TOne Tryz.prog 22 := tOne_mk Tryz.underlying22 rfl (by kernel_rfl)
theorem tF114_0 : FldAt Tryz.prog 114 0 0 := fldAt_mk Tryz.underlying114 (by kernel_rfl)
theorem tF114_1 : FldAt Tryz.prog 114 1 1 := fldAt_mk Tryz.underlying114 (by kernel_rfl)
theorem tF114_2 : FldAt Tryz.prog 114 2 2 := fldAt_mk Tryz.underlying114 (by kernel_rfl)
theorem tF114_3 : FldAt Tryz.prog 114 3 3 := fldAt_mk Tryz.underlying114 (by kernel_rfl)
theorem tZ27 : TZero Tryz.prog 27 [.int .i64 0, .int .i64 0] := tZero_mk (z := .agg #[.int .i64 0, .int .i64 0]) (by kernel_rfl) rfl
theorem tF25_0 : FldAt Tryz.prog 25 0 0 := fldAt_mk Tryz.underlying25 (by kernel_rfl)
theorem tB27 : TBld Tryz.prog 27 [.int .i64 0, .int .i64 0] [(0, 1), (1, 1)] := tBld_mk Tryz.underlying27 (by kernel_rfl) (z := .agg #[.int .i64 0, .int .i64 0]) (by kernel_rfl) (by kernel_rfl)
theorem tA27 : TAgg Tryz.prog 27 2 := tAgg_mk Tryz.underlying27 rfl (by kernel_rfl)
theorem tF25_1 : FldAt Tryz.prog 25 1 1 := fldAt_mk Tryz.underlying25 (by kernel_rfl)
theorem tF25_2 : FldAt Tryz.prog 25 2 2 := fldAt_mk Tryz.underlying25 (by kernel_rfl)
theorem tF25_3 : FldAt Tryz.prog 25 3 3 := fldAt_mk Tryz.underlying25 (by kernel_rfl)
theorem tO23 : TOne Tryz.prog 23 := tOne_mk Tryz.underlying23 rfl (by kernel_rfl)
theorem tS23 : TSl Tryz.prog 23 114 4 80 [.slice none 0 0, .slice none 0 0, .slice none 0 0, .int .i64 0] := tSl_mk (z := .agg #[.slice none 0 0, .slice none 0 0, .slice none 0 0, .int .i64 0]) Tryz.underlying23 (by kernel_rfl) rfl
theorem tA114 : TAgg Tryz.prog 114 4 := tAgg_mk Tryz.underlying114 rfl (by kernel_rfl)
theorem tZ114 : TZero Tryz.prog 114 [.slice none 0 0, .slice none 0 0, .slice none 0 0, .int .i64 0] := tZero_mk (z := .agg #[.slice none 0 0, .slice none 0 0, .slice none 0 0, .int .i64 0]) (by kernel_rfl) rfl
theorem tA25 : TAgg Tryz.prog 25 4 := tAgg_mk Tryz.underlying25 rfl (by kernel_rfl)
theorem tE27 : TEq2 Tryz.prog 27 := ⟨by kernel_rfl, fun d a b c e w => by
 simp [go_sem]
 by_cases h1 : a = c <;> by_cases h2 : b = e <;> simp [h1, h2]⟩
theorem tS35 : TSl Tryz.prog 35 22 1 24 [.slice none 0 0] := tSl_mk (z := .slice none 0 0) Tryz.underlying35 (by kernel_rfl) rfl
theorem tS81 : TSl Tryz.prog 81 5 1 1 [.int .u8 0] := tSl_mk (z := .int .u8 0) Tryz.underlying81 (by kernel_rfl) rfl
theorem tZ22 : TZero Tryz.prog 22 [.slice none 0 0] := tZero_mk (z := .slice none 0 0) (by kernel_rfl) rfl
theorem tZ4 : TZero Tryz.prog 4 [.bool false] := tZero_mk (z := .bool false) (by kernel_rfl) rfl
theorem tB84 : TBld Tryz.prog 84 [.slice none 0 0, .int .i64 0, .int .i64 0] [(0, 1), (1, 1), (2, 1)] := tBld_mk Tryz.underlying84 (by kernel_rfl) (z := .agg #[.slice none 0 0, .int .i64 0, .int .i64 0]) (by kernel_rfl) (by kernel_rfl)
theorem tS85 : TSl Tryz.prog 85 84 3 40 [.slice none 0 0, .int .i64 0, .int .i64 0] := tSl_mk (z := .agg #[.slice none 0 0, .int .i64 0, .int .i64 0]) Tryz.underlying85 (by kernel_rfl) rfl
theorem tZ85 : TZero Tryz.prog 85 [.slice none 0 0] := tZero_mk (z := .slice none 0 0) (by kernel_rfl) rfl
theorem tO85 : TOne Tryz.prog 85 := tOne_mk Tryz.underlying85 rfl (by kernel_rfl)
theorem tM86 : TMap Tryz.prog 86 := tMap_mk Tryz.underlying86 Tryz.underlying9 (by kernel_rfl)
theorem tO48 : TOne Tryz.prog 48 := tOne_mk Tryz.underlying48 rfl (by kernel_rfl)
theorem tZ86 : TZero Tryz.prog 86 [.map none] := tZero_mk (z := .map none) (by kernel_rfl) rfl
theorem tO86 : TOne Tryz.prog 86 := tOne_mk Tryz.underlying86 rfl (by kernel_rfl)
theorem tZ3 : TZero Tryz.prog 3 [.int .i64 0] := tZero_mk (z := .int .i64 0) (by kernel_rfl) rfl
theorem tF84_0 : FldAt Tryz.prog 84 0 0 := fldAt_mk Tryz.underlying84 (by kernel_rfl)
theorem tO35 : TOne Tryz.prog 35 := tOne_mk Tryz.underlying35 rfl (by kernel_rfl)
theorem tF84_1 : FldAt Tryz.prog 84 1 1 := fldAt_mk Tryz.underlying84 (by kernel_rfl)
theorem tF84_2 : FldAt Tryz.prog 84 2 2 := fldAt_mk Tryz.underlying84 (by kernel_rfl)
theorem tO4 : TOne Tryz.prog 4 := tOne_mk Tryz.underlying4 rfl (by kernel_rfl)
theorem tS72 : TSl Tryz.prog 72 71 2 32 [.slice none 0 0, .bool false] := tSl_mk (z := .agg #[.slice none 0 0, .bool false]) Tryz.underlying72 (by kernel_rfl) rfl
theorem tB71 : TBld Tryz.prog 71 [.slice none 0 0, .bool false] [(0, 1), (1, 1)] := tBld_mk Tryz.underlying71 (by kernel_rfl) (z := .agg #[.slice none 0 0, .bool false]) (by kernel_rfl) (by kernel_rfl)
theorem tA71 : TAgg Tryz.prog 71 2 := tAgg_mk Tryz.underlying71 rfl (by kernel_rfl)
theorem tZ71 : TZero Tryz.prog 71 [.slice none 0 0, .bool false] := tZero_mk (z := .agg #[.slice none 0 0, .bool false]) (by kernel_rfl) rfl
theorem tF71_1 : FldAt Tryz.prog 71 1 1 := fldAt_mk Tryz.underlying71 (by kernel_rfl)
theorem tF71_0 : FldAt Tryz.prog 71 0 0 := fldAt_mk Tryz.underlying71 (by kernel_rfl)
theorem tm53_Start : TMeth Tryz.prog 53 "Start" 80 := tMeth_mk Tryz.underlying53 (by kernel_rfl)
theorem tF112_0 : FldAt Tryz.prog 112 0 0 := fldAt_mk Tryz.underlying112 (by kernel_rfl)
theorem tO60 : TOne Tryz.prog 60 := tOne_mk Tryz.underlying60 rfl (by kernel_rfl)
theorem tS54 : TSl Tryz.prog 54 60 1 4 [.int .u32 0] := tSl_mk (z := .int .u32 0) Tryz.underlying54 (by kernel_rfl) rfl
theorem tZ54 : TZero Tryz.prog 54 [.slice none 0 0] := tZero_mk (z := .slice none 0 0) (by kernel_rfl) rfl
theorem tO54 : TOne Tryz.prog 54 := tOne_mk Tryz.underlying54 rfl (by kernel_rfl)
theorem tB133 : TBld Tryz.prog 133 [] [] := tBld_mk Tryz.underlying133 (by kernel_rfl) (z := .agg #[]) (by kernel_rfl) (by kernel_rfl)
theorem tMI134 : TMapI Tryz.prog 134 .u32 ((fun _ : Unit => .agg #[]) ()) := tMapI_mk Tryz.underlying134 Tryz.underlying60 (by kernel_rfl)
theorem tZ134 : TZero Tryz.prog 134 [.map none] := tZero_mk (z := .map none) (by kernel_rfl) rfl
theorem tO134 : TOne Tryz.prog 134 := tOne_mk Tryz.underlying134 rfl (by kernel_rfl)
theorem tm53_Steps : TMeth Tryz.prog 53 "Steps" 101 := tMeth_mk Tryz.underlying53 (by kernel_rfl)
theorem tO53 : TOne Tryz.prog 53 := tOne_mk Tryz.underlying53 rfl (by kernel_rfl)
theorem tF112_2 : FldAt Tryz.prog 112 2 2 := fldAt_mk Tryz.underlying112 (by kernel_rfl)
theorem tO110 : TOne Tryz.prog 110 := tOne_mk Tryz.underlying110 rfl (by kernel_rfl)
theorem tS110 : TSl Tryz.prog 110 132 4 24 [.int .u32 0, .int .u32 0, .int .u32 0, .int .i64 0] := tSl_mk (z := .agg #[.int .u32 0, .int .u32 0, .int .u32 0, .int .i64 0]) Tryz.underlying110 (by kernel_rfl) rfl
theorem tA132 : TAgg Tryz.prog 132 4 := tAgg_mk Tryz.underlying132 rfl (by kernel_rfl)
theorem tZ132 : TZero Tryz.prog 132 [.int .u32 0, .int .u32 0, .int .u32 0, .int .i64 0] := tZero_mk (z := .agg #[.int .u32 0, .int .u32 0, .int .u32 0, .int .i64 0]) (by kernel_rfl) rfl
theorem tF132_0 : FldAt Tryz.prog 132 0 0 := fldAt_mk Tryz.underlying132 (by kernel_rfl)
theorem tF132_3 : FldAt Tryz.prog 132 3 3 := fldAt_mk Tryz.underlying132 (by kernel_rfl)
theorem tF132_2 : FldAt Tryz.prog 132 2 2 := fldAt_mk Tryz.underlying132 (by kernel_rfl)
theorem tF132_1 : FldAt Tryz.prog 132 1 1 := fldAt_mk Tryz.underlying132 (by kernel_rfl)
theorem tB108 : TBld Tryz.prog 108 [.int .i64 0, .int .i64 0, .int .u32 0] [(0, 1), (1, 1), (2, 1)] := tBld_mk Tryz.underlying108 (by kernel_rfl) (z := .agg #[.int .i64 0, .int .i64 0, .int .u32 0]) (by kernel_rfl) (by kernel_rfl)
theorem tZ108 : TZero Tryz.prog 108 [.int .i64 0, .int .i64 0, .int .u32 0] := tZero_mk (z := .agg #[.int .i64 0, .int .i64 0, .int .u32 0]) (by kernel_rfl) rfl
theorem tA108 : TAgg Tryz.prog 108 3 := tAgg_mk Tryz.underlying108 rfl (by kernel_rfl)
theorem tF108_2 : FldAt Tryz.prog 108 2 2 := fldAt_mk Tryz.underlying108 (by kernel_rfl)
theorem tZ133 : TZero Tryz.prog 133 [] := tZero_mk (z := .agg #[]) (by kernel_rfl) rfl
theorem tA133 : TAgg Tryz.prog 133 0 := tAgg_mk Tryz.underlying133 rfl (by kernel_rfl)
theorem tB112 : TBld Tryz.prog 112 [.int .u32 0, .int .u32 0, .slice none 0 0] [(0, 1), (1, 1), (2, 1)] := tBld_mk Tryz.underlying112 (by kernel_rfl) (z := .agg #[.int .u32 0, .int .u32 0, .slice none 0 0]) (by kernel_rfl) (by kernel_rfl)
theorem tB132 : TBld Tryz.prog 132 [.int .u32 0, .int .u32 0, .int .u32 0, .int .i64 0] [(0, 1), (1, 1), (2, 1), (3, 1)] := tBld_mk Tryz.underlying132 (by kernel_rfl) (z := .agg #[.int .u32 0, .int .u32 0, .int .u32 0, .int .i64 0]) (by kernel_rfl) (by kernel_rfl)
theorem tC53 : TCon Tryz.prog 53 := ⟨_, Tryz.underlying53, rfl⟩
theorem tZ60 : TZero Tryz.prog 60 [.int .u32 0] := tZero_mk (z := .int .u32 0) (by kernel_rfl) rfl
theorem tF112_1 : FldAt Tryz.prog 112 1 1 := fldAt_mk Tryz.underlying112 (by kernel_rfl)
theorem tZ159 : TZero Tryz.prog 159 [.map none] := tZero_mk (z := .map none) (by kernel_rfl) rfl
theorem tO159 : TOne Tryz.prog 159 := tOne_mk Tryz.underlying159 rfl (by kernel_rfl)
theorem tB195 : TBld Tryz.prog 195 [.slice none 0 0, .map none, .int .i64 0] [(0, 1), (1, 1), (2, 1)] := tBld_mk Tryz.underlying195 (by kernel_rfl) (z := .agg #[.slice none 0 0, .map none, .int .i64 0]) (by kernel_rfl) (by kernel_rfl)
theorem tMR141 : TMapI Tryz.prog 141 .u32 (.int .i64 0) := tMapI_mk Tryz.underlying141 Tryz.underlying60 (by kernel_rfl)
theorem tMR159 : TMapI Tryz.prog 159 .u32 (.slice none 0 0) := tMapI_mk Tryz.underlying159 Tryz.underlying60 (by kernel_rfl)
theorem tF108_1 : FldAt Tryz.prog 108 1 1 := fldAt_mk Tryz.underlying108 (by kernel_rfl)
theorem tB165 : TBld Tryz.prog 165 [.int .u32 0, .int .i64 0] [(0, 1), (1, 1)] := tBld_mk Tryz.underlying165 (by kernel_rfl) (z := .agg #[.int .u32 0, .int .i64 0]) (by kernel_rfl) (by kernel_rfl)
theorem tS163 : TSl Tryz.prog 163 165 2 16 [.int .u32 0, .int .i64 0] := tSl_mk (z := .agg #[.int .u32 0, .int .i64 0]) Tryz.underlying163 (by kernel_rfl) rfl
theorem tF195_2 : FldAt Tryz.prog 195 2 2 := fldAt_mk Tryz.underlying195 (by kernel_rfl)
theorem tF195_1 : FldAt Tryz.prog 195 1 1 := fldAt_mk Tryz.underlying195 (by kernel_rfl)
theorem tO191 : TOne Tryz.prog 191 := tOne_mk Tryz.underlying191 rfl (by kernel_rfl)
theorem tMR191 : TMapI Tryz.prog 191 .u32 (.pointer none) := tMapI_mk Tryz.underlying191 Tryz.underlying60 (by kernel_rfl)
theorem tB199 : TBld Tryz.prog 199 [.int .u32 0, .int .i64 0, .int .i64 0, .int .i64 0] [(0, 1), (1, 1), (2, 1), (3, 1)] := tBld_mk Tryz.underlying199 (by kernel_rfl) (z := .agg #[.int .u32 0, .int .i64 0, .int .i64 0, .int .i64 0]) (by kernel_rfl) (by kernel_rfl)
theorem tF195_0 : FldAt Tryz.prog 195 0 0 := fldAt_mk Tryz.underlying195 (by kernel_rfl)
theorem tC201 : TCon Tryz.prog 201 := ⟨_, Tryz.underlying201, rfl⟩
theorem tC196 : TCon Tryz.prog 196 := ⟨_, Tryz.underlying196, rfl⟩
theorem tm201_Push : TMeth Tryz.prog 201 "Push" 171 := tMeth_mk Tryz.underlying201 (by kernel_rfl)
theorem tO193 : TOne Tryz.prog 193 := tOne_mk Tryz.underlying193 rfl (by kernel_rfl)
theorem tS193 : TSl Tryz.prog 193 196 1 8 [.pointer none] := tSl_mk (z := .pointer none) Tryz.underlying193 (by kernel_rfl) rfl
theorem tF199_3 : FldAt Tryz.prog 199 3 3 := fldAt_mk Tryz.underlying199 (by kernel_rfl)
theorem tm201_Len : TMethV Tryz.prog 201 "Len" 167 := tMethV_mk Tryz.underlying201 tO193 (by kernel_rfl)
theorem tm201_Swap : TMethV Tryz.prog 201 "Swap" 169 := tMethV_mk Tryz.underlying201 tO193 (by kernel_rfl)
theorem tO196 : TOne Tryz.prog 196 := tOne_mk Tryz.underlying196 rfl (by kernel_rfl)
theorem tm201_Pop : TMeth Tryz.prog 201 "Pop" 170 := tMeth_mk Tryz.underlying201 (by kernel_rfl)
theorem tF199_0 : FldAt Tryz.prog 199 0 0 := fldAt_mk Tryz.underlying199 (by kernel_rfl)
theorem tF199_1 : FldAt Tryz.prog 199 1 1 := fldAt_mk Tryz.underlying199 (by kernel_rfl)
theorem tA165 : TAgg Tryz.prog 165 2 := tAgg_mk Tryz.underlying165 rfl (by kernel_rfl)
theorem tZ165 : TZero Tryz.prog 165 [.int .u32 0, .int .i64 0] := tZero_mk (z := .agg #[.int .u32 0, .int .i64 0]) (by kernel_rfl) rfl
theorem tF165_1 : FldAt Tryz.prog 165 1 1 := fldAt_mk Tryz.underlying165 (by kernel_rfl)
theorem tF165_0 : FldAt Tryz.prog 165 0 0 := fldAt_mk Tryz.underlying165 (by kernel_rfl)
theorem tZ25 : TZero Tryz.prog 25 [.int .i64 0, .slice none 0 0, .slice none 0 0, .slice none 0 0] := tZero_mk (z := .agg #[.int .i64 0, .slice none 0 0, .slice none 0 0, .slice none 0 0]) (by kernel_rfl) rfl
theorem tB114 : TBld Tryz.prog 114 [.slice none 0 0, .slice none 0 0, .slice none 0 0, .int .i64 0] [(0, 1), (1, 1), (2, 1), (3, 1)] := tBld_mk Tryz.underlying114 (by kernel_rfl) (z := .agg #[.slice none 0 0, .slice none 0 0, .slice none 0 0, .int .i64 0]) (by kernel_rfl) (by kernel_rfl)
theorem tB25 : TBld Tryz.prog 25 [.int .i64 0, .slice none 0 0, .slice none 0 0, .slice none 0 0] [(0, 1), (1, 1), (2, 1), (3, 1)] := tBld_mk Tryz.underlying25 (by kernel_rfl) (z := .agg #[.int .i64 0, .slice none 0 0, .slice none 0 0, .slice none 0 0]) (by kernel_rfl) (by kernel_rfl)
theorem tF27_0 : FldAt Tryz.prog 27 0 0 := fldAt_mk Tryz.underlying27 (by kernel_rfl)
end Go.Proofs.YtimillpakjgnoaaGreatDoor.Pl

namespace Go.Proofs.YtimillpakjgnoaaGreatDoor.Pl
open Go Go.RowKit
def F_in_ (n_ : Int) (low : Int) (high : Int) (K : Bool → Prop) : Prop :=
 ((decide (low ≤ n_)) = true →
  K (decide (n_ ≤ high))) ∧
 ((decide (low ≤ n_)) = false →
  K false)
def F_isNaN1 (x : Int) (K : Bool → Prop) : Prop :=
 K (x != x)
def F_isNaN2 (x : Int) (K : Bool → Prop) : Prop :=
 K (x != x)
def F_less (x : Int) (y : Int) (K : Bool → Prop) : Prop :=
 ∀ r2 : Bool, r2 = (sp_isNaN1 x) →
 ((r2) = true →
  ∀ r3 : Bool, r3 = (sp_isNaN1 y) →
  ((!r3) = true →
   K true) ∧
  ((!r3) = false →
   K (decide (x < y)))) ∧
 ((r2) = false →
  K (decide (x < y)))
def F_bsearch_L1 (x : List Int) (target : Int) (K : (Int × Bool) → Prop) (i : Int) (j : Int) (I1 : Int → Int → Prop) (μ1 : Int → Int → Nat) : Prop :=
 ((decide (i < j)) = true →
  ∀ x2 : Int, x2 = (Int.fdiv (IntKind.u64.wrap (IntKind.i64.wrap (i + j))) (2 ^ (min ((1 : Int)).toNat (IntKind.bits .u64)))) →
  (inb x (IntKind.i64.wrap (x2))) ∧
  ∀ r2 : Bool, r2 = (sp_less (gt x (IntKind.i64.wrap (x2))) target) →
  ((r2) = true →
   I1 (IntKind.i64.wrap ((IntKind.i64.wrap (x2)) + 1)) j ∧
 μ1 (IntKind.i64.wrap ((IntKind.i64.wrap (x2)) + 1)) j < μ1 i j) ∧
  ((r2) = false →
   I1 i (IntKind.i64.wrap (x2)) ∧
 μ1 i (IntKind.i64.wrap (x2)) < μ1 i j)) ∧
 ((decide (i < j)) = false →
  ((decide (i < ((x.length : Nat) : Int))) = true →
   (inb x i) ∧
   (((gt x i) == target) = true →
    K (i, true)) ∧
   (((gt x i) == target) = false →
    ∀ r3 : Bool, r3 = (sp_isNaN1 (gt x i)) →
    ((r3) = true →
     ∀ r4 : Bool, r4 = (sp_isNaN1 target) →
     K (i, r4)) ∧
    ((r3) = false →
     K (i, false)))) ∧
  ((decide (i < ((x.length : Nat) : Int))) = false →
   K (i, false)))
def F_bsearch (x : List Int) (target : Int) (K : (Int × Bool) → Prop) : Prop :=
 ∃ (I1 : Int → Int → Prop) (μ1 : Int → Int → Nat), I1 0 ((x.length : Nat) : Int) ∧ ∀ (i : Int) (j : Int), I1 i j → F_bsearch_L1 x target K i j I1 μ1
def F_indexF_L1 (s_ : List Int) (pf : Int → Bool) (Df : Int → Prop) (K : Int → Prop) (t8 : Int) (I1 : Int → Prop) (μ1 : Int → Nat) : Prop :=
 ((decide (t8 < ((s_.length : Nat) : Int))) = true →
  (inb s_ t8) ∧
  (Df (gt s_ t8)) ∧
  ∀ r2 : Bool, r2 = (pf (gt s_ t8)) →
  ((r2) = true →
   K t8) ∧
  ((r2) = false →
   I1 (IntKind.i64.wrap (t8 + 1)) ∧
 μ1 (IntKind.i64.wrap (t8 + 1)) < μ1 t8)) ∧
 ((decide (t8 < ((s_.length : Nat) : Int))) = false →
  K (-1))
def F_indexF (s_ : List Int) (pf : Int → Bool) (Df : Int → Prop) (K : Int → Prop) : Prop :=
 ∃ (I1 : Int → Prop) (μ1 : Int → Nat), I1 0 ∧ ∀ (t8 : Int), I1 t8 → F_indexF_L1 s_ pf Df K t8 I1 μ1
def F_containsF (s_ : List Int) (pf : Int → Bool) (Df : Int → Prop) (K : Bool → Prop) : Prop :=
 (pre_any s_ pf Df) ∧
 ∀ r2 : Int, r2 = (sp_indexF s_ pf Df) →
 K (decide (0 ≤ r2))
def F_isSet_J1 (K : Bool → Prop) (t33 : Bool) (t9 : Int) (I1 : Int → Prop) (μ1 : Int → Nat) : Prop :=
 ((t33) = true →
  K false) ∧
 ((t33) = false →
  I1 (IntKind.i64.wrap (t9 + 1)) ∧
 μ1 (IntKind.i64.wrap (t9 + 1)) < μ1 t9)
def F_isSet_L1 (l : List Int) (n_ : Int) (K : Bool → Prop) (t9 : Int) (I1 : Int → Prop) (μ1 : Int → Nat) : Prop :=
 ((decide (t9 < ((l.length : Nat) : Int))) = true →
  (inb l t9) ∧
  ((decide ((gt l t9) < 0)) = true →
   F_isSet_J1 K true t9 I1 μ1) ∧
  ((decide ((gt l t9) < 0)) = false →
   ((decide (n_ ≤ (gt l t9))) = true →
    F_isSet_J1 K true t9 I1 μ1) ∧
   ((decide (n_ ≤ (gt l t9))) = false →
    ((decide (0 < t9)) = true →
     (inb l (IntKind.i64.wrap (t9 - 1))) ∧
     F_isSet_J1 K (decide ((gt l t9) ≤ (gt l (IntKind.i64.wrap (t9 - 1))))) t9 I1 μ1) ∧
    ((decide (0 < t9)) = false →
     F_isSet_J1 K false t9 I1 μ1)))) ∧
 ((decide (t9 < ((l.length : Nat) : Int))) = false →
  K true)
def F_isSet (l : List Int) (n_ : Int) (K : Bool → Prop) : Prop :=
 ∃ (I1 : Int → Prop) (μ1 : Int → Nat), I1 0 ∧ ∀ (t9 : Int), I1 t9 → F_isSet_L1 l n_ K t9 I1 μ1
def F_meets1 (x : Int) (x2 : List Int) (K : Bool → Prop) : Prop :=
 (pre_bsearch x2 x) ∧
 ∀ r2 : Int × Bool, r2 = (sp_bsearch x2 x) →
 K r2.2
def F_meets (a : List Int) (b : List Int) (K : Bool → Prop) : Prop :=
 (pre_any a (fun y_ : Int => sp_meets1 y_ b) (fun y_ : Int => pre_meets1 y_ b)) ∧
 ∀ r2 : Bool, r2 = (sp_any a (fun y_ : Int => sp_meets1 y_ b) (fun y_ : Int => pre_meets1 y_ b)) →
 K r2
def F_operator_J2 (K : Int → Prop) (t32 : Bool) : Prop :=
 ((t32) = true →
  K 3) ∧
 ((t32) = false →
  K 0)
def F_operator_J1 (o : Operator) (K : Int → Prop) (t5 : Bool) : Prop :=
 ((t5) = true →
  K 5) ∧
 ((t5) = false →
  ((decide (o.cost < 0)) = true →
   F_operator_J2 K true) ∧
  ((decide (o.cost < 0)) = false →
   F_operator_J2 K (decide (100 < o.cost))))
def F_operator (o : Operator) (facts : Int) (K : Int → Prop) : Prop :=
 (pre_isSet o.pre facts) ∧
 ∀ r2 : Bool, r2 = (sp_isSet o.pre facts) →
 ((!r2) = true →
  F_operator_J1 o K true) ∧
 ((!r2) = false →
  (pre_isSet o.add facts) ∧
  ∀ r3 : Bool, r3 = (sp_isSet o.add facts) →
  ((!r3) = true →
   F_operator_J1 o K true) ∧
  ((!r3) = false →
   (pre_isSet o.del facts) ∧
   ∀ r4 : Bool, r4 = (sp_isSet o.del facts) →
   ((!r4) = true →
    F_operator_J1 o K true) ∧
   ((!r4) = false →
    (pre_meets o.add o.del) ∧
    ∀ r5 : Bool, r5 = (sp_meets o.add o.del) →
    F_operator_J1 o K r5)))
def F_validate_L1 (t : Task) (K : Fault → Prop) (t41 : Int) (I1 : Int → Prop) (μ1 : Int → Nat) : Prop :=
 ((decide (t41 < ((t.ops.length : Nat) : Int))) = true →
  (inb t.ops t41) ∧
  (pre_operator (gt t.ops t41) t.facts) ∧
  ∀ r4 : Int, r4 = (sp_operator (gt t.ops t41) t.facts) →
  ((r4 != 0) = true →
   K (⟨r4, t41⟩ : Fault)) ∧
  ((r4 != 0) = false →
   I1 (IntKind.i64.wrap (t41 + 1)) ∧
 μ1 (IntKind.i64.wrap (t41 + 1)) < μ1 t41)) ∧
 ((decide (t41 < ((t.ops.length : Nat) : Int))) = false →
  K (⟨0, 0⟩ : Fault))
def F_validate_J1 (t : Task) (K : Fault → Prop) (t6 : Bool) : Prop :=
 ((t6) = true →
  K (⟨3, (-1)⟩ : Fault)) ∧
 ((t6) = false →
  (pre_isSet t.init t.facts) ∧
  ∀ r2 : Bool, r2 = (sp_isSet t.init t.facts) →
  ((!r2) = true →
   K (⟨5, (-2)⟩ : Fault)) ∧
  ((!r2) = false →
   (pre_isSet t.goal t.facts) ∧
   ∀ r3 : Bool, r3 = (sp_isSet t.goal t.facts) →
   ((!r3) = true →
    K (⟨5, (-3)⟩ : Fault)) ∧
   ((!r3) = false →
    ((decide (40 < ((t.ops.length : Nat) : Int))) = true →
     K (⟨2, (-1)⟩ : Fault)) ∧
    ((decide (40 < ((t.ops.length : Nat) : Int))) = false →
     ∃ (I1 : Int → Prop) (μ1 : Int → Nat), I1 0 ∧ ∀ (t41 : Int), I1 t41 → F_validate_L1 t K t41 I1 μ1))))
def F_validate (t : Task) (K : Fault → Prop) : Prop :=
 ((decide (t.facts < 0)) = true →
  F_validate_J1 t K true) ∧
 ((decide (t.facts < 0)) = false →
  F_validate_J1 t K (decide (24 < t.facts)))
def F_steps_J1 (K : Fault → Prop) (t23 : Bool) (t13 : Int) (I1 : Int → Prop) (μ1 : Int → Nat) : Prop :=
 ((t23) = true →
  K (⟨3, (-6)⟩ : Fault)) ∧
 ((t23) = false →
  I1 (IntKind.i64.wrap (t13 + 1)) ∧
 μ1 (IntKind.i64.wrap (t13 + 1)) < μ1 t13)
def F_steps_L1 (operators : Int) (plan : List Int) (K : Fault → Prop) (t13 : Int) (I1 : Int → Prop) (μ1 : Int → Nat) : Prop :=
 ((decide (t13 < ((plan.length : Nat) : Int))) = true →
  (inb plan t13) ∧
  ((decide ((gt plan t13) < 0)) = true →
   F_steps_J1 K true t13 I1 μ1) ∧
  ((decide ((gt plan t13) < 0)) = false →
   F_steps_J1 K (decide (operators ≤ (gt plan t13))) t13 I1 μ1)) ∧
 ((decide (t13 < ((plan.length : Nat) : Int))) = false →
  K (⟨0, 0⟩ : Fault))
def F_steps (operators : Int) (plan : List Int) (K : Fault → Prop) : Prop :=
 ((decide (60 < ((plan.length : Nat) : Int))) = true →
  K (⟨2, (-5)⟩ : Fault)) ∧
 ((decide (60 < ((plan.length : Nat) : Int))) = false →
  ∃ (I1 : Int → Prop) (μ1 : Int → Nat), I1 0 ∧ ∀ (t13 : Int), I1 t13 → F_steps_L1 operators plan K t13 I1 μ1)
def F_planFault (t : Task) (plan : List Int) (K : Fault → Prop) : Prop :=
 ∀ r2 : Fault, r2 = (sp_validate t) →
 ((!((r2.code == 0) && (r2.index == 0))) = true →
  K r2) ∧
 ((!((r2.code == 0) && (r2.index == 0))) = false →
  (pre_steps ((t.ops.length : Nat) : Int) plan) ∧
  ∀ r3 : Fault, r3 = (sp_steps ((t.ops.length : Nat) : Int) plan) →
  K r3)
def F_clone (s_ : List Int) (K : (List Int) → Prop) : Prop :=
 (s_ = [] → 
  K ([] : List Int)) ∧
 (room ((([] : List Int) ++ s_)).length 8) ∧
 K (([] : List Int) ++ s_)
def F_cloneO (s_ : List Int) (K : (List Int) → Prop) : Prop :=
 (s_ = [] → 
  K ([] : List Int)) ∧
 (room ((([] : List Int) ++ s_)).length 8) ∧
 K (([] : List Int) ++ s_)
def F_update_J1 (out : List Int) (t14 : Int) (I1 : Int → (List Int) → Prop) (μ1 : Int → (List Int) → Nat) (out3 : List Int) : Prop :=
 I1 (IntKind.i64.wrap (t14 + 1)) out3 ∧
 μ1 (IntKind.i64.wrap (t14 + 1)) out3 < μ1 t14 out
def F_update_L1 (s_ : List Int) (add : List Int) (del : List Int) (K : (List Int) → Prop) (out : List Int) (t14 : Int) (I1 : Int → (List Int) → Prop) (μ1 : Int → (List Int) → Nat) : Prop :=
 ((decide (t14 < ((s_.length : Nat) : Int))) = true →
  (inb s_ t14) ∧
  (pre_bsearch del (gt s_ t14)) ∧
  ∀ r2 : Int × Bool, r2 = (sp_bsearch del (gt s_ t14)) →
  ((!r2.2) = true →
   (room ((out ++ ([(gt s_ t14)] : List Int))).length 8) ∧
   F_update_J1 out t14 I1 μ1 (out ++ ([(gt s_ t14)] : List Int))) ∧
  ((!r2.2) = false →
   F_update_J1 out t14 I1 μ1 out)) ∧
 ((decide (t14 < ((s_.length : Nat) : Int))) = false →
  (room ((out ++ add)).length 8) ∧
  (pre_sort (out ++ add)) ∧
  ∀ r3 : List Int, r3 = (sp_sort (out ++ add)) →
  (pre_compact r3) ∧
  ∀ r4 : List Int, r4 = (sp_compact r3) →
  K r4)
def F_update (s_ : List Int) (add : List Int) (del : List Int) (K : (List Int) → Prop) : Prop :=
 ∃ (I1 : Int → (List Int) → Prop) (μ1 : Int → (List Int) → Nat), I1 0 ([] : List Int) ∧ ∀ (t14 : Int) (out : List Int), I1 t14 out → F_update_L1 s_ add del K out t14 I1 μ1
def F_contains2_J2 (K : Bool → Prop) (i : Int) (t39 : Bool) (t10 : Int) (i3 : Int) (I1 : Int → Int → Prop) (μ1 : Int → Int → Nat) : Prop :=
 ((t39) = true →
  K false) ∧
 ((t39) = false →
  I1 i3 (IntKind.i64.wrap (t10 + 1)) ∧
 μ1 i3 (IntKind.i64.wrap (t10 + 1)) < μ1 i t10)
def F_contains2_J1 (s_ : List Int) (part : List Int) (K : Bool → Prop) (t25 : Bool) (i : Int) (I2 : Int → Prop) (μ2 : Int → Nat) (t10 : Int) (i3 : Int) (I1 : Int → Int → Prop) (μ1 : Int → Int → Nat) : Prop :=
 ((t25) = true →
  I2 (IntKind.i64.wrap (i3 + 1)) ∧
 μ2 (IntKind.i64.wrap (i3 + 1)) < μ2 i3) ∧
 ((t25) = false →
  ((i3 == ((s_.length : Nat) : Int)) = true →
   F_contains2_J2 K i true t10 i3 I1 μ1) ∧
  ((i3 == ((s_.length : Nat) : Int)) = false →
   (inb s_ i3) ∧
   F_contains2_J2 K i ((gt s_ i3) != (gt part t10)) t10 i3 I1 μ1))
def F_contains2_L2 (s_ : List Int) (part : List Int) (K : Bool → Prop) (i : Int) (I2 : Int → Prop) (μ2 : Int → Nat) (t10 : Int) (i3 : Int) (I1 : Int → Int → Prop) (μ1 : Int → Int → Nat) : Prop :=
 ((decide (i3 < ((s_.length : Nat) : Int))) = true →
  (inb s_ i3) ∧
  F_contains2_J1 s_ part K (decide ((gt s_ i3) < (gt part t10))) i I2 μ2 t10 i3 I1 μ1) ∧
 ((decide (i3 < ((s_.length : Nat) : Int))) = false →
  F_contains2_J1 s_ part K false i I2 μ2 t10 i3 I1 μ1)
def F_contains2_L1 (s_ : List Int) (part : List Int) (K : Bool → Prop) (i : Int) (t10 : Int) (I1 : Int → Int → Prop) (μ1 : Int → Int → Nat) : Prop :=
 ((decide (t10 < ((part.length : Nat) : Int))) = true →
  (inb part t10) ∧
  ∃ (I2 : Int → Prop) (μ2 : Int → Nat), I2 i ∧ ∀ (i3 : Int), I2 i3 → F_contains2_L2 s_ part K i I2 μ2 t10 i3 I1 μ1) ∧
 ((decide (t10 < ((part.length : Nat) : Int))) = false →
  K true)
def F_contains2 (s_ : List Int) (part : List Int) (K : Bool → Prop) : Prop :=
 ∃ (I1 : Int → Int → Prop) (μ1 : Int → Int → Nat), I1 0 0 ∧ ∀ (i : Int) (t10 : Int), I1 i t10 → F_contains2_L1 s_ part K i t10 I1 μ1
def F_can (t : Task) (s_ : List Int) (op : Int) (K : Bool → Prop) : Prop :=
 (inb t.ops op) ∧
 (pre_contains2 s_ ((gt t.ops op).pre)) ∧
 ∀ r2 : Bool, r2 = (sp_contains2 s_ ((gt t.ops op).pre)) →
 K r2
def F_next (t : Task) (s_ : List Int) (op : Int) (K : (List Int) → Prop) : Prop :=
 (inb t.ops op) ∧
 (pre_update s_ ((gt t.ops op).add) ((gt t.ops op).del)) ∧
 ∀ r2 : List Int, r2 = (sp_update s_ ((gt t.ops op).add) ((gt t.ops op).del)) →
 K r2
def F_srun_L1 (t : Task) (plan : List Int) (K : (List (List Int)) → Prop) (s_2 : List Int) (t15 : Int) (out : List (List Int)) (I1 : (List Int) → Int → (List (List Int)) → Prop) (μ1 : (List Int) → Int → (List (List Int)) → Nat) : Prop :=
 ((decide (t15 < ((plan.length : Nat) : Int))) = true →
  (inb plan t15) ∧
  (pre_can t s_2 (gt plan t15)) ∧
  ∀ r3 : Bool, r3 = (sp_applies t s_2 (gt plan t15)) →
  ((!r3) = true →
   K out) ∧
  ((!r3) = false →
   (pre_next t s_2 (gt plan t15)) ∧
   ∀ r4 : List Int, r4 = (sp_after t s_2 (gt plan t15)) →
   (room ((out ++ ([r4] : List (List Int)))).length 24) ∧
   I1 r4 (IntKind.i64.wrap (t15 + 1)) (out ++ ([r4] : List (List Int))) ∧
 μ1 r4 (IntKind.i64.wrap (t15 + 1)) (out ++ ([r4] : List (List Int))) < μ1 s_2 t15 out)) ∧
 ((decide (t15 < ((plan.length : Nat) : Int))) = false →
  K out)
def F_srun (t : Task) (s_ : List Int) (plan : List Int) (K : (List (List Int)) → Prop) : Prop :=
 (pre_clone s_) ∧
 ∀ r2 : List Int, r2 = (sp_clone s_) →
 ∃ (I1 : (List Int) → Int → (List (List Int)) → Prop) (μ1 : (List Int) → Int → (List (List Int)) → Nat), I1 s_ 0 ([r2] : List (List Int)) ∧ ∀ (s_2 : List Int) (t15 : Int) (out : List (List Int)), I1 s_2 t15 out → F_srun_L1 t plan K s_2 t15 out I1 μ1
def F_works (t : Task) (s_ : List Int) (plan : List Int) (K : Bool → Prop) : Prop :=
 (pre_srun t s_ plan) ∧
 ∀ r2 : List (List Int), r2 = (sp_srun t s_ plan) →
 ∀ x : Bool, x = (((r2.length : Nat) : Int) == (IntKind.i64.wrap (((plan.length : Nat) : Int) + 1))) →
 ((x) = true →
  (inb r2 ((plan.length : Nat) : Int)) ∧
  (pre_contains2 (gt r2 ((plan.length : Nat) : Int)) t.goal) ∧
  ∀ r3 : Bool, r3 = (sp_contains2 (gt r2 ((plan.length : Nat) : Int)) t.goal) →
  K r3) ∧
 ((x) = false →
  K false)
def F_solves (t : Task) (plan : List Int) (K : (Bool × Fault) → Prop) : Prop :=
 ∀ r2 : Fault, r2 = (sp_planFault t plan) →
 ((!((r2.code == 0) && (r2.index == 0))) = true →
  K (false, r2)) ∧
 ((!((r2.code == 0) && (r2.index == 0))) = false →
  (pre_works t t.init plan) ∧
  ∀ r3 : Bool, r3 = (sp_rworks t t.init plan) →
  K (r3, (⟨0, 0⟩ : Fault)))
def F_compare (x : Int) (y : Int) (K : Int → Prop) : Prop :=
 ∀ r2 : Bool, r2 = (sp_isNaN1 x) →
 ∀ r3 : Bool, r3 = (sp_isNaN1 y) →
 ((r2) = true →
  ((r3) = true →
   K 0) ∧
  ((r3) = false →
   K (-1))) ∧
 ((r2) = false →
  ((r3) = true →
   K 1) ∧
  ((r3) = false →
   ((decide (x < y)) = true →
    K (-1)) ∧
   ((decide (x < y)) = false →
    ((decide (y < x)) = true →
     K 1) ∧
    ((decide (y < x)) = false →
     K 0))))
def F_key_L2 (l : List (List Int)) (t16 : Int) (b : List UInt8) (I2 : Int → (List UInt8) → Prop) (μ2 : Int → (List UInt8) → Nat) (t10 : Int) (b3 : List UInt8) (I1 : Int → (List UInt8) → Prop) (μ1 : Int → (List UInt8) → Nat) : Prop :=
 ((decide (t16 < (((gt l t10).length : Nat) : Int))) = true →
  (inb (gt l t10) t16) ∧
  (-9223372036854775808 ≤ (gt (gt l t10) t16) ∧ (gt (gt l t10) t16) ≤ 9223372036854775807) ∧
  (b3.length + 21 ≤ 140737488355328) ∧
  (room (((b3 ++ Lib.itoa (gt (gt l t10) t16)) ++ ([44] : List UInt8))).length 1) ∧
  I2 (IntKind.i64.wrap (t16 + 1)) ((b3 ++ Lib.itoa (gt (gt l t10) t16)) ++ ([44] : List UInt8)) ∧
 μ2 (IntKind.i64.wrap (t16 + 1)) ((b3 ++ Lib.itoa (gt (gt l t10) t16)) ++ ([44] : List UInt8)) < μ2 t16 b3) ∧
 ((decide (t16 < (((gt l t10).length : Nat) : Int))) = false →
  (room ((b3 ++ ([59] : List UInt8))).length 1) ∧
  I1 (IntKind.i64.wrap (t10 + 1)) (b3 ++ ([59] : List UInt8)) ∧
 μ1 (IntKind.i64.wrap (t10 + 1)) (b3 ++ ([59] : List UInt8)) < μ1 t10 b)
def F_key_L1 (l : List (List Int)) (K : (List UInt8) → Prop) (b : List UInt8) (t10 : Int) (I1 : Int → (List UInt8) → Prop) (μ1 : Int → (List UInt8) → Nat) : Prop :=
 ((decide (t10 < ((l.length : Nat) : Int))) = true →
  (inb l t10) ∧
  ∃ (I2 : Int → (List UInt8) → Prop) (μ2 : Int → (List UInt8) → Nat), I2 0 b ∧ ∀ (t16 : Int) (b3 : List UInt8), I2 t16 b3 → F_key_L2 l t16 b I2 μ2 t10 b3 I1 μ1) ∧
 ((decide (t10 < ((l.length : Nat) : Int))) = false →
  K b)
def F_key (l : List (List Int)) (K : (List UInt8) → Prop) : Prop :=
 ∃ (I1 : Int → (List UInt8) → Prop) (μ1 : Int → (List UInt8) → Nat), I1 0 ([] : List UInt8) ∧ ∀ (t10 : Int) (b : List UInt8), I1 t10 b → F_key_L1 l K b t10 I1 μ1
def F_scompare_L1 (s1 : List Int) (s2 : List Int) (K : Int → Prop) (t11 : Int) (I1 : Int → Prop) (μ1 : Int → Nat) : Prop :=
 ((decide (t11 < ((s1.length : Nat) : Int))) = true →
  (inb s1 t11) ∧
  ((decide (((s2.length : Nat) : Int) ≤ t11)) = true →
   K 1) ∧
  ((decide (((s2.length : Nat) : Int) ≤ t11)) = false →
   (inb s2 t11) ∧
   ∀ r2 : Int, r2 = (sp_compare (gt s1 t11) (gt s2 t11)) →
   ((r2 != 0) = true →
    K r2) ∧
   ((r2 != 0) = false →
    I1 (IntKind.i64.wrap (t11 + 1)) ∧
 μ1 (IntKind.i64.wrap (t11 + 1)) < μ1 t11))) ∧
 ((decide (t11 < ((s1.length : Nat) : Int))) = false →
  ((decide (((s1.length : Nat) : Int) < ((s2.length : Nat) : Int))) = true →
   K (-1)) ∧
  ((decide (((s1.length : Nat) : Int) < ((s2.length : Nat) : Int))) = false →
   K 0))
def F_scompare (s1 : List Int) (s2 : List Int) (K : Int → Prop) : Prop :=
 ∃ (I1 : Int → Prop) (μ1 : Int → Nat), I1 0 ∧ ∀ (t11 : Int), I1 t11 → F_scompare_L1 s1 s2 K t11 I1 μ1
def F_sequal_L1 (s1 : List Int) (s2 : List Int) (K : Bool → Prop) (t13 : Int) (I1 : Int → Prop) (μ1 : Int → Nat) : Prop :=
 ((decide (t13 < ((s1.length : Nat) : Int))) = true →
  (inb s1 t13) ∧
  (inb s2 t13) ∧
  (((gt s1 t13) != (gt s2 t13)) = true →
   K false) ∧
  (((gt s1 t13) != (gt s2 t13)) = false →
   I1 (IntKind.i64.wrap (t13 + 1)) ∧
 μ1 (IntKind.i64.wrap (t13 + 1)) < μ1 t13)) ∧
 ((decide (t13 < ((s1.length : Nat) : Int))) = false →
  K true)
def F_sequal (s1 : List Int) (s2 : List Int) (K : Bool → Prop) : Prop :=
 ((((s1.length : Nat) : Int) != ((s2.length : Nat) : Int)) = true →
  K false) ∧
 ((((s1.length : Nat) : Int) != ((s2.length : Nat) : Int)) = false →
  ∃ (I1 : Int → Prop) (μ1 : Int → Nat), I1 0 ∧ ∀ (t13 : Int), I1 t13 → F_sequal_L1 s1 s2 K t13 I1 μ1)
def F_indexR_L1 (s_ : List (List Int)) (pf : (List Int) → Bool) (Df : (List Int) → Prop) (K : Int → Prop) (t8 : Int) (I1 : Int → Prop) (μ1 : Int → Nat) : Prop :=
 ((decide (t8 < ((s_.length : Nat) : Int))) = true →
  (inb s_ t8) ∧
  (Df (gt s_ t8)) ∧
  ∀ r2 : Bool, r2 = (pf (gt s_ t8)) →
  ((r2) = true →
   K t8) ∧
  ((r2) = false →
   I1 (IntKind.i64.wrap (t8 + 1)) ∧
 μ1 (IntKind.i64.wrap (t8 + 1)) < μ1 t8)) ∧
 ((decide (t8 < ((s_.length : Nat) : Int))) = false →
  K (-1))
def F_indexR (s_ : List (List Int)) (pf : (List Int) → Bool) (Df : (List Int) → Prop) (K : Int → Prop) : Prop :=
 ∃ (I1 : Int → Prop) (μ1 : Int → Nat), I1 0 ∧ ∀ (t8 : Int), I1 t8 → F_indexR_L1 s_ pf Df K t8 I1 μ1
def F_containsR (s_ : List (List Int)) (pf : (List Int) → Bool) (Df : (List Int) → Prop) (K : Bool → Prop) : Prop :=
 (pre_any s_ pf Df) ∧
 ∀ r2 : Int, r2 = (sp_indexF s_ pf Df) →
 K (decide (0 ≤ r2))
def F_reverse_L1 (K : (List Int) → Prop) (i : Int) (j : Int) (s_2 : List Int) (I1 : Int → Int → (List Int) → Prop) (μ1 : Int → Int → (List Int) → Nat) : Prop :=
 ((decide (i < j)) = true →
  (inb s_2 j) ∧
  (inb s_2 i) ∧
  ∀ d : List Int, d = (s_2.set (i).toNat (gt s_2 j)) →
  (inb d j) ∧
  ∀ d2 : List Int, d2 = (d.set (j).toNat (gt s_2 i)) →
  I1 (IntKind.i64.wrap (i + 1)) (IntKind.i64.wrap (j - 1)) d2 ∧
 μ1 (IntKind.i64.wrap (i + 1)) (IntKind.i64.wrap (j - 1)) d2 < μ1 i j s_2) ∧
 ((decide (i < j)) = false →
  K s_2)
def F_reverse (s_ : List Int) (K : (List Int) → Prop) : Prop :=
 ∃ (I1 : Int → Int → (List Int) → Prop) (μ1 : Int → Int → (List Int) → Nat), I1 0 (IntKind.i64.wrap (((s_.length : Nat) : Int) - 1)) s_ ∧ ∀ (i : Int) (j : Int) (s_2 : List Int), I1 i j s_2 → F_reverse_L1 K i j s_2 I1 μ1
def F_unknownFault (t : Task) (unknown : List Int) (K : Fault → Prop) : Prop :=
 ∀ r2 : Fault, r2 = (sp_validate t) →
 ((!((r2.code == 0) && (r2.index == 0))) = true →
  K r2) ∧
 ((!((r2.code == 0) && (r2.index == 0))) = false →
  ((decide (4 < ((unknown.length : Nat) : Int))) = true →
   K (⟨2, (-8)⟩ : Fault)) ∧
  ((decide (4 < ((unknown.length : Nat) : Int))) = false →
   (pre_isSet unknown t.facts) ∧
   ∀ r3 : Bool, r3 = (sp_isSet unknown t.facts) →
   ((!r3) = true →
    K (⟨5, (-8)⟩ : Fault)) ∧
   ((!r3) = false →
    K (⟨0, 0⟩ : Fault))))
def F_sure1 (s_ : List Int) (x : List Int) (K : Bool → Prop) : Prop :=
 (pre_contains2 s_ x) ∧
 ∀ r2 : Bool, r2 = (sp_contains2 s_ x) →
 K (!r2)
def F_sure (worlds : List (List Int)) (facts : List Int) (K : Bool → Prop) : Prop :=
 (pre_any worlds (fun y_ : List Int => sp_sure1 y_ facts) (fun y_ : List Int => pre_sure1 y_ facts)) ∧
 ∀ r2 : Bool, r2 = (sp_any worlds (fun y_ : List Int => sp_sure1 y_ facts) (fun y_ : List Int => pre_sure1 y_ facts)) →
 K (!r2)
def F_compactR_J1 (s_2 : List (List Int)) (k3 : Int) (k22 : Int) (I2 : Int → Int → (List (List Int)) → Prop) (μ2 : Int → Int → (List (List Int)) → Nat) (s_4 : List (List Int)) (k5 : Int) : Prop :=
 I2 k5 (IntKind.i64.wrap (k22 + 1)) s_4 ∧
 μ2 k5 (IntKind.i64.wrap (k22 + 1)) s_4 < μ2 k3 k22 s_2
def F_compactR_L2 (s_ : List (List Int)) (K : (List (List Int)) → Prop) (k : Int) (s_2 : List (List Int)) (k3 : Int) (k22 : Int) (I2 : Int → Int → (List (List Int)) → Prop) (μ2 : Int → Int → (List (List Int)) → Nat) : Prop :=
 ((decide (k22 < (((s_.length - (k).toNat) : Nat) : Int))) = true →
  (0 ≤ k22) ∧
  (inb s_2 ((((k).toNat : Nat) : Int) + k22)) ∧
  (0 ≤ (IntKind.i64.wrap (k22 - 1))) ∧
  (inb s_2 ((((k).toNat : Nat) : Int) + (IntKind.i64.wrap (k22 - 1)))) ∧
  (pre_sequal (gt s_2 ((((k).toNat : Nat) : Int) + k22)) (gt s_2 ((((k).toNat : Nat) : Int) + (IntKind.i64.wrap (k22 - 1))))) ∧
  ∀ r3 : Bool, r3 = (sp_sequal (gt s_2 ((((k).toNat : Nat) : Int) + k22)) (gt s_2 ((((k).toNat : Nat) : Int) + (IntKind.i64.wrap (k22 - 1))))) →
  ((!r3) = true →
   (inb s_2 k3) ∧
   ∀ d : List (List Int), d = (s_2.set (k3).toNat (gt s_2 ((((k).toNat : Nat) : Int) + k22))) →
   F_compactR_J1 s_2 k3 k22 I2 μ2 d (IntKind.i64.wrap (k3 + 1))) ∧
  ((!r3) = false →
   F_compactR_J1 s_2 k3 k22 I2 μ2 s_2 k3)) ∧
 ((decide (k22 < (((s_.length - (k).toNat) : Nat) : Int))) = false →
  (0 ≤ k3 ∧ k3 ≤ ((s_.length : Nat) : Int)) ∧
  K ((s_2.take (k3).toNat ++ List.replicate (s_.length - (k3).toNat) []).take ((k3).toNat)))
def F_compactR_L1 (s_ : List (List Int)) (K : (List (List Int)) → Prop) (k : Int) (I1 : Int → Prop) (μ1 : Int → Nat) : Prop :=
 ((decide (k < ((s_.length : Nat) : Int))) = true →
  (inb s_ k) ∧
  (inb s_ (IntKind.i64.wrap (k - 1))) ∧
  (pre_sequal (gt s_ k) (gt s_ (IntKind.i64.wrap (k - 1)))) ∧
  ∀ r2 : Bool, r2 = (sp_sequal (gt s_ k) (gt s_ (IntKind.i64.wrap (k - 1)))) →
  ((r2) = true →
   (0 ≤ k ∧ k ≤ ((s_.length : Nat) : Int)) ∧
   ∃ (I2 : Int → Int → (List (List Int)) → Prop) (μ2 : Int → Int → (List (List Int)) → Nat), I2 k 1 s_ ∧ ∀ (k3 : Int) (k22 : Int) (s_2 : List (List Int)), I2 k3 k22 s_2 → F_compactR_L2 s_ K k s_2 k3 k22 I2 μ2) ∧
  ((r2) = false →
   I1 (IntKind.i64.wrap (k + 1)) ∧
 μ1 (IntKind.i64.wrap (k + 1)) < μ1 k)) ∧
 ((decide (k < ((s_.length : Nat) : Int))) = false →
  K s_)
def F_compactR (s_ : List (List Int)) (K : (List (List Int)) → Prop) : Prop :=
 ((decide (((s_.length : Nat) : Int) < 2)) = true →
  K s_) ∧
 ((decide (((s_.length : Nat) : Int) < 2)) = false →
  ∃ (I1 : Int → Prop) (μ1 : Int → Nat), I1 1 ∧ ∀ (k : Int), I1 k → F_compactR_L1 s_ K k I1 μ1)
def F_normal (l : List (List Int)) (K : (List (List Int)) → Prop) : Prop :=
 (pre_sortR l) ∧
 ∀ r2 : List (List Int), r2 = (sp_sortR l) →
 (pre_compactR r2) ∧
 ∀ r3 : List (List Int), r3 = (sp_compactR r2) →
 K r3
def F_worlds_J1 (add : List Int) (t18 : Int) (I2 : Int → (List Int) → Prop) (μ2 : Int → (List Int) → Nat) (add3 : List Int) : Prop :=
 I2 (IntKind.i64.wrap (t18 + 1)) add3 ∧
 μ2 (IntKind.i64.wrap (t18 + 1)) add3 < μ2 t18 add
def F_worlds_L2 (t : Task) (unknown : List Int) (add : List Int) (t18 : Int) (I2 : Int → (List Int) → Prop) (μ2 : Int → (List Int) → Nat) (t13 : Int) (out : List (List Int)) (I1 : Int → (List (List Int)) → Prop) (μ1 : Int → (List (List Int)) → Nat) : Prop :=
 ((decide (t18 < ((unknown.length : Nat) : Int))) = true →
  (inb unknown t18) ∧
  (0 ≤ t18) ∧
  ∀ x2 : Int, x2 = (bits .and .i64 (Int.fdiv t13 (2 ^ (min ((t18 : Int)).toNat (IntKind.bits .i64)))) 1) →
  ((x2 == 1) = true →
   (room ((add ++ ([(gt unknown t18)] : List Int))).length 8) ∧
   F_worlds_J1 add t18 I2 μ2 (add ++ ([(gt unknown t18)] : List Int))) ∧
  ((x2 == 1) = false →
   F_worlds_J1 add t18 I2 μ2 add)) ∧
 ((decide (t18 < ((unknown.length : Nat) : Int))) = false →
  (pre_update t.init add unknown) ∧
  ∀ r2 : List Int, r2 = (sp_update t.init add unknown) →
  (room ((out ++ ([r2] : List (List Int)))).length 24) ∧
  I1 (IntKind.i64.wrap (t13 + 1)) (out ++ ([r2] : List (List Int))) ∧
 μ1 (IntKind.i64.wrap (t13 + 1)) (out ++ ([r2] : List (List Int))) < μ1 t13 out)
def F_worlds_L1 (t : Task) (unknown : List Int) (K : (List (List Int)) → Prop) (x : Int) (t13 : Int) (out : List (List Int)) (I1 : Int → (List (List Int)) → Prop) (μ1 : Int → (List (List Int)) → Nat) : Prop :=
 ((decide (t13 < x)) = true →
  ∃ (I2 : Int → (List Int) → Prop) (μ2 : Int → (List Int) → Nat), I2 0 ([] : List Int) ∧ ∀ (t18 : Int) (add : List Int), I2 t18 add → F_worlds_L2 t unknown add t18 I2 μ2 t13 out I1 μ1) ∧
 ((decide (t13 < x)) = false →
  (pre_normal out) ∧
  ∀ r3 : List (List Int), r3 = (sp_normal out) →
  K r3)
def F_worlds (t : Task) (unknown : List Int) (K : (List (List Int)) → Prop) : Prop :=
 (0 ≤ ((unknown.length : Nat) : Int)) ∧
 ∀ x : Int, x = (IntKind.i64.wrap (1 * 2 ^ (min ((((unknown.length : Nat) : Int) : Int)).toNat (IntKind.bits .i64)))) →
 ∃ (I1 : Int → (List (List Int)) → Prop) (μ1 : Int → (List (List Int)) → Nat), I1 0 ([] : List (List Int)) ∧ ∀ (t13 : Int) (out : List (List Int)), I1 t13 out → F_worlds_L1 t unknown K x t13 out I1 μ1
def F_bafter_L1 (t : Task) (worlds : List (List Int)) (op : Int) (K : (List (List Int)) → Prop) (t12 : Int) (out : List (List Int)) (I1 : Int → (List (List Int)) → Prop) (μ1 : Int → (List (List Int)) → Nat) : Prop :=
 ((decide (t12 < ((worlds.length : Nat) : Int))) = true →
  (inb worlds t12) ∧
  (pre_next t (gt worlds t12) op) ∧
  ∀ r2 : List Int, r2 = (sp_after t (gt worlds t12) op) →
  (room ((out ++ ([r2] : List (List Int)))).length 24) ∧
  I1 (IntKind.i64.wrap (t12 + 1)) (out ++ ([r2] : List (List Int))) ∧
 μ1 (IntKind.i64.wrap (t12 + 1)) (out ++ ([r2] : List (List Int))) < μ1 t12 out) ∧
 ((decide (t12 < ((worlds.length : Nat) : Int))) = false →
  (pre_normal out) ∧
  ∀ r3 : List (List Int), r3 = (sp_normal out) →
  K r3)
def F_bafter (t : Task) (worlds : List (List Int)) (op : Int) (K : (List (List Int)) → Prop) : Prop :=
 ∃ (I1 : Int → (List (List Int)) → Prop) (μ1 : Int → (List (List Int)) → Nat), I1 0 ([] : List (List Int)) ∧ ∀ (t12 : Int) (out : List (List Int)), I1 t12 out → F_bafter_L1 t worlds op K t12 out I1 μ1
def F_succ (_ : Task) (_ : List (List Int)) (K : Unit → Prop) : Prop :=
 K ()
def F_bnext (_ : Task) (K : Unit → Prop) : Prop :=
 K ()
def F_bnext1 (worlds : List (List Int)) (x : Task) (K : Unit → Prop) : Prop :=
 ∀ r2 : Unit, r2 = (sp_succ x worlds) →
 K ()
def F_small1 (_ : List (List Int)) (K : Bool → Prop) : Prop :=
 K false
def F_plan1 (w_ : List (List Int)) (x : Task) (K : Bool → Prop) : Prop :=
 (pre_sure w_ x.goal) ∧
 ∀ r2 : Bool, r2 = (sp_sure w_ x.goal) →
 K r2
def F_breadthS_L2 (K : (List Int × Bool × Bool) → Prop) (i : Int) (out : List Int) (I2 : Int → (List Int) → Prop) (μ2 : Int → (List Int) → Nat) (l : List Entry) : Prop :=
 (inb l i) ∧
 ((decide (0 ≤ ((gt l i).from_))) = true →
  (room ((out ++ ([(gt l i).step] : List Int))).length 8) ∧
  I2 ((gt l i).from_) (out ++ ([(gt l i).step] : List Int)) ∧
 μ2 ((gt l i).from_) (out ++ ([(gt l i).step] : List Int)) < μ2 i out) ∧
 ((decide (0 ≤ ((gt l i).from_))) = false →
  (pre_reverse out) ∧
  ∀ r4 : List Int, r4 = (sp_reverse out) →
  K (r4, true, true))
def F_breadthS_J1 (t9 : Int) (I3 : Int → (List Entry) → (List UInt8 → Int) → Prop) (μ3 : Int → (List Entry) → (List UInt8 → Int) → Nat) (l4 : List Entry) (m3 : List UInt8 → Int) (l6 : List Entry) (m5 : List UInt8 → Int) : Prop :=
 I3 (IntKind.i64.wrap (t9 + 1)) l6 m5 ∧
 μ3 (IntKind.i64.wrap (t9 + 1)) l6 m5 < μ3 t9 l4 m3
def F_breadthS_L3 (x : Task) (K : (List Int × Bool × Bool) → Prop) (x2 : Int) (m : List UInt8 → Int) (t9 : Int) (I3 : Int → (List Entry) → (List UInt8 → Int) → Prop) (μ3 : Int → (List Entry) → (List UInt8 → Int) → Nat) (l4 : List Entry) (m3 : List UInt8 → Int) (l : List Entry) (I1 : Int → (List Entry) → (List UInt8 → Int) → Prop) (μ1 : Int → (List Entry) → (List UInt8 → Int) → Nat) : Prop :=
 ((decide (t9 < ((x.ops.length : Nat) : Int))) = true →
  (inb x.ops t9) ∧
  (pre_sure ((gt l x2).node) ((gt x.ops t9).pre)) ∧
  ∀ r6 : Bool, r6 = (sp_sure ((gt l x2).node) ((gt x.ops t9).pre)) →
  ((r6) = true →
   (pre_bafter x ((gt l x2).node) t9) ∧
   ∀ r7 : List (List Int), r7 = (sp_bafter x ((gt l x2).node) t9) →
   (pre_key r7) ∧
   ∀ r8 : List UInt8, r8 = (sp_key r7) →
   ((decide (0 < (m3 r8))) = true →
    F_breadthS_J1 t9 I3 μ3 l4 m3 l4 m3) ∧
   ((decide (0 < (m3 r8))) = false →
    ((((l4.length : Nat) : Int) == 2000) = true →
     K (([] : List Int), false, false)) ∧
    ((((l4.length : Nat) : Int) == 2000) = false →
     (room ((l4 ++ ([(⟨r7, x2, t9⟩ : Entry)] : List Entry))).length 40) ∧
     F_breadthS_J1 t9 I3 μ3 l4 m3 (l4 ++ ([(⟨r7, x2, t9⟩ : Entry)] : List Entry)) (upd m3 r8 1)))) ∧
  ((r6) = false →
   F_breadthS_J1 t9 I3 μ3 l4 m3 l4 m3)) ∧
 ((decide (t9 < ((x.ops.length : Nat) : Int))) = false →
  I1 (IntKind.i64.wrap (x2 + 1)) l4 m3 ∧
 μ1 (IntKind.i64.wrap (x2 + 1)) l4 m3 < μ1 x2 l m)
def F_breadthS_L1 (x : Task) (K : (List Int × Bool × Bool) → Prop) (x2 : Int) (m : List UInt8 → Int) (l : List Entry) (I1 : Int → (List Entry) → (List UInt8 → Int) → Prop) (μ1 : Int → (List Entry) → (List UInt8 → Int) → Nat) : Prop :=
 ((decide (x2 < ((l.length : Nat) : Int))) = true →
  (inb l x2) ∧
  ∀ r3 : Bool, r3 = (sp_small1 ((gt l x2).node)) →
  ((r3) = true →
   ∃ (I2 : Int → (List Int) → Prop) (μ2 : Int → (List Int) → Nat), I2 x2 ([] : List Int) ∧ ∀ (i : Int) (out : List Int), I2 i out → F_breadthS_L2 K i out I2 μ2 l) ∧
  ((r3) = false →
   ∀ r5 : Unit, r5 = (sp_bnext1 ((gt l x2).node) x) →
   ∃ (I3 : Int → (List Entry) → (List UInt8 → Int) → Prop) (μ3 : Int → (List Entry) → (List UInt8 → Int) → Nat), I3 0 l m ∧ ∀ (t9 : Int) (l4 : List Entry) (m3 : List UInt8 → Int), I3 t9 l4 m3 → F_breadthS_L3 x K x2 m t9 I3 μ3 l4 m3 l I1 μ1)) ∧
 ((decide (x2 < ((l.length : Nat) : Int))) = false →
  K (([] : List Int), false, true))
def F_breadthS (start2 : List (List Int)) (x : Task) (K : (List Int × Bool × Bool) → Prop) : Prop :=
 (pre_key start2) ∧
 ∀ r2 : List UInt8, r2 = (sp_key start2) →
 ∃ (I1 : Int → (List Entry) → (List UInt8 → Int) → Prop) (μ1 : Int → (List Entry) → (List UInt8 → Int) → Nat), I1 0 ([(⟨start2, (-1), 0⟩ : Entry)] : List Entry) (upd (fun _ => 0) r2 1) ∧ ∀ (x2 : Int) (l : List Entry) (m : List UInt8 → Int), I1 x2 l m → F_breadthS_L1 x K x2 m l I1 μ1
def F_breadthP_L2 (K : (List Int × Bool × Bool) → Prop) (i : Int) (out : List Int) (I2 : Int → (List Int) → Prop) (μ2 : Int → (List Int) → Nat) (l : List Entry) : Prop :=
 (inb l i) ∧
 ((decide (0 ≤ ((gt l i).from_))) = true →
  (room ((out ++ ([(gt l i).step] : List Int))).length 8) ∧
  I2 ((gt l i).from_) (out ++ ([(gt l i).step] : List Int)) ∧
 μ2 ((gt l i).from_) (out ++ ([(gt l i).step] : List Int)) < μ2 i out) ∧
 ((decide (0 ≤ ((gt l i).from_))) = false →
  (pre_reverse out) ∧
  ∀ r4 : List Int, r4 = (sp_reverse out) →
  K (r4, true, true))
def F_breadthP_J1 (t9 : Int) (I3 : Int → (List Entry) → (List UInt8 → Int) → Prop) (μ3 : Int → (List Entry) → (List UInt8 → Int) → Nat) (l4 : List Entry) (m3 : List UInt8 → Int) (l6 : List Entry) (m5 : List UInt8 → Int) : Prop :=
 I3 (IntKind.i64.wrap (t9 + 1)) l6 m5 ∧
 μ3 (IntKind.i64.wrap (t9 + 1)) l6 m5 < μ3 t9 l4 m3
def F_breadthP_L3 (x : Task) (K : (List Int × Bool × Bool) → Prop) (x3 : Int) (m : List UInt8 → Int) (t9 : Int) (I3 : Int → (List Entry) → (List UInt8 → Int) → Prop) (μ3 : Int → (List Entry) → (List UInt8 → Int) → Nat) (l4 : List Entry) (m3 : List UInt8 → Int) (l : List Entry) (I1 : Int → (List Entry) → (List UInt8 → Int) → Prop) (μ1 : Int → (List Entry) → (List UInt8 → Int) → Nat) : Prop :=
 ((decide (t9 < ((x.ops.length : Nat) : Int))) = true →
  (inb x.ops t9) ∧
  (pre_sure ((gt l x3).node) ((gt x.ops t9).pre)) ∧
  ∀ r6 : Bool, r6 = (sp_sure ((gt l x3).node) ((gt x.ops t9).pre)) →
  ((r6) = true →
   (pre_bafter x ((gt l x3).node) t9) ∧
   ∀ r7 : List (List Int), r7 = (sp_bafter x ((gt l x3).node) t9) →
   (pre_key r7) ∧
   ∀ r8 : List UInt8, r8 = (sp_key r7) →
   ((decide (0 < (m3 r8))) = true →
    F_breadthP_J1 t9 I3 μ3 l4 m3 l4 m3) ∧
   ((decide (0 < (m3 r8))) = false →
    ((((l4.length : Nat) : Int) == 2000) = true →
     K (([] : List Int), false, false)) ∧
    ((((l4.length : Nat) : Int) == 2000) = false →
     (room ((l4 ++ ([(⟨r7, x3, t9⟩ : Entry)] : List Entry))).length 40) ∧
     F_breadthP_J1 t9 I3 μ3 l4 m3 (l4 ++ ([(⟨r7, x3, t9⟩ : Entry)] : List Entry)) (upd m3 r8 1)))) ∧
  ((r6) = false →
   F_breadthP_J1 t9 I3 μ3 l4 m3 l4 m3)) ∧
 ((decide (t9 < ((x.ops.length : Nat) : Int))) = false →
  I1 (IntKind.i64.wrap (x3 + 1)) l4 m3 ∧
 μ1 (IntKind.i64.wrap (x3 + 1)) l4 m3 < μ1 x3 l m)
def F_breadthP_L1 (x : Task) (x2 : Task) (K : (List Int × Bool × Bool) → Prop) (x3 : Int) (m : List UInt8 → Int) (l : List Entry) (I1 : Int → (List Entry) → (List UInt8 → Int) → Prop) (μ1 : Int → (List Entry) → (List UInt8 → Int) → Nat) : Prop :=
 ((decide (x3 < ((l.length : Nat) : Int))) = true →
  (inb l x3) ∧
  (pre_plan1 ((gt l x3).node) x2) ∧
  ∀ r3 : Bool, r3 = (sp_plan1 ((gt l x3).node) x2) →
  ((r3) = true →
   ∃ (I2 : Int → (List Int) → Prop) (μ2 : Int → (List Int) → Nat), I2 x3 ([] : List Int) ∧ ∀ (i : Int) (out : List Int), I2 i out → F_breadthP_L2 K i out I2 μ2 l) ∧
  ((r3) = false →
   ∀ r5 : Unit, r5 = (sp_bnext1 ((gt l x3).node) x) →
   ∃ (I3 : Int → (List Entry) → (List UInt8 → Int) → Prop) (μ3 : Int → (List Entry) → (List UInt8 → Int) → Nat), I3 0 l m ∧ ∀ (t9 : Int) (l4 : List Entry) (m3 : List UInt8 → Int), I3 t9 l4 m3 → F_breadthP_L3 x K x3 m t9 I3 μ3 l4 m3 l I1 μ1)) ∧
 ((decide (x3 < ((l.length : Nat) : Int))) = false →
  K (([] : List Int), false, true))
def F_breadthP (start2 : List (List Int)) (x : Task) (x2 : Task) (K : (List Int × Bool × Bool) → Prop) : Prop :=
 (pre_key start2) ∧
 ∀ r2 : List UInt8, r2 = (sp_key start2) →
 ∃ (I1 : Int → (List Entry) → (List UInt8 → Int) → Prop) (μ1 : Int → (List Entry) → (List UInt8 → Int) → Nat), I1 0 ([(⟨start2, (-1), 0⟩ : Entry)] : List Entry) (upd (fun _ => 0) r2 1) ∧ ∀ (x3 : Int) (l : List Entry) (m : List UInt8 → Int), I1 x3 l m → F_breadthP_L1 x x2 K x3 m l I1 μ1
def F_small (start2 : List (List Int)) (x : Task) (K : Bool → Prop) : Prop :=
 (pre_breadthS start2 x) ∧
 ∀ r2 : List Int × Bool × Bool, r2 = (sp_breadthS start2 x) →
 K r2.2.2
def F_bplan (t : Task) (unknown : List Int) (K : (List Int × Bool × Fault) → Prop) : Prop :=
 ∀ r2 : Fault, r2 = (sp_unknownFault t unknown) →
 ((!((r2.code == 0) && (r2.index == 0))) = true →
  K (([] : List Int), false, r2)) ∧
 ((!((r2.code == 0) && (r2.index == 0))) = false →
  ∀ r3 : Unit, r3 = (sp_bnext t) →
  (pre_worlds t unknown) ∧
  ∀ r4 : List (List Int), r4 = (sp_worlds t unknown) →
  (pre_small r4 t) ∧
  ∀ r5 : Bool, r5 = (sp_small r4 t) →
  ((!r5) = true →
   K (([] : List Int), false, (⟨10, (-7)⟩ : Fault))) ∧
  ((!r5) = false →
   ∀ r6 : List (List Int), r6 = (sp_worlds t unknown) →
   (pre_breadthP r6 t t) ∧
   ∀ r7 : List Int × Bool × Bool, r7 = (sp_breadthP r6 t t) →
   ((decide (60 < ((r7.1.length : Nat) : Int))) = true →
    K (([] : List Int), false, (⟨10, (-5)⟩ : Fault))) ∧
   ((decide (60 < ((r7.1.length : Nat) : Int))) = false →
    K (r7.1, r7.2.1, (⟨0, 0⟩ : Fault)))))
def F_ints_L1 (a : List Int) (b : List Int) (K : Bool → Prop) (i : Int) (I1 : Int → Prop) (μ1 : Int → Nat) : Prop :=
 ((decide (i < ((a.length : Nat) : Int))) = true →
  (inb a i) ∧
  (inb b i) ∧
  (((gt a i) != (gt b i)) = true →
   K false) ∧
  (((gt a i) != (gt b i)) = false →
   I1 (IntKind.i64.wrap (i + 1)) ∧
 μ1 (IntKind.i64.wrap (i + 1)) < μ1 i)) ∧
 ((decide (i < ((a.length : Nat) : Int))) = false →
  K true)
def F_ints (a : List Int) (b : List Int) (K : Bool → Prop) : Prop :=
 ((((a.length : Nat) : Int) != ((b.length : Nat) : Int)) = true →
  K false) ∧
 ((((a.length : Nat) : Int) != ((b.length : Nat) : Int)) = false →
  ∃ (I1 : Int → Prop) (μ1 : Int → Nat), I1 0 ∧ ∀ (i : Int), I1 i → F_ints_L1 a b K i I1 μ1)
def F_union (a : List Int) (b : List Int) (K : (List Int) → Prop) : Prop :=
 (pre_update a b []) ∧
 ∀ r2 : List Int, r2 = (sp_update a b []) →
 K r2
def F_stateFault (t : Task) (s_ : List Int) (K : Fault → Prop) : Prop :=
 ∀ r2 : Fault, r2 = (sp_validate t) →
 ((!((r2.code == 0) && (r2.index == 0))) = true →
  K r2) ∧
 ((!((r2.code == 0) && (r2.index == 0))) = false →
  (pre_isSet s_ t.facts) ∧
  ∀ r3 : Bool, r3 = (sp_isSet s_ t.facts) →
  ((!r3) = true →
   K (⟨5, (-4)⟩ : Fault)) ∧
  ((!r3) = false →
   K (⟨0, 0⟩ : Fault)))
def F_play_J1 (t : Task) (s_ : List Int) (plan : List Int) (K : (List (List Int) × Fault) → Prop) (x : Int) (x2 : Int) : Prop :=
 ((!((x == 0) && (x2 == 0))) = true →
  K (([] : List (List Int)), (⟨x, x2⟩ : Fault))) ∧
 ((!((x == 0) && (x2 == 0))) = false →
  (pre_srun t s_ plan) ∧
  ∀ r3 : List (List Int), r3 = (sp_srun t s_ plan) →
  ((decide (((r3.length : Nat) : Int) ≤ ((plan.length : Nat) : Int))) = true →
   K (([] : List (List Int)), (⟨11, IntKind.i64.wrap (((r3.length : Nat) : Int) - 1)⟩ : Fault))) ∧
  ((decide (((r3.length : Nat) : Int) ≤ ((plan.length : Nat) : Int))) = false →
   K (r3, (⟨0, 0⟩ : Fault))))
def F_play (t : Task) (s_ : List Int) (plan : List Int) (K : (List (List Int) × Fault) → Prop) : Prop :=
 ∀ r2 : Fault, r2 = (sp_stateFault t s_) →
 (((r2.code == 0) && (r2.index == 0)) = true →
  (pre_steps ((t.ops.length : Nat) : Int) plan) ∧
  ∀ r4 : Fault, r4 = (sp_steps ((t.ops.length : Nat) : Int) plan) →
  F_play_J1 t s_ plan K r4.code r4.index) ∧
 (((r2.code == 0) && (r2.index == 0)) = false →
  F_play_J1 t s_ plan K r2.code r2.index)
def F_mcheck (t : Task) (plan : List Int) (s_ : List Int) (K : Fault → Prop) : Prop :=
 ∀ r2 : Fault, r2 = (sp_stateFault t s_) →
 ((!((r2.code == 0) && (r2.index == 0))) = true →
  K r2) ∧
 ((!((r2.code == 0) && (r2.index == 0))) = false →
  (pre_steps ((t.ops.length : Nat) : Int) plan) ∧
  ∀ r3 : Fault, r3 = (sp_steps ((t.ops.length : Nat) : Int) plan) →
  K r3)
def F_needs_J1 (out : List Need) (i : Int) (I1 : Int → (List Need) → Prop) (μ1 : Int → (List Need) → Nat) (out3 : List Need) : Prop :=
 I1 (IntKind.i64.wrap (i - 1)) out3 ∧
 μ1 (IntKind.i64.wrap (i - 1)) out3 < μ1 i out
def F_needs_J3 (t : Task) (plan : List Int) (t49 : Bool) (out : List Need) (i : Int) (I1 : Int → (List Need) → Prop) (μ1 : Int → (List Need) → Nat) : Prop :=
 ((t49) = true →
  (inb out i) ∧
  ∀ d2 : List Need, d2 = (out.set (i).toNat (⟨(gt out i).facts, true⟩ : Need)) →
  F_needs_J1 out i I1 μ1 d2) ∧
 ((t49) = false →
  (pre_update ((gt out (IntKind.i64.wrap (i + 1))).facts) [] ((gt t.ops (gt plan i)).add)) ∧
  ∀ r3 : List Int, r3 = (sp_update ((gt out (IntKind.i64.wrap (i + 1))).facts) [] ((gt t.ops (gt plan i)).add)) →
  (pre_union r3 ((gt t.ops (gt plan i)).pre)) ∧
  ∀ r4 : List Int, r4 = (sp_union r3 ((gt t.ops (gt plan i)).pre)) →
  (inb out i) ∧
  ∀ d3 : List Need, d3 = (out.set (i).toNat (⟨r4, (gt out i).never⟩ : Need)) →
  F_needs_J1 out i I1 μ1 d3)
def F_needs_J2 (t : Task) (plan : List Int) (out : List Need) (i : Int) (I1 : Int → (List Need) → Prop) (μ1 : Int → (List Need) → Nat) : Prop :=
 (((gt out (IntKind.i64.wrap (i + 1))).never) = true →
  F_needs_J3 t plan true out i I1 μ1) ∧
 (((gt out (IntKind.i64.wrap (i + 1))).never) = false →
  (pre_meets ((gt out (IntKind.i64.wrap (i + 1))).facts) ((gt t.ops (gt plan i)).del)) ∧
  ∀ r5 : Bool, r5 = (sp_meets ((gt out (IntKind.i64.wrap (i + 1))).facts) ((gt t.ops (gt plan i)).del)) →
  F_needs_J3 t plan r5 out i I1 μ1)
def F_needs_L1 (t : Task) (plan : List Int) (K : (List Need) → Prop) (out : List Need) (i : Int) (I1 : Int → (List Need) → Prop) (μ1 : Int → (List Need) → Nat) : Prop :=
 ((decide (0 ≤ i)) = true →
  (inb plan i) ∧
  (inb t.ops (gt plan i)) ∧
  (inb out (IntKind.i64.wrap (i + 1))) ∧
  F_needs_J2 t plan out i I1 μ1) ∧
 ((decide (0 ≤ i)) = false →
  K out)
def F_needs (t : Task) (plan : List Int) (K : (List Need) → Prop) : Prop :=
 (mkok (IntKind.i64.wrap (((plan.length : Nat) : Int) + 1)) 32) ∧
 (pre_union t.goal []) ∧
 ∀ r2 : List Int, r2 = (sp_union t.goal []) →
 (inb (List.replicate (IntKind.i64.wrap (((plan.length : Nat) : Int) + 1)).toNat (⟨[], false⟩ : Need) : List Need) ((plan.length : Nat) : Int)) ∧
 ∀ d : List Need, d = ((List.replicate (IntKind.i64.wrap (((plan.length : Nat) : Int) + 1)).toNat (⟨[], false⟩ : Need) : List Need).set (((plan.length : Nat) : Int)).toNat (⟨r2, false⟩ : Need)) →
 ∃ (I1 : Int → (List Need) → Prop) (μ1 : Int → (List Need) → Nat), I1 (IntKind.i64.wrap (((plan.length : Nat) : Int) - 1)) d ∧ ∀ (i : Int) (out : List Need), I1 i out → F_needs_L1 t plan K out i I1 μ1
def F_missing_J1 (t : Task) (plan : List Int) (s_ : List Int) (i : Int) (K : (List Int × Bool × Fault) → Prop) (t28 : Bool) : Prop :=
 ((t28) = true →
  K (([] : List Int), false, (⟨3, (-8)⟩ : Fault))) ∧
 ((t28) = false →
  (pre_needs t plan) ∧
  ∀ r3 : List Need, r3 = (sp_needs t plan) →
  (inb r3 i) ∧
  (((gt r3 i).never) = true →
   K (([] : List Int), false, (⟨0, 0⟩ : Fault))) ∧
  (((gt r3 i).never) = false →
   (pre_update ((gt r3 i).facts) [] s_) ∧
   ∀ r4 : List Int, r4 = (sp_update ((gt r3 i).facts) [] s_) →
   K (r4, true, (⟨0, 0⟩ : Fault))))
def F_missing (t : Task) (plan : List Int) (s_ : List Int) (i : Int) (K : (List Int × Bool × Fault) → Prop) : Prop :=
 ∀ r2 : Fault, r2 = (sp_mcheck t plan s_) →
 ((!((r2.code == 0) && (r2.index == 0))) = true →
  K (([] : List Int), false, r2)) ∧
 ((!((r2.code == 0) && (r2.index == 0))) = false →
  ((decide (i < 0)) = true →
   F_missing_J1 t plan s_ i K true) ∧
  ((decide (i < 0)) = false →
   F_missing_J1 t plan s_ i K (decide (((plan.length : Nat) : Int) < i))))
def F_resume_J1 (K : (Int × Bool × Fault) → Prop) (t43 : Bool) (i : Int) (I1 : Int → Prop) (μ1 : Int → Nat) : Prop :=
 ((t43) = true →
  K (i, true, (⟨0, 0⟩ : Fault))) ∧
 ((t43) = false →
  I1 (IntKind.i64.wrap (i - 1)) ∧
 μ1 (IntKind.i64.wrap (i - 1)) < μ1 i)
def F_resume_L1 (s_ : List Int) (K : (Int × Bool × Fault) → Prop) (r3 : List Need) (i : Int) (I1 : Int → Prop) (μ1 : Int → Nat) : Prop :=
 ((decide (0 ≤ i)) = true →
  (inb r3 i) ∧
  ((!((gt r3 i).never)) = true →
   (pre_contains2 s_ ((gt r3 i).facts)) ∧
   ∀ r4 : Bool, r4 = (sp_contains2 s_ ((gt r3 i).facts)) →
   F_resume_J1 K r4 i I1 μ1) ∧
  ((!((gt r3 i).never)) = false →
   F_resume_J1 K false i I1 μ1)) ∧
 ((decide (0 ≤ i)) = false →
  K (0, false, (⟨0, 0⟩ : Fault)))
def F_resume (t : Task) (plan : List Int) (s_ : List Int) (K : (Int × Bool × Fault) → Prop) : Prop :=
 ∀ r2 : Fault, r2 = (sp_mcheck t plan s_) →
 ((!((r2.code == 0) && (r2.index == 0))) = true →
  K (0, false, r2)) ∧
 ((!((r2.code == 0) && (r2.index == 0))) = false →
  (pre_needs t plan) ∧
  ∀ r3 : List Need, r3 = (sp_needs t plan) →
  ∃ (I1 : Int → Prop) (μ1 : Int → Nat), I1 ((plan.length : Nat) : Int) ∧ ∀ (i : Int), I1 i → F_resume_L1 s_ K r3 i I1 μ1)
def F_word_L1 (s_ : List Int) (K : Int → Prop) (w_ : Int) (t8 : Int) (I1 : Int → Int → Prop) (μ1 : Int → Int → Nat) : Prop :=
 ((decide (t8 < ((s_.length : Nat) : Int))) = true →
  (inb s_ t8) ∧
  (0 ≤ (gt s_ t8)) ∧
  ∀ x : Int, x = (IntKind.u32.wrap (1 * 2 ^ (min (((gt s_ t8) : Int)).toNat (IntKind.bits .u32)))) →
  I1 (bits .or .u32 w_ x) (IntKind.i64.wrap (t8 + 1)) ∧
 μ1 (bits .or .u32 w_ x) (IntKind.i64.wrap (t8 + 1)) < μ1 w_ t8) ∧
 ((decide (t8 < ((s_.length : Nat) : Int))) = false →
  K w_)
def F_word (s_ : List Int) (K : Int → Prop) : Prop :=
 ∃ (I1 : Int → Int → Prop) (μ1 : Int → Int → Nat), I1 0 0 ∧ ∀ (w_ : Int) (t8 : Int), I1 w_ t8 → F_word_L1 s_ K w_ t8 I1 μ1
def F_facts_J1 (out : List Int) (t5 : Int) (I1 : Int → (List Int) → Prop) (μ1 : Int → (List Int) → Nat) (out3 : List Int) : Prop :=
 I1 (IntKind.i64.wrap (t5 + 1)) out3 ∧
 μ1 (IntKind.i64.wrap (t5 + 1)) out3 < μ1 t5 out
def F_facts_L1 (w_ : Int) (K : (List Int) → Prop) (out : List Int) (t5 : Int) (I1 : Int → (List Int) → Prop) (μ1 : Int → (List Int) → Nat) : Prop :=
 ((decide (t5 < 32)) = true →
  (0 ≤ t5) ∧
  ∀ x : Int, x = (bits .and .u32 (Int.fdiv w_ (2 ^ (min ((t5 : Int)).toNat (IntKind.bits .u32)))) 1) →
  ((x == 1) = true →
   (room ((out ++ ([t5] : List Int))).length 8) ∧
   F_facts_J1 out t5 I1 μ1 (out ++ ([t5] : List Int))) ∧
  ((x == 1) = false →
   F_facts_J1 out t5 I1 μ1 out)) ∧
 ((decide (t5 < 32)) = false →
  K out)
def F_facts (w_ : Int) (K : (List Int) → Prop) : Prop :=
 ∃ (I1 : Int → (List Int) → Prop) (μ1 : Int → (List Int) → Nat), I1 0 ([] : List Int) ∧ ∀ (t5 : Int) (out : List Int), I1 t5 out → F_facts_L1 w_ K out t5 I1 μ1
def F_wcmp (a : Int) (b : Int) (K : Int → Prop) : Prop :=
 (pre_facts a) ∧
 ∀ r2 : List Int, r2 = (sp_facts a) →
 (pre_facts b) ∧
 ∀ r3 : List Int, r3 = (sp_facts b) →
 (pre_scompare r2 r3) ∧
 ∀ r4 : Int, r4 = (sp_scompare r2 r3) →
 K r4
def F_all_J1 (t11 : Int) (m4 : List (Int × Unit)) (I2 : Int → (List Int) → (List (Int × Unit)) → Prop) (μ2 : Int → (List Int) → (List (Int × Unit)) → Nat) (l4 : List Int) (m6 : List (Int × Unit)) (l6 : List Int) : Prop :=
 I2 (IntKind.i64.wrap (t11 + 1)) l6 m6 ∧
 μ2 (IntKind.i64.wrap (t11 + 1)) l6 m6 < μ2 t11 l4 m4
def F_all_L2 (x : WordsT) (K : (List Int × Bool) → Prop) (m2 : List (Int × Unit)) (t11 : Int) (m4 : List (Int × Unit)) (I2 : Int → (List Int) → (List (Int × Unit)) → Prop) (μ2 : Int → (List Int) → (List (Int × Unit)) → Nat) (l4 : List Int) (out : List Int) (l : List Int) (I1 : (List Int) → (List Int) → (List (Int × Unit)) → Prop) (μ1 : (List Int) → (List Int) → (List (Int × Unit)) → Nat) : Prop :=
 ((decide (t11 < ((x.ops.length : Nat) : Int))) = true →
  (inb x.ops t11) ∧
  ∀ x2 : Int, x2 = (bits .and .u32 (gt l (IntKind.i64.wrap (((l.length : Nat) : Int) - 1))) ((gt x.ops t11).pre)) →
  ((x2 == ((gt x.ops t11).pre)) = true →
   ∀ x3 : Int, x3 = (bits .andNot .u32 (gt l (IntKind.i64.wrap (((l.length : Nat) : Int) - 1))) ((gt x.ops t11).del)) →
   ((!((getA m4 (bits .or .u32 x3 ((gt x.ops t11).add))).isSome)) = true →
    ∀ m7 : List (Int × Unit), m7 = (setA m4 (bits .or .u32 x3 ((gt x.ops t11).add)) ()) →
    (room ((l4 ++ ([bits .or .u32 x3 ((gt x.ops t11).add)] : List Int))).length 4) ∧
    F_all_J1 t11 m4 I2 μ2 l4 m7 (l4 ++ ([bits .or .u32 x3 ((gt x.ops t11).add)] : List Int))) ∧
   ((!((getA m4 (bits .or .u32 x3 ((gt x.ops t11).add))).isSome)) = false →
    F_all_J1 t11 m4 I2 μ2 l4 m4 l4)) ∧
  ((x2 == ((gt x.ops t11).pre)) = false →
   F_all_J1 t11 m4 I2 μ2 l4 m4 l4)) ∧
 ((decide (t11 < ((x.ops.length : Nat) : Int))) = false →
  ((decide (2000 < ((m4.length : Nat) : Int))) = true →
   K (([] : List Int), false)) ∧
  ((decide (2000 < ((m4.length : Nat) : Int))) = false →
   I1 (out ++ ([(gt l (IntKind.i64.wrap (((l.length : Nat) : Int) - 1)))] : List Int)) l4 m4 ∧
 μ1 (out ++ ([(gt l (IntKind.i64.wrap (((l.length : Nat) : Int) - 1)))] : List Int)) l4 m4 < μ1 out l m2))
def F_all_L1 (x : WordsT) (K : (List Int × Bool) → Prop) (m2 : List (Int × Unit)) (out : List Int) (l : List Int) (I1 : (List Int) → (List Int) → (List (Int × Unit)) → Prop) (μ1 : (List Int) → (List Int) → (List (Int × Unit)) → Nat) : Prop :=
 ((decide (0 < ((l.length : Nat) : Int))) = true →
  (inb l (IntKind.i64.wrap (((l.length : Nat) : Int) - 1))) ∧
  (0 ≤ (IntKind.i64.wrap (((l.length : Nat) : Int) - 1)) ∧ (IntKind.i64.wrap (((l.length : Nat) : Int) - 1)) ≤ ((l.length : Nat) : Int)) ∧
  ∀ d : List Int, d = (l.take (IntKind.i64.wrap (((l.length : Nat) : Int) - 1)).toNat) →
  (room ((out ++ ([(gt l (IntKind.i64.wrap (((l.length : Nat) : Int) - 1)))] : List Int))).length 4) ∧
  ∃ (I2 : Int → (List Int) → (List (Int × Unit)) → Prop) (μ2 : Int → (List Int) → (List (Int × Unit)) → Nat), I2 0 d m2 ∧ ∀ (t11 : Int) (l4 : List Int) (m4 : List (Int × Unit)), I2 t11 l4 m4 → F_all_L2 x K m2 t11 m4 I2 μ2 l4 out l I1 μ1) ∧
 ((decide (0 < ((l.length : Nat) : Int))) = false →
  K (out, true))
def F_all (x : WordsT) (K : (List Int × Bool) → Prop) : Prop :=
 ∀ m : List (Int × Unit), m = (setA ([] : List (Int × Unit)) x.start ()) →
 ∃ (I1 : (List Int) → (List Int) → (List (Int × Unit)) → Prop) (μ1 : (List Int) → (List Int) → (List (Int × Unit)) → Nat), I1 ([] : List Int) ([x.start] : List Int) m ∧ ∀ (out : List Int) (l : List Int) (m2 : List (Int × Unit)), I1 out l m2 → F_all_L1 x K m2 out l I1 μ1
def F_optimalL (t : Task) (K : (Int × Fault) → Prop) : Prop :=
 (t = (⟨2, ([] : List Int), ([0, 1] : List Int), ([(⟨([] : List Int), ([0, 1] : List Int), ([] : List Int), 2⟩ : Operator)] : List Operator)⟩ : Task)) ∧
 ∀ r2 : Fault, r2 = (sp_validate (⟨2, ([] : List Int), ([0, 1] : List Int), ([(⟨([] : List Int), ([0, 1] : List Int), ([] : List Int), 2⟩ : Operator)] : List Operator)⟩ : Task)) →
 (pre_word ([] : List Int)) ∧
 ∀ r3 : Int, r3 = (sp_word ([] : List Int)) →
 (pre_word ([0, 1] : List Int)) ∧
 ∀ r4 : Int, r4 = (sp_word ([0, 1] : List Int)) →
 ∀ r5 : Int, r5 = (sp_word ([] : List Int)) →
 ∀ r6 : Int, r6 = (sp_word ([0, 1] : List Int)) →
 ∀ r7 : Int, r7 = (sp_word ([] : List Int)) →
 (pre_all (⟨0, 3, ([(⟨0, 3, 0, 2⟩ : Masks)] : List Masks)⟩ : WordsT)) ∧
 ∀ r8 : List Int × Bool, r8 = (sp_all (⟨0, 3, ([(⟨0, 3, 0, 2⟩ : Masks)] : List Masks)⟩ : WordsT)) →
 (pre_sortW ([0, 3] : List Int)) ∧
 ∀ r9 : List Int, r9 = (sp_sortW ([0, 3] : List Int)) →
 K (2, (⟨0, 0⟩ : Fault))
def F_h11Solved (K : Bool → Prop) : Prop :=
 ∀ r2 : List Int × Bool × Fault, r2 = (sp_bplan (⟨1, [], ([0] : List Int), ([(⟨[], ([0] : List Int), [], 2⟩ : Operator)] : List Operator)⟩ : Task) []) →
 ∀ r3 : Fault, r3 = (sp_validate (⟨1, [], ([0] : List Int), ([(⟨[], ([0] : List Int), [], 2⟩ : Operator)] : List Operator)⟩ : Task)) →
 ∀ r4 : Fault, r4 = (sp_validate (⟨1, [], ([0] : List Int), ([(⟨[], ([0] : List Int), [], 2⟩ : Operator)] : List Operator)⟩ : Task)) →
 (pre_clone []) ∧
 ∀ r5 : List Int, r5 = (sp_clone []) →
 (pre_clone ([0] : List Int)) ∧
 ∀ r6 : List Int, r6 = (sp_clone ([0] : List Int)) →
 (pre_clone ([] : List Int)) ∧
 ∀ r7 : List Int, r7 = (sp_clone ([] : List Int)) →
 ∀ r8 : List Int, r8 = (sp_clone ([0] : List Int)) →
 ∀ r9 : List Int, r9 = (sp_clone ([] : List Int)) →
 (pre_optimalL (⟨2, ([] : List Int), ([0, 1] : List Int), ([(⟨([] : List Int), ([0, 1] : List Int), ([] : List Int), 2⟩ : Operator)] : List Operator)⟩ : Task)) ∧
 ∀ r10 : Int × Fault, r10 = (sp_optimalL (⟨2, ([] : List Int), ([0, 1] : List Int), ([(⟨([] : List Int), ([0, 1] : List Int), ([] : List Int), 2⟩ : Operator)] : List Operator)⟩ : Task)) →
 (pre_ints ([0] : List Int) ([0] : List Int)) ∧
 ∀ r11 : Bool, r11 = (sp_ints ([0] : List Int) ([0] : List Int)) →
 K true
def F_lawMonitors_J3 (t : Task) (plan : List Int) (i : Int) (K : Bool → Prop) (r3 : List (List Int) × Fault) (x : Int) (lost : List Int) (can : Bool) : Prop :=
 (inb r3.1 i) ∧
 ∀ r5 : Int × Bool × Fault, r5 = (sp_resume t plan (gt r3.1 i)) →
 ((x == 0) = true →
  ((r5.2.2.code == 0) = true →
   ((can) = true →
    ((r5.2.1) = true →
     ((((lost.length : Nat) : Int) == 0) = true →
      ((decide (i ≤ r5.1)) = true →
       ∀ r6 : Bool, r6 = sp_h11Solved →
       K r6) ∧
      ((decide (i ≤ r5.1)) = false →
       K false)) ∧
     ((((lost.length : Nat) : Int) == 0) = false →
      K false)) ∧
    ((r5.2.1) = false →
     K false)) ∧
   ((can) = false →
    K false)) ∧
  ((r5.2.2.code == 0) = false →
   K false)) ∧
 ((x == 0) = false →
  K false)
def F_lawMonitors_J2 (t : Task) (plan : List Int) (i : Int) (K : Bool → Prop) (r3 : List (List Int) × Fault) (t56 : Bool) : Prop :=
 ((t56) = true →
  K false) ∧
 ((t56) = false →
  (inb r3.1 i) ∧
  ∀ r7 : List Int × Bool × Fault, r7 = (sp_missing t plan (gt r3.1 i) i) →
  F_lawMonitors_J3 t plan i K r3 r7.2.2.code r7.1 r7.2.1)
def F_lawMonitors_J1 (t : Task) (plan : List Int) (i : Int) (K : Bool → Prop) (r3 : List (List Int) × Fault) (t44 : Bool) : Prop :=
 ((t44) = true →
  ∀ r4 : Bool, r4 = sp_h11Solved →
  K r4) ∧
 ((t44) = false →
  ((r3.2.code != 0) = true →
   F_lawMonitors_J2 t plan i K r3 true) ∧
  ((r3.2.code != 0) = false →
   ∀ x3 : Bool, x3 = (((r3.1.length : Nat) : Int) != (IntKind.i64.wrap (((plan.length : Nat) : Int) + 1))) →
   F_lawMonitors_J2 t plan i K r3 x3))
def F_lawMonitors (t : Task) (plan : List Int) (i : Int) (K : Bool → Prop) : Prop :=
 ∀ r2 : Bool × Fault, r2 = (sp_solves t plan) →
 ∀ r3 : List (List Int) × Fault, r3 = (sp_play t t.init plan) →
 ((r2.2.code != 0) = true →
  F_lawMonitors_J1 t plan i K r3 true) ∧
 ((r2.2.code != 0) = false →
  ((!r2.1) = true →
   F_lawMonitors_J1 t plan i K r3 true) ∧
  ((!r2.1) = false →
   ∀ r8 : Bool, r8 = (sp_in_ i 0 ((plan.length : Nat) : Int)) →
   F_lawMonitors_J1 t plan i K r3 (!r8)))
end Go.Proofs.YtimillpakjgnoaaGreatDoor.Pl

namespace Go.Proofs.YtimillpakjgnoaaGreatDoor.Pl
open Go Go.RowKit
theorem rowL_len {s : List Int} (h : ∀ x ∈ s, -9223372036854775808 ≤ x ∧ x ≤ 9223372036854775807) : (rowL s).length ≤ 22 * s.length := by
 induction s with
 | nil => simp [rowL]
 | cons x r ih =>
  have h1 := Lib.itoa_length_le x (h x List.mem_cons_self).1 (h x List.mem_cons_self).2
  have h2 := ih fun y hy => h y (List.mem_cons_of_mem _ hy)
  have e : rowL (x :: r) = (Lib.itoa x ++ [44]) ++ rowL r := rfl
  rw [e]; simp; omega
theorem keyL_len {l : List (List Int)} (h : ∀ s ∈ l, s.length ≤ 1000 ∧ ∀ x ∈ s, -9223372036854775808 ≤ x ∧ x ≤ 9223372036854775807) : (keyL l).length ≤ 22001 * l.length := by
 induction l with
 | nil => simp [keyL]
 | cons s r ih =>
  have h1 := rowL_len (h s List.mem_cons_self).2
  have h0 := (h s List.mem_cons_self).1
  have h2 := ih fun y hy => h y (List.mem_cons_of_mem _ hy)
  have e : keyL (s :: r) = (rowL s ++ [59]) ++ keyL r := rfl
  rw [e]; simp; omega
theorem rowL_take {s : List Int} {j : Nat} (h : j < s.length) : rowL (s.take (j + 1)) = rowL (s.take j) ++ (Lib.itoa (gt s j) ++ [44]) := by
 rw [takeN_gt h]; simp [rowL]
theorem keyL_take {l : List (List Int)} {k : Nat} (h : k < l.length) : keyL (l.take (k + 1)) = keyL (l.take k) ++ (rowL (gt l k) ++ [59]) := by
 rw [takeN_gt h]; simp [keyL]
theorem ok_key : ∀ (l : List (List Int)), pre_key l → F_key l (fun r => r = sp_key l) := fun l ⟨hl, hp⟩ => by
 unfold F_key
 refine ⟨fun t b => ∃ k : Nat, t = k ∧ k ≤ l.length ∧ b = keyL (l.take k), fun t _ => (l.length - t).toNat, ⟨0, rfl, Nat.zero_le _, rfl⟩, ?_⟩
 rintro _ _ ⟨k, rfl, k1, rfl⟩
 unfold F_key_L1
 simp only [decide_eq_true_eq, decide_eq_false_iff_not]
 refine ⟨fun h => ?_, fun h => ?_⟩
 ·have hk : k < l.length := by omega
  have hrow := hp _ (gt_memN hk)
  have hkl := keyL_len (l := l.take k) fun s hs => hp s (List.mem_of_mem_take hs)
  rw [List.length_take] at hkl
  refine ⟨⟨by omega, h⟩, fun t b => ∃ j : Nat, t = j ∧ j ≤ (gt l k).length ∧ b = keyL (l.take k) ++ rowL ((gt l k).take j), fun t _ => ((gt l k).length - t).toNat, ⟨0, rfl, Nat.zero_le _, by simp [rowL]⟩, ?_⟩
  rintro _ _ ⟨j, rfl, j1, rfl⟩
  unfold F_key_L2
  simp only [decide_eq_true_eq, decide_eq_false_iff_not]
  have hrl := rowL_len (s := (gt l k).take j) fun x hx => hrow.2 x (List.mem_of_mem_take hx)
  rw [List.length_take] at hrl
  refine ⟨fun g => ?_, fun g => ?_⟩
  ·have hj : j < (gt l k).length := by omega
   have hx := hrow.2 _ (gt_memN hj)
   have hil := Lib.itoa_length_le _ hx.1 hx.2
   rw [w64 (by omega)]
   refine ⟨⟨by omega, g⟩, hx, by rw [List.length_append]; omega, ⟨?_, ?_⟩, ⟨j + 1, by omega, by omega, by rw [rowL_take hj]; simp⟩, show (((gt l k).length : Int) - ((j : Int) + 1)).toNat < (((gt l k).length : Int) - (j : Int)).toNat by omega⟩
   ·simp only [List.length_append, List.length_singleton, maxLen]; omega
   ·simp only [List.length_append, List.length_singleton]; omega
  ·have ej : (gt l k).take j = gt l k := List.take_of_length_le (by omega)
   rw [ej] at hrl ⊢
   rw [w64 (by omega)]
   refine ⟨⟨?_, ?_⟩, ⟨k + 1, by omega, by omega, by rw [keyL_take hk, List.append_assoc]⟩, show ((l.length : Int) - ((k : Int) + 1)).toNat < ((l.length : Int) - (k : Int)).toNat by omega⟩
   ·simp only [List.length_append, List.length_singleton, maxLen]; omega
   ·simp only [List.length_append, List.length_singleton]; omega
 ·rw [List.take_of_length_le (by omega)]; rfl
end Go.Proofs.YtimillpakjgnoaaGreatDoor.Pl

namespace Go.Proofs.YtimillpakjgnoaaGreatDoor.Pl
open Go Go.RowKit
theorem ok_in_ : ∀ (n_ : Int) (low : Int) (high : Int), F_in_ n_ low high (fun r => r = sp_in_ n_ low high) := fun n lo hi => by
 unfold F_in_ sp_in_
 refine ⟨fun h => ?_, fun h => ?_⟩ <;> rw [h] <;> simp
theorem ok_isNaN1 : ∀ (x : Int), F_isNaN1 x (fun r => r = sp_isNaN1 x) := fun x => by
 show (x != x) = false
 simp
theorem ok_isNaN2 : ∀ (x : Int), F_isNaN2 x (fun r => r = sp_isNaN1 x) := fun x => by
 show (x != x) = false
 simp
theorem ok_less : ∀ (x : Int) (y : Int), F_less x y (fun r => r = sp_less x y) := fun x y => by
 unfold F_less
 simp only [forall_eq, sp_isNaN1]
 exact ⟨fun h => absurd h (by decide), fun _ => rfl⟩
theorem ok_indexF : ∀ (s_ : List Int) (pf : Int → Bool) (Df : Int → Prop), pre_any s_ pf Df → F_indexF s_ pf Df (fun r => r = sp_indexF s_ pf Df) := fun xs p D ⟨hl, hD⟩ => by
 refine ⟨fun t => 0 ≤ t ∧ t ≤ xs.length ∧ ∀ x ∈ xs.take t.toNat, p x = false, fun t => (xs.length - t).toNat, ⟨Int.le_refl _, by omega, by simp⟩, ?_⟩
 rintro t ⟨h0, h1, h2⟩
 unfold F_indexF_L1
 obtain ⟨k1, k2⟩ := any_split h0 h2
 simp only [decide_eq_true_eq, decide_eq_false_iff_not, forall_eq]
 refine ⟨fun h => ⟨⟨h0, h⟩, hD _ (gt_mem ⟨h0, h⟩), fun q => (k1 h q).symm, fun q => ?_⟩, fun h => (k2 h).symm⟩
 rw [w64 (by omega)]
 exact ⟨⟨by omega, by omega, any_next h0 h2 h q⟩, by omega⟩
theorem ok_containsF : ∀ (s_ : List Int) (pf : Int → Bool) (Df : Int → Prop), pre_any s_ pf Df → F_containsF s_ pf Df (fun r => r = sp_any s_ pf Df) := fun xs p D hp => by
 refine ⟨hp, fun r hr => ?_⟩
 rw [hr]
 show decide (0 ≤ sp_indexF xs p D) = sp_any xs p D
 unfold sp_indexF sp_any
 cases h : xs.any p
 ·simp
 ·simp
end Go.Proofs.YtimillpakjgnoaaGreatDoor.Pl

namespace Go.Proofs.YtimillpakjgnoaaGreatDoor.Pl
open Go Go.RowKit
theorem half {n : Int} (h0 : 0 ≤ n) (h1 : n ≤ 100000) : IntKind.i64.wrap (Int.fdiv (IntKind.u64.wrap (IntKind.i64.wrap n)) (2 ^ (min ((1 : Int)).toNat (IntKind.bits .u64)))) = n / 2 := by
 have e : (2 : Int) ^ (min ((1 : Int)).toNat (IntKind.bits .u64)) = 2 := by decide
 rw [e, w64 (n := n) (by omega), IntKind.wrap_u64, Int.fdiv_eq_ediv_of_nonneg _ (by omega), w64 (by omega)]
 omega
theorem filter_lt {x : List Int} {t : Int} {i : Nat} (hi : i ≤ x.length) (h1 : ∀ p : Nat, p < i → gt x (p : Int) < t) (h2 : ∀ p : Nat, i ≤ p → p < x.length → t ≤ gt x (p : Int)) : (x.filter fun a => decide (a < t)).length = i := by
 have e1 : (x.take i).filter (fun a => decide (a < t)) = x.take i := List.filter_eq_self.2 fun a ha => by
  obtain ⟨p, hp, rfl⟩ := List.mem_take_iff_getElem.1 ha
  have := h1 p (by omega)
  rw [gt_of ⟨by omega, by omega⟩] at this
  simpa using this
 have e2 : (x.drop i).filter (fun a => decide (a < t)) = [] := List.filter_eq_nil_iff.2 fun a ha => by
  obtain ⟨p, hp, rfl⟩ := List.mem_drop_iff_getElem.1 ha
  have := h2 (i + p) (by omega) (by omega)
  rw [gt_of ⟨by omega, by omega⟩] at this
  simp only [Int.toNat_natCast] at this
  simpa [Nat.add_comm] using this
 conv => lhs; rw [← List.take_append_drop i x]
 rw [List.filter_append, e1, e2, List.append_nil, List.length_take]
 omega
theorem sorted_gt {x : List Int} (hs : x.Pairwise (· < ·)) {p q : Nat} (hpq : p < q) (hq : q < x.length) : gt x (p : Int) < gt x (q : Int) := by
 rw [gt_of ⟨by omega, by omega⟩, gt_of ⟨by omega, by omega⟩]
 exact List.pairwise_iff_getElem.1 hs _ _ _ _ (by simpa using hpq)
theorem ok_bsearch : ∀ (x : List Int) (target : Int), pre_bsearch x target → F_bsearch x target (fun r => r = sp_bsearch x target) := fun x t ⟨hs, hl⟩ => by
 refine ⟨fun i j => ∃ a b : Nat, i = a ∧ j = b ∧ a ≤ b ∧ b ≤ x.length ∧ (∀ p : Nat, p < a → gt x (p : Int) < t) ∧ ∀ p : Nat, b ≤ p → p < x.length → t ≤ gt x (p : Int), fun i j => (j - i).toNat, ⟨0, x.length, rfl, rfl, by omega, by omega, fun p hp => by omega, fun p h1 h2 => by omega⟩, ?_⟩
 rintro _ _ ⟨a, b, rfl, rfl, hab, hb, h1, h2⟩
 unfold F_bsearch_L1
 simp only [decide_eq_true_eq, decide_eq_false_iff_not, forall_eq, beq_iff_eq, beq_eq_false_iff_ne, ne_eq, sp_isNaN1, sp_less]
 have ew := half (n := (a : Int) + b) (by omega) (by omega)
 refine ⟨fun h => ?_, fun h => ?_⟩
 ·rw [ew]
  have em : ((a : Int) + b) / 2 = ((a + b) / 2 : Nat) := by omega
  rw [em]
  have hm : (a + b) / 2 < b := by omega
  refine ⟨⟨by omega, by omega⟩, fun q => ?_, fun q => ?_⟩
  ·rw [w64 (by omega)]
   refine ⟨⟨(a + b) / 2 + 1, b, by omega, rfl, by omega, hb, fun p hp => ?_, h2⟩, by omega⟩
   rcases Nat.lt_or_ge p ((a + b) / 2) with g | g
   ·exact Int.lt_trans (sorted_gt hs g (by omega)) q
   ·rw [show p = (a + b) / 2 by omega]; exact q
  ·refine ⟨⟨a, (a + b) / 2, rfl, rfl, by omega, by omega, h1, fun p g1 g2 => ?_⟩, by omega⟩
   rcases Nat.lt_or_ge ((a + b) / 2) p with g | g
   ·have := sorted_gt hs g g2
    omega
   ·rw [show p = (a + b) / 2 by omega]; omega
 ·have e : a = b := by omega
  subst e
  have hf := filter_lt hb h1 h2
  have hm : (t ∈ x) ↔ a < x.length ∧ gt x (a : Int) = t := by
   constructor
   ·intro hx
    obtain ⟨p, hp, e⟩ := mem_gt hx
    rcases Nat.lt_trichotomy p a with g | g | g
    ·have := h1 p g; omega
    ·subst g; exact ⟨hp, e⟩
    ·have := sorted_gt hs g hp
     have := h2 a (Nat.le_refl _) (by omega)
     omega
   ·rintro ⟨g1, g2⟩
    exact g2 ▸ gt_memN g1
  unfold sp_bsearch
  rw [hf]
  refine ⟨fun g => ⟨⟨by omega, g⟩, fun q => ?_, fun q => ⟨fun g => absurd g (by decide), fun _ => ?_⟩⟩, fun g => ?_⟩
  ·rw [decide_eq_true (hm.2 ⟨by omega, q⟩)]
  ·rw [decide_eq_false fun k => q (hm.1 k).2]
  ·rw [decide_eq_false fun k => g (by have := (hm.1 k).1; omega)]
def SetTo (l : List Int) (n : Int) (k : Nat) : Prop := ∀ p : Nat, p < k → (0 ≤ gt l (p : Int) ∧ gt l (p : Int) < n) ∧ (0 < p → gt l ((p - 1 : Nat) : Int) < gt l (p : Int))
theorem SetTo.pair {l : List Int} {n : Int} {k : Nat} (h : SetTo l n k) : ∀ q : Nat, q < k → ∀ p : Nat, p < q → gt l (p : Int) < gt l (q : Int)
 | 0, _, p, hp => by omega
 | q + 1, hq, p, hp => by
  have h1 := (h (q + 1) hq).2 (by omega)
  rw [Nat.add_sub_cancel] at h1
  rcases Nat.lt_or_ge p q with g | g
  ·exact Int.lt_trans (h.pair q (by omega) p g) h1
  ·rw [show p = q by omega]; exact h1
theorem SetTo.all {l : List Int} {n : Int} (h : SetTo l n l.length) : sp_isSet l n = true := decide_eq_true ⟨List.pairwise_iff_getElem.2 fun p q hp hq hpq => by
  have := h.pair q hq p hpq
  rw [gt_of ⟨by omega, by omega⟩, gt_of ⟨by omega, by omega⟩] at this
  simpa using this, fun x hx => by
  obtain ⟨p, hp, rfl⟩ := mem_gt hx
  exact (h p hp).1⟩
theorem setTo_of {l : List Int} {n : Int} (h : sp_isSet l n = true) : SetTo l n l.length := fun p hp =>
 ⟨(of_decide_eq_true h).2 _ (gt_memN hp), fun h0 => sorted_gt (of_decide_eq_true h).1 (by omega) hp⟩
theorem not_setTo {l : List Int} {n : Int} {k : Nat} (hk : k < l.length) (h : ¬ SetTo l n (k + 1)) : sp_isSet l n = false := by
 cases e : sp_isSet l n
 ·rfl
 ·exact absurd (fun p hp => setTo_of e p (by omega)) h
theorem SetTo.small {l : List Int} {n : Int} (hn : 0 ≤ n) : ∀ {k : Nat}, SetTo l n k → (k : Int) ≤ n ∧ (0 < k → (k : Int) ≤ gt l ((k - 1 : Nat) : Int) + 1)
 | 0, _ => ⟨by omega, fun h => by omega⟩
 | k + 1, h => by
  have ih := SetTo.small hn (k := k) (fun p hp => h p (by omega))
  have h1 := h k (by omega)
  rw [Nat.add_sub_cancel]
  rcases Nat.eq_zero_or_pos k with rfl | q
  ·constructor
   ·have := h1.1; omega
   ·intro _; have := h1.1; omega
  ·have h2 := h1.2 q
   have h3 := ih.2 q
   constructor
   ·have := h1.1; omega
   ·intro _; omega
theorem setTo_next {l : List Int} {n : Int} {k : Nat} (h : SetTo l n k) : SetTo l n (k + 1) ↔ (0 ≤ gt l (k : Int) ∧ gt l (k : Int) < n) ∧ (0 < k → gt l ((k - 1 : Nat) : Int) < gt l (k : Int)) := by
 refine ⟨fun g => g k (by omega), fun g p hp => ?_⟩
 rcases Nat.lt_or_ge p k with q | q
 ·exact h p q
 ·rw [show p = k by omega]; exact g
theorem ok_isSet : ∀ (l : List Int) (n_ : Int), pre_isSet l n_ → F_isSet l n_ (fun r => r = sp_isSet l n_) := fun l n ⟨n0, n1⟩ => by
 refine ⟨fun t => ∃ k : Nat, t = k ∧ k ≤ l.length ∧ SetTo l n k, fun t => (l.length - t).toNat, ⟨0, rfl, Nat.zero_le _, fun p hp => by omega⟩, ?_⟩
 rintro _ ⟨k, rfl, k1, k2⟩
 unfold F_isSet_L1 F_isSet_J1
 simp only [decide_eq_true_eq, decide_eq_false_iff_not]
 have hk := k2.small n0
 rw [w64 (n := (k : Int) + 1) (by omega)]
 refine ⟨fun h => ?_, fun h => ?_⟩
 ·have bad : ¬ ((0 ≤ gt l (k : Int) ∧ gt l (k : Int) < n) ∧ (0 < k → gt l ((k - 1 : Nat) : Int) < gt l (k : Int))) → false = sp_isSet l n := fun q => (not_setTo (k := k) (by omega) (fun g => q ((setTo_next k2).1 g))).symm
  have good : ((0 ≤ gt l (k : Int) ∧ gt l (k : Int) < n) ∧ (0 < k → gt l ((k - 1 : Nat) : Int) < gt l (k : Int))) → (∃ k' : Nat, (k : Int) + 1 = k' ∧ k' ≤ l.length ∧ SetTo l n k') ∧ ((l.length : Int) - (k + 1)).toNat < ((l.length : Int) - k).toNat := fun q => ⟨⟨k + 1, by omega, by omega, (setTo_next k2).2 q⟩, by omega⟩
  refine ⟨⟨by omega, h⟩, fun q => ⟨fun _ => bad fun g => ?_, fun g => absurd g (by decide)⟩, fun q => ⟨fun q2 => ⟨fun _ => bad fun g => ?_, fun g => absurd g (by decide)⟩, fun q2 => ⟨fun q3 => ?_, fun q3 => ⟨fun g => absurd g (by decide), fun _ => good ⟨by omega, fun q4 => by omega⟩⟩⟩⟩⟩
  ·have := g.1.1; omega
  ·have := g.1.2; omega
  ·rw [w64 (by omega), show ((k : Int) - 1) = ((k - 1 : Nat) : Int) by omega]
   refine ⟨⟨by omega, by omega⟩, fun g => bad fun g2 => ?_, fun g => good ⟨by omega, fun _ => by omega⟩⟩
   have := g2.2 (by omega); omega
 ·have : k = l.length := by omega
  subst this
  exact k2.all.symm
end Go.Proofs.YtimillpakjgnoaaGreatDoor.Pl

namespace Go.Proofs.YtimillpakjgnoaaGreatDoor.Pl
open Go Go.RowKit
theorem ok_meets1 : ∀ (x : Int) (x2 : List Int), pre_meets1 x x2 → F_meets1 x x2 (fun r => r = sp_meets1 x x2) := fun x b hp => by
 refine ⟨hp, fun r hr => ?_⟩
 rw [hr]; rfl
theorem ok_meets : ∀ (a : List Int) (b : List Int), pre_meets a b → F_meets a b (fun r => r = sp_meets a b) := fun a b ⟨h1, h2⟩ => by
 refine ⟨⟨h1, fun x _ => h2⟩, fun r hr => ?_⟩
 rw [hr]; rfl
theorem set_len {l : List Int} {n : Int} (hn : 0 ≤ n) (h : sp_isSet l n = true) : (l.length : Int) ≤ n := (setTo_of h).small hn |>.1
theorem set_sorted {l : List Int} {n : Int} (h : sp_isSet l n = true) : l.Pairwise (· < ·) := (of_decide_eq_true h).1
theorem set_rng {l : List Int} {n : Int} (h : sp_isSet l n = true) : ∀ x ∈ l, 0 ≤ x ∧ x < n := (of_decide_eq_true h).2
theorem ok_operator : ∀ (o : Operator) (facts : Int), pre_operator o facts → F_operator o facts (fun r => r = sp_operator o facts) := fun o n ⟨n0, n1⟩ => by
 have bad : ¬ (sp_isSet o.pre n = true ∧ sp_isSet o.add n = true ∧ sp_isSet o.del n = true ∧ sp_meets o.add o.del = false) → (5 : Int) = sp_operator o n := fun h => by rw [sp_operator, if_neg h]
 unfold F_operator F_operator_J1 F_operator_J2
 simp only [forall_eq, Bool.not_eq_true', Bool.not_eq_false', decide_eq_true_eq, decide_eq_false_iff_not]
 refine ⟨⟨n0, n1⟩, fun h => ⟨fun _ => bad fun g => ?_, fun g => absurd g (by decide)⟩, fun h1 => ⟨⟨n0, n1⟩, fun h => ⟨fun _ => bad fun g => ?_, fun g => absurd g (by decide)⟩, fun h2 => ⟨⟨n0, n1⟩, fun h => ⟨fun _ => bad fun g => ?_, fun g => absurd g (by decide)⟩, fun h3 => ?_⟩⟩⟩
 ·rw [g.1] at h; exact absurd h (by decide)
 ·rw [g.2.1] at h; exact absurd h (by decide)
 ·rw [g.2.2.1] at h; exact absurd h (by decide)
 ·have l1 := set_len n0 h2
  have l2 := set_len n0 h3
  refine ⟨⟨by omega, set_sorted h3, by omega⟩, fun h => bad fun g => ?_, fun h => ?_⟩
  ·rw [g.2.2.2] at h; exact absurd h (by decide)
  ·have e : sp_operator o n = if 0 ≤ o.cost ∧ o.cost ≤ 100 then 0 else 3 := by rw [sp_operator, if_pos ⟨h1, h2, h3, h⟩]
   rw [e]
   refine ⟨fun q => ⟨fun _ => ?_, fun g => absurd g (by decide)⟩, fun q => ⟨fun g => ?_, fun g => ?_⟩⟩
   ·rw [if_neg (by omega)]
   ·rw [if_neg (by omega)]
   ·rw [if_pos (by omega)]
theorem opFault_zero {t : Task} {k : Nat} (h : sp_operator (gt t.ops k) t.facts = 0) : opFault t k = ⟨0, 0⟩ := by rw [opFault, if_pos h]
theorem opFault_ne {t : Task} {k : Nat} (h : sp_operator (gt t.ops k) t.facts ≠ 0) : opFault t k = ⟨sp_operator (gt t.ops k) t.facts, k⟩ := by rw [opFault, if_neg h]
theorem ok_validate : ∀ (t : Task), F_validate t (fun r => r = sp_validate t) := fun t => by
 have hs : sp_validate t = if t.facts < 0 ∨ 24 < t.facts then ⟨3, -1⟩ else if sp_isSet t.init t.facts = false then ⟨5, -2⟩ else if sp_isSet t.goal t.facts = false then ⟨5, -3⟩ else if 40 < t.ops.length then ⟨2, -1⟩ else ffirst (opFault t) t.ops.length := rfl
 have key : ¬ (t.facts < 0 ∨ 24 < t.facts) → F_validate_J1 t (fun r => r = sp_validate t) false := fun hf => by
  unfold F_validate_J1
  simp only [forall_eq, Bool.not_eq_true', Bool.not_eq_false', decide_eq_true_eq, decide_eq_false_iff_not]
  refine ⟨fun g => absurd g (by decide), fun _ => ⟨⟨by omega, by omega⟩, fun h => ?_, fun h1 => ⟨⟨by omega, by omega⟩, fun h => ?_, fun h2 => ⟨fun h => ?_, fun h3 => ?_⟩⟩⟩⟩
  ·rw [hs, if_neg hf, if_pos h]
  ·rw [hs, if_neg hf, if_neg (by rw [h1]; decide), if_pos h]
  ·rw [hs, if_neg hf, if_neg (by rw [h1]; decide), if_neg (by rw [h2]; decide), if_pos (by omega)]
  ·have e : sp_validate t = ffirst (opFault t) t.ops.length := by rw [hs, if_neg hf, if_neg (by rw [h1]; decide), if_neg (by rw [h2]; decide), if_neg (by omega)]
   rw [e]
   refine ⟨fun i => ∃ k : Nat, i = k ∧ k ≤ t.ops.length ∧ ∀ j, j < k → opFault t j = ⟨0, 0⟩, fun i => (t.ops.length - i).toNat, ⟨0, rfl, by omega, fun j hj => by omega⟩, ?_⟩
   rintro _ ⟨k, rfl, k1, k2⟩
   unfold F_validate_L1
   simp only [decide_eq_true_eq, decide_eq_false_iff_not, forall_eq, bne_iff_ne, ne_eq, bne_eq_false_iff_eq]
   refine ⟨fun h => ⟨⟨by omega, h⟩, ⟨by omega, by omega⟩, fun q => ?_, fun q => ?_⟩, fun h => ?_⟩
   ·rw [ffirst_hit (i := k) (by omega) k2 (by rw [opFault_ne q]; exact fault_mk q), opFault_ne q]
   ·rw [w64 (by omega)]
    exact ⟨⟨k + 1, by omega, by omega, zero_next k2 (opFault_zero q)⟩, by omega⟩
   ·rw [ffirst_none fun j hj => k2 j (by omega)]
 unfold F_validate
 simp only [decide_eq_true_eq, decide_eq_false_iff_not]
 refine ⟨fun h => ⟨fun _ => ?_, fun g => absurd g (by decide)⟩, fun h => ?_⟩
 ·rw [hs, if_pos (.inl h)]
 ·by_cases h2 : 24 < t.facts
  ·rw [decide_eq_true h2]
   refine ⟨fun _ => ?_, fun g => absurd g (by decide)⟩
   rw [hs, if_pos (.inr h2)]
  ·rw [decide_eq_false h2]
   exact key (by omega)
theorem steps_tail {n : Int} {p : List Int} {k : Nat} (hl : ¬ 60 < p.length) (hk : ∀ x ∈ p.take k, 0 ≤ x ∧ x < n) : (k < p.length → ¬ (0 ≤ gt p (k : Int) ∧ gt p (k : Int) < n) → sp_steps n p = ⟨3, -6⟩) ∧ (k < p.length → (0 ≤ gt p (k : Int) ∧ gt p (k : Int) < n) → ∀ x ∈ p.take (k + 1), 0 ≤ x ∧ x < n) ∧ (¬ k < p.length → sp_steps n p = ⟨0, 0⟩) := by
 refine ⟨fun h q => ?_, fun h q x hx => ?_, fun h => ?_⟩
 ·rw [sp_steps, if_neg hl, if_neg]
  intro g
  have := List.all_eq_true.1 g _ (gt_memN (i := k) h)
  exact q (of_decide_eq_true this)
 ·rw [takeN_gt h] at hx
  rcases List.mem_append.1 hx with hx | hx
  ·exact hk x hx
  ·rw [List.mem_singleton.1 hx]; exact q
 ·rw [List.take_of_length_le (by omega)] at hk
  rw [sp_steps, if_neg hl, if_pos (List.all_eq_true.2 fun x hx => decide_eq_true (hk x hx))]
theorem ok_steps : ∀ (operators : Int) (plan : List Int), pre_steps operators plan → F_steps operators plan (fun r => r = sp_steps operators plan) := fun n p ⟨n0, n1⟩ => by
 unfold F_steps
 simp only [decide_eq_true_eq, decide_eq_false_iff_not]
 refine ⟨fun h => ?_, fun hl => ⟨fun t => ∃ k : Nat, t = k ∧ k ≤ p.length ∧ ∀ x ∈ p.take k, 0 ≤ x ∧ x < n, fun t => (p.length - t).toNat, ⟨0, rfl, Nat.zero_le _, by simp⟩, ?_⟩⟩
 ·rw [sp_steps, if_pos (by omega)]
 ·rintro _ ⟨k, rfl, k1, k2⟩
  unfold F_steps_L1 F_steps_J1
  obtain ⟨e1, e2, e3⟩ := steps_tail (by omega) k2
  rw [w64 (n := (k : Int) + 1) (by omega)]
  simp only [decide_eq_true_eq, decide_eq_false_iff_not]
  refine ⟨fun h => ⟨⟨by omega, h⟩, fun q => ⟨fun _ => (e1 (by omega) (by omega)).symm, fun g => absurd g (by decide)⟩, fun q => ⟨fun q2 => (e1 (by omega) (by omega)).symm, fun q2 => ⟨⟨k + 1, by omega, by omega, e2 (by omega) (by omega)⟩, by omega⟩⟩⟩, fun h => (e3 (by omega)).symm⟩
structure TaskOK (t : Task) : Prop where
 facts : 0 ≤ t.facts ∧ t.facts ≤ 24
 init : sp_isSet t.init t.facts = true
 goal : sp_isSet t.goal t.facts = true
 len : t.ops.length ≤ 40
 ops : ∀ k : Nat, k < t.ops.length → sp_operator (gt t.ops k) t.facts = 0
theorem taskOK_of {t : Task} (h : sp_validate t = ⟨0, 0⟩) : TaskOK t := by
 unfold sp_validate at h
 split at h
 ·exact absurd h (fault_mk (by decide))
 ·split at h
  ·exact absurd h (fault_mk (by decide))
  ·split at h
   ·exact absurd h (fault_mk (by decide))
   ·split at h
    ·exact absurd h (fault_mk (by decide))
    ·rename_i h1 h2 h3 h4
     refine ⟨by omega, by simpa using h2, by simpa using h3, by omega, fun k hk => ?_⟩
     have := ffirst_zero h k hk
     unfold opFault at this
     split at this
     ·assumption
     ·rename_i h5
      exact absurd this (fault_mk h5)
theorem ok_planFault : ∀ (t : Task) (plan : List Int), F_planFault t plan (fun r => r = sp_planFault t plan) := fun t p => by
 unfold F_planFault
 simp only [forall_eq, fault_ne, fault_eq]
 refine ⟨fun h => ?_, fun h => ⟨⟨by omega, ?_⟩, ?_⟩⟩
 ·rw [sp_planFault, if_neg h]
 ·have := (taskOK_of h).len; omega
 ·rw [sp_planFault, if_pos h]
end Go.Proofs.YtimillpakjgnoaaGreatDoor.Pl

namespace Go.Proofs.YtimillpakjgnoaaGreatDoor.Pl
open Go Go.RowKit
theorem mem_allS {n : Nat} {x : Int} : x ∈ allS n ↔ 0 ≤ x ∧ x < n := by
 unfold allS
 simp only [List.mem_map, List.mem_range]
 constructor
 ·rintro ⟨j, hj, rfl⟩; omega
 ·intro h; exact ⟨x.toNat, by omega, by omega⟩
theorem allS_len (n : Nat) : (allS n).length = n := by simp [allS]
theorem filter1_pos {p : Int → Bool} {k : Int} (h : p k = true) : [k].filter p = [k] := by rw [List.filter_cons, if_pos h]; rfl
theorem filter1_neg {p : Int → Bool} {k : Int} (h : p k = false) : [k].filter p = [] := by rw [List.filter_cons, if_neg (by rw [h]; decide)]; rfl
theorem subset_iff {a b : List Int} : sp_subset a b = true ↔ ∀ x ∈ a, x ∈ b := by
 simp only [sp_subset, List.all_eq_true, decide_eq_true_eq]
theorem TaskOK.op {t : Task} (h : TaskOK t) {i : Int} (hi : inb t.ops i) : sp_isSet (gt t.ops i).pre t.facts = true ∧ sp_isSet (gt t.ops i).add t.facts = true ∧ sp_isSet (gt t.ops i).del t.facts = true ∧ sp_meets (gt t.ops i).add (gt t.ops i).del = false := by
 have h1 := h.ops i.toNat (by have := hi.2; have := hi.1; omega)
 rw [Int.toNat_of_nonneg hi.1] at h1
 unfold sp_operator at h1
 split at h1
 ·assumption
 ·exact absurd h1 (by decide)
theorem TaskOK.lens {t : Task} (h : TaskOK t) {i : Int} (hi : inb t.ops i) : (gt t.ops i).pre.length ≤ 24 ∧ (gt t.ops i).add.length ≤ 24 ∧ (gt t.ops i).del.length ≤ 24 := by
 obtain ⟨h1, h2, h3, _⟩ := h.op hi
 have hf := h.facts
 have := set_len hf.1 h1
 have := set_len hf.1 h2
 have := set_len hf.1 h3
 omega
theorem allS_succ (n : Nat) : allS (n + 1) = allS n ++ [(n : Int)] := by
 unfold allS
 rw [List.range_succ, List.map_append]; rfl
theorem mem_after {t : Task} (hf : 0 ≤ t.facts) {s : List Int} {op f : Int} : f ∈ sp_after t s op ↔ (0 ≤ f ∧ f < t.facts) ∧ (f ∈ (gt t.ops op).add ∨ (f ∈ s ∧ f ∉ (gt t.ops op).del)) := by
 rw [sp_after, List.mem_filter, mem_allS, decide_eq_true_eq, Int.toNat_of_nonneg hf]
theorem steps_ok {n : Int} {p : List Int} (h : sp_steps n p = ⟨0, 0⟩) : p.length ≤ 60 ∧ ∀ x ∈ p, 0 ≤ x ∧ x < n := by
 unfold sp_steps at h
 split at h
 ·exact absurd h (fault_mk (by decide))
 ·split at h
  ·rename_i h1 h2
   exact ⟨by omega, fun x hx => of_decide_eq_true (List.all_eq_true.1 h2 x hx)⟩
  ·exact absurd h (fault_mk (by decide))
theorem plan_ok {t : Task} {p : List Int} (h : sp_planFault t p = ⟨0, 0⟩) : sp_validate t = ⟨0, 0⟩ ∧ p.length ≤ 60 ∧ ∀ x ∈ p, inb t.ops x := by
 unfold sp_planFault at h
 split at h
 ·rename_i h1
  exact ⟨h1, steps_ok h⟩
 ·rename_i h1
  exact absurd h h1
end Go.Proofs.YtimillpakjgnoaaGreatDoor.Pl

namespace Go.Proofs.YtimillpakjgnoaaGreatDoor.Pl
open Go Go.RowKit
theorem sorted_ext : ∀ (a b : List Int), a.Pairwise (· < ·) → b.Pairwise (· < ·) → (∀ x, x ∈ a ↔ x ∈ b) → a = b
 | [], b, _, _, h => by
  cases b with
  | nil => rfl
  | cons y s => exact absurd ((h y).2 List.mem_cons_self) (by simp)
 | x :: r, [], _, _, h => absurd ((h x).1 List.mem_cons_self) (by simp)
 | x :: r, y :: s, ha, hb, h => by
  obtain ⟨a1, a2⟩ := List.pairwise_cons.1 ha
  obtain ⟨b1, b2⟩ := List.pairwise_cons.1 hb
  have e : x = y := by
   rcases List.mem_cons.1 ((h x).1 List.mem_cons_self) with q | q
   ·exact q
   ·rcases List.mem_cons.1 ((h y).2 List.mem_cons_self) with q2 | q2
    ·exact q2.symm
    ·have := a1 _ q2; have := b1 _ q; omega
  subst e
  rw [sorted_ext r s a2 b2 fun z => ?_]
  constructor
  ·intro hz
   rcases List.mem_cons.1 ((h z).1 (List.mem_cons_of_mem _ hz)) with q | q
   ·have := a1 _ hz; omega
   ·exact q
  ·intro hz
   rcases List.mem_cons.1 ((h z).2 (List.mem_cons_of_mem _ hz)) with q | q
   ·have := b1 _ hz; omega
   ·exact q
theorem mem_sort {xs : List Int} {x : Int} : x ∈ sp_sort xs ↔ x ∈ xs := List.mem_mergeSort
theorem sort_sorted (xs : List Int) : (sp_sort xs).Pairwise (· ≤ ·) := by
 have := List.pairwise_mergeSort (le := fun x y : Int => decide (x ≤ y)) (fun a b c h1 h2 => by simp only [decide_eq_true_eq] at *; omega) (fun a b => by simp only [Bool.or_eq_true, decide_eq_true_eq]; omega) xs
 exact this.imp fun h => by simpa using h
theorem getB {xs : List Int} {j : Nat} (h : j < xs.length) : xs.toArray[j]! = xs[j] := by simp [h]
theorem compact_eq (xs : List Int) : sp_compact xs = ((List.range xs.length).filter (Lib.keeps xs.toArray)).map (fun j => xs.toArray[j]!) := rfl
theorem mem_compact {xs : List Int} {x : Int} : x ∈ sp_compact xs ↔ x ∈ xs := by
 rw [compact_eq, List.mem_map]
 constructor
 ·rintro ⟨j, hj, rfl⟩
  have := List.mem_range.1 (List.mem_filter.1 hj).1
  rw [getB this]; exact List.getElem_mem _
 ·intro hx
  obtain ⟨j, hj, rfl⟩ := List.mem_iff_getElem.1 hx
  have key : ∀ j : Nat, (h : j < xs.length) → ∃ i, i ∈ (List.range xs.length).filter (Lib.keeps xs.toArray) ∧ xs.toArray[i]! = xs[j] := by
   intro j
   induction j with
   | zero => intro h; exact ⟨0, List.mem_filter.2 ⟨List.mem_range.2 h, by simp [Lib.keeps]⟩, getB h⟩
   | succ j ih =>
    intro h
    by_cases q : xs[j + 1] = xs[j]
    ·obtain ⟨i, h1, h2⟩ := ih (by omega)
     exact ⟨i, h1, by rw [h2, q]⟩
    ·refine ⟨j + 1, List.mem_filter.2 ⟨List.mem_range.2 h, ?_⟩, getB h⟩
     refine Lib.keeps_pos ?_
     rw [Nat.add_sub_cancel, getB h, getB (by omega)]; exact q
  exact key j hj
theorem compact_sorted {xs : List Int} (h : xs.Pairwise (· ≤ ·)) : (sp_compact xs).Pairwise (· < ·) := by
 rw [compact_eq, List.pairwise_map]
 refine List.Pairwise.imp_of_mem (fun {a b} ha hb hab => ?_) ((List.pairwise_lt_range (n := xs.length)).filter _)
 have ha' := List.mem_range.1 (List.mem_filter.1 ha).1
 obtain ⟨hb1, hb2⟩ := List.mem_filter.1 hb
 have hb' := List.mem_range.1 hb1
 rw [getB ha', getB hb']
 have hle := List.pairwise_iff_getElem.1 h
 have hk : xs[b] ≠ xs[b - 1]'(by omega) := by
  simp only [Lib.keeps, decide_eq_true_eq] at hb2
  rcases hb2 with q | q
  ·omega
  ·rwa [getB hb', getB (by omega)] at q
 have h1 : xs[b - 1]'(by omega) ≤ xs[b] := hle _ _ (by omega) hb' (by omega)
 have h2 : xs[a] ≤ xs[b - 1]'(by omega) := by
  rcases Nat.lt_or_ge a (b - 1) with q | q
  ·exact hle _ _ ha' (by omega) q
  ·have : a = b - 1 := by omega
   subst this; exact Int.le_refl _
 omega
theorem mem_update {s add del : List Int} {x : Int} : x ∈ sp_update s add del ↔ (x ∈ s ∧ x ∉ del) ∨ x ∈ add := by
 rw [sp_update, mem_compact, mem_sort, List.mem_append, List.mem_filter, decide_eq_true_eq]
theorem update_sorted (s add del : List Int) : (sp_update s add del).Pairwise (· < ·) := compact_sorted (sort_sorted _)
theorem allS_sorted (n : Nat) : (allS n).Pairwise (· < ·) := List.pairwise_map.2 ((List.pairwise_lt_range (n := n)).imp fun h => by omega)
theorem after_set {t : Task} (hf : 0 ≤ t.facts) (s : List Int) (op : Int) : sp_isSet (sp_after t s op) t.facts = true :=
 decide_eq_true ⟨(allS_sorted _).filter _, fun _ hx => ((mem_after hf).1 hx).1⟩
theorem update_after {t : Task} {s : List Int} {op : Int} (hp : pre_next t s op) : sp_update s (gt t.ops op).add (gt t.ops op).del = sp_after t s op := by
 obtain ⟨h1, h2, h3⟩ := hp
 have tk := taskOK_of h1
 have hf := tk.facts.1
 refine sorted_ext _ _ (update_sorted _ _ _) (set_sorted (after_set hf s op)) fun x => ?_
 rw [mem_update, mem_after hf]
 constructor
 ·rintro (⟨a, b⟩ | a)
  ·exact ⟨set_rng h3 x a, .inr ⟨a, b⟩⟩
  ·exact ⟨set_rng (tk.op h2).2.1 x a, .inl a⟩
 ·rintro ⟨_, a | a⟩
  ·exact .inr a
  ·exact .inl a
theorem ok_clone : ∀ (s_ : List Int), pre_clone s_ → F_clone s_ (fun r => r = sp_clone s_) := fun s hp => by
 unfold pre_clone at hp
 exact ⟨fun h => by rw [h]; rfl, ⟨by simp only [List.nil_append, maxLen]; omega, by simp only [List.nil_append]; omega⟩, by simp [sp_clone]⟩
theorem ok_update : ∀ (s_ : List Int) (add : List Int) (del : List Int), pre_update s_ add del → F_update s_ add del (fun r => r = sp_update s_ add del) := fun s add del ⟨h1, h2, h3⟩ => by
 refine ⟨fun t out => ∃ k : Nat, t = k ∧ k ≤ s.length ∧ out = (s.take k).filter (fun x => decide (x ∉ del)), fun t _ => (s.length - t).toNat, ⟨0, rfl, Nat.zero_le _, rfl⟩, ?_⟩
 rintro _ out ⟨k, rfl, k1, k2⟩
 unfold F_update_L1 F_update_J1
 have hlen : out.length ≤ k := by
  rw [k2]
  exact Nat.le_trans (List.length_filter_le _ _) (by rw [List.length_take]; omega)
 simp only [decide_eq_true_eq, decide_eq_false_iff_not, forall_eq, sp_bsearch, Bool.not_eq_true', Bool.not_eq_false', List.length_append, List.length_singleton]
 refine ⟨fun h => ?_, fun h => ?_⟩
 ·rw [w64 (by omega)]
  have hk : k < s.length := by omega
  refine ⟨⟨by omega, h⟩, h3, fun q => ⟨⟨by simp only [maxLen]; omega, by omega⟩, ⟨k + 1, by omega, by omega, ?_⟩, by omega⟩, fun q => ⟨⟨k + 1, by omega, by omega, ?_⟩, by omega⟩⟩
  ·rw [takeN_gt hk, List.filter_append, ← k2, filter1_pos (p := fun x => decide (x ∉ del)) (decide_eq_true q)]
  ·rw [takeN_gt hk, List.filter_append, ← k2, filter1_neg (p := fun x => decide (x ∉ del)) (decide_eq_false fun g => g q), List.append_nil]
 ·have e : k = s.length := by omega
  rw [e, List.take_length] at k2
  refine ⟨⟨by simp only [maxLen]; omega, by omega⟩, show (out ++ add).length ≤ 100000 by rw [List.length_append]; omega, show (sp_sort (out ++ add)).length ≤ 100000 by rw [sp_sort, List.length_mergeSort, List.length_append]; omega, ?_⟩
  rw [k2]; rfl
theorem contains_past {s : List Int} (hs : s.Pairwise (· < ·)) {i : Nat} {x : Int} (hlt : ∀ p : Nat, p < i → p < s.length → gt s (p : Int) < x) (h : i < s.length → gt s (i : Int) ≠ x ∧ ¬ gt s (i : Int) < x) : x ∉ s := fun hx => by
 obtain ⟨p, hp, e⟩ := mem_gt hx
 rcases Nat.lt_trichotomy p i with g | g | g
 ·have := hlt p g hp; omega
 ·subst g; exact (h hp).1 e
 ·have h1 := h (by omega)
  have := sorted_gt hs g hp
  omega
theorem ok_contains2 : ∀ (s_ : List Int) (part : List Int), pre_contains2 s_ part → F_contains2 s_ part (fun r => r = sp_contains2 s_ part) := fun s part ⟨h1, h2, h3, h4⟩ => by
 have bad : ∀ k : Nat, k < part.length → gt part (k : Int) ∉ s → false = sp_contains2 s part := fun k hk q => by
  cases e : sp_contains2 s part
  ·rfl
  ·exact absurd (subset_iff.1 e _ (gt_memN hk)) q
 refine ⟨fun i t => ∃ a k : Nat, i = a ∧ t = k ∧ a ≤ s.length ∧ k ≤ part.length ∧ (∀ x ∈ part.take k, x ∈ s) ∧ (k < part.length → ∀ p : Nat, p < a → p < s.length → gt s (p : Int) < gt part (k : Int)), fun _ t => (part.length - t).toNat, ⟨0, 0, rfl, rfl, Nat.zero_le _, Nat.zero_le _, by simp, fun _ p hp => by omega⟩, ?_⟩
 rintro _ _ ⟨a, k, rfl, rfl, a1, k1, k2, k3⟩
 unfold F_contains2_L1
 simp only [decide_eq_true_eq, decide_eq_false_iff_not]
 refine ⟨fun h => ⟨⟨by omega, h⟩, ?_⟩, fun h => ?_⟩
 ·have hk : k < part.length := by omega
  refine ⟨fun i => ∃ b : Nat, i = b ∧ a ≤ b ∧ b ≤ s.length ∧ ∀ p : Nat, p < b → p < s.length → gt s (p : Int) < gt part (k : Int), fun i => (s.length - i).toNat, ⟨a, rfl, Nat.le_refl _, a1, k3 hk⟩, ?_⟩
  rintro _ ⟨b, rfl, b1, b2, b3⟩
  have fin : (¬ (b < s.length ∧ gt s (b : Int) < gt part (k : Int))) → F_contains2_J1 s part (fun r => r = sp_contains2 s part) false a (fun i => ∃ b : Nat, i = b ∧ a ≤ b ∧ b ≤ s.length ∧ ∀ p : Nat, p < b → p < s.length → gt s (p : Int) < gt part (k : Int)) (fun i => (s.length - i).toNat) k b (fun i t => ∃ a k : Nat, i = a ∧ t = k ∧ a ≤ s.length ∧ k ≤ part.length ∧ (∀ x ∈ part.take k, x ∈ s) ∧ (k < part.length → ∀ p : Nat, p < a → p < s.length → gt s (p : Int) < gt part (k : Int))) (fun _ t => (part.length - t).toNat) := fun hn => by
   unfold F_contains2_J1 F_contains2_J2
   rw [w64 (n := (k : Int) + 1) (by omega)]
   simp only [beq_iff_eq, beq_eq_false_iff_ne, ne_eq, bne_iff_ne, bne_eq_false_iff_eq]
   refine ⟨fun g => absurd g (by decide), fun _ => ⟨fun e => ⟨fun _ => bad k hk (contains_past h3 b3 fun g => by omega), fun g => absurd g (by decide)⟩, fun e => ⟨⟨by omega, by omega⟩, fun q => bad k hk (contains_past h3 b3 fun g => ⟨q, fun g2 => hn ⟨g, g2⟩⟩), fun q => ⟨⟨b, k + 1, rfl, by omega, b2, by omega, fun x hx => ?_, fun hk2 p hp hp2 => ?_⟩, by omega⟩⟩⟩⟩
   ·rw [takeN_gt hk] at hx
    rcases List.mem_append.1 hx with hx | hx
    ·exact k2 x hx
    ·rw [List.mem_singleton.1 hx, ← q]; exact gt_memN (by omega)
   ·exact Int.lt_trans (b3 p hp hp2) (sorted_gt h4 (Nat.lt_succ_self k) hk2)
  unfold F_contains2_L2
  simp only [decide_eq_true_eq, decide_eq_false_iff_not]
  refine ⟨fun h2 => ⟨⟨by omega, h2⟩, ?_⟩, fun h2 => fin fun g => by omega⟩
  by_cases q : gt s (b : Int) < gt part (k : Int)
  ·rw [decide_eq_true q]
   unfold F_contains2_J1
   refine ⟨fun _ => ?_, fun g => absurd g (by decide)⟩
   rw [w64 (by omega)]
   refine ⟨⟨b + 1, by omega, by omega, by omega, fun p hp hp2 => ?_⟩, show ((s.length : Int) - (b + 1)).toNat < ((s.length : Int) - b).toNat by omega⟩
   rcases Nat.lt_or_ge p b with g | g
   ·exact b3 p g hp2
   ·rw [show p = b by omega]; exact q
  ·rw [decide_eq_false q]
   exact fin fun g => q g.2
 ·rw [List.take_of_length_le (by omega)] at k2
  exact (subset_iff.2 k2).symm
theorem next_lens {t : Task} {s : List Int} {op : Int} (hp : pre_next t s op) : s.length ≤ 24 ∧ (gt t.ops op).pre.length ≤ 24 ∧ (gt t.ops op).add.length ≤ 24 ∧ (gt t.ops op).del.length ≤ 24 := by
 obtain ⟨h1, h2, h3⟩ := hp
 have tk := taskOK_of h1
 have := set_len tk.facts.1 h3
 have := tk.facts
 have := tk.lens h2
 omega
theorem ok_can : ∀ (t : Task) (s_ : List Int) (op : Int), pre_can t s_ op → F_can t s_ op (fun r => r = sp_applies t s_ op) := fun t s op hp => by
 have hl := next_lens hp
 have tk := taskOK_of hp.1
 refine ⟨hp.2.1, ⟨by omega, by omega, set_sorted hp.2.2, set_sorted (tk.op hp.2.1).1⟩, fun r hr => ?_⟩
 rw [hr]; rfl
theorem ok_next : ∀ (t : Task) (s_ : List Int) (op : Int), pre_next t s_ op → F_next t s_ op (fun r => r = sp_after t s_ op) := fun t s op hp => by
 have hl := next_lens hp
 have tk := taskOK_of hp.1
 refine ⟨hp.2.1, ⟨by omega, by omega, set_sorted (tk.op hp.2.1).2.2.1, by omega⟩, fun r hr => ?_⟩
 rw [hr, update_after hp]
end Go.Proofs.YtimillpakjgnoaaGreatDoor.Pl

namespace Go.Proofs.YtimillpakjgnoaaGreatDoor.Pl
open Go Go.RowKit
theorem ok_srun : ∀ (t : Task) (s_ : List Int) (plan : List Int), pre_srun t s_ plan → F_srun t s_ plan (fun r => r = sp_srun t s_ plan) := fun t s plan ⟨h1, h2, h3, h4⟩ => by
 have tk := taskOK_of h1
 have hf := tk.facts
 have hs := set_len hf.1 h2
 refine ⟨show s.length ≤ 1000 by omega, fun r2 hr2 => ?_⟩
 rw [show r2 = s from hr2]
 refine ⟨fun s2 x out => ∃ (k : Nat) (p : List (List Int)), x = k ∧ k ≤ plan.length ∧ sp_isSet s2 t.facts = true ∧ out = p ++ [s2] ∧ p.length = k ∧ sp_srun t s plan = p ++ sp_srun t s2 (plan.drop k), fun _ x _ => (plan.length - x).toNat, ⟨0, [], rfl, Nat.zero_le _, h2, rfl, rfl, by simp⟩, ?_⟩
 rintro s2 _ out ⟨k, p, rfl, k1, k2, rfl, k3, k4⟩
 unfold F_srun_L1
 simp only [decide_eq_true_eq, decide_eq_false_iff_not, forall_eq, Bool.not_eq_true', Bool.not_eq_false', List.length_append, List.length_singleton]
 refine ⟨fun h => ?_, fun h => ?_⟩
 ·have hk : k < plan.length := by omega
  have hop := h4 _ (gt_memN hk)
  have hd := drop_gt (xs := plan) (i := (k : Int)) ⟨by omega, h⟩
  rw [Int.toNat_natCast, show ((k : Int) + 1).toNat = k + 1 by omega] at hd
  rw [hd, sp_srun] at k4
  refine ⟨⟨by omega, h⟩, ⟨h1, hop, k2⟩, fun q => ?_, fun q => ⟨⟨h1, hop, k2⟩, ⟨by simp only [maxLen]; omega, by omega⟩, ?_⟩⟩
  ·rw [k4, if_neg (by rw [q]; decide)]
  ·rw [if_pos q] at k4
   rw [w64 (by omega)]
   refine ⟨⟨k + 1, p ++ [s2], by omega, by omega, after_set hf.1 _ _, rfl, by rw [List.length_append, List.length_singleton, k3], ?_⟩, by omega⟩
   rw [k4]; simp
 ·rw [List.drop_of_length_le (by omega), sp_srun] at k4
  rw [k4]
theorem srun_len {t : Task} : ∀ (plan s : List Int), (sp_srun t s plan).length ≤ plan.length + 1
 | [], s => by simp [sp_srun]
 | op :: r, s => by
  have := srun_len (t := t) r (sp_after t s op)
  rw [sp_srun]
  split
  ·simp only [List.length_cons]; omega
  ·simp
theorem srun_ends {t : Task} (hf : 0 ≤ t.facts) : ∀ (plan s : List Int), sp_isSet s t.facts = true → ((sp_srun t s plan).length = plan.length + 1 → (sp_ends t s plan).2 = true ∧ gt (sp_srun t s plan) ((plan.length : Nat) : Int) = (sp_ends t s plan).1 ∧ sp_isSet (sp_ends t s plan).1 t.facts = true) ∧ ((sp_srun t s plan).length ≠ plan.length + 1 → (sp_ends t s plan).2 = false)
 | [], s, h => ⟨fun _ => ⟨rfl, rfl, h⟩, fun g => absurd rfl g⟩
 | op :: r, s, h => by
  have ih := srun_ends hf r (sp_after t s op) (after_set hf s op)
  rw [sp_srun, sp_ends]
  by_cases q : sp_applies t s op = true
  ·rw [if_pos q, if_pos q]
   simp only [List.length_cons]
   refine ⟨fun g => ?_, fun g => ih.2 (by omega)⟩
   obtain ⟨a, b, c⟩ := ih.1 (by omega)
   refine ⟨a, ?_, c⟩
   rw [← b]
   unfold gt
   rw [Int.toNat_natCast, Int.toNat_natCast, List.getD_cons_succ]
  ·rw [if_neg q, if_neg q]
   refine ⟨fun g => ?_, fun _ => rfl⟩
   simp at g
theorem ok_works : ∀ (t : Task) (s_ : List Int) (plan : List Int), pre_works t s_ plan → F_works t s_ plan (fun r => r = sp_rworks t s_ plan) := fun t s plan hp => by
 obtain ⟨h1, h2, h3, h4⟩ := hp
 have tk := taskOK_of h1
 have hf := tk.facts
 have hg := set_len hf.1 tk.goal
 unfold F_works
 rw [w64 (by omega)]
 refine ⟨⟨h1, h2, h3, h4⟩, ?_⟩
 simp only [forall_eq, beq_iff_eq, beq_eq_false_iff_ne, ne_eq]
 obtain ⟨a, b⟩ := srun_ends hf.1 plan s h2
 refine ⟨fun q => ?_, fun q => ?_⟩
 ·obtain ⟨e1, e2, e3⟩ := a (by omega)
  have hl := set_len hf.1 e3
  rw [e2]
  refine ⟨⟨by omega, by omega⟩, ⟨by omega, by omega, set_sorted e3, set_sorted tk.goal⟩, ?_⟩
  rw [sp_rworks, e1, Bool.true_and]; rfl
 ·rw [sp_rworks, b (by omega), Bool.false_and]
theorem ok_solves : ∀ (t : Task) (plan : List Int), F_solves t plan (fun r => r = sp_solves t plan) := fun t p => by
 unfold F_solves
 simp only [forall_eq, fault_ne, fault_eq]
 refine ⟨fun h => ?_, fun h => ⟨?_, ?_⟩⟩
 ·rw [sp_solves, if_neg h]
 ·obtain ⟨h1, h2, h3⟩ := plan_ok h
  exact ⟨h1, (taskOK_of h1).init, by omega, h3⟩
 ·rw [sp_solves, if_pos h]; rfl
end Go.Proofs.YtimillpakjgnoaaGreatDoor.Pl

namespace Go.Proofs.YtimillpakjgnoaaGreatDoor.Pl
open Go Go.RowKit
theorem ok_sure1 : ∀ (s_ : List Int) (x : List Int), pre_sure1 s_ x → F_sure1 s_ x (fun r => r = sp_sure1 s_ x) := fun s x hp => by
 refine ⟨hp, fun r hr => ?_⟩
 subst hr; rfl
theorem ok_sure : ∀ (worlds : List (List Int)) (facts : List Int), pre_sure worlds facts → F_sure worlds facts (fun r => r = sp_sure worlds facts) := fun w f ⟨h1, h2⟩ => by
 refine ⟨⟨h1, h2⟩, fun r hr => ?_⟩
 subst hr; rfl
theorem ok_compare : ∀ (x : Int) (y : Int), F_compare x y (fun r => r = sp_compare x y) := fun x y => by
 unfold F_compare
 simp only [forall_eq, sp_isNaN1, decide_eq_true_eq, decide_eq_false_iff_not]
 refine ⟨fun h => absurd h (by decide), fun _ => ⟨fun h => absurd h (by decide), fun _ => ⟨fun h => ?_, fun h => ⟨fun g => ?_, fun g => ?_⟩⟩⟩⟩
 ·rw [sp_compare, if_pos h]
 ·rw [sp_compare, if_neg h, if_pos g]
 ·rw [sp_compare, if_neg h, if_neg g]
end Go.Proofs.YtimillpakjgnoaaGreatDoor.Pl

namespace Go.Proofs.YtimillpakjgnoaaGreatDoor.Pl
open Go Go.RowKit
theorem drop_gtN {α : Type} [Inhabited α] {xs : List α} {k : Nat} (h : k < xs.length) : xs.drop k = gt xs (k : Int) :: xs.drop (k + 1) := by
 have h2 := drop_gt (xs := xs) (i := (k : Int)) ⟨by omega, by omega⟩
 have h3 : ((k : Int) + 1).toNat = k + 1 := by omega
 rwa [h3, Int.toNat_natCast] at h2
theorem TaskOK.rng {t : Task} (h : sp_validate t = ⟨0, 0⟩) : 0 ≤ t.facts ∧ t.facts ≤ 24 ∧ sp_isSet t.init t.facts = true ∧ sp_isSet t.goal t.facts = true := by
 have := taskOK_of h
 exact ⟨this.facts.1, this.facts.2, this.init, this.goal⟩
theorem ok_unknownFault : ∀ (t : Task) (unknown : List Int), F_unknownFault t unknown (fun r => r = sp_unknownFault t unknown) := fun t u => by
 unfold F_unknownFault sp_unknownFault
 simp only [forall_eq, fault_ne, fault_eq]
 simp only [decide_eq_true_eq, decide_eq_false_iff_not, Bool.not_eq_true', Bool.not_eq_false']
 refine ⟨fun h => by rw [if_neg h], fun h => ?_⟩
 rw [if_pos h]
 refine ⟨fun g => by rw [if_pos (by omega)], fun g => ?_⟩
 rw [if_neg (by omega)]
 obtain ⟨f0, f1, _⟩ := TaskOK.rng h
 refine ⟨⟨f0, by omega⟩, fun q => ?_, fun q => ?_⟩
 ·rw [q]; rfl
 ·rw [if_pos q]
theorem unknown_ok {t : Task} {u : List Int} (h : sp_unknownFault t u = ⟨0, 0⟩) : UOK t u := by
 unfold sp_unknownFault at h
 split at h
 ·rename_i hv
  split at h
  ·exact absurd h (fault_mk (by decide))
  ·rename_i hl
   split at h
   ·rename_i hs; exact ⟨hv, by omega, hs⟩
   ·exact absurd h (fault_mk (by decide))
 ·rename_i hv; exact absurd h hv
theorem ok_scompare : ∀ (s1 : List Int) (s2 : List Int), pre_scompare s1 s2 → F_scompare s1 s2 (fun r => r = sp_scompare s1 s2) := fun a b ⟨h1, h2⟩ => by
 refine ⟨fun t => ∃ k : Nat, t = k ∧ k ≤ a.length ∧ k ≤ b.length ∧ sp_scompare (a.drop k) (b.drop k) = sp_scompare a b, fun t => (a.length - t).toNat, ⟨0, rfl, Nat.zero_le _, Nat.zero_le _, by simp⟩, ?_⟩
 rintro _ ⟨k, rfl, k1, k2, k3⟩
 unfold F_scompare_L1
 simp only [forall_eq, decide_eq_true_eq, decide_eq_false_iff_not, bne_iff_ne, ne_eq, bne_eq_false_iff_eq, sp_compare]
 refine ⟨fun h => ?_, fun h => ?_⟩
 ·have hk : k < a.length := by omega
  have ea := drop_gtN hk
  refine ⟨⟨by omega, h⟩, fun g => ?_, fun g => ?_⟩
  ·rw [← k3, ea, List.drop_eq_nil_of_le (show b.length ≤ k by omega)]; rfl
  ·have hb : k < b.length := by omega
   rw [ea, drop_gtN hb, sp_scompare] at k3
   refine ⟨⟨by omega, by omega⟩, ?_⟩
   rcases Int.lt_trichotomy (gt a (k : Int)) (gt b (k : Int)) with q | q | q
   ·rw [if_pos q] at k3 ⊢
    exact ⟨fun _ => k3, fun e => absurd e (by decide)⟩
   ·have n1 : ¬ gt a (k : Int) < gt b (k : Int) := by omega
    have n2 : ¬ gt b (k : Int) < gt a (k : Int) := by omega
    rw [if_neg n1, if_neg n2] at k3 ⊢
    refine ⟨fun e => absurd rfl e, fun _ => ?_⟩
    rw [w64 (by omega)]
    exact ⟨⟨k + 1, by omega, by omega, by omega, k3⟩, by omega⟩
   ·have n1 : ¬ gt a (k : Int) < gt b (k : Int) := by omega
    rw [if_neg n1, if_pos q] at k3 ⊢
    exact ⟨fun _ => k3, fun e => absurd e (by decide)⟩
 ·rw [List.drop_eq_nil_of_le (show a.length ≤ k by omega)] at k3
  refine ⟨fun g => ?_, fun g => ?_⟩
  ·rw [← k3, drop_gtN (xs := b) (k := k) (by omega)]; rfl
  ·rw [← k3, List.drop_eq_nil_of_le (show b.length ≤ k by omega)]; rfl
theorem take_same {α : Type} [Inhabited α] {a b : List α} {k : Nat} (ha : k < a.length) (hb : k < b.length) (h : a.take k = b.take k) (e : gt a (k : Int) = gt b (k : Int)) : a.take (k + 1) = b.take (k + 1) := by
 rw [takeN_gt ha, takeN_gt hb, h, e]
theorem ok_sequal : ∀ (s1 : List Int) (s2 : List Int), pre_sequal s1 s2 → F_sequal s1 s2 (fun r => r = sp_sequal s1 s2) := fun a b ⟨h1, h2⟩ => by
 unfold F_sequal
 simp only [bne_iff_ne, ne_eq, bne_eq_false_iff_eq]
 refine ⟨fun h => (decide_eq_false fun e => h (by rw [e])).symm, fun h => ?_⟩
 have hl : a.length = b.length := by omega
 refine ⟨fun t => ∃ k : Nat, t = k ∧ k ≤ a.length ∧ a.take k = b.take k, fun t => (a.length - t).toNat, ⟨0, rfl, Nat.zero_le _, by simp⟩, ?_⟩
 rintro _ ⟨k, rfl, k1, k2⟩
 unfold F_sequal_L1
 simp only [decide_eq_true_eq, decide_eq_false_iff_not, bne_iff_ne, ne_eq, bne_eq_false_iff_eq]
 refine ⟨fun g => ⟨⟨by omega, g⟩, ⟨by omega, by omega⟩, fun q => (decide_eq_false fun e => q (by rw [e])).symm, fun q => ?_⟩, fun g => ?_⟩
 ·rw [w64 (by omega)]
  exact ⟨⟨k + 1, by omega, by omega, take_same (by omega) (by omega) k2 q⟩, by omega⟩
 ·rw [List.take_of_length_le (by omega), List.take_of_length_le (by omega)] at k2
  exact (decide_eq_true k2).symm
theorem ok_ints : ∀ (a : List Int) (b : List Int), pre_ints a b → F_ints a b (fun r => r = sp_ints a b) := fun a b ⟨h1, h2⟩ => by
 unfold F_ints
 simp only [bne_iff_ne, ne_eq, bne_eq_false_iff_eq]
 refine ⟨fun h => (decide_eq_false fun e => h (by rw [e])).symm, fun h => ?_⟩
 have hl : a.length = b.length := by omega
 refine ⟨fun t => ∃ k : Nat, t = k ∧ k ≤ a.length ∧ a.take k = b.take k, fun t => (a.length - t).toNat, ⟨0, rfl, Nat.zero_le _, by simp⟩, ?_⟩
 rintro _ ⟨k, rfl, k1, k2⟩
 unfold F_ints_L1
 simp only [decide_eq_true_eq, decide_eq_false_iff_not, bne_iff_ne, ne_eq, bne_eq_false_iff_eq]
 refine ⟨fun g => ⟨⟨by omega, g⟩, ⟨by omega, by omega⟩, fun q => (decide_eq_false fun e => q (by rw [e])).symm, fun q => ?_⟩, fun g => ?_⟩
 ·rw [w64 (by omega)]
  exact ⟨⟨k + 1, by omega, by omega, take_same (by omega) (by omega) k2 q⟩, by omega⟩
 ·rw [List.take_of_length_le (by omega), List.take_of_length_le (by omega)] at k2
  exact (decide_eq_true k2).symm
theorem ok_indexR : ∀ (s_ : List (List Int)) (pf : (List Int) → Bool) (Df : (List Int) → Prop), pre_any s_ pf Df → F_indexR s_ pf Df (fun r => r = sp_indexF s_ pf Df) := fun xs p D ⟨hl, hD⟩ => by
 refine ⟨fun t => 0 ≤ t ∧ t ≤ xs.length ∧ ∀ x ∈ xs.take t.toNat, p x = false, fun t => (xs.length - t).toNat, ⟨Int.le_refl _, by omega, by simp⟩, ?_⟩
 rintro t ⟨h0, h1, h2⟩
 unfold F_indexR_L1
 obtain ⟨k1, k2⟩ := any_split h0 h2
 simp only [decide_eq_true_eq, decide_eq_false_iff_not, forall_eq]
 refine ⟨fun h => ⟨⟨h0, h⟩, hD _ (gt_mem ⟨h0, h⟩), fun q => (k1 h q).symm, fun q => ?_⟩, fun h => (k2 h).symm⟩
 rw [w64 (by omega)]
 exact ⟨⟨by omega, by omega, any_next h0 h2 h q⟩, by omega⟩
theorem ok_containsR : ∀ (s_ : List (List Int)) (pf : (List Int) → Bool) (Df : (List Int) → Prop), pre_any s_ pf Df → F_containsR s_ pf Df (fun r => r = sp_any s_ pf Df) := fun xs p D hp => by
 refine ⟨hp, fun r hr => ?_⟩
 rw [hr]
 show decide (0 ≤ sp_indexF xs p D) = sp_any xs p D
 unfold sp_indexF sp_any
 cases h : xs.any p
 ·simp
 ·simp
theorem ok_reverse : ∀ (s_ : List Int), pre_reverse s_ → F_reverse s_ (fun r => r = sp_reverse s_) := fun s hp => by
 unfold pre_reverse at hp
 have hg : ∀ (l : List Int) (p : Nat), p < l.length → gt l.reverse (p : Int) = gt l ((l.length - 1 - p : Nat) : Int) := fun l p h => by
  rw [gt_of ⟨by omega, by rw [List.length_reverse]; omega⟩, gt_of ⟨by omega, by omega⟩]
  simp only [Int.toNat_natCast, List.getElem_reverse]
 unfold F_reverse
 rw [w64 (n := (s.length : Int) - 1) (by omega)]
 refine ⟨fun i j l => ∃ k : Nat, i = k ∧ j = (s.length : Int) - 1 - k ∧ 2 * k ≤ s.length + 1 ∧ l.length = s.length ∧ ∀ p : Nat, p < s.length → gt l (p : Int) = if p < k ∨ s.length ≤ p + k then gt s ((s.length - 1 - p : Nat) : Int) else gt s (p : Int), fun i j _ => (j - i).toNat, ⟨0, rfl, by omega, by omega, rfl, fun p h => by rw [if_neg (by omega)]⟩, ?_⟩
 rintro _ _ l ⟨k, rfl, rfl, k1, k2, k3⟩
 unfold F_reverse_L1
 simp only [decide_eq_true_eq, decide_eq_false_iff_not, forall_eq]
 refine ⟨fun h => ?_, fun h => ?_⟩
 ·have ej : (s.length : Int) - 1 - k = ((s.length - 1 - k : Nat) : Int) := by omega
  rw [ej] at h ⊢
  have i1 : inb l ((s.length - 1 - k : Nat) : Int) := ⟨by omega, by omega⟩
  have i2 : inb l (k : Int) := ⟨by omega, by omega⟩
  have i3 : inb (l.set ((k : Int)).toNat (gt l ((s.length - 1 - k : Nat) : Int))) ((s.length - 1 - k : Nat) : Int) := ⟨by omega, by rw [List.length_set]; omega⟩
  rw [w64 (n := (k : Int) + 1) (by omega), w64 (n := ((s.length - 1 - k : Nat) : Int) - 1) (by omega)]
  refine ⟨i1, i2, i3, ⟨k + 1, by omega, by omega, by omega, by rw [List.length_set, List.length_set]; exact k2, fun p hp => ?_⟩, by omega⟩
  rw [gt_setI i3 (by omega), gt_setI i2 (by omega)]
  by_cases e1 : p = s.length - 1 - k
  ·subst e1
   rw [if_pos rfl, if_pos (by omega), k3 k (by omega), if_neg (by omega)]
   congr 1; omega
  ·rw [if_neg (by omega)]
   by_cases e2 : p = k
   ·subst e2
    rw [if_pos rfl, if_pos (by omega), k3 _ (by omega), if_neg (by omega)]
   ·rw [if_neg (by omega), k3 p hp]
    by_cases e3 : p < k ∨ s.length ≤ p + k
    ·rw [if_pos e3, if_pos (by omega)]
    ·rw [if_neg e3, if_neg (by omega)]
 ·refine ext_gt (by rw [k2]; exact (sp_reverse_len s).symm) fun p hp => ?_
  rw [k2] at hp
  rw [k3 p hp, sp_reverse, hg s p hp]
  by_cases e3 : p < k ∨ s.length ≤ p + k
  ·rw [if_pos e3]
  ·rw [if_neg e3]; congr 1; omega
end Go.Proofs.YtimillpakjgnoaaGreatDoor.Pl

namespace Go.Proofs.YtimillpakjgnoaaGreatDoor.Pl
open Go Go.RowKit
theorem before_irr : ∀ a : List Int, sp_before a a = false
 | [] => rfl
 | x :: r => by simp [sp_before, before_irr r]
theorem before_trans : ∀ a b c : List Int, sp_before a b = true → sp_before b c = true → sp_before a c = true
 | [], [], _, h, _ => by simp [sp_before] at h
 | [], _ :: _, [], _, h => by simp [sp_before] at h
 | [], _ :: _, _ :: _, _, _ => rfl
 | _ :: _, [], _, h, _ => by simp [sp_before] at h
 | _ :: _, _ :: _, [], _, h => by simp [sp_before] at h
 | x :: a, y :: b, z :: c, h, g => by
  unfold sp_before at h g ⊢
  by_cases e : x = y
  ·subst e
   rw [if_pos rfl] at h
   by_cases e2 : x = z
   ·subst e2
    rw [if_pos rfl] at g ⊢
    exact before_trans a b c h g
   ·rw [if_neg e2] at g ⊢; exact g
  ·rw [if_neg e] at h
   have h := of_decide_eq_true h
   by_cases e2 : y = z
   ·subst e2
    rw [if_neg e]; exact decide_eq_true h
   ·rw [if_neg e2] at g
    have g := of_decide_eq_true g
    rw [if_neg (by omega)]
    exact decide_eq_true (by omega)
theorem before_tri : ∀ a b : List Int, sp_before a b = true ∨ a = b ∨ sp_before b a = true
 | [], [] => .inr (.inl rfl)
 | [], _ :: _ => .inl rfl
 | _ :: _, [] => .inr (.inr rfl)
 | x :: a, y :: b => by
  by_cases e : x = y
  ·subst e
   rcases before_tri a b with h | h | h
   ·exact .inl (by simp [sp_before, h])
   ·exact .inr (.inl (by rw [h]))
   ·exact .inr (.inr (by simp [sp_before, h]))
  ·rcases Int.lt_or_lt_of_ne e with h | h
   ·exact .inl (by simp [sp_before, e, h])
   ·exact .inr (.inr (by simp [sp_before, Ne.symm e, h]))
theorem scompare_before : ∀ a b : List Int, (sp_scompare a b < 0 ↔ sp_before a b = true) ∧ (sp_scompare a b = 0 ↔ a = b)
 | [], [] => by simp [sp_scompare, sp_before]
 | [], _ :: _ => by simp [sp_scompare, sp_before]
 | _ :: _, [] => by simp [sp_scompare, sp_before]
 | x :: a, y :: b => by
  have ih := scompare_before a b
  by_cases e : x = y
  ·subst e
   simp [sp_scompare, sp_before, ih]
  ·rcases Int.lt_or_lt_of_ne e with h | h
   ·simp [sp_scompare, sp_before, e, h]
   ·have : ¬ x < y := by omega
    simp [sp_scompare, sp_before, e, h, this]
theorem ordered_ext {α : Type} {r : α → α → Prop} (irr : ∀ x, ¬ r x x) (tr : ∀ x y z, r x y → r y z → r x z) : ∀ (a b : List α), a.Pairwise r → b.Pairwise r → (∀ x, x ∈ a ↔ x ∈ b) → a = b
 | [], [], _, _, _ => rfl
 | [], y :: b, _, _, h => absurd ((h y).2 List.mem_cons_self) List.not_mem_nil
 | x :: a, [], _, _, h => absurd ((h x).1 List.mem_cons_self) List.not_mem_nil
 | x :: a, y :: b, ha, hb, h => by
  rw [List.pairwise_cons] at ha hb
  have e : x = y := by
   rcases List.mem_cons.1 ((h x).1 List.mem_cons_self) with e | e
   ·exact e
   ·rcases List.mem_cons.1 ((h y).2 List.mem_cons_self) with e' | e'
    ·exact e'.symm
    ·exact absurd (tr _ _ _ (ha.1 y e') (hb.1 x e)) (irr _)
  subst e
  rw [ordered_ext irr tr a b ha.2 hb.2 fun z => ?_]
  have hz := h z
  simp only [List.mem_cons] at hz
  constructor
  ·intro k
   rcases hz.1 (.inr k) with g | g
   ·subst g; exact absurd (ha.1 _ k) (irr _)
   ·exact g
  ·intro k
   rcases hz.2 (.inr k) with g | g
   ·subst g; exact absurd (hb.1 _ k) (irr _)
   ·exact g
abbrev Bfr (a b : List Int) : Prop := sp_before a b = true
theorem bfr_irr (x : List Int) : ¬ Bfr x x := fun h => by rw [Bfr, before_irr] at h; cases h
theorem bfr_ext {a b : List (List Int)} (ha : a.Pairwise Bfr) (hb : b.Pairwise Bfr) (h : ∀ x, x ∈ a ↔ x ∈ b) : a = b := ordered_ext bfr_irr before_trans a b ha hb h
theorem mem_insert : ∀ {l : List (List Int)} {s x : List Int}, x ∈ sp_insert l s ↔ x = s ∨ x ∈ l
 | [], s, x => by simp [sp_insert]
 | y :: r, s, x => by
  unfold sp_insert
  split
  ·rw [List.mem_cons, mem_insert, List.mem_cons]
   constructor
   ·rintro (h | h | h)
    ·exact .inr (.inl h)
    ·exact .inl h
    ·exact .inr (.inr h)
   ·rintro (h | h | h)
    ·exact .inr (.inl h)
    ·exact .inl h
    ·exact .inr (.inr h)
  ·split
   ·rename_i e
    subst e
    constructor
    ·exact .inr
    ·rintro (h | h)
     ·rw [h]; exact List.mem_cons_self
     ·exact h
   ·rw [List.mem_cons]
theorem insert_sorted : ∀ {l : List (List Int)} {s : List Int}, l.Pairwise Bfr → (sp_insert l s).Pairwise Bfr
 | [], s, _ => by simp [sp_insert]
 | y :: r, s, h => by
  have h' := List.pairwise_cons.1 h
  unfold sp_insert
  split
  ·rename_i hb
   refine List.pairwise_cons.2 ⟨fun x hx => ?_, insert_sorted h'.2⟩
   rcases mem_insert.1 hx with e | e
   ·rw [e]; exact hb
   ·exact h'.1 x e
  ·rename_i hb
   split
   ·exact h
   ·rename_i hne
    have hs : Bfr s y := by
     rcases before_tri s y with g | g | g
     ·exact g
     ·exact absurd g.symm hne
     ·exact absurd g hb
    refine List.pairwise_cons.2 ⟨fun x hx => ?_, h⟩
    rcases List.mem_cons.1 hx with e | e
    ·rw [e]; exact hs
    ·exact before_trans _ _ _ hs (h'.1 x e)
theorem insert_len : ∀ (l : List (List Int)) (s : List Int), (sp_insert l s).length ≤ l.length + 1
 | [], s => by simp [sp_insert]
 | y :: r, s => by
  unfold sp_insert
  split
  ·have := insert_len r s; simp; omega
  ·split <;> simp
theorem mem_foldI : ∀ {l m : List (List Int)} {x : List Int}, x ∈ l.foldl sp_insert m ↔ x ∈ l ∨ x ∈ m
 | [], m, x => by simp
 | s :: l, m, x => by
  rw [List.foldl_cons, mem_foldI, mem_insert, List.mem_cons]
  constructor
  ·rintro (h | h | h)
   ·exact .inl (.inr h)
   ·exact .inl (.inl h)
   ·exact .inr h
  ·rintro ((h | h) | h)
   ·exact .inr (.inl h)
   ·exact .inl h
   ·exact .inr (.inr h)
theorem foldI_sorted : ∀ {l m : List (List Int)}, m.Pairwise Bfr → (l.foldl sp_insert m).Pairwise Bfr
 | [], _, h => h
 | _ :: l, _, h => foldI_sorted (l := l) (insert_sorted h)
theorem foldI_len : ∀ (l m : List (List Int)), (l.foldl sp_insert m).length ≤ l.length + m.length
 | [], m => by simp
 | s :: l, m => by
  have := foldI_len l (sp_insert m s)
  have := insert_len m s
  simp; omega
theorem mem_normal {l : List (List Int)} {x : List Int} : x ∈ sp_normal l ↔ x ∈ l := by
 unfold sp_normal; rw [mem_foldI]; simp
theorem normal_sorted (l : List (List Int)) : (sp_normal l).Pairwise Bfr := foldI_sorted List.Pairwise.nil
theorem normal_len (l : List (List Int)) : (sp_normal l).length ≤ l.length := by
 have := foldI_len l []
 simpa [sp_normal] using this
theorem mem_maskAdd {u : List Int} {m : Nat} {x : Int} : x ∈ maskAdd u m ↔ ∃ i : Nat, u[i]? = some x ∧ m.testBit i = true := by
 unfold maskAdd
 simp only [List.mem_map, List.mem_filter]
 constructor
 ·rintro ⟨⟨y, i⟩, ⟨h1, h2⟩, rfl⟩
  rw [List.mem_zipIdx_iff_getElem?] at h1
  exact ⟨i, h1, h2⟩
 ·rintro ⟨i, h1, h2⟩
  exact ⟨(x, i), ⟨List.mem_zipIdx_iff_getElem?.2 h1, h2⟩, rfl⟩
theorem ex_mask (p : Nat → Bool) : ∀ k : Nat, ∃ m : Nat, m < 2 ^ k ∧ ∀ i, i < k → m.testBit i = p i
 | 0 => ⟨0, by simp, fun i h => by omega⟩
 | k + 1 => by
  obtain ⟨m, h1, h2⟩ := ex_mask p k
  cases hp : p k
  ·refine ⟨m, by rw [Nat.pow_succ]; omega, fun i hi => ?_⟩
   by_cases e : i = k
   ·subst e; rw [hp]; exact Nat.testBit_lt_two_pow h1
   ·exact h2 i (by omega)
  ·refine ⟨2 ^ k + m, by rw [Nat.pow_succ]; omega, fun i hi => ?_⟩
   by_cases e : i = k
   ·subst e
    rw [hp, Nat.testBit_two_pow_add_eq, Nat.testBit_lt_two_pow h1]; rfl
   ·rw [Nat.testBit_two_pow_add_gt (by omega)]
    exact h2 i (by omega)
def Poss (t : Task) (u s : List Int) : Prop := sp_isSet s t.facts = true ∧ ∀ x, x ∉ u → (x ∈ s ↔ x ∈ t.init)
theorem mask_set {t : Task} {u : List Int} (hv : sp_validate t = ⟨0, 0⟩) (hu : sp_isSet u t.facts = true) (m : Nat) : sp_isSet (sp_update t.init (maskAdd u m) u) t.facts = true := decide_eq_true ⟨update_sorted _ _ _, fun x hx => by
 rcases mem_update.1 hx with h | h
 ·exact set_rng (TaskOK.rng hv).2.2.1 x h.1
 ·obtain ⟨i, h1, _⟩ := mem_maskAdd.1 h
  exact set_rng hu x (List.mem_of_getElem? h1)⟩
theorem mem_worlds {t : Task} {u s : List Int} (hv : sp_validate t = ⟨0, 0⟩) (hu : sp_isSet u t.facts = true) : s ∈ sp_worlds t u ↔ Poss t u s := by
 obtain ⟨f0, f1, hi, hg⟩ := TaskOK.rng hv
 unfold sp_worlds
 rw [mem_normal]
 simp only [List.mem_map, List.mem_range]
 constructor
 ·rintro ⟨m, hm, rfl⟩
  refine ⟨mask_set hv hu m, fun x hx => ?_⟩
  rw [mem_update]
  constructor
  ·rintro (h | h)
   ·exact h.1
   ·obtain ⟨i, h1, _⟩ := mem_maskAdd.1 h
    exact absurd (List.mem_of_getElem? h1) hx
  ·exact fun h => .inl ⟨h, hx⟩
 ·rintro ⟨h1, h2⟩
  obtain ⟨m, hm, hb⟩ := ex_mask (fun i => decide (u.getD i 0 ∈ s)) u.length
  refine ⟨m, hm, sorted_ext _ _ (update_sorted _ _ _) (set_sorted h1) fun x => ?_⟩
  rw [mem_update]
  constructor
  ·rintro (h | h)
   ·exact (h2 x h.2).2 h.1
   ·obtain ⟨i, g1, g2⟩ := mem_maskAdd.1 h
    have hl := (List.getElem?_eq_some_iff.1 g1).1
    rw [hb i hl] at g2
    have := of_decide_eq_true g2
    rw [List.getD_eq_getElem?_getD, g1] at this
    exact this
  ·intro h
   by_cases hx : x ∈ u
   ·obtain ⟨i, hl, e⟩ := List.mem_iff_getElem.1 hx
    refine .inr (mem_maskAdd.2 ⟨i, by rw [List.getElem?_eq_getElem hl, e], ?_⟩)
    rw [hb i hl]
    refine decide_eq_true ?_
    rw [List.getD_eq_getElem?_getD, List.getElem?_eq_getElem hl, e]
    exact h
   ·exact .inl ⟨(h2 x hx).1 h, hx⟩
theorem worlds_len {t : Task} {u : List Int} (h : u.length ≤ 4) : (sp_worlds t u).length ≤ 16 := by
 unfold sp_worlds
 refine Nat.le_trans (normal_len _) ?_
 rw [List.length_map, List.length_range]
 calc 2 ^ u.length ≤ 2 ^ 4 := Nat.pow_le_pow_right (by decide) h
  _ = 16 := rfl
theorem worlds_set {t : Task} {u s : List Int} (hv : sp_validate t = ⟨0, 0⟩) (hu : sp_isSet u t.facts = true) (h : s ∈ sp_worlds t u) : sp_isSet s t.facts = true := ((mem_worlds hv hu).1 h).1
theorem mem_bafter {t : Task} {ws : List (List Int)} {op : Int} {s : List Int} : s ∈ sp_bafter t ws op ↔ ∃ s0 ∈ ws, s = sp_after t s0 op := by
 unfold sp_bafter; rw [mem_normal, List.mem_map]
 exact ⟨fun ⟨a, h, e⟩ => ⟨a, h, e.symm⟩, fun ⟨a, h, e⟩ => ⟨a, h, e.symm⟩⟩
theorem bafter_len (t : Task) (ws : List (List Int)) (op : Int) : (sp_bafter t ws op).length ≤ ws.length := by
 have := normal_len (ws.map fun s => sp_after t s op)
 rwa [List.length_map] at this
theorem bafter_set {t : Task} (hv : sp_validate t = ⟨0, 0⟩) {ws : List (List Int)} {op : Int} {s : List Int} (h : s ∈ sp_bafter t ws op) : sp_isSet s t.facts = true := by
 obtain ⟨s0, _, rfl⟩ := mem_bafter.1 h
 exact after_set (TaskOK.rng hv).1 _ _
end Go.Proofs.YtimillpakjgnoaaGreatDoor.Pl

namespace Go.Proofs.YtimillpakjgnoaaGreatDoor.Pl
open Go Go.RowKit
theorem sortR_perm (l : Bel) : (sp_sortR l).Perm l := List.mergeSort_perm _ _
theorem sortR_len (l : Bel) : (sp_sortR l).length = l.length := (sortR_perm l).length_eq
def Nle (x y : List Int) : Prop := sp_before y x = false
theorem nle_trans {x y z : List Int} (h : Nle x y) (g : Nle y z) : Nle x z := by
 unfold Nle at *
 rcases before_tri y x with a | a | a
 ·rw [h] at a; cases a
 ·rw [← a]; exact g
 ·rcases before_tri z y with b | b | b
  ·rw [g] at b; cases b
  ·rw [b]; exact h
  ·have := before_trans _ _ _ a b
   cases e : sp_before z x
   ·rfl
   ·have := before_trans _ _ _ this e
    rw [before_irr] at this; cases this
theorem sortR_sorted (l : Bel) : (sp_sortR l).Pairwise Nle := by
 have := List.pairwise_mergeSort (le := fun x y : List Int => !sp_before y x) (fun a b c h g => by
  simp only [Bool.not_eq_true'] at *
  exact nle_trans h g) (fun a b => by
  rcases before_tri a b with h | h | h
  ·cases e : sp_before b a
   ·simp
   ·have := before_trans _ _ _ h e
    rw [before_irr] at this; cases this
  ·subst h; rw [before_irr]; simp
  ·cases e : sp_before a b
   ·simp
   ·have := before_trans _ _ _ h e
    rw [before_irr] at this; cases this) l
 exact this.imp fun h => by simpa [Nle] using h
theorem sorted_perm : ∀ (a b : Bel), a.Pairwise Nle → b.Pairwise Nle → a.Perm b → a = b
 | [], b, _, _, h => (List.nil_perm.1 h).symm
 | x :: a, [], _, _, h => absurd h.length_eq (by simp)
 | x :: a, y :: b, ha, hb, h => by
  rw [List.pairwise_cons] at ha hb
  have e : x = y := by
   rcases List.mem_cons.1 (h.mem_iff.1 (List.mem_cons_self (a := x) (l := a))) with e | e
   ·exact e
   ·rcases List.mem_cons.1 (h.mem_iff.2 (List.mem_cons_self (a := y) (l := b))) with e' | e'
    ·exact e'.symm
    ·have h1 := ha.1 y e'
     have h2 := hb.1 x e
     rcases before_tri x y with g | g | g
     ·rw [show sp_before x y = false from h2] at g; cases g
     ·exact g
     ·rw [show sp_before y x = false from h1] at g; cases g
  subst e
  rw [sorted_perm a b ha.2 hb.2 h.cons_inv]
theorem compactR_snoc (l : Bel) (x : List Int) : sp_compactR (l ++ [x]) = if (sp_compactR l).getLast? = some x then sp_compactR l else sp_compactR l ++ [x] := by
 unfold sp_compactR; rw [List.foldl_append]; rfl
theorem compactR_last (l : Bel) : (sp_compactR l).getLast? = l.getLast? := by
 rcases List.eq_nil_or_concat l with rfl | ⟨l, x, rfl⟩
 ·rfl
 ·rw [List.concat_eq_append, compactR_snoc]
  split
  ·rename_i h; rw [h]; simp
  ·simp
theorem compactR_step (l : Bel) (x : List Int) : sp_compactR (l ++ [x]) = if l.getLast? = some x then sp_compactR l else sp_compactR l ++ [x] := by
 rw [compactR_snoc, compactR_last]
theorem mem_compactR (x : List Int) : ∀ (m : Nat) (l : Bel), l.length = m → (x ∈ sp_compactR l ↔ x ∈ l)
 | 0, l, h => by rw [List.length_eq_zero_iff.1 h]; simp [sp_compactR]
 | m + 1, l, h => by
  rcases List.eq_nil_or_concat l with rfl | ⟨l, y, rfl⟩
  ·simp at h
  ·rw [List.concat_eq_append] at h ⊢
   have ih := mem_compactR x m l (by simpa using h)
   rw [compactR_step]
   split
   ·rename_i hl
    rw [ih, List.mem_append, List.mem_singleton]
    constructor
    ·exact .inl
    ·rintro (g | rfl)
     ·exact g
     ·exact List.mem_of_getLast? hl
   ·rw [List.mem_append, ih, List.mem_append]
theorem compactR_sorted : ∀ (m : Nat) (l : Bel), l.length = m → l.Pairwise Nle → (sp_compactR l).Pairwise Bfr
 | 0, l, h, _ => by rw [List.length_eq_zero_iff.1 h]; simp [sp_compactR]
 | m + 1, l, h, hs => by
  rcases List.eq_nil_or_concat l with rfl | ⟨l, y, rfl⟩
  ·simp at h
  ·rw [List.concat_eq_append] at h hs ⊢
   obtain ⟨h1, _, h3⟩ := List.pairwise_append.1 hs
   have ih := compactR_sorted m l (by simpa using h) h1
   rw [compactR_step]
   split
   ·exact ih
   ·rename_i hl
    refine List.pairwise_append.2 ⟨ih, by simp, fun a ha b hb => ?_⟩
    rw [List.mem_singleton.1 hb]
    have ham := (mem_compactR a _ l rfl).1 ha
    have hn : Nle a y := h3 a ham y (by simp)
    rcases before_tri a y with g | g | g
    ·exact g
    · -- a is y; the last of l is not, and lies between
     subst g
     rcases List.eq_nil_or_concat l with rfl | ⟨l2, z, rfl⟩
     ·cases ham
     ·rw [List.concat_eq_append] at hl h1 h3 ham ha ih
      have hz : z ≠ a := fun e => hl (by simp [e])
      have h4 : Nle z a := h3 z (by simp) a (by simp)
      rcases List.mem_append.1 ham with q | q
      ·have h5 : Nle a z := (List.pairwise_append.1 h1).2.2 a q z (by simp)
       rcases before_tri a z with k | k | k
       ·rw [show sp_before a z = false from h4] at k; cases k
       ·exact absurd k.symm hz
       ·rw [show sp_before z a = false from h5] at k; cases k
      ·exact absurd (List.mem_singleton.1 q).symm hz
    ·rw [show sp_before y a = false from hn] at g; cases g
theorem normal_eq (l : Bel) : sp_compactR (sp_sortR l) = sp_normal l :=
 bfr_ext (compactR_sorted _ _ rfl (sortR_sorted l)) (normal_sorted l) fun x => by rw [mem_compactR x _ _ rfl, mem_normal, (sortR_perm l).mem_iff]
theorem ok_normal : ∀ (l : List (List Int)), pre_normal l → F_normal l (fun r => r = sp_normal l) := fun l hp => by
 unfold F_normal
 simp only [forall_eq]
 exact ⟨hp, ⟨by rw [sortR_len]; exact hp.1, fun x hx => hp.2 x ((sortR_perm l).mem_iff.1 hx)⟩, normal_eq l⟩
theorem last_take {l : Bel} {k : Nat} (h0 : 0 < k) (h : k ≤ l.length) : (l.take k).getLast? = some (gt l ((k - 1 : Nat) : Int)) := by
 have := takeN_gt (xs := l) (k := k - 1) (by omega)
 rw [show k - 1 + 1 = k by omega] at this
 rw [this]; simp
theorem ok_compactR : ∀ (s_ : List (List Int)), pre_compactR s_ → F_compactR s_ (fun r => r = sp_compactR s_) := fun s ⟨hl, hr⟩ => by
 unfold F_compactR
 simp only [decide_eq_true_eq, decide_eq_false_iff_not]
 refine ⟨fun h => ?_, fun h => ?_⟩
 ·match s, h with
  | [], _ => rfl
  | [x], _ => rfl
  | _ :: _ :: _, h => simp at h; omega
 have ext : ∀ k : Nat, 0 < k → k < s.length → sp_compactR (s.take (k + 1)) = if gt s ((k - 1 : Nat) : Int) = gt s (k : Int) then sp_compactR (s.take k) else sp_compactR (s.take k) ++ [gt s (k : Int)] := fun k h0 hk => by
  rw [takeN_gt hk, compactR_step, last_take h0 (by omega)]
  simp only [Option.some.injEq]
 refine ⟨fun k => ∃ j : Nat, k = j ∧ 1 ≤ j ∧ j ≤ s.length ∧ sp_compactR (s.take j) = s.take j, fun k => (s.length - k).toNat, ⟨1, rfl, by omega, by omega, ?_⟩, ?_⟩
 ·match s, h with
  | [], h => simp at h
  | x :: r, _ => rfl
 rintro _ ⟨j, rfl, j1, j2, j3⟩
 unfold F_compactR_L1
 simp only [forall_eq, decide_eq_true_eq, decide_eq_false_iff_not, sp_sequal]
 refine ⟨fun g => ?_, fun g => ?_⟩
 ·have hj : j < s.length := by omega
  have ej := ext j (by omega) hj
  rw [w64 (n := (j : Int) - 1) (by omega), w64 (n := (j : Int) + 1) (by omega), show (j : Int) - 1 = ((j - 1 : Nat) : Int) by omega]
  refine ⟨⟨by omega, g⟩, ⟨by omega, by omega⟩, ⟨hr _ (gt_memN hj), hr _ (gt_memN (by omega))⟩, fun e => ⟨⟨by omega, by omega⟩, ?_⟩, fun e => ⟨⟨j + 1, by omega, by omega, by omega, ?_⟩, by omega⟩⟩
  ·rw [if_pos e.symm] at ej
   refine ⟨fun k3 k22 s2 => ∃ a b : Nat, k3 = a ∧ k22 = b ∧ 1 ≤ b ∧ j + b ≤ s.length ∧ a + 1 ≤ j + b ∧ s2.length = s.length ∧ s2.take a = sp_compactR (s.take (j + b)) ∧ ∀ p : Nat, j + b ≤ p + 1 → p < s.length → gt s2 (p : Int) = gt s (p : Int), fun _ k22 _ => (s.length - k22).toNat, ⟨j, 1, rfl, rfl, by omega, by omega, by omega, rfl, by rw [ej, j3], fun p _ _ => rfl⟩, ?_⟩
   rintro _ _ s2 ⟨a, b, rfl, rfl, b1, b2, b3, b4, b5, b6⟩
   unfold F_compactR_L2 F_compactR_J1
   simp only [forall_eq, decide_eq_true_eq, decide_eq_false_iff_not, Bool.not_eq_true', Bool.not_eq_false', Int.toNat_natCast]
   refine ⟨fun q => ?_, fun q => ?_⟩
   ·have hb : j + b < s.length := by omega
    rw [w64 (n := (b : Int) - 1) (by omega), w64 (n := (b : Int) + 1) (by omega), w64 (n := (a : Int) + 1) (by omega)]
    have e1 : (j : Int) + (b : Int) = ((j + b : Nat) : Int) := by omega
    have e2 : (j : Int) + ((b : Int) - 1) = ((j + b - 1 : Nat) : Int) := by omega
    rw [e1, e2, b6 (j + b) (by omega) hb, b6 (j + b - 1) (by omega) (by omega)]
    have eb := ext (j + b) (by omega) hb
    refine ⟨by omega, ⟨by omega, by omega⟩, by omega, ⟨by omega, by omega⟩, ⟨hr _ (gt_memN hb), hr _ (gt_memN (by omega))⟩, fun e => ⟨⟨by omega, by omega⟩, ⟨a + 1, b + 1, by omega, by omega, by omega, by omega, by omega, by rw [List.length_set]; exact b4, ?_, fun p p1 p2 => ?_⟩, by omega⟩, fun e => ⟨⟨a, b + 1, rfl, by omega, by omega, by omega, by omega, b4, ?_, fun p p1 p2 => b6 p (by omega) p2⟩, by omega⟩⟩
    ·have hne : ¬ gt s ((j + b - 1 : Nat) : Int) = gt s ((j + b : Nat) : Int) := fun k => of_decide_eq_false e k.symm
     rw [if_neg hne] at eb
     rw [show j + (b + 1) = j + b + 1 by omega, eb, ← b5]
     have hal : a < (s2.set a (gt s ((j + b : Nat) : Int))).length := by rw [List.length_set]; omega
     rw [takeN_gt hal, List.take_set_of_le (Nat.le_refl a)]
     congr 1
     have := gt_set (xs := s2) (i := (a : Int)) (x := gt s ((j + b : Nat) : Int)) ⟨by omega, by omega⟩
     rw [Int.toNat_natCast] at this
     rw [this]
    ·have := gt_setI (xs := s2) (i := (a : Int)) (j := (p : Int)) (x := gt s ((j + b : Nat) : Int)) ⟨by omega, by omega⟩ (by omega)
     rw [Int.toNat_natCast] at this
     rw [this, if_neg (by omega)]
     exact b6 p (by omega) p2
    ·rw [if_pos (of_decide_eq_true e).symm] at eb
     rw [show j + (b + 1) = j + b + 1 by omega, eb]; exact b5
   ·have e1 : j + b = s.length := by omega
    refine ⟨⟨by omega, by omega⟩, ?_⟩
    have e2 : (s2.take a).length = a := by rw [List.length_take]; omega
    rw [List.take_append_of_le_length (by omega), List.take_take, Nat.min_self, b5, e1, List.take_length]
  ·have hne : ¬ gt s ((j - 1 : Nat) : Int) = gt s (j : Int) := fun k => e k.symm
   rw [ej, if_neg hne, j3, takeN_gt hj]
 ·have : j = s.length := by omega
  subst this
  rw [List.take_length] at j3
  exact j3.symm
end Go.Proofs.YtimillpakjgnoaaGreatDoor.Pl

namespace Go.Proofs
open Go.Shelf
def YtimillpakjgnoaaGreatDoor.lays189_ren : Go.Shelf.Ren := ⟨fun | 189 => 63 | 125 => 75 | 257 => 85 | 128 => 96 | 129 => 97 | 294 => 105 | 295 => 106 | 296 => 107 | 297 => 108 | 298 => 109 | 299 => 110 | 216 => 83 | 300 => 111 | 301 => 112 | 328 => 134 | 329 => 126 | 330 => 127 | 331 => 135 | 332 => 136 | 215 => 98 | 343 => 147 | n => n, fun | 28 => 22 | 3 => 3 | 46 => 138 | 0 => 0 | 51 => 60 | 53 => 148 | 4 => 4 | 183 => 152 | 182 => 151 | 131 => 122 | 5 => 5 | 9 => 9 | 218 => 185 | 222 => 189 | 228 => 213 | 229 => 214 | n => n, fun | n => n⟩
theorem YtimillpakjgnoaaGreatDoor.lays189 : Go.Proofs.Lays.n189 Tryz.prog YtimillpakjgnoaaGreatDoor.lays189_ren := {
  mixed := by kernel_rfl
  f125 := Tryz.func75.trans (congrArg some (by kernel_rfl))
  f128 := Tryz.func96.trans (congrArg some (by kernel_rfl))
  f129 := Tryz.func97.trans (congrArg some (by kernel_rfl))
  f189 := Tryz.func63.trans (congrArg some (by kernel_rfl))
  f215 := Tryz.func98.trans (congrArg some (by kernel_rfl))
  f216 := Tryz.func83.trans (congrArg some (by kernel_rfl))
  f257 := Tryz.func85.trans (congrArg some (by kernel_rfl))
  f294 := Tryz.func105.trans (congrArg some (by kernel_rfl))
  f295 := Tryz.func106.trans (congrArg some (by kernel_rfl))
  f296 := Tryz.func107.trans (congrArg some (by kernel_rfl))
  f297 := Tryz.func108.trans (congrArg some (by kernel_rfl))
  f298 := Tryz.func109.trans (congrArg some (by kernel_rfl))
  f299 := Tryz.func110.trans (congrArg some (by kernel_rfl))
  f300 := Tryz.func111.trans (congrArg some (by kernel_rfl))
  f301 := Tryz.func112.trans (congrArg some (by kernel_rfl))
  f328 := Tryz.func134.trans (congrArg some (by kernel_rfl))
  f329 := Tryz.func126.trans (congrArg some (by kernel_rfl))
  f330 := Tryz.func127.trans (congrArg some (by kernel_rfl))
  f331 := Tryz.func135.trans (congrArg some (by kernel_rfl))
  f332 := Tryz.func136.trans (congrArg some (by kernel_rfl))
  f343 := Tryz.func147.trans (congrArg some (by kernel_rfl))
  t0 := Tryz.underlying0
  a0 := Tryz.isAgg0
  z0 := Tryz.sizeOf0
  v0 := Tryz.zeroValue0
  t3 := Tryz.underlying3
  a3 := Tryz.isAgg3
  z3 := Tryz.sizeOf3
  v3 := Tryz.zeroValue3
  t4 := Tryz.underlying4
  a4 := Tryz.isAgg4
  z4 := Tryz.sizeOf4
  v4 := Tryz.zeroValue4
  t5 := Tryz.underlying5
  a5 := Tryz.isAgg5
  z5 := Tryz.sizeOf5
  v5 := Tryz.zeroValue5
  t9 := Tryz.underlying9
  a9 := Tryz.isAgg9
  z9 := Tryz.sizeOf9
  v9 := Tryz.zeroValue9
  t28 := Tryz.underlying22
  a28 := Tryz.isAgg22
  z28 := Tryz.sizeOf22
  v28 := Tryz.zeroValue22
  t46 := Tryz.underlying138
  a46 := Tryz.isAgg138
  z46 := Tryz.sizeOf138
  v46 := Tryz.zeroValue138
  t51 := Tryz.underlying60
  a51 := Tryz.isAgg60
  z51 := Tryz.sizeOf60
  v51 := Tryz.zeroValue60
  t53 := Tryz.underlying148
  a53 := Tryz.isAgg148
  z53 := Tryz.sizeOf148
  v53 := Tryz.zeroValue148
  t131 := Tryz.underlying122
  a131 := Tryz.isAgg122
  z131 := Tryz.sizeOf122
  v131 := Tryz.zeroValue122
  t182 := Tryz.underlying151
  a182 := Tryz.isAgg151
  z182 := Tryz.sizeOf151
  v182 := Tryz.zeroValue151
  t183 := Tryz.underlying152
  a183 := Tryz.isAgg152
  z183 := Tryz.sizeOf152
  v183 := Tryz.zeroValue152
  t218 := Tryz.underlying185
  a218 := Tryz.isAgg185
  z218 := Tryz.sizeOf185
  v218 := Tryz.zeroValue185
  t222 := Tryz.underlying189
  a222 := Tryz.isAgg189
  z222 := Tryz.sizeOf189
  v222 := Tryz.zeroValue189
  t228 := Tryz.underlying213
  a228 := Tryz.isAgg213
  z228 := Tryz.sizeOf213
  v228 := Tryz.zeroValue213
  t229 := Tryz.underlying214
  a229 := Tryz.isAgg214
  z229 := Tryz.sizeOf214
  v229 := Tryz.zeroValue214 }
def YtimillpakjgnoaaGreatDoor.lays220_ren : Go.Shelf.Ren := ⟨fun | 20 => 64 | n => n, fun | 22 => 22 | 3 => 3 | 4 => 4 | 0 => 0 | n => n, fun | n => n⟩
theorem YtimillpakjgnoaaGreatDoor.lays220 : Go.Proofs.Lays2.n20 Tryz.prog YtimillpakjgnoaaGreatDoor.lays220_ren := {
  mixed := by kernel_rfl
  f20 := Tryz.func64.trans (congrArg some (by kernel_rfl))
  t0 := Tryz.underlying0
  a0 := Tryz.isAgg0
  z0 := Tryz.sizeOf0
  v0 := Tryz.zeroValue0
  t3 := Tryz.underlying3
  a3 := Tryz.isAgg3
  z3 := Tryz.sizeOf3
  v3 := Tryz.zeroValue3
  t4 := Tryz.underlying4
  a4 := Tryz.isAgg4
  z4 := Tryz.sizeOf4
  v4 := Tryz.zeroValue4
  t22 := Tryz.underlying22
  a22 := Tryz.isAgg22
  z22 := Tryz.sizeOf22
  v22 := Tryz.zeroValue22
  i3 := by kernel_rfl }
end Go.Proofs
namespace Go.Proofs.YtimillpakjgnoaaGreatDoor.Pl
open Go Go.RowKit Go.Sort
theorem flL_int (xs : List Int) : flL xs = xs.map (Value.int .i64) := by
 induction xs with
 | nil => rfl
 | cons x r ih => rw [List.map_cons, ← ih]; rfl
theorem putX {w : World} {h : FH} {b c m q : Nat} {cur : Array Value} {e : TypeId} {ds : List Int} {os : Array Obj} (hs : Sub h w) (sg : Sub (FH.one b (.cells cur e (0, 0))) w) (hd : Disj h (FH.one b (.cells cur e (0, 0)))) (hmax : c ≤ maxLen) (hsz : cur.size = c * 1) (hds : ds.length ≤ c) (hm : m ≤ ds.length) :
  SH (Kp.ex w h (FH.one b (.cells cur e (0, 0)))) h (grow (putRow (Value.int .i64) (Sort.ahead w q) b 0 ds.toArray) os) [OwnSl e 1 (some ⟨b, 0, none⟩) m c (flL (ds.take m))] := by
 have hb : w.heap[b]? = some (.cells cur e (0, 0)) := sg b _ (FH.one_self _ _)
 have hlt : b < w.heap.size := sg.lt (FH.one_self _ _)
 have hheap : ∀ i, i < w.heap.size → (grow (putRow (Value.int .i64) (Sort.ahead w q) b 0 ds.toArray) os).heap[i]? = if b = i then some (.cells (putCells (Value.int .i64) 0 ds.toArray cur) e (0, 0)) else w.heap[i]? := fun i hi => by
  show ((w.heap.modify b (onCells (putCells (Value.int .i64) 0 ds.toArray))) ++ os)[i]? = _
  rw [Array.getElem?_append_left (by rw [Array.size_modify]; exact hi), Array.getElem?_modify]
  by_cases q : b = i
  ·subst q
   rw [if_pos rfl, if_pos rfl, hb]; rfl
  ·rw [if_neg q, if_neg q]
 have hsize : w.heap.size ≤ (grow (putRow (Value.int .i64) (Sort.ahead w q) b 0 ds.toArray) os).heap.size := by
  show w.heap.size ≤ ((w.heap.modify b (onCells (putCells (Value.int .i64) 0 ds.toArray))) ++ os).size
  rw [Array.size_append, Array.size_modify]; omega
 have hone : ∀ i, FH.one b (.cells cur e (0, 0)) i = none → b ≠ i := fun i g q => by
  subst q
  rw [FH.one_self] at g; cases g
 have hnb : ∀ i, h i ≠ none → b ≠ i := fun i hi => hone i ((hd i).resolve_left hi)
 refine ⟨⟨rfl, rfl, rfl, hsize, fun i hi => ?_, (by unfold dr; first | exact Nat.le_add_right _ _ | exact Nat.le_refl _)⟩, fun i o ho => ?_, fun i hi => .inl hi, [FH.one b (.cells (putCells (Value.int .i64) 0 ds.toArray cur) e (0, 0))], rfl, ?_, ?_, ?_⟩
 ·rw [hheap i hi.1, if_neg (hone i hi.2)]; rfl
 ·rw [hheap i (hs.lt ho), if_neg (hnb i (by rw [ho]; simp))]; exact hs i o ho
 ·intro i g X hi hX
  cases i with
  | succ i => simp at hi
  | zero =>
   simp at hi hX
   subst hi; subst hX
   refine ⟨by rw [flL_len]; simp [Flat.sz, hm], .inr ⟨b, _, rfl, rfl, by omega, hmax, by simp [putCells, hsz], ?_⟩⟩
   rw [flL_int, Nat.mul_one]
   refine List.ext_getElem? fun k => ?_
   rw [List.getElem?_take, List.getElem?_map, List.getElem?_take]
   by_cases g : k < m
   ·have g2 : k < ds.length := by omega
    have g3 : k < cur.size := by omega
    rw [if_pos g, if_pos g, Array.getElem?_toList]
    simp [putCells, g2, g3]
   ·rw [if_neg g, if_neg g]; rfl
 ·intro i g hi
  cases i with
  | succ i => simp at hi
  | zero =>
   simp at hi
   subst hi
   refine ⟨fun j => ?_, Sub.one ?_, fun j hj hk => ?_⟩
   ·by_cases g : h j = none
    ·exact .inl g
    ·exact .inr (by unfold FH.one; rw [if_neg (fun e => hnb j g e.symm)])
   ·rw [hheap b hlt, if_pos rfl]
   ·exact hone j hk.2 (FH.one_ne hj).symm
 ·intro i j g g' hij hi hj
  cases i with
  | succ i => simp at hi
  | zero => cases j with
   | zero => exact absurd rfl hij
   | succ j => simp at hj
theorem ownHolds {w : World} {b : Nat} {cur : Array Value} {e : TypeId} {xs : List Int} (hb : w.heap[b]? = some (.cells cur e (0, 0))) (ht : cur.toList.take (xs.length * 1) = flL xs) : Go.Sort.Holds (Value.int .i64) w b 0 xs.toArray := fun j hj => by
 have hj' : j < xs.length := by simpa using hj
 refine ⟨?_, ?_⟩
 ·unfold World.cell?
  rw [hb]
  show (if (none : Option _).isSome = true then none else cur[0 + j]?) = _
  rw [flL_int, Nat.mul_one] at ht
  have h1 := congrArg (fun l => l[j]?) ht
  simp only [List.getElem?_take, hj', if_true, List.getElem?_map] at h1
  rw [Array.getElem?_toList, List.getElem?_eq_getElem hj'] at h1
  rw [Nat.zero_add]
  simp [h1, hj']
 ·unfold World.frozen?
  rw [hb]
  simp
theorem sort_len (xs : List Int) : (sp_sort xs).length = xs.length := List.length_mergeSort _
theorem c_sort {h : FH} {w : World} (hs : Sub h w) (s_ : List Int) (a : Option Addr) (c : Nat) {gX : FH} (ownX : OwnSl 3 1 a s_.length c (flL s_) gX) (subX : Sub gX w) (disX : Disj h gX) (hp : pre_sort s_) : Calls Tryz.prog 63 #[.slice a s_.length c] w fun e w' => e = .returned (.tuple #[]) ∧ SH (Kp.ex w h gX) h w' [OwnSl 3 1 a s_.length c (flL (sp_sort s_))] := by
 have own0 := ownX
 obtain ⟨h1, ⟨rfl, h2, rfl, rfl⟩ | ⟨b, cur, rfl, rfl, h4, h5, h6, h7⟩⟩ := ownX
 ·have e : s_ = [] := List.length_eq_zero_iff.1 h2
  subst e
  refine (Any.slices_Sort_int_none YtimillpakjgnoaaGreatDoor.lays189 none 0 w).mono fun e w' ⟨he, hw⟩ => ⟨he, ?_⟩
  subst hw
  rw [show sp_sort [] = [] by simp [sp_sort]]
  exact SH.startX hs subX disX own0
 ·have hb := subX b _ (FH.one_self _ _)
  refine (Any.slices_Sort_int YtimillpakjgnoaaGreatDoor.lays189 b 0 c s_ w (ownHolds hb h7) (subX.lt (FH.one_self _ _)) (Nat.lt_of_le_of_lt hp (by decide))).mono fun e w' ⟨he, n, os, hw⟩ => ⟨he, ?_⟩
  subst hw
  have := putX (q := n) (os := os) (ds := sp_sort s_) (m := s_.length) hs subX disX h5 h6 (by rw [sort_len]; exact h4) (by rw [sort_len]; exact Nat.le_refl _)
  rwa [List.take_of_length_le (by rw [sort_len]; exact Nat.le_refl _)] at this
theorem compact_len (xs : List Int) : (sp_compact xs).length ≤ xs.length := Lib.compact_length_le xs
theorem c_compact {h : FH} {w : World} (hs : Sub h w) (s_ : List Int) (a : Option Addr) (c : Nat) {gX : FH} (ownX : OwnSl 3 1 a s_.length c (flL s_) gX) (subX : Sub gX w) (disX : Disj h gX) (hp : pre_compact s_) : Calls Tryz.prog 64 #[.slice a s_.length c] w fun e w' => e = .returned (.slice a (sp_compact s_).length c) ∧ SH (Kp.ex w h gX) h w' [OwnSl 3 1 a (sp_compact s_).length c (flL (sp_compact s_))] := by
 have own0 := ownX
 obtain ⟨h1, ⟨rfl, h2, rfl, rfl⟩ | ⟨b, cur, rfl, rfl, h4, h5, h6, h7⟩⟩ := ownX
 ·have e : s_ = [] := List.length_eq_zero_iff.1 h2
  subst e
  refine (Any.slices_Compact_int_empty YtimillpakjgnoaaGreatDoor.lays220 none 0 w).mono fun e w' ⟨he, hw⟩ => ⟨he, ?_⟩
  subst hw
  exact SH.startX hs subX disX own0
 ·have hb := subX b _ (FH.one_self _ _)
  have hl := compact_len s_
  unfold pre_compact at hp
  refine (Any.slices_Compact_int YtimillpakjgnoaaGreatDoor.lays220 b 0 c s_ w (ownHolds hb h7) (by omega) h4).mono fun e w' ⟨he, n, hw⟩ => ⟨he, ?_⟩
  subst hw
  have e2 : (sp_compact s_ ++ List.replicate (s_.length - (sp_compact s_).length) 0).length = s_.length := by rw [List.length_append, List.length_replicate]; omega
  have := putX (q := n) (os := #[]) (ds := sp_compact s_ ++ List.replicate (s_.length - (sp_compact s_).length) 0) (m := (sp_compact s_).length) hs subX disX h5 h6 (by rw [e2]; exact h4) (by rw [e2]; exact hl)
  rw [List.take_left, grow_empty] at this
  exact this
end Go.Proofs.YtimillpakjgnoaaGreatDoor.Pl

namespace Go.Proofs.YtimillpakjgnoaaGreatDoor.Pl
open Go Go.RowKit
theorem ok_union : ∀ (a : List Int) (b : List Int), pre_union a b → F_union a b (fun r => r = sp_union a b) := fun _ _ hp => ⟨hp, fun _ hr => hr⟩
theorem ok_stateFault : ∀ (t : Task) (s_ : List Int), F_stateFault t s_ (fun r => r = sp_stateFault t s_) := fun t s => by
 unfold F_stateFault
 simp only [forall_eq, fault_ne, fault_eq]
 simp only [Bool.not_eq_true', Bool.not_eq_false']
 refine ⟨fun h => ?_, fun h => ?_⟩
 ·rw [sp_stateFault, if_neg h]
 ·have hf := (taskOK_of h).facts
  refine ⟨⟨hf.1, by omega⟩, fun q => ?_, fun q => ?_⟩
  ·rw [sp_stateFault, if_pos h, if_neg (by rw [q]; decide)]
  ·rw [sp_stateFault, if_pos h, if_pos q]
theorem stateFault_ok {t : Task} {s : List Int} (h : sp_stateFault t s = ⟨0, 0⟩) : sp_validate t = ⟨0, 0⟩ ∧ sp_isSet s t.facts = true := by
 unfold sp_stateFault at h
 split at h
 ·rename_i hv
  split at h
  ·exact ⟨hv, by assumption⟩
  ·exact absurd h (fault_mk (by decide))
 ·rename_i hv; exact absurd h hv
theorem stateFault_of {t : Task} {s : List Int} (hv : sp_validate t = ⟨0, 0⟩) (hs : sp_isSet s t.facts = true) : sp_stateFault t s = ⟨0, 0⟩ := by rw [sp_stateFault, if_pos hv, if_pos hs]
theorem steps_pre {t : Task} (tk : TaskOK t) (plan : List Int) : pre_steps t.ops.length plan := ⟨by omega, by have := tk.len; omega⟩
theorem ok_mcheck : ∀ (t : Task) (plan : List Int) (s_ : List Int), F_mcheck t plan s_ (fun r => r = sp_mcheck t plan s_) := fun t plan s => by
 unfold F_mcheck
 simp only [forall_eq, fault_ne, fault_eq]
 refine ⟨fun h => ?_, fun h => ⟨steps_pre (taskOK_of (stateFault_ok h).1) plan, ?_⟩⟩
 ·rw [sp_mcheck, if_neg h]
 ·rw [sp_mcheck, if_pos h]
theorem mcheck_ok {t : Task} {plan s : List Int} (h : sp_mcheck t plan s = ⟨0, 0⟩) : sp_planFault t plan = ⟨0, 0⟩ ∧ sp_isSet s t.facts = true := by
 unfold sp_mcheck at h
 split at h
 ·rename_i hs
  obtain ⟨a, b⟩ := stateFault_ok hs
  exact ⟨by rw [sp_planFault, if_pos a]; exact h, b⟩
 ·rename_i hs; exact absurd h hs
theorem mcheck_of {t : Task} {plan s : List Int} (h : sp_planFault t plan = ⟨0, 0⟩) (hs : sp_isSet s t.facts = true) : sp_mcheck t plan s = ⟨0, 0⟩ := by
 have hv := (plan_ok h).1
 rw [sp_planFault, if_pos hv] at h
 rw [sp_mcheck, if_pos (stateFault_of hv hs), h]
theorem ok_play : ∀ (t : Task) (s_ : List Int) (plan : List Int), F_play t s_ plan (fun r => r = sp_play t s_ plan) := fun t s plan => by
 have key : F_play_J1 t s plan (fun r => r = sp_play t s plan) (sp_mcheck t plan s).code (sp_mcheck t plan s).index := by
  unfold F_play_J1
  simp only [forall_eq, fault_ne, fault_eq, decide_eq_true_eq, decide_eq_false_iff_not]
  refine ⟨fun h => ?_, fun h => ?_⟩
  ·rw [sp_play, if_neg h]
  ·obtain ⟨a, b⟩ := mcheck_ok h
   obtain ⟨a1, a2, a3⟩ := plan_ok a
   refine ⟨⟨a1, b, by omega, a3⟩, fun q => ?_, fun q => ?_⟩
   ·rw [sp_play, if_pos h, if_pos (by omega), w64 (by have := srun_len (t := t) plan s; omega)]
   ·rw [sp_play, if_pos h, if_neg (by omega)]
 unfold F_play
 simp only [forall_eq]
 refine ⟨fun h => ?_, fun h => ?_⟩
 ·have hs : sp_stateFault t s = ⟨0, 0⟩ := fault_eq.1 (by rw [h]; rfl)
  refine ⟨steps_pre (taskOK_of (stateFault_ok hs).1) plan, ?_⟩
  rw [sp_mcheck, if_pos hs] at key
  exact key
 ·have hs : sp_stateFault t s ≠ ⟨0, 0⟩ := fault_ne.1 (by rw [h]; rfl)
  rw [sp_mcheck, if_neg hs] at key
  exact key
theorem needs_len (t : Task) : ∀ plan : List Int, (sp_needs t plan).length = plan.length + 1
 | [] => rfl
 | o :: r => by rw [sp_needs, List.length_cons, needs_len t r, List.length_cons]
theorem needs_drop (t : Task) : ∀ (k : Nat) (plan : List Int), k ≤ plan.length → (sp_needs t plan).drop k = sp_needs t (plan.drop k)
 | 0, _, _ => rfl
 | k + 1, [], h => by simp at h
 | k + 1, o :: r, h => by
  rw [sp_needs, List.drop_succ_cons, List.drop_succ_cons]
  exact needs_drop t k r (by simpa using h)
theorem needs_head (t : Task) (plan : List Int) : (sp_needs t plan).headD default = gt (sp_needs t plan) ((0 : Nat) : Int) := by
 cases plan <;> rfl
theorem gt_drop {α : Type} [Inhabited α] (xs : List α) (k j : Nat) : gt (xs.drop k) (j : Int) = gt xs ((k + j : Nat) : Int) := by
 unfold gt
 rw [Int.toNat_natCast, Int.toNat_natCast]
 simp [List.getD_eq_getElem?_getD]
theorem needs_last (t : Task) (plan : List Int) : gt (sp_needs t plan) ((plan.length : Nat) : Int) = ⟨sp_union t.goal [], false⟩ := by
 have h := gt_drop (sp_needs t plan) plan.length 0
 rw [needs_drop t _ _ (Nat.le_refl _), List.drop_length] at h
 rw [Nat.add_zero] at h
 exact h.symm
theorem needs_step {t : Task} {plan : List Int} {k : Nat} (h : k < plan.length) : gt (sp_needs t plan) (k : Int) = needAt t (gt plan (k : Int)) (gt (sp_needs t plan) ((k + 1 : Nat) : Int)) := by
 have h1 := gt_drop (sp_needs t plan) k 0
 rw [needs_drop t _ _ (by omega)] at h1
 have h2 := gt_drop (sp_needs t plan) (k + 1) 0
 rw [needs_drop t _ _ (by omega)] at h2
 have h3 := drop_gt (xs := plan) (i := (k : Int)) ⟨by omega, by omega⟩
 rw [Int.toNat_natCast, show ((k : Int) + 1).toNat = k + 1 by omega] at h3
 rw [h3, sp_needs, needs_head, h2, Nat.add_zero, Nat.add_zero] at h1
 exact h1.symm
theorem subset_set {l : List Int} {n : Int} (h1 : l.Pairwise (· < ·)) (h2 : ∀ x ∈ l, 0 ≤ x ∧ x < n) : sp_isSet l n = true := decide_eq_true ⟨h1, h2⟩
theorem union_set {n : Int} {a b : List Int} (ha : sp_isSet a n = true) (hb : sp_isSet b n = true) : sp_isSet (sp_union a b) n = true :=
 subset_set (update_sorted _ _ _) fun x hx => by
  rcases mem_update.1 hx with q | q
  ·exact set_rng ha x q.1
  ·exact set_rng hb x q
theorem less_set {n : Int} {a d : List Int} (ha : sp_isSet a n = true) : sp_isSet (sp_update a [] d) n = true :=
 subset_set (update_sorted _ _ _) fun x hx => by
  rcases mem_update.1 hx with q | q
  ·exact set_rng ha x q.1
  ·cases q
theorem nil_set (n : Int) : sp_isSet [] n = true := by simp [sp_isSet]
theorem needAt_set {t : Task} (tk : TaskOK t) {o : Int} (ho : inb t.ops o) {l : Need} (hl : sp_isSet l.facts t.facts = true) : sp_isSet (needAt t o l).facts t.facts = true := by
 unfold needAt
 split
 ·exact nil_set _
 ·exact union_set (less_set hl) (tk.op ho).1
theorem needs_set {t : Task} (tk : TaskOK t) : ∀ plan : List Int, (∀ o ∈ plan, inb t.ops o) → ∀ n ∈ sp_needs t plan, sp_isSet n.facts t.facts = true
 | [], _, n, hn => by
  rw [sp_needs, List.mem_singleton] at hn
  rw [hn]
  exact union_set tk.goal (nil_set _)
 | o :: r, h, n, hn => by
  have ih := needs_set tk r fun x hx => h x (List.mem_cons_of_mem _ hx)
  rw [sp_needs] at hn
  rcases List.mem_cons.1 hn with rfl | hn
  ·refine needAt_set tk (h o List.mem_cons_self) (ih _ ?_)
   rw [needs_head]
   exact gt_memN (by rw [needs_len]; omega)
  ·exact ih n hn
theorem set_pre {t : Task} (tk : TaskOK t) {a b d : List Int} (ha : sp_isSet a t.facts = true) (hb : sp_isSet b t.facts = true) (hd : sp_isSet d t.facts = true) : pre_update a b d := by
 have hf := tk.facts
 have h1 := set_len hf.1 ha
 have h2 := set_len hf.1 hb
 have h3 := set_len hf.1 hd
 exact ⟨by omega, by omega, set_sorted hd, by omega⟩
theorem ok_needs : ∀ (t : Task) (plan : List Int), pre_needs t plan → F_needs t plan (fun r => r = sp_needs t plan) := fun t plan hp => by
 obtain ⟨hv, hl, ho⟩ := plan_ok hp
 have tk := taskOK_of hv
 have hset := needs_set tk plan ho
 unfold F_needs
 rw [w64 (by omega), w64 (by omega), show (((plan.length : Nat) : Int) + 1).toNat = plan.length + 1 by omega]
 refine ⟨⟨by omega, by omega, by simp only [maxLen]; omega⟩, set_pre tk tk.goal (nil_set _) (nil_set _), ?_⟩
 simp only [forall_eq]
 refine ⟨⟨by omega, by rw [List.length_replicate]; omega⟩, fun i out => ∃ k : Nat, i = (k : Int) - 1 ∧ k ≤ plan.length ∧ out.length = plan.length + 1 ∧ ∀ j : Nat, j ≤ plan.length → gt out (j : Int) = if k ≤ j then gt (sp_needs t plan) (j : Int) else ⟨[], false⟩, fun i _ => (i + 1).toNat, ⟨plan.length, rfl, Nat.le_refl _, by rw [List.length_set, List.length_replicate], fun j hj => ?_⟩, ?_⟩
 ·rw [gt_setI ⟨by omega, by rw [List.length_replicate]; omega⟩ (by omega)]
  by_cases e : j = plan.length
  ·subst e
   rw [if_pos rfl, if_pos (Nat.le_refl _), needs_last]
  ·rw [if_neg (by omega), if_neg (by omega)]
   have h2 : j < plan.length + 1 := by omega
   simp [gt, h2]
 rintro _ out ⟨k, rfl, k1, k2, k3⟩
 unfold F_needs_L1
 simp only [decide_eq_true_eq, decide_eq_false_iff_not]
 refine ⟨fun h => ?_, fun h => ?_⟩
 ·obtain ⟨k, rfl⟩ : ∃ m, k = m + 1 := ⟨k - 1, by omega⟩
  have e1 : (((k + 1 : Nat) : Int) - 1) = (k : Int) := by omega
  rw [e1]
  rw [w64 (n := (k : Int) + 1) (by omega)]
  have hop := ho _ (gt_memN (xs := plan) (i := k) (by omega))
  have hop2 := tk.op hop
  have hk1 := k3 (k + 1) k1
  rw [if_pos (Nat.le_refl _)] at hk1
  have e2 : ((k : Int) + 1) = ((k + 1 : Nat) : Int) := by omega
  rw [e2]
  have hst := needs_step (t := t) (plan := plan) (k := k) (by omega)
  have hs := hset _ (gt_memN (xs := sp_needs t plan) (i := k + 1) (by rw [needs_len]; omega))
  have hin : inb out (k : Int) := ⟨by omega, by rw [k2]; omega⟩
  have hk0 := k3 k (by omega)
  rw [if_neg (by omega)] at hk0
  have fin : ∀ y : Need, y = gt (sp_needs t plan) (k : Int) → F_needs_J1 out (k : Int) (fun i out => ∃ k : Nat, i = (k : Int) - 1 ∧ k ≤ plan.length ∧ out.length = plan.length + 1 ∧ ∀ j : Nat, j ≤ plan.length → gt out (j : Int) = if k ≤ j then gt (sp_needs t plan) (j : Int) else ⟨[], false⟩) (fun i _ => (i + 1).toNat) (out.set ((k : Int)).toNat y) := fun y hy => by
   unfold F_needs_J1
   rw [w64 (by omega)]
   refine ⟨⟨k, rfl, by omega, by rw [List.length_set]; exact k2, fun j hj => ?_⟩, by show ((k : Int) - 1 + 1).toNat < ((k : Int) + 1).toNat; omega⟩
   rw [gt_setI hin (by omega)]
   by_cases e : j = k
   ·subst e
    rw [if_pos rfl, if_pos (Nat.le_refl _), hy]
   ·rw [if_neg (by omega), k3 j hj]
    by_cases g : k + 1 ≤ j
    ·rw [if_pos g, if_pos (by omega)]
    ·rw [if_neg g, if_neg (by omega)]
  refine ⟨⟨by omega, by omega⟩, hop, ⟨by omega, by rw [k2]; omega⟩, ?_⟩
  unfold F_needs_J2 F_needs_J3
  rw [w64 (n := (k : Int) + 1) (by omega), e2, hk1, hk0]
  simp only [forall_eq, Bool.true_eq, forall_const, reduceCtorEq, false_implies, and_true]
  refine ⟨fun q => ⟨hin, fin _ ?_⟩, fun q => ⟨?_, fun q2 => ⟨hin, fin _ ?_⟩, fun q2 => ⟨set_pre tk hs (nil_set _) hop2.2.1, set_pre tk (less_set hs) hop2.1 (nil_set _), hin, fin _ ?_⟩⟩⟩
  ·rw [hst, needAt, if_pos (.inl q)]
  ·have hf := tk.facts
   have h1 := set_len hf.1 hs
   have h2 := set_len hf.1 hop2.2.2.1
   exact ⟨by omega, set_sorted hop2.2.2.1, by omega⟩
  ·rw [hst, needAt, if_pos (.inr q2)]
  ·rw [hst, needAt, if_neg (by rw [q, q2]; simp)]
 ·have hk : k = 0 := by omega
  subst hk
  refine List.ext_getElem (by rw [k2, needs_len]) fun j h1 h2 => ?_
  have := k3 j (by omega)
  rw [if_pos (Nat.zero_le _), gt_of ⟨by omega, by omega⟩, gt_of ⟨by omega, by omega⟩] at this
  simpa using this
theorem ok_missing : ∀ (t : Task) (plan : List Int) (s_ : List Int) (i : Int), F_missing t plan s_ i (fun r => r = sp_missing t plan s_ i) := fun t plan s i => by
 have key : sp_mcheck t plan s = ⟨0, 0⟩ → ∀ b : Bool, (b = true ↔ i < 0 ∨ (plan.length : Int) < i) → F_missing_J1 t plan s i (fun r => r = sp_missing t plan s i) b := fun h b hb => by
  obtain ⟨a, c⟩ := mcheck_ok h
  obtain ⟨a1, a2, a3⟩ := plan_ok a
  have tk := taskOK_of a1
  unfold F_missing_J1
  simp only [forall_eq]
  refine ⟨fun q => ?_, fun q => ⟨a, ?_⟩⟩
  ·rw [sp_missing, if_pos h, if_pos (hb.1 q)]
  ·have hn : ¬ (i < 0 ∨ (plan.length : Int) < i) := fun g => by rw [hb.2 g] at q; cases q
   have hi : inb (sp_needs t plan) i := ⟨by omega, by rw [needs_len]; omega⟩
   refine ⟨hi, fun q2 => ?_, fun q2 => ⟨set_pre tk (needs_set tk plan a3 _ (gt_mem hi)) (nil_set _) c, ?_⟩⟩
   ·rw [sp_missing, if_pos h, if_neg hn, if_pos q2]
   ·rw [sp_missing, if_pos h, if_neg hn, if_neg (by rw [q2]; decide)]
 unfold F_missing
 simp only [forall_eq, fault_ne, fault_eq, decide_eq_true_eq, decide_eq_false_iff_not]
 refine ⟨fun h => ?_, fun h => ⟨fun q => key h _ ⟨fun _ => .inl q, fun _ => rfl⟩, fun q => key h _ ?_⟩⟩
 ·rw [sp_missing, if_neg h]
 ·simp only [decide_eq_true_eq]
  omega
theorem ok_resume : ∀ (t : Task) (plan : List Int) (s_ : List Int), F_resume t plan s_ (fun r => r = sp_resume t plan s_) := fun t plan s => by
 unfold F_resume
 simp only [forall_eq, fault_ne, fault_eq]
 refine ⟨fun h => ?_, fun h => ?_⟩
 ·rw [sp_resume, if_neg h]
 ·obtain ⟨a, c⟩ := mcheck_ok h
  obtain ⟨a1, a2, a3⟩ := plan_ok a
  have tk := taskOK_of a1
  have hf := tk.facts
  refine ⟨a, fun i => ∃ k : Nat, i = (k : Int) - 1 ∧ k ≤ plan.length + 1 ∧ ∀ j, k ≤ j → j ≤ plan.length → canFrom t plan s j = false, fun i => (i + 1).toNat, ⟨plan.length + 1, by omega, Nat.le_refl _, fun j h1 h2 => by omega⟩, ?_⟩
  have hfind : ∀ k : Nat, k ≤ plan.length → canFrom t plan s k = true → (∀ j, k < j → j ≤ plan.length → canFrom t plan s j = false) → sp_resume t plan s = ((k : Int), true, (⟨0, 0⟩ : Fault)) := fun k h1 h2 h3 => by
   have e : (List.range (plan.length + 1)).reverse.find? (canFrom t plan s) = some k := by
    rw [List.find?_eq_some_iff_append]
    refine ⟨h2, ((List.range (plan.length + 1)).drop (k + 1)).reverse, ((List.range (plan.length + 1)).take k).reverse, ?_, fun x hx => ?_⟩
    ·have e1 : List.range (plan.length + 1) = (List.range (plan.length + 1)).take k ++ k :: (List.range (plan.length + 1)).drop (k + 1) := by
      have hk : k < (List.range (plan.length + 1)).length := by rw [List.length_range]; omega
      have := List.take_append_drop k (List.range (plan.length + 1))
      rw [List.drop_eq_getElem_cons hk, List.getElem_range] at this
      exact this.symm
     conv => lhs; rw [e1]
     simp
    ·rw [List.mem_reverse] at hx
     obtain ⟨j, hj, e⟩ := List.mem_iff_getElem.1 hx
     rw [List.getElem_drop, List.getElem_range] at e
     rw [List.length_drop, List.length_range] at hj
     rw [h3 x (by omega) (by omega)]; rfl
   rw [sp_resume, if_pos h, e]
  rintro _ ⟨k, rfl, k1, k2⟩
  unfold F_resume_L1 F_resume_J1
  simp only [decide_eq_true_eq, decide_eq_false_iff_not, forall_eq, Bool.not_eq_true', Bool.not_eq_false', reduceCtorEq, false_implies, true_implies, true_and]
  refine ⟨fun g => ?_, fun g => ?_⟩
  ·obtain ⟨k, rfl⟩ : ∃ m, k = m + 1 := ⟨k - 1, by omega⟩
   have e1 : (((k + 1 : Nat) : Int) - 1) = (k : Int) := by omega
   rw [e1]
   have hi : inb (sp_needs t plan) (k : Int) := ⟨by omega, by rw [needs_len]; omega⟩
   have hs := needs_set tk plan a3 _ (gt_mem hi)
   have h1 := set_len hf.1 hs
   have h2 := set_len hf.1 c
   have next : canFrom t plan s k = false → (∃ k' : Nat, IntKind.i64.wrap ((k : Int) - 1) = (k' : Int) - 1 ∧ k' ≤ plan.length + 1 ∧ ∀ j, k' ≤ j → j ≤ plan.length → canFrom t plan s j = false) ∧ (IntKind.i64.wrap ((k : Int) - 1) + 1).toNat < ((k : Int) + 1).toNat := fun hc => by
    rw [w64 (by omega)]
    refine ⟨⟨k, rfl, by omega, fun j j1 j2 => ?_⟩, by omega⟩
    rcases Nat.eq_or_lt_of_le j1 with e | e
    ·rw [← e]; exact hc
    ·exact k2 j (by omega) j2
   refine ⟨hi, fun q => ⟨⟨by omega, by omega, set_sorted c, set_sorted hs⟩, fun q2 => ?_, fun q2 => next ?_⟩, fun q => next ?_⟩
   ·exact (hfind k (by omega) (by rw [canFrom, q, q2]; rfl) fun j j1 j2 => k2 j (by omega) j2).symm
   ·rw [canFrom, q, q2]; rfl
   ·rw [canFrom, q]; rfl
  ·have hk : k = 0 := by omega
   subst hk
   have e : (List.range (plan.length + 1)).reverse.find? (canFrom t plan s) = none := by
    rw [List.find?_eq_none]
    intro x hx
    rw [List.mem_reverse, List.mem_range] at hx
    rw [k2 x (Nat.zero_le _) (by omega)]; decide
   rw [sp_resume, if_pos h, e]
theorem srun_get {t : Task} : ∀ (plan s : List Int) (k : Nat), (sp_srun t s plan).length = plan.length + 1 → k < plan.length → sp_applies t (gt (sp_srun t s plan) (k : Int)) (gt plan (k : Int)) = true ∧ gt (sp_srun t s plan) ((k + 1 : Nat) : Int) = sp_after t (gt (sp_srun t s plan) (k : Int)) (gt plan (k : Int))
 | [], _, k, _, h => by simp at h
 | o :: r, s, k, hl, hk => by
  have ha : sp_applies t s o = true := by
   cases h : sp_applies t s o with
   | true => rfl
   | false => rw [sp_srun, h] at hl; simp at hl
  rw [sp_srun, if_pos ha] at hl ⊢
  have hl' : (sp_srun t (sp_after t s o) r).length = r.length + 1 := by simpa using hl
  have h0 : gt (sp_srun t (sp_after t s o) r) ((0 : Nat) : Int) = sp_after t s o := by cases r <;> simp only [sp_srun] <;> (try split) <;> rfl
  cases k with
  | zero => exact ⟨ha, h0⟩
  | succ k =>
   have := srun_get r (sp_after t s o) k hl' (by simpa using hk)
   have e : ∀ (α : Type) [Inhabited α] (x : α) (l : List α) (j : Nat), gt (x :: l) ((j + 1 : Nat) : Int) = gt l (j : Int) := fun α _ x l j => by
    unfold gt
    rw [Int.toNat_natCast, Int.toNat_natCast, List.getD_cons_succ]
   rw [e, e, e]
   exact this
theorem needs_hold {t : Task} (tk : TaskOK t) {plan s : List Int} (ho : ∀ o ∈ plan, inb t.ops o) (hl : (sp_srun t s plan).length = plan.length + 1) (hg : sp_subset t.goal (gt (sp_srun t s plan) (plan.length : Int)) = true) : ∀ j k : Nat, j + k = plan.length → (gt (sp_needs t plan) (k : Int)).never = false ∧ ∀ x ∈ (gt (sp_needs t plan) (k : Int)).facts, x ∈ gt (sp_srun t s plan) (k : Int)
 | 0, k, h => by
  have hk : k = plan.length := by omega
  subst hk
  rw [needs_last]
  refine ⟨rfl, fun x hx => ?_⟩
  rcases mem_update.1 hx with q | q
  ·exact subset_iff.1 hg x q.1
  ·cases q
 | j + 1, k, h => by
  obtain ⟨h1, h2⟩ := needs_hold tk ho hl hg j (k + 1) (by omega)
  have hk : k < plan.length := by omega
  obtain ⟨g1, g2⟩ := srun_get plan s k hl hk
  have hop := ho _ (gt_memN (xs := plan) (i := k) hk)
  have hf := tk.facts
  rw [needs_step hk, needAt]
  rw [g2] at h2
  have hm : sp_meets (gt (sp_needs t plan) ((k + 1 : Nat) : Int)).facts (gt t.ops (gt plan (k : Int))).del = false := by
   unfold sp_meets
   rw [List.any_eq_false]
   intro x hx hd
   have hd' : x ∈ (gt t.ops (gt plan (k : Int))).del := of_decide_eq_true hd
   rcases (mem_after hf.1).1 (h2 x hx) with ⟨_, q | q⟩
   ·have := (tk.op hop).2.2.2
    unfold sp_meets at this
    rw [List.any_eq_false] at this
    exact this x q (decide_eq_true hd')
   ·exact q.2 hd'
  rw [if_neg (by rw [h1, hm]; simp)]
  refine ⟨rfl, fun x hx => ?_⟩
  rcases mem_update.1 hx with q | q
  ·rcases mem_update.1 q.1 with q | q
   ·rcases (mem_after hf.1).1 (h2 x q.1) with ⟨_, p | p⟩
    ·exact absurd p q.2
    ·exact p.1
   ·cases q
  ·exact subset_iff.1 g1 x q
theorem update_none {a s : List Int} (h : ∀ x ∈ a, x ∈ s) : sp_update a [] s = [] := by
 refine List.eq_nil_iff_forall_not_mem.2 fun x hx => ?_
 rcases mem_update.1 hx with q | q
 ·exact q.2 (h x q.1)
 ·cases q
theorem srun_set {t : Task} (hf : 0 ≤ t.facts) : ∀ (plan s : List Int), sp_isSet s t.facts = true → ∀ x ∈ sp_srun t s plan, sp_isSet x t.facts = true
 | [], s, hs, x, hx => by
  rw [sp_srun, List.mem_singleton] at hx
  rw [hx]; exact hs
 | o :: r, s, hs, x, hx => by
  rw [sp_srun] at hx
  split at hx
  ·rcases List.mem_cons.1 hx with rfl | hx
   ·exact hs
   ·exact srun_set hf r _ (after_set hf _ _) x hx
  ·rw [List.mem_singleton.1 hx]; exact hs
theorem ok_lawMonitors : ∀ (t : Task) (plan : List Int) (i : Int), F_lawMonitors t plan i (fun r => r = sp_lawMonitors t plan i) := fun t plan i => by
 have h1 : F_lawMonitors_J1 t plan i (fun r => r = sp_lawMonitors t plan i) (sp_play t t.init plan) true := by
  unfold F_lawMonitors_J1
  simp only [forall_eq, reduceCtorEq, false_implies, and_true, true_implies]
  rfl
 unfold F_lawMonitors
 simp only [forall_eq, Bool.not_eq_true', Bool.not_eq_false', bne_iff_ne, ne_eq, bne_eq_false_iff_eq]
 refine ⟨fun _ => h1, fun hc => ⟨fun _ => h1, fun hs => ?_⟩⟩
 cases hin : sp_in_ i 0 ((plan.length : Nat) : Int) with
 | false => exact h1
 | true =>
  have hi : 0 ≤ i ∧ i ≤ plan.length := by
   rw [sp_in_, Bool.and_eq_true, decide_eq_true_eq, decide_eq_true_eq] at hin
   exact hin
  have hp : sp_planFault t plan = ⟨0, 0⟩ := by
   refine Classical.byContradiction fun h => ?_
   rw [sp_solves, if_neg h] at hs
   cases hs
  obtain ⟨a1, a2, a3⟩ := plan_ok hp
  have tk := taskOK_of a1
  have hf := tk.facts
  rw [sp_solves, if_pos hp] at hs
  obtain ⟨r1, r2⟩ := srun_ends hf.1 plan t.init tk.init
  have hw : (sp_ends t t.init plan).2 = true ∧ sp_subset t.goal (sp_ends t t.init plan).1 = true := by
   have : sp_rworks t t.init plan = true := hs
   rw [sp_rworks, Bool.and_eq_true] at this
   exact this
  have hlen : (sp_srun t t.init plan).length = plan.length + 1 := by
   refine Classical.byContradiction fun h => ?_
   rw [r2 h] at hw
   exact absurd hw.1 (by decide)
  obtain ⟨e1, e2, e3⟩ := r1 hlen
  have hplay : sp_play t t.init plan = (sp_srun t t.init plan, ⟨0, 0⟩) := by
   rw [sp_play, if_pos (mcheck_of hp tk.init), if_neg (by omega)]
  have hneed := fun k (hk : k ≤ plan.length) => needs_hold tk a3 hlen (by rw [e2]; exact hw.2) (plan.length - k) k (by omega)
  obtain ⟨k, rfl⟩ : ∃ k : Nat, i = k := ⟨i.toNat, by omega⟩
  have hkl : inb (sp_srun t t.init plan) (k : Int) := ⟨by omega, by omega⟩
  have hset := srun_set hf.1 plan t.init tk.init _ (gt_mem hkl)
  have hm := mcheck_of hp hset
  obtain ⟨n1, n2⟩ := hneed k (by omega)
  have hmiss : sp_missing t plan (gt (sp_srun t t.init plan) (k : Int)) (k : Int) = ([], true, ⟨0, 0⟩) := by
   rw [sp_missing, if_pos hm, if_neg (by omega), if_neg (by rw [n1]; decide), update_none n2]
  have hcan : canFrom t plan (gt (sp_srun t t.init plan) (k : Int)) k = true := by
   rw [canFrom, n1]
   exact subset_iff.2 n2
  have hres : ∃ m : Nat, k ≤ m ∧ sp_resume t plan (gt (sp_srun t t.init plan) (k : Int)) = ((m : Int), true, ⟨0, 0⟩) := by
   rw [sp_resume, if_pos hm]
   cases hfd : (List.range (plan.length + 1)).reverse.find? (canFrom t plan (gt (sp_srun t t.init plan) (k : Int))) with
   | none =>
    rw [List.find?_eq_none] at hfd
    exact absurd hcan (hfd k (by rw [List.mem_reverse, List.mem_range]; omega))
   | some m =>
    refine ⟨m, ?_, rfl⟩
    obtain ⟨_, la, lb, e, hn⟩ := List.find?_eq_some_iff_append.1 hfd
    refine Nat.le_of_not_lt fun hlt => ?_
    have hmem : k ∈ la ++ m :: lb := by rw [← e, List.mem_reverse, List.mem_range]; omega
    have hp2 : (la ++ m :: lb).Pairwise (· > ·) := by rw [← e, List.pairwise_reverse]; exact List.pairwise_lt_range
    rcases List.mem_append.1 hmem with q | q
    ·have := hn k q
     rw [hcan] at this
     cases this
    ·rcases List.mem_cons.1 q with q | q
     ·omega
     ·have := List.rel_of_pairwise_cons (List.pairwise_append.1 hp2).2.1 q
      omega
  obtain ⟨m, m1, m2⟩ := hres
  rw [hplay]
  unfold F_lawMonitors_J1
  simp only [forall_eq, Bool.not_true, reduceCtorEq, false_implies, true_and, true_implies, bne_self_eq_false]
  unfold F_lawMonitors_J2
  rw [w64 (by omega), hlen]
  have hb : ((((plan.length + 1 : Nat) : Int)) != (((plan.length : Nat) : Int) + 1)) = false := by simp
  rw [hb]
  simp only [forall_eq, reduceCtorEq, false_implies, true_and, true_implies]
  refine ⟨hkl, ?_⟩
  rw [hmiss]
  unfold F_lawMonitors_J3
  rw [m2]
  have hle : (k : Int) ≤ (m : Int) := by omega
  simp only [forall_eq, beq_self_eq_true, true_implies, reduceCtorEq, false_implies, and_true, List.length_nil, Int.natCast_zero, decide_eq_true_eq, decide_eq_false_iff_not, hle, not_true_eq_false]
  exact ⟨hkl, rfl⟩
end Go.Proofs.YtimillpakjgnoaaGreatDoor.Pl

namespace Go.Proofs.YtimillpakjgnoaaGreatDoor.Pl
open Go Go.RowKit
theorem mask_bit : ∀ (m : Fin 16) (i : Fin 4), (bits .and .i64 (Int.fdiv ((m : Nat) : Int) (2 ^ (min (((i : Nat) : Int)).toNat (IntKind.bits .i64)))) 1 == 1) = (m : Nat).testBit i := by decide
theorem pow_len : ∀ n : Fin 5, IntKind.i64.wrap (1 * 2 ^ (min (((n : Nat) : Int)).toNat (IntKind.bits .i64))) = ((2 ^ (n : Nat) : Nat) : Int) := by decide
theorem maskAdd_snoc (l : List Int) (x : Int) (m : Nat) : maskAdd (l ++ [x]) m = maskAdd l m ++ (if m.testBit l.length = true then [x] else []) := by
 unfold maskAdd
 rw [List.zipIdx_append, List.filter_append, List.map_append]
 congr 1
 simp only [List.zipIdx_cons, List.zipIdx_nil, Nat.zero_add]
 by_cases h : m.testBit l.length = true
 ·simp [h]
 ·simp [h]
theorem maskAdd_len (l : List Int) (m : Nat) : (maskAdd l m).length ≤ l.length := by
 unfold maskAdd
 rw [List.length_map]
 exact Nat.le_trans (List.length_filter_le _ _) (by rw [List.length_zipIdx]; exact Nat.le_refl _)
theorem set_len24 {t : Task} (hv : sp_validate t = ⟨0, 0⟩) {s : List Int} (h : sp_isSet s t.facts = true) : s.length ≤ 24 := by
 obtain ⟨f0, f1, _⟩ := TaskOK.rng hv
 have := set_len f0 h
 omega
theorem ok_worlds : ∀ (t : Task) (unknown : List Int), pre_worlds t unknown → F_worlds t unknown (fun r => r = sp_worlds t unknown) := fun t u ⟨hv, hl, hu⟩ => by
 have hpow : (2 : Nat) ^ u.length ≤ 16 := by
  calc 2 ^ u.length ≤ 2 ^ 4 := Nat.pow_le_pow_right (by decide) hl
   _ = 16 := rfl
 unfold F_worlds
 refine ⟨by omega, ?_⟩
 rw [pow_len ⟨u.length, by omega⟩]
 simp only [forall_eq]
 refine ⟨fun t13 out => ∃ m : Nat, t13 = m ∧ m ≤ 2 ^ u.length ∧ out = (List.range m).map fun m => sp_update t.init (maskAdd u m) u, fun t13 _ => ((2 ^ u.length : Nat) - t13).toNat, ⟨0, rfl, Nat.zero_le _, rfl⟩, ?_⟩
 rintro _ _ ⟨m, rfl, m1, rfl⟩
 unfold F_worlds_L1
 simp only [forall_eq, decide_eq_true_eq, decide_eq_false_iff_not]
 have olen : ((List.range m).map fun m => sp_update t.init (maskAdd u m) u).length = m := by rw [List.length_map, List.length_range]
 refine ⟨fun h => ?_, fun h => ⟨⟨by rw [olen]; omega, fun x hx => ?_⟩, ?_⟩⟩
 ·refine ⟨fun t18 add => ∃ i : Nat, t18 = i ∧ i ≤ u.length ∧ add = maskAdd (u.take i) m, fun t18 _ => (u.length - t18).toNat, ⟨0, rfl, Nat.zero_le _, by simp [maskAdd]⟩, ?_⟩
  rintro _ _ ⟨i, rfl, i1, rfl⟩
  unfold F_worlds_L2 F_worlds_J1
  simp only [forall_eq, decide_eq_true_eq, decide_eq_false_iff_not]
  have alen := maskAdd_len (u.take i) m
  rw [List.length_take] at alen
  refine ⟨fun g => ?_, fun g => ?_⟩
  ·have hi : i < u.length := by omega
   rw [mask_bit ⟨m, by omega⟩ ⟨i, by omega⟩, w64 (by omega)]
   have e1 : maskAdd (u.take (i + 1)) m = maskAdd (u.take i) m ++ if m.testBit i = true then [gt u (i : Int)] else [] := by
    rw [takeN_gt hi, maskAdd_snoc, List.length_take, Nat.min_eq_left (by omega)]
   refine ⟨⟨by omega, g⟩, by omega, fun q => ⟨⟨?_, ?_⟩, ⟨i + 1, by omega, by omega, ?_⟩, by omega⟩, fun q => ⟨⟨i + 1, by omega, by omega, ?_⟩, by omega⟩⟩
   ·simp only [List.length_append, List.length_singleton, maxLen]; omega
   ·simp only [List.length_append, List.length_singleton]; omega
   ·rw [e1, if_pos q]
   ·rw [e1, if_neg (by rw [q]; decide), List.append_nil]
  ·rw [List.take_of_length_le (show u.length ≤ i by omega)]
   have := maskAdd_len u m
   refine ⟨⟨by have := set_len24 hv (TaskOK.rng hv).2.2.1; omega, by omega, set_sorted hu, by omega⟩, ⟨?_, ?_⟩, ⟨m + 1, by rw [w64 (by omega)]; omega, by omega, ?_⟩, ?_⟩
   ·rw [List.length_append, olen]; simp only [List.length_singleton, maxLen]; omega
   ·rw [List.length_append, olen]; simp only [List.length_singleton]; omega
   ·rw [List.range_succ, List.map_append]; rfl
   ·rw [w64 (by omega)]; omega
 ·obtain ⟨k, _, rfl⟩ := List.mem_map.1 hx
  have := set_len24 hv (mask_set hv hu k)
  omega
 ·have : m = 2 ^ u.length := by omega
  rw [this]; rfl
theorem ok_bafter : ∀ (t : Task) (worlds : List (List Int)) (op : Int), pre_bafter t worlds op → F_bafter t worlds op (fun r => r = sp_bafter t worlds op) := fun t ws op ⟨hv, hi, hl, hs⟩ => by
 refine ⟨fun t12 out => ∃ k : Nat, t12 = k ∧ k ≤ ws.length ∧ out = (ws.take k).map fun s => sp_after t s op, fun t12 _ => (ws.length - t12).toNat, ⟨0, rfl, Nat.zero_le _, rfl⟩, ?_⟩
 rintro _ _ ⟨k, rfl, k1, rfl⟩
 unfold F_bafter_L1
 simp only [forall_eq, decide_eq_true_eq, decide_eq_false_iff_not]
 have olen : ((ws.take k).map fun s => sp_after t s op).length = k := by rw [List.length_map, List.length_take]; omega
 refine ⟨fun h => ?_, fun h => ⟨⟨by rw [olen]; omega, fun x hx => ?_⟩, ?_⟩⟩
 ·have hk : k < ws.length := by omega
  refine ⟨⟨by omega, h⟩, ⟨hv, hi, hs _ (gt_memN hk)⟩, ⟨?_, ?_⟩, ⟨k + 1, ?_, by omega, ?_⟩, ?_⟩
  ·rw [List.length_append, olen]; simp only [List.length_singleton, maxLen]; omega
  ·rw [List.length_append, olen]; simp only [List.length_singleton]; omega
  ·rw [w64 (by omega)]; omega
  ·rw [takeN_gt hk, List.map_append]; rfl
  ·rw [w64 (by omega)]; omega
 ·obtain ⟨s, _, rfl⟩ := List.mem_map.1 hx
  have := set_len24 hv (after_set (TaskOK.rng hv).1 s op)
  omega
 ·rw [List.take_of_length_le (by omega)]; rfl
theorem pre_sure_of {t : Task} (hv : sp_validate t = ⟨0, 0⟩) {ws : Bel} (hw : WsOK t ws) {facts : List Int} (hf : sp_isSet facts t.facts = true) : pre_sure ws facts :=
 ⟨by have := hw.1; omega, fun s hs => ⟨by have := set_len24 hv (hw.2 s hs); omega, by have := set_len24 hv hf; omega, set_sorted (hw.2 s hs), set_sorted hf⟩⟩
theorem worlds_ok {t : Task} {u : List Int} (h : UOK t u) : WsOK t (sp_worlds t u) := ⟨worlds_len h.2.1, fun _ hs => worlds_set h.1 h.2.2 hs⟩
theorem ok_succ : ∀ (t : Task) (worlds : List (List Int)), F_succ t worlds (fun r => r = sp_succ t worlds) := fun _ _ => rfl
theorem ok_bnext : ∀ (t : Task), F_bnext t (fun r => r = sp_bnext t) := fun _ => rfl
theorem ok_bnext1 : ∀ (worlds : List (List Int)) (x : Task), F_bnext1 worlds x (fun r => r = sp_bnext1 worlds x) := fun _ _ _ _ => rfl
theorem ok_small1 : ∀ (x : List (List Int)), F_small1 x (fun r => r = sp_small1 x) := fun _ => rfl
theorem ok_plan1 : ∀ (w_ : List (List Int)) (x : Task), pre_plan1 w_ x → F_plan1 w_ x (fun r => r = sp_plan1 w_ x) := fun _ _ ⟨hv, hw⟩ => ⟨pre_sure_of hv hw (TaskOK.rng hv).2.2.2, fun _ hr => hr⟩
end Go.Proofs.YtimillpakjgnoaaGreatDoor.Pl

namespace Go.Proofs.YtimillpakjgnoaaGreatDoor.Pl
open Go Go.RowKit
theorem digits_mem (u : Nat) : ∀ c ∈ Lib.decDigits u, 48 ≤ c.toNat ∧ c.toNat ≤ 57 := by
 induction u using Nat.strongRecOn with
 | _ u ih =>
  intro c hc
  have one : ∀ d : Fin 10, 48 ≤ (UInt8.ofNat (48 + d.val)).toNat ∧ (UInt8.ofNat (48 + d.val)).toNat ≤ 57 := by decide
  by_cases h : u < 10
  ·rw [Lib.decDigits, dif_pos h] at hc
   rw [List.mem_singleton.1 hc]
   exact one ⟨u, h⟩
  ·rw [Lib.decDigits, dif_neg h] at hc
   rcases List.mem_append.1 hc with hc | hc
   ·exact ih (u / 10) (by omega) c hc
   ·rw [List.mem_singleton.1 hc]
    exact one ⟨u % 10, by omega⟩
theorem digits_inj (u : Nat) : ∀ v : Nat, Lib.decDigits u = Lib.decDigits v → u = v := by
 have one : ∀ d e : Fin 10, UInt8.ofNat (48 + d.val) = UInt8.ofNat (48 + e.val) → d = e := by decide
 have pos : ∀ v : Nat, Lib.decDigits v ≠ [] := fun v => by
  rw [Lib.decDigits]
  split <;> simp
 induction u using Nat.strongRecOn with
 | _ u ih =>
  intro v h
  by_cases hu : u < 10 <;> by_cases hv : v < 10
  ·rw [Lib.decDigits, dif_pos hu, Lib.decDigits, dif_pos hv] at h
   have := one ⟨u, hu⟩ ⟨v, hv⟩ (List.singleton_inj.1 h)
   exact congrArg Fin.val this
  ·rw [Lib.decDigits, dif_pos hu, Lib.decDigits, dif_neg hv] at h
   have h2 := congrArg List.length h
   have := List.length_pos_iff.2 (pos (v / 10))
   simp only [List.length_append, List.length_singleton] at h2; omega
  ·rw [Lib.decDigits, dif_neg hu] at h
   conv at h => rhs; rw [Lib.decDigits, dif_pos hv]
   have h2 := congrArg List.length h
   have := List.length_pos_iff.2 (pos (u / 10))
   simp only [List.length_append, List.length_singleton] at h2; omega
  ·rw [Lib.decDigits, dif_neg hu] at h
   conv at h => rhs; rw [Lib.decDigits, dif_neg hv]
   obtain ⟨h1, h2⟩ := List.append_inj' h rfl
   have e1 := ih (u / 10) (by omega) (v / 10) h1
   have e2 := congrArg Fin.val (one ⟨u % 10, by omega⟩ ⟨v % 10, by omega⟩ (List.singleton_inj.1 h2))
   simp only at e2
   omega
theorem itoa_mem (x : Int) : ∀ c ∈ Lib.itoa x, c.toNat = 45 ∨ (48 ≤ c.toNat ∧ c.toNat ≤ 57) := fun c hc => by
 unfold Lib.itoa at hc
 split at hc
 ·rcases List.mem_cons.1 hc with rfl | hc
  ·exact .inl rfl
  ·exact .inr (digits_mem _ c hc)
 ·exact .inr (digits_mem _ c hc)
theorem itoa_inj {x y : Int} (h : Lib.itoa x = Lib.itoa y) : x = y := by
 have head : ∀ (u v : Nat), 45 :: Lib.decDigits u ≠ Lib.decDigits v := fun u v e => by
  have := digits_mem v 45 (e ▸ List.mem_cons_self)
  exact absurd this.1 (by decide)
 unfold Lib.itoa at h
 split at h <;> split at h
 ·have := digits_inj _ _ (List.cons.inj h).2; omega
 ·exact absurd h (head _ _)
 ·exact absurd h.symm (head _ _)
 ·have := digits_inj _ _ h; omega
theorem itoa_ne (x : Int) {c : UInt8} (h : c.toNat = 44 ∨ 58 ≤ c.toNat) : c ∉ Lib.itoa x := fun hc => by
 have := itoa_mem x c hc
 omega
theorem split_at {c : UInt8} : ∀ {p q u v : List UInt8}, c ∉ p → c ∉ q → p ++ c :: u = q ++ c :: v → p = q ∧ u = v
 | [], [], _, _, _, _, h => ⟨rfl, (List.cons.inj h).2⟩
 | [], y :: q, _, _, _, hq, h => absurd ((List.cons.inj h).1 ▸ List.mem_cons_self) hq
 | x :: p, [], _, _, hp, _, h => absurd ((List.cons.inj h).1 ▸ List.mem_cons_self) hp
 | x :: p, y :: q, u, v, hp, hq, h => by
  obtain ⟨h1, h2⟩ := List.cons.inj h
  obtain ⟨h3, h4⟩ := split_at (fun k => hp (List.mem_cons_of_mem _ k)) (fun k => hq (List.mem_cons_of_mem _ k)) h2
  exact ⟨by rw [h1, h3], h4⟩
theorem itoa_pos (x : Int) : Lib.itoa x ≠ [] := by
 unfold Lib.itoa
 split
 ·simp
 ·rw [Lib.decDigits]; split <;> simp
theorem rowL_inj : ∀ {a b : List Int} {r r' : List UInt8}, rowL a ++ 59 :: r = rowL b ++ 59 :: r' → a = b ∧ r = r'
 | [], [], _, _, h => ⟨rfl, (List.cons.inj h).2⟩
 | [], y :: b, r, r', h => by
  have e : rowL (y :: b) = Lib.itoa y ++ (44 :: rowL b) := by simp [rowL]
  rw [e] at h
  cases hi : Lib.itoa y with
  | nil => exact absurd hi (itoa_pos y)
  | cons c q =>
   rw [hi] at h
   have := (List.cons.inj h).1
   exact absurd (hi ▸ this ▸ List.mem_cons_self) (itoa_ne y (c := 59) (by decide))
 | x :: a, [], r, r', h => by
  have e : rowL (x :: a) = Lib.itoa x ++ (44 :: rowL a) := by simp [rowL]
  rw [e] at h
  cases hi : Lib.itoa x with
  | nil => exact absurd hi (itoa_pos x)
  | cons c q =>
   rw [hi] at h
   have := (List.cons.inj h).1
   exact absurd (hi ▸ this ▸ List.mem_cons_self) (itoa_ne x (c := 59) (by decide))
 | x :: a, y :: b, r, r', h => by
  have e1 : rowL (x :: a) = Lib.itoa x ++ (44 :: rowL a) := by simp [rowL]
  have e2 : rowL (y :: b) = Lib.itoa y ++ (44 :: rowL b) := by simp [rowL]
  rw [e1, e2, List.append_assoc, List.append_assoc] at h
  obtain ⟨h1, h2⟩ := split_at (itoa_ne x (by decide)) (itoa_ne y (by decide)) h
  obtain ⟨h3, h4⟩ := rowL_inj (a := a) (b := b) h2
  exact ⟨by rw [itoa_inj h1, h3], h4⟩
theorem keyL_inj : ∀ {a b : Bel}, keyL a = keyL b → a = b
 | [], [], _ => rfl
 | [], s :: b, h => by simp [keyL] at h
 | s :: a, [], h => by simp [keyL] at h
 | s :: a, q :: b, h => by
  have e1 : keyL (s :: a) = rowL s ++ 59 :: keyL a := by simp [keyL]
  have e2 : keyL (q :: b) = rowL q ++ 59 :: keyL b := by simp [keyL]
  rw [e1, e2] at h
  obtain ⟨h1, h2⟩ := rowL_inj h
  rw [h1, keyL_inj h2]
def mapOf (l : List Entry) : List UInt8 → Int := fun k => if k ∈ l.map (fun e => keyL e.node) then 1 else 0
theorem mapOf_pos {l : List Entry} {n : Bel} : 0 < mapOf l (keyL n) ↔ n ∈ l.map (·.node) := by
 unfold mapOf
 constructor
 ·intro h
  split at h
  ·rename_i hm
   obtain ⟨e, he, hk⟩ := List.mem_map.1 hm
   exact List.mem_map.2 ⟨e, he, keyL_inj hk⟩
  ·exact absurd h (by decide)
 ·intro h
  obtain ⟨e, he, hk⟩ := List.mem_map.1 h
  rw [if_pos (List.mem_map.2 ⟨e, he, by rw [hk]⟩)]
  decide
theorem mapOf_push (l : List Entry) (e : Entry) : upd (mapOf l) (keyL e.node) 1 = mapOf (l ++ [e]) := by
 funext k
 unfold upd mapOf
 rw [List.map_append]
 by_cases h : k = keyL e.node
 ·rw [if_pos h, if_pos (by simp [h])]
 ·rw [if_neg h]
  simp [h]
theorem mapOf_one (e : Entry) : upd (fun _ => 0) (keyL e.node) 1 = mapOf [e] := by
 funext k
 unfold upd mapOf
 by_cases h : k = keyL e.node
 ·rw [if_pos h, if_pos (by simp [h])]
 ·rw [if_neg h, if_neg (by simp [h])]
theorem key_ok {t : Task} (hv : sp_validate t = ⟨0, 0⟩) {ws : Bel} (hw : WsOK t ws) : pre_key ws := by
 obtain ⟨f0, f1, _⟩ := TaskOK.rng hv
 refine ⟨by have := hw.1; omega, fun s hs => ⟨by have := set_len24 hv (hw.2 s hs); omega, fun x hx => ?_⟩⟩
 have := set_rng (hw.2 s hs) x hx
 omega
theorem bafter_ok {t : Task} (hv : sp_validate t = ⟨0, 0⟩) {ws : Bel} (hw : WsOK t ws) (op : Int) : WsOK t (sp_bafter t ws op) :=
 ⟨Nat.le_trans (bafter_len t ws op) hw.1, fun _ hs => bafter_set hv hs⟩
def opS (t : Task) (ws : Bel) (op : Int) : Option (Int × Bel) := if sp_sure ws (gt t.ops op).pre = true then some (op, sp_bafter t ws op) else none
theorem bsucc_def (t : Task) (ws : Bel) : bsucc t ws = (allS t.ops.length).filterMap (opS t ws) := rfl
theorem mem_bsucc {t : Task} {ws : Bel} {x : Int × Bel} : x ∈ bsucc t ws ↔ inb t.ops x.1 ∧ sp_sure ws (gt t.ops x.1).pre = true ∧ x.2 = sp_bafter t ws x.1 := by
 rw [bsucc_def, List.mem_filterMap]
 constructor
 ·rintro ⟨op, h1, h2⟩
  unfold opS at h2
  split at h2
  ·rename_i hs
   obtain rfl := Option.some.inj h2
   obtain ⟨a, b⟩ := mem_allS.1 h1
   exact ⟨⟨a, b⟩, hs, rfl⟩
  ·cases h2
 ·rintro ⟨h1, h2, h3⟩
  refine ⟨x.1, mem_allS.2 ⟨h1.1, h1.2⟩, ?_⟩
  unfold opS
  rw [if_pos h2, ← h3]
theorem allS_drop {n j : Nat} (h : j < n) : (allS n).drop j = (j : Int) :: (allS n).drop (j + 1) := by
 have hl : j < (allS n).length := by rw [allS_len]; exact h
 rw [List.drop_eq_getElem_cons hl]
 congr 1
 simp [allS]
theorem backR_len (q : List Entry) : ∀ (k : Nat) (i : Int), (backR q k i).length ≤ k
 | 0, _ => Nat.le_refl _
 | k + 1, i => by
  rw [backR]
  split
  ·split
   ·simp
   ·have := backR_len q k (by assumption : Entry).from_
    simp; omega
  ·simp
structure QOK (t : Task) (start : Bel) (l : List Entry) (m : List UInt8 → Int) : Prop where
 map : m = mapOf l
 shape : Shape (bsucc t) start l
 len : l.length ≤ 2000
 ok : ∀ e ∈ l, WsOK t e.node
theorem QOK.start {t : Task} {start : Bel} (h : WsOK t start) : QOK t start [⟨start, -1, 0⟩] (upd (fun _ => 0) (keyL start) 1) :=
 ⟨mapOf_one ⟨start, -1, 0⟩, Shape.start _ _, by simp, fun e he => by rw [List.mem_singleton.1 he]; exact h⟩
theorem QOK.push {t : Task} {start : Bel} {l : List Entry} {m : List UInt8 → Int} (h : QOK t start l m) {i : Nat} {e : Entry} (hi : l[i]? = some e) {s : Int} {n : Bel} (hs : (s, n) ∈ bsucc t e.node) (hn : n ∉ l.map (·.node)) (hw : WsOK t n) (hl : l.length ≠ 2000) : QOK t start (l ++ [⟨n, (i : Int), s⟩]) (upd m (keyL n) 1) := by
 refine ⟨by rw [h.map]; exact mapOf_push l ⟨n, (i : Int), s⟩, h.shape.push hi hs hn, by have := h.len; simp; omega, fun e' he' => ?_⟩
 rcases List.mem_append.1 he' with he' | he'
 ·exact h.ok e' he'
 ·rw [List.mem_singleton.1 he']; exact hw
theorem entry_gt {l : List Entry} {i : Nat} (h : i < l.length) : l[i]? = some (gt l (i : Int)) := by
 have := gt_get (xs := l) (i := (i : Int)) ⟨by omega, by omega⟩
 rwa [Int.toNat_natCast] at this
theorem ok_breadthS : ∀ (start2 : List (List Int)) (x : Task), pre_breadthS start2 x → F_breadthS start2 x (fun r => r = sp_breadthS start2 x) := fun start t hp => by
 obtain ⟨hv, hw⟩ := hp
 have hops := (taskOK_of hv).len
 refine ⟨key_ok hv hw, ?_⟩
 simp only [forall_eq, sp_key]
 refine ⟨fun x2 l m => ∃ i : Nat, x2 = i ∧ i ≤ l.length ∧ QOK t start l m ∧ bfs (bsucc t) (fun _ => false) (2001 - i) l i = search (bsucc t) (fun _ => false) start, fun x2 _ _ => (2001 - x2).toNat, ⟨0, rfl, Nat.zero_le _, QOK.start hw, rfl⟩, ?_⟩
 rintro _ l m ⟨i, rfl, i1, hq, hb⟩
 have hlen := hq.len
 have ef : 2001 - i = (2000 - i) + 1 := by omega
 unfold F_breadthS_L1
 simp only [forall_eq, decide_eq_true_eq, decide_eq_false_iff_not]
 refine ⟨fun h => ?_, fun h => ?_⟩
 ·have hi : i < l.length := by omega
  have hg := entry_gt hi
  have hwn := hq.ok _ (gt_memN hi)
  rw [ef, bfs] at hb
  simp only [hg] at hb
  refine ⟨⟨by omega, h⟩, fun e => absurd e Bool.false_ne_true, fun _ _ _ => ?_⟩
  ·rw [if_neg Bool.false_ne_true] at hb
   refine ⟨fun t9 l4 m3 => ∃ j : Nat, t9 = j ∧ j ≤ t.ops.length ∧ QOK t start l4 m3 ∧ (∃ r, l4 = l ++ r) ∧ expand (i : Int) (((allS t.ops.length).drop j).filterMap (opS t (gt l (i : Int)).node)) l4 = expand (i : Int) (bsucc t (gt l (i : Int)).node) l, fun t9 _ _ => (t.ops.length - t9).toNat, ⟨0, rfl, Nat.zero_le _, hq, ⟨[], by simp⟩, rfl⟩, ?_⟩
   rintro _ l4 m3 ⟨j, rfl, j1, hq4, ⟨r, rfl⟩, he⟩
   have hlen4 := hq4.len
   have hi4 : (l ++ r)[i]? = some (gt l (i : Int)) := by rw [List.getElem?_append_left hi]; exact hg
   unfold F_breadthS_L3 F_breadthS_J1
   simp only [forall_eq, decide_eq_true_eq, decide_eq_false_iff_not, beq_iff_eq, beq_eq_false_iff_ne, ne_eq, sp_key]
   refine ⟨fun g => ?_, fun g => ?_⟩
   ·have hj : j < t.ops.length := by omega
    have hin : inb t.ops (j : Int) := ⟨by omega, g⟩
    rw [allS_drop hj, List.filterMap_cons] at he
    rw [w64 (n := (j : Int) + 1) (by omega)]
    refine ⟨hin, pre_sure_of hv hwn ((taskOK_of hv).op hin).1, fun q => ?_, fun q => ?_⟩
    ·have eo : opS t (gt l (i : Int)).node (j : Int) = some ((j : Int), sp_bafter t (gt l (i : Int)).node (j : Int)) := by rw [opS, if_pos q]
     rw [eo] at he
     simp only [expand] at he
     have hwb := bafter_ok hv hwn (j : Int)
     refine ⟨⟨hv, hin, hwn⟩, key_ok hv hwb, fun k => ?_, fun k => ?_⟩
     ·rw [hq4.map, mapOf_pos] at k
      rw [if_pos k] at he
      exact ⟨⟨j + 1, by omega, by omega, hq4, ⟨r, rfl⟩, he⟩, by omega⟩
     ·rw [hq4.map, mapOf_pos] at k
      rw [if_neg k] at he
      refine ⟨fun e => ?_, fun e => ?_⟩
      ·rw [if_pos (by omega)] at he
       rw [← he] at hb
       exact hb
      ·have hne : ¬ (l ++ r).length = 2000 := by omega
       rw [if_neg hne] at he
       have hps := hq4.push hi4 (mem_bsucc.2 ⟨hin, q, rfl⟩) k hwb hne
       have hl5 := hps.len
       exact ⟨⟨Nat.le_trans hl5 (by decide), Nat.le_trans (Nat.mul_le_mul_right 40 hl5) (by decide)⟩, ⟨j + 1, by omega, by omega, hps, ⟨r ++ [_], by rw [List.append_assoc]⟩, he⟩, by omega⟩
    ·have eo : opS t (gt l (i : Int)).node (j : Int) = none := by rw [opS, if_neg (by rw [q]; decide)]
     rw [eo] at he
     exact ⟨⟨j + 1, by omega, by omega, hq4, ⟨r, rfl⟩, he⟩, by omega⟩
   ·have ed : (allS t.ops.length).drop j = [] := List.drop_eq_nil_of_le (by rw [allS_len]; omega)
    rw [ed, List.filterMap_nil, expand] at he
    rw [← he] at hb
    rw [w64 (n := (i : Int) + 1) (by omega)]
    refine ⟨⟨i + 1, by omega, by rw [List.length_append]; omega, hq4, ?_⟩, by omega⟩
    rw [show 2001 - (i + 1) = 2000 - i by omega]
    exact hb
 ·have hn : l[i]? = none := List.getElem?_eq_none (by omega)
  rw [ef, bfs] at hb
  simp only [hn] at hb
  exact hb
theorem ok_breadthP : ∀ (start2 : List (List Int)) (x : Task) (x2 : Task), pre_breadthP start2 x x2 → F_breadthP start2 x x2 (fun r => r = sp_breadthP start2 x x2) := fun start t t2 hp => by
 obtain ⟨hv, hw, he2⟩ := hp
 obtain rfl := he2.symm
 have hops := (taskOK_of hv).len
 refine ⟨key_ok hv hw, ?_⟩
 simp only [forall_eq, sp_key]
 refine ⟨fun x2 l m => ∃ i : Nat, x2 = i ∧ i ≤ l.length ∧ QOK t start l m ∧ bfs (bsucc t) (fun w => sp_sure w t.goal) (2001 - i) l i = search (bsucc t) (fun w => sp_sure w t.goal) start, fun x2 _ _ => (2001 - x2).toNat, ⟨0, rfl, Nat.zero_le _, QOK.start hw, rfl⟩, ?_⟩
 rintro _ l m ⟨i, rfl, i1, hq, hb⟩
 have hlen := hq.len
 have ef : 2001 - i = (2000 - i) + 1 := by omega
 unfold F_breadthP_L1
 simp only [forall_eq, decide_eq_true_eq, decide_eq_false_iff_not]
 refine ⟨fun h => ?_, fun h => ?_⟩
 ·have hi : i < l.length := by omega
  have hg := entry_gt hi
  have hwn := hq.ok _ (gt_memN hi)
  rw [ef, bfs] at hb
  simp only [hg] at hb
  refine ⟨⟨by omega, h⟩, ⟨hv, hwn⟩, fun e => ?_, fun e _ _ => ?_⟩
  ·rw [if_pos (show sp_sure (gt l (i : Int)).node t.goal = true from e)] at hb
   have hbl := backR_len l (i + 1) i
   refine ⟨fun p out => ∃ j : Nat, p = j ∧ j < l.length ∧ out ++ backR l (j + 1) j = backR l (i + 1) i, fun p _ => p.toNat, ⟨i, rfl, hi, rfl⟩, ?_⟩
   rintro _ out ⟨j, rfl, j1, hj⟩
   have hgj := entry_gt j1
   have ol := congrArg List.length hj
   rw [List.length_append] at ol
   unfold F_breadthP_L2
   simp only [forall_eq, decide_eq_true_eq, decide_eq_false_iff_not]
   have e0 : l[((j : Nat) : Int).toNat]? = some (gt l (j : Int)) := by simpa using hgj
   rw [backR] at hj
   simp only [e0] at hj
   refine ⟨⟨by omega, by omega⟩, fun f => ?_, fun f => ?_⟩
   ·rw [if_neg (by omega)] at hj
    have h0 : 0 < j := Nat.pos_of_ne_zero fun e => by
     subst e
     have h1 := hq.shape.head
     rw [hgj] at h1
     rw [Option.some.inj h1] at f
     exact absurd f (show ¬ (0 : Int) ≤ -1 by decide)
    obtain ⟨k, u, k1, k2, k3, _⟩ := hq.shape.link j _ hgj h0
    have k4 := (List.getElem?_eq_some_iff.1 k3).1
    rw [k1, backR_fuel hq.shape k j k4 k2] at hj
    rw [k1]
    refine ⟨⟨?_, ?_⟩, ⟨k, rfl, k4, by rw [List.append_assoc]; exact hj⟩, by omega⟩
    ·simp only [List.length_append, List.length_singleton, maxLen]; omega
    ·simp only [List.length_append, List.length_singleton]; omega
   ·rw [if_pos (by omega), List.append_nil] at hj
    refine ⟨by unfold pre_reverse; omega, ?_⟩
    rw [hj]
    exact hb
  ·rw [if_neg (by rw [show sp_sure (gt l (i : Int)).node t.goal = false from e]; decide)] at hb
   refine ⟨fun t9 l4 m3 => ∃ j : Nat, t9 = j ∧ j ≤ t.ops.length ∧ QOK t start l4 m3 ∧ (∃ r, l4 = l ++ r) ∧ expand (i : Int) (((allS t.ops.length).drop j).filterMap (opS t (gt l (i : Int)).node)) l4 = expand (i : Int) (bsucc t (gt l (i : Int)).node) l, fun t9 _ _ => (t.ops.length - t9).toNat, ⟨0, rfl, Nat.zero_le _, hq, ⟨[], by simp⟩, rfl⟩, ?_⟩
   rintro _ l4 m3 ⟨j, rfl, j1, hq4, ⟨r, rfl⟩, he⟩
   have hlen4 := hq4.len
   have hi4 : (l ++ r)[i]? = some (gt l (i : Int)) := by rw [List.getElem?_append_left hi]; exact hg
   unfold F_breadthP_L3 F_breadthP_J1
   simp only [forall_eq, decide_eq_true_eq, decide_eq_false_iff_not, beq_iff_eq, beq_eq_false_iff_ne, ne_eq, sp_key]
   refine ⟨fun g => ?_, fun g => ?_⟩
   ·have hj : j < t.ops.length := by omega
    have hin : inb t.ops (j : Int) := ⟨by omega, g⟩
    rw [allS_drop hj, List.filterMap_cons] at he
    rw [w64 (n := (j : Int) + 1) (by omega)]
    refine ⟨hin, pre_sure_of hv hwn ((taskOK_of hv).op hin).1, fun q => ?_, fun q => ?_⟩
    ·have eo : opS t (gt l (i : Int)).node (j : Int) = some ((j : Int), sp_bafter t (gt l (i : Int)).node (j : Int)) := by rw [opS, if_pos q]
     rw [eo] at he
     simp only [expand] at he
     have hwb := bafter_ok hv hwn (j : Int)
     refine ⟨⟨hv, hin, hwn⟩, key_ok hv hwb, fun k => ?_, fun k => ?_⟩
     ·rw [hq4.map, mapOf_pos] at k
      rw [if_pos k] at he
      exact ⟨⟨j + 1, by omega, by omega, hq4, ⟨r, rfl⟩, he⟩, by omega⟩
     ·rw [hq4.map, mapOf_pos] at k
      rw [if_neg k] at he
      refine ⟨fun e => ?_, fun e => ?_⟩
      ·rw [if_pos (by omega)] at he
       rw [← he] at hb
       exact hb
      ·have hne : ¬ (l ++ r).length = 2000 := by omega
       rw [if_neg hne] at he
       have hps := hq4.push hi4 (mem_bsucc.2 ⟨hin, q, rfl⟩) k hwb hne
       have hl5 := hps.len
       exact ⟨⟨Nat.le_trans hl5 (by decide), Nat.le_trans (Nat.mul_le_mul_right 40 hl5) (by decide)⟩, ⟨j + 1, by omega, by omega, hps, ⟨r ++ [_], by rw [List.append_assoc]⟩, he⟩, by omega⟩
    ·have eo : opS t (gt l (i : Int)).node (j : Int) = none := by rw [opS, if_neg (by rw [q]; decide)]
     rw [eo] at he
     exact ⟨⟨j + 1, by omega, by omega, hq4, ⟨r, rfl⟩, he⟩, by omega⟩
   ·have ed : (allS t.ops.length).drop j = [] := List.drop_eq_nil_of_le (by rw [allS_len]; omega)
    rw [ed, List.filterMap_nil, expand] at he
    rw [← he] at hb
    rw [w64 (n := (i : Int) + 1) (by omega)]
    refine ⟨⟨i + 1, by omega, by rw [List.length_append]; omega, hq4, ?_⟩, by omega⟩
    rw [show 2001 - (i + 1) = 2000 - i by omega]
    exact hb
 ·have hn : l[i]? = none := List.getElem?_eq_none (by omega)
  rw [ef, bfs] at hb
  simp only [hn] at hb
  exact hb
theorem ok_small : ∀ (start2 : List (List Int)) (x : Task), pre_small start2 x → F_small start2 x (fun r => r = sp_small start2 x) := fun _ _ hp => ⟨hp, fun r hr => by rw [hr]; rfl⟩
theorem ok_bplan : ∀ (t : Task) (unknown : List Int), F_bplan t unknown (fun r => r = sp_bplan t unknown) := fun t u => by
 unfold F_bplan sp_bplan
 simp only [forall_eq, fault_ne, fault_eq]
 refine ⟨fun h => by rw [if_neg h], fun h => ?_⟩
 have hu := unknown_ok h
 have hw := worlds_ok hu
 rw [if_pos h]
 simp only [decide_eq_true_eq, decide_eq_false_iff_not, Bool.not_eq_true', Bool.not_eq_false']
 refine fun _ _ => ⟨hu, ⟨hu.1, hw⟩, fun g => by rw [if_neg (by rw [g]; decide)], fun g => ?_⟩
 rw [if_pos g]
 exact ⟨⟨hu.1, hw, rfl⟩, fun q => by rw [if_pos (by omega)], fun q => by rw [if_neg (by omega)]⟩
end Go.Proofs.YtimillpakjgnoaaGreatDoor.Pl

namespace Go.Proofs.YtimillpakjgnoaaGreatDoor.Pl
open Go Go.RowKit
theorem ok_word : ∀ (s_ : List Int), pre_word s_ → F_word s_ (fun r => r = sp_word s_) := fun s ⟨hl, h0⟩ => by
 refine ⟨fun w t => ∃ k : Nat, t = k ∧ k ≤ s.length ∧ w = sp_word (s.take k), fun _ t => (s.length - t).toNat, ⟨0, rfl, Nat.zero_le _, rfl⟩, ?_⟩
 rintro w _ ⟨k, rfl, k1, rfl⟩
 unfold F_word_L1
 simp only [decide_eq_true_eq, decide_eq_false_iff_not, forall_eq]
 refine ⟨fun h => ?_, fun h => ?_⟩
 ·have hk : k < s.length := by omega
  rw [w64 (by omega)]
  refine ⟨⟨by omega, h⟩, h0 _ (gt_memN hk), ⟨k + 1, by omega, by omega, ?_⟩, by omega⟩
  rw [takeN_gt hk, sp_word, sp_word, List.foldl_append]
  rfl
 ·rw [List.take_of_length_le (by omega)]
theorem ok_facts : ∀ (w_ : Int), pre_facts w_ → F_facts w_ (fun r => r = sp_facts w_) := fun w _ => by
 refine ⟨fun t out => ∃ k : Nat, t = k ∧ k ≤ 32 ∧ out = (allS k).filter fun p => bits .and .u32 (Int.fdiv w (2 ^ (min p.toNat (IntKind.bits .u32)))) 1 == 1, fun t _ => (32 - t).toNat, ⟨0, rfl, Nat.zero_le _, rfl⟩, ?_⟩
 rintro _ out ⟨k, rfl, k1, k2⟩
 have hlen : out.length ≤ k := by
  rw [k2]
  exact Nat.le_trans (List.length_filter_le _ _) (by rw [allS_len]; exact Nat.le_refl _)
 unfold F_facts_L1 F_facts_J1
 simp only [decide_eq_true_eq, decide_eq_false_iff_not, forall_eq, List.length_append, List.length_singleton]
 refine ⟨fun h => ?_, fun h => ?_⟩
 ·rw [w64 (by omega)]
  refine ⟨by omega, fun q => ⟨⟨by simp only [maxLen]; omega, by omega⟩, ⟨k + 1, by omega, by omega, ?_⟩, by omega⟩, fun q => ⟨⟨k + 1, by omega, by omega, ?_⟩, by omega⟩⟩
  ·rw [allS_succ, List.filter_append, ← k2, filter1_pos (p := fun p => bits .and .u32 (Int.fdiv w (2 ^ (min p.toNat (IntKind.bits .u32)))) 1 == 1) q]
  ·rw [allS_succ, List.filter_append, ← k2, filter1_neg (p := fun p => bits .and .u32 (Int.fdiv w (2 ^ (min p.toNat (IntKind.bits .u32)))) 1 == 1) q, List.append_nil]
 ·have hk : k = 32 := by omega
  subst hk
  exact k2
theorem facts_len (w : Int) : (sp_facts w).length ≤ 32 := Nat.le_trans (List.length_filter_le _ _) (by rw [allS_len]; exact Nat.le_refl _)
theorem ok_wcmp : ∀ (a : Int) (b : Int), pre_wcmp a b → F_wcmp a b (fun r => r = sp_wcmp a b) := fun a b _ => by
 refine ⟨trivial, fun r2 h2 => ⟨trivial, fun r3 h3 => ⟨?_, fun r4 h4 => ?_⟩⟩⟩
 ·subst h2; subst h3
  have := facts_len a
  have := facts_len b
  exact ⟨by omega, by omega⟩
 ·rw [h4, h2, h3]; rfl
theorem or32 (a b : Nat) (ha : a < 4294967296) (hb : b < 4294967296) : bits .or .u32 (a : Int) (b : Int) = ((a ||| b : Nat) : Int) ∧ a ||| b < 4294967296 := by
 have hx : a ||| b < 2 ^ 32 := Nat.or_lt_two_pow (by omega) (by omega)
 have h1 : (BitVec.ofInt 32 (a : Int)).toNat = a := by
  rw [BitVec.ofInt_natCast, BitVec.toNat_ofNat]; exact Nat.mod_eq_of_lt (by omega)
 have h2 : (BitVec.ofInt 32 (b : Int)).toNat = b := by
  rw [BitVec.ofInt_natCast, BitVec.toNat_ofNat]; exact Nat.mod_eq_of_lt (by omega)
 refine ⟨?_, by omega⟩
 show IntKind.u32.wrap ((BitVec.ofInt 32 (a : Int) ||| BitVec.ofInt 32 (b : Int)).toNat : Int) = _
 rw [BitVec.toNat_or, h1, h2, IntKind.wrap_u32]; omega
theorem and32 (a b : Nat) (ha : a < 4294967296) (hb : b < 4294967296) : bits .and .u32 (a : Int) (b : Int) = ((a &&& b : Nat) : Int) ∧ a &&& b < 4294967296 := by
 have hx : a &&& b < 2 ^ 32 := Nat.and_lt_two_pow _ (by omega)
 have h1 : (BitVec.ofInt 32 (a : Int)).toNat = a := by
  rw [BitVec.ofInt_natCast, BitVec.toNat_ofNat]; exact Nat.mod_eq_of_lt (by omega)
 have h2 : (BitVec.ofInt 32 (b : Int)).toNat = b := by
  rw [BitVec.ofInt_natCast, BitVec.toNat_ofNat]; exact Nat.mod_eq_of_lt (by omega)
 refine ⟨?_, by omega⟩
 show IntKind.u32.wrap ((BitVec.ofInt 32 (a : Int) &&& BitVec.ofInt 32 (b : Int)).toNat : Int) = _
 rw [BitVec.toNat_and, h1, h2, IntKind.wrap_u32]; omega
theorem andNot32 (a b : Nat) : ∃ c : Nat, bits .andNot .u32 (a : Int) (b : Int) = (c : Int) ∧ c < 4294967296 ∧ ∀ i, i < 32 → c.testBit i = (a.testBit i && !b.testBit i) := by
 have h1 : (BitVec.ofInt 32 (a : Int)) = BitVec.ofNat 32 a := BitVec.ofInt_natCast 32 a
 have h2 : (BitVec.ofInt 32 (b : Int)) = BitVec.ofNat 32 b := BitVec.ofInt_natCast 32 b
 have hlt := (BitVec.ofNat 32 a &&& ~~~(BitVec.ofNat 32 b)).isLt
 refine ⟨(BitVec.ofNat 32 a &&& ~~~(BitVec.ofNat 32 b)).toNat, ?_, by omega, fun i hi => ?_⟩
 ·show IntKind.u32.wrap ((BitVec.ofInt 32 (a : Int) &&& ~~~(BitVec.ofInt 32 (b : Int))).toNat : Int) = _
  rw [h1, h2, IntKind.wrap_u32]; omega
 ·rw [BitVec.testBit_toNat, BitVec.getLsbD_and, BitVec.getLsbD_not, BitVec.getLsbD_ofNat, BitVec.getLsbD_ofNat]
  simp [hi]
structure Wd (w : Int) (s : Int → Prop) : Prop where
 ex : ∃ n : Nat, w = (n : Int) ∧ n < 4294967296 ∧ ∀ i : Nat, i < 32 → (n.testBit i = true ↔ s (i : Int))
theorem Wd.u32 {w : Int} {s : Int → Prop} (h : Wd w s) : U32 w := by
 obtain ⟨n, rfl, n1, _⟩ := h.ex
 exact ⟨by omega, by omega⟩
theorem Wd.unique {w w' : Int} {s : Int → Prop} (h : Wd w s) (h' : Wd w' s) : w = w' := by
 obtain ⟨n, rfl, n1, n2⟩ := h.ex
 obtain ⟨m, rfl, m1, m2⟩ := h'.ex
 congr 1
 refine Nat.eq_of_testBit_eq fun i => ?_
 by_cases hi : i < 32
 ·have a := n2 i hi
  have b := m2 i hi
  cases hx : n.testBit i <;> cases hy : m.testBit i <;> simp_all
 ·have h32 : 2 ^ 32 ≤ 2 ^ i := Nat.pow_le_pow_right (by omega) (by omega)
  rw [Nat.testBit_lt_two_pow (by omega), Nat.testBit_lt_two_pow (by omega)]
theorem Wd.iff {w : Int} {s s' : Int → Prop} (h : Wd w s) (e : ∀ i : Nat, i < 32 → (s (i : Int) ↔ s' (i : Int))) : Wd w s' := by
 obtain ⟨n, n0, n1, n2⟩ := h.ex
 exact ⟨n, n0, n1, fun i hi => (n2 i hi).trans (e i hi)⟩
theorem Wd.inj {w : Int} {s s' : Int → Prop} (h : Wd w s) (h' : Wd w s') : ∀ i : Nat, i < 32 → (s (i : Int) ↔ s' (i : Int)) := fun i hi => by
 obtain ⟨n, rfl, n1, n2⟩ := h.ex
 obtain ⟨m, m0, m1, m2⟩ := h'.ex
 obtain rfl : n = m := by omega
 rw [← n2 i hi, ← m2 i hi]
theorem Wd.or {a b : Int} {s s' : Int → Prop} (h : Wd a s) (h' : Wd b s') : Wd (bits .or .u32 a b) (fun p => s p ∨ s' p) := by
 obtain ⟨n, rfl, n1, n2⟩ := h.ex
 obtain ⟨m, rfl, m1, m2⟩ := h'.ex
 obtain ⟨o1, o2⟩ := or32 n m n1 m1
 exact ⟨n ||| m, o1, o2, fun i hi => by rw [Nat.testBit_or, Bool.or_eq_true, n2 i hi, m2 i hi]⟩
theorem Wd.and {a b : Int} {s s' : Int → Prop} (h : Wd a s) (h' : Wd b s') : Wd (bits .and .u32 a b) (fun p => s p ∧ s' p) := by
 obtain ⟨n, rfl, n1, n2⟩ := h.ex
 obtain ⟨m, rfl, m1, m2⟩ := h'.ex
 obtain ⟨o1, o2⟩ := and32 n m n1 m1
 exact ⟨n &&& m, o1, o2, fun i hi => by rw [Nat.testBit_and, Bool.and_eq_true, n2 i hi, m2 i hi]⟩
theorem Wd.andNot {a b : Int} {s s' : Int → Prop} (h : Wd a s) (h' : Wd b s') : Wd (bits .andNot .u32 a b) (fun p => s p ∧ ¬ s' p) := by
 obtain ⟨n, rfl, n1, n2⟩ := h.ex
 obtain ⟨m, rfl, m1, m2⟩ := h'.ex
 obtain ⟨c, c1, c2, c3⟩ := andNot32 n m
 refine ⟨c, c1, c2, fun i hi => ?_⟩
 have := m2 i hi
 rw [c3 i hi, Bool.and_eq_true, n2 i hi]
 cases hb : m.testBit i <;> simp_all
theorem Wd.sub {a b : Int} {s s' : Int → Prop} (h : Wd a s) (h' : Wd b s') : (bits .and .u32 a b == b) = true ↔ ∀ i : Nat, i < 32 → s' (i : Int) → s (i : Int) := by
 rw [beq_iff_eq]
 constructor
 ·intro e i hi hs
  have hx := h.and h'
  rw [e] at hx
  exact ((hx.inj h' i hi).2 hs).1
 ·intro g
  exact Wd.unique (h.and h') (h'.iff fun i hi => ⟨fun q => ⟨g i hi q, q⟩, fun q => q.2⟩)
theorem mem_facts {w : Int} {s : Int → Prop} (h : Wd w s) {p : Int} : p ∈ sp_facts w ↔ (0 ≤ p ∧ p < 32) ∧ s p := by
 obtain ⟨n, rfl, n1, n2⟩ := h.ex
 unfold sp_facts
 rw [List.mem_filter, mem_allS]
 refine and_congr_right fun hp => ?_
 obtain ⟨k, rfl⟩ : ∃ k : Nat, p = k := ⟨p.toNat, by omega⟩
 have hk : k < 32 := by have := hp.2; omega
 have e1 : min ((k : Int)).toNat (IntKind.bits .u32) = k := by
  rw [Int.toNat_natCast]; show min k 32 = k; omega
 have e2 : Int.fdiv (n : Int) (2 ^ k) = ((n / 2 ^ k : Nat) : Int) := by
  rw [Int.fdiv_eq_ediv_of_nonneg _ (Int.le_of_lt (Int.pow_pos (by decide)))]
  simp
 have e3 : n / 2 ^ k ≤ n := Nat.div_le_self _ _
 have e4 := (and32 (n / 2 ^ k) 1 (by omega) (by omega)).1
 rw [show ((1 : Nat) : Int) = 1 from rfl] at e4
 rw [e1, e2, e4, ← n2 k hk, Nat.and_one_is_mod, Nat.testBit_eq_decide_div_mod_eq, beq_iff_eq, decide_eq_true_eq]
 omega
theorem pushW_spec : ∀ (r : List (Int × Int)) (z : List Int × List (Int × Unit)), (∃ l, (pushW r z).1 = z.1 ++ l ∧ (pushW r z).2.length = z.2.length + l.length) ∧ (∀ x, x ∈ (pushW r z).2.map (·.1) → x ∈ z.2.map (·.1) ∨ x ∈ (pushW r z).1) ∧ (∀ x, x ∈ z.2.map (·.1) → x ∈ (pushW r z).2.map (·.1)) ∧ (∀ x ∈ r, x.2 ∈ (pushW r z).2.map (·.1)) ∧ (pushW r z).2.length ≤ z.2.length + r.length
 | [], z => ⟨⟨[], by simp [pushW], rfl⟩, fun _ h => .inl h, fun _ h => h, fun _ h => (by cases h), Nat.le_refl _⟩
 | x :: r, z => by
  rw [pushW]
  split
  ·rename_i hx
   obtain ⟨h1, h2, h3, h4, h5⟩ := pushW_spec r z
   refine ⟨h1, h2, h3, fun y hy => ?_, by simp; omega⟩
   rcases List.mem_cons.1 hy with rfl | hy
   ·exact h3 _ (getA_some.1 hx)
   ·exact h4 y hy
  ·rename_i hx
   obtain ⟨⟨l, g1, g2⟩, h2, h3, h4, h5⟩ := pushW_spec r (z.1 ++ [x.2], setA z.2 x.2 ())
   have hn : getA z.2 x.2 = none := by
    cases h : getA z.2 x.2 with
    | none => rfl
    | some v => rw [h] at hx; exact absurd rfl hx
   have hs := setA_new (v := ()) hn
   rw [hs] at g1 g2 h2 h3 h4 h5 ⊢
   simp only [List.length_append, List.length_singleton] at g2 h5
   refine ⟨⟨x.2 :: l, by rw [g1]; simp, by simp; omega⟩, fun y hy => ?_, fun y hy => ?_, fun y hy => ?_, by simp; omega⟩
   ·rcases h2 y hy with q | q
    ·rw [List.map_append, List.mem_append] at q
     rcases q with q | q
     ·exact .inl q
     ·simp at q
      refine .inr ?_
      rw [g1, q]; simp
    ·exact .inr q
   ·exact h3 y (by rw [List.map_append]; exact List.mem_append_left _ hy)
   ·rcases List.mem_cons.1 hy with rfl | hy
    ·exact h3 _ (by rw [List.map_append]; exact List.mem_append_right _ (by simp))
    ·exact h4 y hy
theorem last_takeW {l : List Int} (h : 0 < l.length) : l.getLast? = some (gt l ((l.length : Int) - 1)) ∧ l.take ((l.length : Int) - 1).toNat = l.dropLast := by
 have e : ((l.length : Int) - 1).toNat = l.length - 1 := by omega
 refine ⟨?_, by rw [e, List.dropLast_eq_take]⟩
 rw [List.getLast?_eq_getElem?]
 have := gt_get (xs := l) (i := (l.length : Int) - 1) ⟨by omega, by omega⟩
 rw [e] at this
 exact this
theorem ok_all : ∀ (x : WordsT), pre_all x → F_all x (fun r => r = sp_all x) := fun W hp => by
 have hops : W.ops.length ≤ 40 := hp
 intro m hm
 rw [show m = [(W.start, ())] from hm]
 refine ⟨fun out l m => out.length + l.length = m.length ∧ m.length ≤ 2000 ∧ dfs W (2001 - out.length) l m out = sp_all W, fun out _ _ => 2001 - out.length, ⟨rfl, by simp, rfl⟩, ?_⟩
 rintro out l m ⟨h1, h2, h3⟩
 unfold F_all_L1
 simp only [decide_eq_true_eq, decide_eq_false_iff_not, forall_eq, List.length_append, List.length_singleton]
 refine ⟨fun h => ?_, fun h => ?_⟩
 ·have hl : 0 < l.length := by omega
  obtain ⟨g1, g2⟩ := last_takeW hl
  rw [w64 (by omega), g2]
  have hdl : l.dropLast.length = l.length - 1 := List.length_dropLast
  rw [show 2001 - out.length = (2000 - out.length) + 1 by omega, dfs] at h3
  simp only [g1] at h3
  obtain ⟨⟨lx, p1, p2⟩, _, _, _, p5⟩ := pushW_spec (wsucc W (gt l ((l.length : Int) - 1))) (l.dropLast, m)
  refine ⟨⟨by omega, by omega⟩, ⟨by omega, by omega⟩, ⟨by simp only [maxLen]; omega, by omega⟩, ?_⟩
  refine ⟨fun t l4 m4 => ∃ j : Nat, t = j ∧ j ≤ W.ops.length ∧ l4.length + (out.length + 1) = m4.length ∧ m4.length ≤ m.length + j ∧ pushW (((allS W.ops.length).drop j).filterMap (wopS W (gt l ((l.length : Int) - 1)))) (l4, m4) = pushW (wsucc W (gt l ((l.length : Int) - 1))) (l.dropLast, m), fun t _ _ => (W.ops.length - t).toNat, ⟨0, rfl, Nat.zero_le _, by omega, Nat.le_refl _, rfl⟩, ?_⟩
  rintro _ l4 m4 ⟨j, rfl, j1, j2, j3, j4⟩
  unfold F_all_L2 F_all_J1
  rw [w64 (n := (l.length : Int) - 1) (by omega)]
  simp only [decide_eq_true_eq, decide_eq_false_iff_not, forall_eq, List.length_append, List.length_singleton, Bool.not_eq_true', Bool.not_eq_false']
  refine ⟨fun g => ?_, fun g => ?_⟩
  ·have hj : j < W.ops.length := by omega
   rw [allS_drop hj, List.filterMap_cons] at j4
   rw [w64 (n := (j : Int) + 1) (by omega)]
   refine ⟨⟨by omega, g⟩, fun q => ?_, fun q => ?_⟩
   ·have eo : wopS W (gt l ((l.length : Int) - 1)) (j : Int) = some ((j : Int), bits .or .u32 (bits .andNot .u32 (gt l ((l.length : Int) - 1)) (gt W.ops (j : Int)).del) (gt W.ops (j : Int)).add) := by rw [wopS, if_pos q]
    rw [eo] at j4
    simp only [pushW] at j4
    refine ⟨fun k => ?_, fun k => ?_⟩
    ·rw [if_neg (by rw [k]; decide)] at j4
     have hn : getA m4 (bits .or .u32 (bits .andNot .u32 (gt l ((l.length : Int) - 1)) (gt W.ops (j : Int)).del) (gt W.ops (j : Int)).add) = none := by
      cases h : getA m4 (bits .or .u32 (bits .andNot .u32 (gt l ((l.length : Int) - 1)) (gt W.ops (j : Int)).del) (gt W.ops (j : Int)).add) with
      | none => rfl
      | some v => rw [h] at k; cases k
     have hsl : (setA m4 (bits .or .u32 (bits .andNot .u32 (gt l ((l.length : Int) - 1)) (gt W.ops (j : Int)).del) (gt W.ops (j : Int)).add) ()).length = m4.length + 1 := by rw [setA_new hn, List.length_append]; rfl
     exact ⟨⟨by simp only [maxLen]; omega, by omega⟩, ⟨j + 1, by omega, by omega, by rw [hsl]; omega, by rw [hsl]; omega, j4⟩, by omega⟩
    ·rw [if_pos k] at j4
     exact ⟨⟨j + 1, by omega, by omega, j2, by omega, j4⟩, by omega⟩
   ·have eo : wopS W (gt l ((l.length : Int) - 1)) (j : Int) = none := by rw [wopS, if_neg (by rw [q]; decide)]
    rw [eo] at j4
    exact ⟨⟨j + 1, by omega, by omega, j2, by omega, j4⟩, by omega⟩
  ·have ed : (allS W.ops.length).drop j = [] := List.drop_eq_nil_of_le (by rw [allS_len]; omega)
   rw [ed, List.filterMap_nil, pushW] at j4
   rw [← j4] at h3
   refine ⟨fun q => ?_, fun q => ⟨⟨by omega, by omega, ?_⟩, by omega⟩⟩
   ·rw [if_pos (by simp only; omega)] at h3
    exact h3
   ·rw [if_neg (by simp only; omega)] at h3
    rw [show 2001 - (out.length + 1) = 2000 - out.length by omega]
    exact h3
 ·have hl : l = [] := List.eq_nil_of_length_eq_zero (by omega)
  subst hl
  rw [show 2001 - out.length = (2000 - out.length) + 1 by simp at h1; omega, dfs] at h3
  exact h3
end Go.Proofs.YtimillpakjgnoaaGreatDoor.Pl

namespace Go.Proofs.YtimillpakjgnoaaGreatDoor.Pl
open Go Go.RowKit
end Go.Proofs.YtimillpakjgnoaaGreatDoor.Pl

namespace Go.Proofs.YtimillpakjgnoaaGreatDoor.Pl
open Go Go.RowKit
section
variable {t : Task} (tk : TaskOK t)
end
end Go.Proofs.YtimillpakjgnoaaGreatDoor.Pl

namespace Go.Proofs.YtimillpakjgnoaaGreatDoor.Pl
open Go Go.RowKit
theorem ok_cloneO : ∀ (s_ : List Int), pre_clone s_ → F_cloneO s_ (fun r => r = sp_clone s_) := fun s hp => ok_clone s hp
theorem ok_optimalL : ∀ (t : Task), pre_optimalL t → F_optimalL t (fun r => r = sp_optimalL t) := fun t h => by
 unfold F_optimalL
 refine ⟨h, fun _ _ => ⟨by simp [pre_word], fun _ _ => ⟨by simp [pre_word], fun _ _ _ _ _ _ _ _ => ⟨by simp [pre_all], fun _ _ => ⟨by simp [pre_sortW, U32], fun _ _ => rfl⟩⟩⟩⟩⟩
theorem ok_h11Solved : F_h11Solved (fun r => r = sp_h11Solved) := by
 unfold F_h11Solved
 intro _ _ _ _ _ _
 refine ⟨by simp [pre_clone], fun _ _ => ⟨by simp [pre_clone], fun _ _ => ⟨by simp [pre_clone], fun _ _ _ _ _ _ => ⟨rfl, fun _ _ => ⟨by simp [pre_ints], fun _ _ => rfl⟩⟩⟩⟩⟩
end Go.Proofs.YtimillpakjgnoaaGreatDoor.Pl

