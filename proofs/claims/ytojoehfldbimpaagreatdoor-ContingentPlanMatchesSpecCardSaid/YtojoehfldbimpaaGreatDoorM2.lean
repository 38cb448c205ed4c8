import Derived.Test.YtojoehfldbimpaaGreatDoorM1
import Derived.Lib.SlicesCompact
import Derived.Test.YtojoehfldbimpaaGreatDoorRows
import Derived.ChangeKeysEq
import Derived.Laws.Bits64
namespace Go.Proofs.YtojoehfldbimpaaGreatDoor.Pl
def lexlt : List Int → List Int → Prop
 | [], _ => False
 | _ :: _, [] => False
 | x :: r, y :: q => x < y ∨ (x = y ∧ lexlt r q)
def slt (p q : List Int) : Prop := p.length < q.length ∨ (p.length = q.length ∧ lexlt p q)
def sle (p q : List Int) : Prop := p = q ∨ slt p q
theorem lexlt_app : ∀ p q r s : List Int, lexlt p q → lexlt (p ++ r) (q ++ s)
 | [], _, _, _, h => h.elim
 | _ :: _, [], _, _, h => h.elim
 | _ :: a, _ :: b, r, s, h => h.imp id fun ⟨e, k⟩ => ⟨e, lexlt_app a b r s k⟩
theorem lexlt_same : ∀ (p r s : List Int), lexlt r s → lexlt (p ++ r) (p ++ s)
 | [], _, _, h => h
 | _ :: a, r, s, h => .inr ⟨rfl, lexlt_same a r s h⟩
theorem sle_len {p q : List Int} (h : sle p q) : p.length ≤ q.length := by
 rcases h with rfl | h | ⟨h, _⟩ <;> omega
theorem slt_snoc {p q : List Int} (x y : Int) (h : slt p q) : slt (p ++ [x]) (q ++ [y]) := by
 rcases h with h | ⟨e, h⟩
 ·exact .inl (by simp; omega)
 ·exact .inr ⟨by simp [e], lexlt_app _ _ _ _ h⟩
theorem slt_snoc_same (p : List Int) {x y : Int} (h : x < y) : slt (p ++ [x]) (p ++ [y]) := .inr ⟨by simp, lexlt_same p _ _ (.inl h)⟩
section
variable {N : Type}
structure Ent (N : Type) where
 node : N
 from_ : Int
 step : Int
 deriving DecidableEq, Inhabited
def backR (q : List (Ent N)) : Nat → Int → List Int
 | 0, _ => []
 | k + 1, i => match q[i.toNat]? with
  | some e => if e.from_ < 0 then [] else e.step :: backR q k e.from_
  | none => []
def pathTo (q : List (Ent N)) (i : Nat) : List Int := (backR q (i + 1) i).reverse
def Way (succ : N → List (Int × N)) : N → List Int → N → Prop
 | u, [], v => u = v
 | u, o :: p, v => ∃ x, (o, x) ∈ succ u ∧ Way succ x p v
structure Shape (succ : N → List (Int × N)) (start : N) (q : List (Ent N)) : Prop where
 head : q[0]? = some ⟨start, -1, 0⟩
 link : ∀ i e, q[i]? = some e → 0 < i → ∃ (j : Nat) (u : Ent N), e.from_ = (j : Int) ∧ j < i ∧ q[j]? = some u ∧ (e.step, e.node) ∈ succ u.node
 nodup : (q.map (·.node)).Nodup
theorem Shape.len {succ : N → List (Int × N)} {start : N} {q : List (Ent N)} (h : Shape succ start q) : 0 < q.length := by
 have := h.head
 cases q with
 | nil => simp at this
 | cons a r => simp
theorem Shape.start (succ : N → List (Int × N)) (start : N) : Shape succ start [⟨start, -1, 0⟩] :=
 ⟨rfl, fun i e h hi => by cases i with
  | zero => omega
  | succ i => simp at h, by simp⟩
theorem backR_fuel {succ : N → List (Int × N)} {start : N} {q : List (Ent N)} (h : Shape succ start q) : ∀ (i k : Nat), i < q.length → i < k → backR q k i = backR q (i + 1) i := by
 intro i
 induction i using Nat.strongRecOn with
 | _ i ih =>
  intro k hi hk
  obtain ⟨k, rfl⟩ : ∃ k', k = k' + 1 := ⟨k - 1, by omega⟩
  have hq : q[((i : Nat) : Int).toNat]? = some q[i] := by simp [hi]
  simp only [backR, hq]
  split
  ·rfl
  ·rename_i hf
   by_cases h0 : 0 < i
   ·obtain ⟨j, u, e1, e2, e3, _⟩ := h.link i q[i] (List.getElem?_eq_getElem hi) h0
    rw [e1, ih j e2 k (by omega) (by omega), ih j e2 i (by omega) (by omega)]
   ·have : i = 0 := by omega
    subst this
    have h1 := h.head
    rw [List.getElem?_eq_getElem hi] at h1
    obtain e := Option.some.inj h1
    rw [e] at hf
    exact absurd (by decide : (-1 : Int) < 0) hf
theorem path_zero {succ : N → List (Int × N)} {start : N} {q : List (Ent N)} (h : Shape succ start q) : pathTo q 0 = [] := by
 unfold pathTo
 have : q[((0 : Nat) : Int).toNat]? = some ⟨start, -1, 0⟩ := h.head
 simp only [backR, this]
 rfl
theorem path_link {succ : N → List (Int × N)} {start : N} {q : List (Ent N)} (h : Shape succ start q) {i j : Nat} {e : Ent N} (hi : q[i]? = some e) (hf : e.from_ = (j : Int)) (hj : j < i) : pathTo q i = pathTo q j ++ [e.step] := by
 have hil := (List.getElem?_eq_some_iff.1 hi).1
 unfold pathTo
 have e1 : backR q (i + 1) i = e.step :: backR q i j := by
  have : q[((i : Nat) : Int).toNat]? = some e := by simpa using hi
  simp only [backR, this, hf]
  rw [if_neg (by omega)]
 rw [e1, backR_fuel h j i (by omega) hj]
 simp
theorem backR_app {succ : N → List (Int × N)} {start : N} {q : List (Ent N)} (h : Shape succ start q) (r : List (Ent N)) : ∀ (k i : Nat), i < q.length → backR (q ++ r) k i = backR q k i := by
 intro k
 induction k with
 | zero => intros; rfl
 | succ k ih =>
  intro i hi
  have e1 : (q ++ r)[((i : Nat) : Int).toNat]? = q[((i : Nat) : Int).toNat]? := List.getElem?_append_left (by simpa using hi)
  simp only [backR, e1]
  have hq : q[((i : Nat) : Int).toNat]? = some q[i] := by simp [hi]
  simp only [hq]
  split
  ·rfl
  ·rename_i hf
   by_cases h0 : 0 < i
   ·obtain ⟨j, u, e1, e2, e3, _⟩ := h.link i q[i] (List.getElem?_eq_getElem hi) h0
    rw [e1, ih j (by omega)]
   ·have : i = 0 := by omega
    subst this
    have h1 := h.head
    rw [List.getElem?_eq_getElem hi] at h1
    rw [Option.some.inj h1] at hf
    exact absurd (by decide : (-1 : Int) < 0) hf
theorem path_app {succ : N → List (Int × N)} {start : N} {q : List (Ent N)} (h : Shape succ start q) (r : List (Ent N)) {i : Nat} (hi : i < q.length) : pathTo (q ++ r) i = pathTo q i := by
 unfold pathTo
 rw [backR_app h r _ _ hi]
theorem Shape.push {succ : N → List (Int × N)} {start : N} {q : List (Ent N)} (h : Shape succ start q) {j : Nat} {u : Ent N} {s : Int} {n : N} (hj : q[j]? = some u) (hs : (s, n) ∈ succ u.node) (hn : n ∉ q.map (·.node)) : Shape succ start (q ++ [⟨n, j, s⟩]) := by
 have hl := h.len
 refine ⟨by rw [List.getElem?_append_left hl]; exact h.head, fun i e hi h0 => ?_, ?_⟩
 ·by_cases hlt : i < q.length
  ·rw [List.getElem?_append_left hlt] at hi
   obtain ⟨a, b, e1, e2, e3, e4⟩ := h.link i e hi h0
   exact ⟨a, b, e1, e2, by rw [List.getElem?_append_left (by omega)]; exact e3, e4⟩
  ·rw [List.getElem?_append_right (by omega)] at hi
   have hjl := (List.getElem?_eq_some_iff.1 hj).1
   have : i - q.length = 0 := by
    have := (List.getElem?_eq_some_iff.1 hi).1
    simp at this; omega
   rw [this] at hi
   simp at hi
   subst hi
   exact ⟨j, u, rfl, by omega, by rw [List.getElem?_append_left hjl]; exact hj, hs⟩
 ·rw [List.map_append, List.nodup_append]
  refine ⟨h.nodup, by simp, fun a ha b hb => ?_⟩
  simp at hb
  subst hb
  exact fun e => hn (e ▸ ha)
def expand [DecidableEq N] (at_ : Int) : List (Int × N) → List (Ent N) → Option (List (Ent N))
 | [], q => some q
 | (s, n) :: r, q => if n ∈ q.map (·.node) then expand at_ r q else if q.length = 2000 then none else expand at_ r (q ++ [⟨n, at_, s⟩])
def bfs [DecidableEq N] (succ : N → List (Int × N)) (done : N → Bool) : Nat → List (Ent N) → Nat → List Int × Bool × Bool
 | 0, _, _ => ([], false, true)
 | k + 1, q, i => match q[i]? with
  | none => ([], false, true)
  | some e => if done e.node = true then (pathTo q i, true, true) else match expand i (succ e.node) q with
   | none => ([], false, false)
   | some q' => bfs succ done k q' (i + 1)
def search [DecidableEq N] (succ : N → List (Int × N)) (done : N → Bool) (start : N) : List Int × Bool × Bool := bfs succ done 2001 [⟨start, -1, 0⟩] 0
theorem expand_spec [DecidableEq N] {succ : N → List (Int × N)} {start : N} {i : Nat} {u : Ent N} : ∀ (l : List (Int × N)) (q q' : List (Ent N)), Shape succ start q → q[i]? = some u → (∀ x ∈ l, x ∈ succ u.node) → q.length ≤ 2000 → expand i l q = some q' → Shape succ start q' ∧ (∃ r, q' = q ++ r) ∧ (∀ x ∈ l, x.2 ∈ q'.map (·.node)) ∧ q'.length ≤ 2000
 | [], q, q', h, _, _, h2, he => by
  cases he
  exact ⟨h, ⟨[], by simp⟩, by simp, h2⟩
 | (s, n) :: l, q, q', h, hu, hl, h2, he => by
  simp only [expand] at he
  split at he
  ·rename_i hn
   obtain ⟨g1, ⟨r, rfl⟩, g3, g4⟩ := expand_spec l q q' h hu (fun x hx => hl x (List.mem_cons_of_mem _ hx)) h2 he
   refine ⟨g1, ⟨r, rfl⟩, fun x hx => ?_, g4⟩
   rcases List.mem_cons.1 hx with rfl | hx
   ·rw [List.map_append]; exact List.mem_append_left _ hn
   ·exact g3 x hx
  ·rename_i hn
   split at he
   ·cases he
   ·rename_i h2000
    have hil := (List.getElem?_eq_some_iff.1 hu).1
    have h' := h.push hu (hl _ List.mem_cons_self) hn
    obtain ⟨g1, ⟨r, rfl⟩, g3, g4⟩ := expand_spec l _ q' h' (by rw [List.getElem?_append_left hil]; exact hu) (fun x hx => hl x (List.mem_cons_of_mem _ hx)) (by simp; omega) he
    refine ⟨g1, ⟨[⟨n, i, s⟩] ++ r, by simp⟩, fun x hx => ?_, g4⟩
    rcases List.mem_cons.1 hx with rfl | hx
    ·simp
    ·exact g3 x hx
structure Ord (succ : N → List (Int × N)) (start : N) (i : Nat) (o : Int → Prop) (q : List (Ent N)) : Prop where
 shape : Shape succ start q
 inc : ∀ a b, a < b → b < q.length → slt (pathTo q a) (pathTo q b)
 late : ∀ (a : Nat) (e : Ent N), 0 < a → q[a]? = some e → e.from_ ≤ (i : Int) ∧ (e.from_ = (i : Int) → o e.step)
theorem Ord.below {succ : N → List (Int × N)} {start : N} {i : Nat} {o : Int → Prop} {q : List (Ent N)} (h : Ord succ start i o q) (hi : i < q.length) {s : Int} (hs : ∀ x, o x → x < s) {k : Nat} (hk : k < q.length) : slt (pathTo q k) (pathTo q i ++ [s]) := by
 by_cases h0 : 0 < k
 ·obtain ⟨a, u, e1, e2, e3, _⟩ := h.shape.link k q[k] (List.getElem?_eq_getElem hk) h0
  obtain ⟨g1, g2⟩ := h.late k q[k] h0 (List.getElem?_eq_getElem hk)
  rw [path_link h.shape (List.getElem?_eq_getElem hk) e1 e2]
  rw [e1] at g1 g2
  by_cases ha : a < i
  ·exact slt_snoc _ _ (h.inc a i ha hi)
  ·have : a = i := by omega
   subst this
   exact slt_snoc_same _ (hs _ (g2 rfl))
 ·have : k = 0 := by omega
  subst this
  rw [path_zero h.shape]
  exact .inl (by simp)
theorem expand_ord [DecidableEq N] {succ : N → List (Int × N)} {start : N} {i : Nat} {u : Ent N} : ∀ (l : List (Int × N)) (o : Int → Prop) (q q' : List (Ent N)), Ord succ start i o q → q[i]? = some u → (∀ x ∈ l, x ∈ succ u.node) → (l.map (·.1)).Pairwise (· < ·) → (∀ x y, o x → y ∈ l → x < y.1) → q.length ≤ 2000 → expand i l q = some q' →
  Ord succ start i (fun x => o x ∨ x ∈ l.map (·.1)) q' ∧ (∃ r, q' = q ++ r) ∧ (∀ x ∈ l, ∃ (k : Nat) (e : Ent N), q'[k]? = some e ∧ e.node = x.2 ∧ sle (pathTo q' k) (pathTo q' i ++ [x.1]))
 | [], o, q, q', h, _, _, _, _, _, he => by
  cases he
  refine ⟨⟨h.shape, h.inc, fun a e ha hq => ?_⟩, ⟨[], by simp⟩, fun x hx => (by cases hx)⟩
  obtain ⟨g1, g2⟩ := h.late a e ha hq
  exact ⟨g1, fun k => .inl (g2 k)⟩
 | (s, n) :: l, o, q, q', h, hu, hl, hp, ho, h2, he => by
  have hil := (List.getElem?_eq_some_iff.1 hu).1
  have hos : ∀ x, o x → x < s := fun x hx => ho x (s, n) hx List.mem_cons_self
  simp only [List.map_cons, List.pairwise_cons] at hp
  have hw : ∀ {q1 : List (Ent N)}, Ord succ start i o q1 → Ord succ start i (fun x => o x ∨ x = s) q1 := fun h => ⟨h.shape, h.inc, fun a e ha hq => ⟨(h.late a e ha hq).1, fun k => .inl ((h.late a e ha hq).2 k)⟩⟩
  have ho' : ∀ x y, (o x ∨ x = s) → y ∈ l → x < y.1 := fun x y hx hy => by
   rcases hx with hx | rfl
   ·exact ho x y hx (List.mem_cons_of_mem _ hy)
   ·exact hp.1 _ (List.mem_map_of_mem hy)
  have fin : ∀ {q1 : List (Ent N)}, Ord succ start i (fun x => (o x ∨ x = s) ∨ x ∈ l.map (·.1)) q1 → Ord succ start i (fun x => o x ∨ x ∈ ((s, n) :: l).map (·.1)) q1 := fun h => ⟨h.shape, h.inc, fun a e ha hq => ⟨(h.late a e ha hq).1, fun k => by
   rcases (h.late a e ha hq).2 k with (g | g) | g
   ·exact .inl g
   ·exact .inr (by rw [g]; simp)
   ·exact .inr (List.mem_cons_of_mem _ g)⟩⟩
  simp only [expand] at he
  split at he
  ·rename_i hn
   obtain ⟨g1, ⟨r, rfl⟩, g3⟩ := expand_ord l (fun x => o x ∨ x = s) q q' (hw h) hu (fun x hx => hl x (List.mem_cons_of_mem _ hx)) hp.2 ho' h2 he
   refine ⟨fin g1, ⟨r, rfl⟩, fun x hx => ?_⟩
   rcases List.mem_cons.1 hx with rfl | hx
   ·obtain ⟨e, he1, he2⟩ := List.mem_map.1 hn
    obtain ⟨k, hk, rfl⟩ := List.mem_iff_getElem.1 he1
    refine ⟨k, q[k], by rw [List.getElem?_append_left hk]; exact List.getElem?_eq_getElem hk, he2, .inr ?_⟩
    rw [path_app h.shape r hk, path_app h.shape r hil]
    exact h.below hil hos hk
   ·exact g3 x hx
  ·rename_i hn
   split at he
   ·cases he
   ·rename_i h2000
    have h' := h.shape.push hu (hl _ List.mem_cons_self) hn
    have hu' : (q ++ [⟨n, (i : Int), s⟩])[i]? = some u := by rw [List.getElem?_append_left hil]; exact hu
    have hq' : (q ++ [(⟨n, (i : Int), s⟩ : Ent N)])[q.length]? = some ⟨n, (i : Int), s⟩ := by simp
    have hlast : pathTo (q ++ [⟨n, (i : Int), s⟩]) q.length = pathTo q i ++ [s] := by
     rw [path_link h' hq' rfl hil, path_app h.shape _ hil]
    have ord' : Ord succ start i (fun x => o x ∨ x = s) (q ++ [⟨n, (i : Int), s⟩]) := by
     refine ⟨h', fun a b hab hb => ?_, fun a e ha hq => ?_⟩
     ·simp at hb
      rw [path_app h.shape _ (show a < q.length by omega)]
      by_cases hbl : b < q.length
      ·rw [path_app h.shape _ hbl]; exact h.inc a b hab hbl
      ·have : b = q.length := by omega
       subst this
       rw [hlast]
       exact h.below hil hos (by omega)
     ·by_cases hal : a < q.length
      ·rw [List.getElem?_append_left hal] at hq
       exact ⟨(h.late a e ha hq).1, fun k => .inl ((h.late a e ha hq).2 k)⟩
      ·have hal2 := (List.getElem?_eq_some_iff.1 hq).1
       simp at hal2
       have : a = q.length := by omega
       subst this
       rw [hq'] at hq
       cases hq
       exact ⟨Int.le_refl _, fun _ => .inr rfl⟩
    obtain ⟨g1, ⟨r, rfl⟩, g3⟩ := expand_ord l (fun x => o x ∨ x = s) _ q' ord' hu' (fun x hx => hl x (List.mem_cons_of_mem _ hx)) hp.2 ho' (by simp; omega) he
    refine ⟨fin g1, ⟨[⟨n, (i : Int), s⟩] ++ r, by simp⟩, fun x hx => ?_⟩
    rcases List.mem_cons.1 hx with rfl | hx
    ·refine ⟨q.length, ⟨n, (i : Int), s⟩, by rw [List.getElem?_append_left (by simp)]; exact hq', rfl, .inl ?_⟩
     rw [path_app h' r (by simp), hlast, path_app h' r (by simp; omega), path_app h.shape _ hil]
    ·exact g3 x hx
def Comp (succ : N → List (Int × N)) (q : List (Ent N)) (i : Nat) : Prop := ∀ (j : Nat) (u : Ent N), j < i → q[j]? = some u → ∀ x ∈ succ u.node, ∃ (k : Nat) (e : Ent N), q[k]? = some e ∧ e.node = x.2 ∧ sle (pathTo q k) (pathTo q j ++ [x.1])
structure BInv (succ : N → List (Int × N)) (start : N) (q : List (Ent N)) (i : Nat) : Prop where
 ord : Ord succ start i (fun _ => False) q
 comp : Comp succ q i
 len : q.length ≤ 2000
 le : i ≤ q.length
theorem BInv.start (succ : N → List (Int × N)) (start : N) : BInv succ start [⟨start, -1, 0⟩] 0 :=
 ⟨⟨Shape.start succ start, fun a b hab hb => by simp at hb; omega, fun a e ha hq => by cases a with
  | zero => omega
  | succ a => simp at hq⟩, fun j u hj => by omega, by simp, by simp⟩
theorem BInv.next [DecidableEq N] {succ : N → List (Int × N)} (hs : ∀ n, ((succ n).map (·.1)).Pairwise (· < ·)) {start : N} {q q' : List (Ent N)} {i : Nat} {u : Ent N} (h : BInv succ start q i) (hu : q[i]? = some u) (he : expand i (succ u.node) q = some q') : BInv succ start q' (i + 1) ∧ ∃ r, q' = q ++ r := by
 have hil := (List.getElem?_eq_some_iff.1 hu).1
 obtain ⟨g1, ⟨r, rfl⟩, g3⟩ := expand_ord (succ u.node) (fun _ => False) q q' h.ord hu (fun x hx => hx) (hs _) (fun _ _ k => k.elim) h.len he
 obtain ⟨k1, _, _, k4⟩ := expand_spec (succ u.node) q _ h.ord.shape hu (fun x hx => hx) h.len he
 refine ⟨⟨⟨k1, g1.inc, fun a e ha hq => ?_⟩, fun j v hj hv x hx => ?_, k4, by simp; omega⟩, r, rfl⟩
 ·have := (g1.late a e ha hq).1
  exact ⟨by omega, fun k => by omega⟩
 ·by_cases hji : j < i
  ·rw [List.getElem?_append_left (by omega)] at hv
   obtain ⟨k, e, e1, e2, e3⟩ := h.comp j v hji hv x hx
   have hkl := (List.getElem?_eq_some_iff.1 e1).1
   refine ⟨k, e, by rw [List.getElem?_append_left hkl]; exact e1, e2, ?_⟩
   rw [path_app h.ord.shape r hkl, path_app h.ord.shape r (by omega)]
   exact e3
  ·have : j = i := by omega
   subst this
   rw [List.getElem?_append_left hil, hu] at hv
   cases hv
   exact g3 x hx
def Least (succ : N → List (Int × N)) (done : N → Bool) (start : N) (p : List Int) : Prop := (∃ v, Way succ start p v ∧ done v = true) ∧ ∀ p' v', Way succ start p' v' → done v' = true → sle p p'
theorem nodup_sub_len {α : Type} [DecidableEq α] : ∀ (l m : List α), l.Nodup → (∀ x ∈ l, x ∈ m) → l.length ≤ m.length
 | [], _, _, _ => Nat.zero_le _
 | a :: l, m, hn, hs => by
  obtain ⟨h1, h2⟩ := List.nodup_cons.1 hn
  have ha := hs a List.mem_cons_self
  have := nodup_sub_len l (m.erase a) h2 fun x hx => (List.mem_erase_of_ne (fun e : x = a => h1 (e ▸ hx))).2 (hs x (List.mem_cons_of_mem _ hx))
  rw [List.length_erase_of_mem ha] at this
  have := List.length_pos_of_mem ha
  simp; omega
theorem expand_fits [DecidableEq N] {all : List N} (hall : all.length ≤ 2000) {i : Int} : ∀ (l : List (Int × N)) (q : List (Ent N)), (q.map (·.node)).Nodup → (∀ e ∈ q, e.node ∈ all) → (∀ x ∈ l, x.2 ∈ all) → ∃ q', expand i l q = some q' ∧ (q'.map (·.node)).Nodup ∧ ∀ e ∈ q', e.node ∈ all
 | [], q, h1, h2, _ => ⟨q, rfl, h1, h2⟩
 | (s, n) :: l, q, h1, h2, h3 => by
  simp only [expand]
  by_cases hn : n ∈ q.map (·.node)
  ·rw [if_pos hn]
   exact expand_fits hall l q h1 h2 fun x hx => h3 x (List.mem_cons_of_mem _ hx)
  ·rw [if_neg hn]
   have h1' : ((q ++ [(⟨n, i, s⟩ : Ent N)]).map (·.node)).Nodup := by
    rw [List.map_append, List.nodup_append]
    refine ⟨h1, by simp, fun a ha b hb => ?_⟩
    simp at hb
    subst hb
    exact fun e => hn (e ▸ ha)
   have h2' : ∀ e ∈ q ++ [(⟨n, i, s⟩ : Ent N)], e.node ∈ all := fun e he => by
    rcases List.mem_append.1 he with he | he
    ·exact h2 e he
    ·rw [List.mem_singleton.1 he]; exact h3 (s, n) List.mem_cons_self
   have hl := nodup_sub_len _ all h1' (fun x hx => by
    obtain ⟨e, he, rfl⟩ := List.mem_map.1 hx
    exact h2' e he)
   rw [if_neg (by simp at hl; omega)]
   exact expand_fits hall l _ h1' h2' fun x hx => h3 x (List.mem_cons_of_mem _ hx)
theorem bfs_fits [DecidableEq N] {succ : N → List (Int × N)} {done : N → Bool} {all : List N} (hall : all.length ≤ 2000) (hc : ∀ n ∈ all, ∀ x ∈ succ n, x.2 ∈ all) : ∀ (k : Nat) (q : List (Ent N)) (i : Nat), (q.map (·.node)).Nodup → (∀ e ∈ q, e.node ∈ all) → (bfs succ done k q i).2.2 = true
 | 0, _, _, _, _ => rfl
 | k + 1, q, i, h1, h2 => by
  rw [bfs]
  split
  ·rfl
  ·rename_i e hu
   split
   ·rfl
   ·obtain ⟨q', e1, e2, e3⟩ := expand_fits hall (i := (i : Int)) (succ e.node) q h1 h2 (hc _ (h2 e (List.mem_of_getElem? hu)))
    simp only [e1]
    exact bfs_fits hall hc k q' (i + 1) e2 e3
theorem search_fits [DecidableEq N] {succ : N → List (Int × N)} {done : N → Bool} {start : N} {all : List N} (hall : all.length ≤ 2000) (h0 : start ∈ all) (hc : ∀ n ∈ all, ∀ x ∈ succ n, x.2 ∈ all) : (search succ done start).2.2 = true :=
 bfs_fits hall hc _ _ _ (by simp) (by simpa using h0)
end
abbrev Entry := Ent (List (List Int))
end Go.Proofs.YtojoehfldbimpaaGreatDoor.Pl

namespace Go.Proofs.YtojoehfldbimpaaGreatDoor.Pl
open Go Go.RowKit
structure Operator where
 pre : List Int
 add : List Int
 del : List Int
 cost : Int
 deriving DecidableEq, Inhabited
instance : Rep Operator := ⟨4, fun h x cs => ∃ (a0 : Option Addr) (c0 : Nat) (a1 : Option Addr) (c1 : Nat) (a2 : Option Addr) (c2 : Nat), cs = [.slice a0 x.pre.length c0, .slice a1 x.add.length c1, .slice a2 x.del.length c2, .int .i64 x.cost] ∧ (x.pre.length ≤ c0 ∧ RSl h a0 x.pre) ∧ (x.add.length ≤ c1 ∧ RSl h a1 x.add) ∧ (x.del.length ≤ c2 ∧ RSl h a2 x.del),
 fun ⟨_, _, _, _, _, _, e, _⟩ => by rw [e]; rfl,
 fun hl ⟨a0, c0, a1, c1, a2, c2, e, ⟨l0, r0⟩, ⟨l1, r1⟩, l2, r2⟩ => ⟨a0, c0, a1, c1, a2, c2, e, ⟨l0, r0.mono hl⟩, ⟨l1, r1.mono hl⟩, l2, r2.mono hl⟩,
 fun ⟨_, _, _, _, _, _, e, _⟩ v hv => by
  rw [e] at hv
  simp only [List.mem_cons, List.not_mem_nil, or_false] at hv
  rcases hv with rfl | rfl | rfl | rfl <;> rfl⟩
structure Task where
 facts : Int
 init : List Int
 goal : List Int
 ops : List Operator
 deriving DecidableEq, Inhabited
instance : Rep Task := ⟨4, fun h x cs => ∃ (a0 : Option Addr) (c0 : Nat) (a1 : Option Addr) (c1 : Nat) (a2 : Option Addr) (c2 : Nat), cs = [.int .i64 x.facts, .slice a0 x.init.length c0, .slice a1 x.goal.length c1, .slice a2 x.ops.length c2] ∧ (x.init.length ≤ c0 ∧ RSl h a0 x.init) ∧ (x.goal.length ≤ c1 ∧ RSl h a1 x.goal) ∧ (x.ops.length ≤ c2 ∧ RSl h a2 x.ops),
 fun ⟨_, _, _, _, _, _, e, _⟩ => by rw [e]; rfl,
 fun hl ⟨a0, c0, a1, c1, a2, c2, e, ⟨l0, r0⟩, ⟨l1, r1⟩, l2, r2⟩ => ⟨a0, c0, a1, c1, a2, c2, e, ⟨l0, r0.mono hl⟩, ⟨l1, r1.mono hl⟩, l2, r2.mono hl⟩,
 fun ⟨_, _, _, _, _, _, e, _⟩ v hv => by
  rw [e] at hv
  simp only [List.mem_cons, List.not_mem_nil, or_false] at hv
  rcases hv with rfl | rfl | rfl | rfl <;> rfl⟩
structure TNode where
 kind : Int
 op : Int
 fact : Int
 yes : Int
 no : Int
 deriving DecidableEq, Inhabited
instance : Flat TNode := ⟨5, fun x => [.int .i64 x.kind, .int .i64 x.op, .int .i64 x.fact, .int .i64 x.yes, .int .i64 x.no], fun _ => rfl, fun x v hv => by
 simp only [List.mem_cons, List.not_mem_nil, or_false] at hv; rcases hv with rfl | rfl | rfl | rfl | rfl <;> rfl⟩
structure Fault where
 code : Int
 index : Int
 deriving DecidableEq, Inhabited
instance : Flat Fault := ⟨2, fun x => [.int .i64 x.code, .int .i64 x.index], fun _ => rfl, fun x v hv => by
 simp only [List.mem_cons, List.not_mem_nil, or_false] at hv; rcases hv with rfl | rfl <;> rfl⟩
instance : Rep Entry := ⟨3, fun h x cs => ∃ (a0 : Option Addr) (c0 : Nat), cs = [.slice a0 x.node.length c0, .int .i64 x.from_, .int .i64 x.step] ∧ (x.node.length ≤ c0 ∧ RSl h a0 x.node),
 fun ⟨_, _, e, _⟩ => by rw [e]; rfl,
 fun hl ⟨a0, c0, e, l0, r0⟩ => ⟨a0, c0, e, l0, r0.mono hl⟩,
 fun ⟨_, _, e, _⟩ v hv => by
  rw [e] at hv
  simp only [List.mem_cons, List.not_mem_nil, or_false] at hv
  rcases hv with rfl | rfl | rfl <;> rfl⟩
end Go.Proofs.YtojoehfldbimpaaGreatDoor.Pl

namespace Go.Proofs.YtojoehfldbimpaaGreatDoor.Pl
open Go Go.RowKit
theorem w64 {n : Int} (h : -9223372036854775808 ≤ n ∧ n ≤ 9223372036854775807) : IntKind.i64.wrap n = n := by rw [IntKind.wrap_i64]; omega
theorem gt_of {α : Type} [Inhabited α] {xs : List α} {i : Int} (h : inb xs i) : gt xs i = xs[i.toNat]'(inb_lt h) := by
 have := inb_lt h
 simp [gt, this]
theorem drop_gt {α : Type} [Inhabited α] {xs : List α} {i : Int} (h : inb xs i) : xs.drop i.toNat = gt xs i :: xs.drop (i + 1).toNat := by
 have h1 := inb_lt h
 have h2 : (i + 1).toNat = i.toNat + 1 := by have := h.1; omega
 rw [gt_of h, h2, List.drop_eq_getElem_cons h1]
theorem gt_mem {α : Type} [Inhabited α] {xs : List α} {i : Int} (h : inb xs i) : gt xs i ∈ xs := by rw [gt_of h]; exact List.getElem_mem _
theorem take_gt {α : Type} [Inhabited α] {xs : List α} {i : Int} (h : inb xs i) : xs.take (i + 1).toNat = xs.take i.toNat ++ [gt xs i] := by
 have h1 := inb_lt h
 have h2 : (i + 1).toNat = i.toNat + 1 := by have := h.1; omega
 rw [gt_of h, h2, List.take_succ_eq_append_getElem h1]
theorem gt_memN {α : Type} [Inhabited α] {xs : List α} {i : Nat} (h : i < xs.length) : gt xs (i : Int) ∈ xs := gt_mem ⟨by omega, by omega⟩
theorem mem_gt {α : Type} [Inhabited α] {xs : List α} {x : α} (h : x ∈ xs) : ∃ i : Nat, i < xs.length ∧ gt xs (i : Int) = x := by
 obtain ⟨i, hi, e⟩ := List.mem_iff_getElem.1 h
 exact ⟨i, hi, by rw [gt_of ⟨by omega, by omega⟩]; simpa using e⟩
theorem takeN_gt {α : Type} [Inhabited α] {xs : List α} {k : Nat} (h : k < xs.length) : xs.take (k + 1) = xs.take k ++ [gt xs k] := by
 have := take_gt (xs := xs) (i := (k : Int)) ⟨by omega, by omega⟩
 simpa using this
theorem gt_set {α : Type} [Inhabited α] {xs : List α} {i : Int} {x : α} (h : inb xs i) : gt (xs.set i.toNat x) i = x := by
 have := inb_lt h
 simp [gt, this]
theorem gt_setI {α : Type} [Inhabited α] {xs : List α} {i j : Int} {x : α} (hi : inb xs i) (hj : 0 ≤ j) : gt (xs.set i.toNat x) j = if j = i then x else gt xs j := by
 by_cases e : j = i
 ·subst e; rw [if_pos rfl, gt_set hi]
 ·rw [if_neg e]
  have h1 := hi.1
  unfold gt
  rw [List.getD_eq_getElem?_getD, List.getD_eq_getElem?_getD, List.getElem?_set_ne (by omega)]
theorem ext_gt {a b : List Int} (hl : a.length = b.length) (h : ∀ i : Nat, i < a.length → gt a (i : Int) = gt b (i : Int)) : a = b := by
 refine List.ext_getElem hl fun i h1 h2 => ?_
 have := h i h1
 rw [gt_of ⟨by omega, by omega⟩, gt_of ⟨by omega, by omega⟩] at this
 simpa using this
theorem any_split {α : Type} [Inhabited α] {xs : List α} {p : α → Bool} {t : Int} (h0 : 0 ≤ t) (hp : ∀ x ∈ xs.take t.toNat, p x = false) : (t < xs.length → p (gt xs t) = true → (if xs.any p then (xs.findIdx p : Int) else -1) = t) ∧ (¬ t < xs.length → (if xs.any p then (xs.findIdx p : Int) else -1) = -1) := by
 refine ⟨fun h hq => ?_, fun h => ?_⟩
 ·have hi : inb xs t := ⟨h0, h⟩
  have ha : xs.any p = true := List.any_eq_true.2 ⟨_, gt_mem hi, hq⟩
  rw [if_pos ha]
  have : xs.findIdx p = t.toNat := by
   rw [List.findIdx_eq (inb_lt hi)]
   refine ⟨by rw [← gt_of hi]; exact hq, fun j hj => ?_⟩
   have hjl : j < xs.length := by have := inb_lt hi; omega
   exact hp _ (List.mem_take_iff_getElem.2 ⟨j, by omega, rfl⟩)
  omega
 ·have : xs.any p = false := by
   rw [List.take_of_length_le (by omega)] at hp
   simpa using hp
  simp [this]
theorem any_next {α : Type} [Inhabited α] {xs : List α} {p : α → Bool} {t : Int} (h0 : 0 ≤ t) (hp : ∀ x ∈ xs.take t.toNat, p x = false) (h : t < xs.length) (hq : p (gt xs t) = false) : ∀ x ∈ xs.take (t + 1).toNat, p x = false := fun x hx => by
 rw [take_gt ⟨h0, h⟩] at hx
 rcases List.mem_append.1 hx with hx | hx
 ·exact hp x hx
 ·rw [List.mem_singleton.1 hx]; exact hq
def ffirst (f : Nat → Fault) (n : Nat) : Fault := match (List.range n).find? (fun i => decide (f i ≠ ⟨0, 0⟩)) with
 | some i => f i
 | none => ⟨0, 0⟩
theorem ffirst_hit {f : Nat → Fault} {n i : Nat} (hi : i < n) (hz : ∀ j, j < i → f j = ⟨0, 0⟩) (hf : f i ≠ ⟨0, 0⟩) : ffirst f n = f i := by
 unfold ffirst
 have : (List.range n).find? (fun i => decide (f i ≠ ⟨0, 0⟩)) = some i := by
  rw [List.find?_range_eq_some]
  exact ⟨by simpa using hf, List.mem_range.2 hi, fun j hj => by simpa using hz j hj⟩
 rw [this]
theorem ffirst_none {f : Nat → Fault} {n : Nat} (hz : ∀ j, j < n → f j = ⟨0, 0⟩) : ffirst f n = ⟨0, 0⟩ := by
 unfold ffirst
 have : (List.range n).find? (fun i => decide (f i ≠ ⟨0, 0⟩)) = none := by
  rw [List.find?_eq_none]
  intro x hx
  simpa using hz x (List.mem_range.1 hx)
 rw [this]
theorem ffirst_zero {f : Nat → Fault} {n : Nat} (h : ffirst f n = ⟨0, 0⟩) : ∀ j, j < n → f j = ⟨0, 0⟩ := by
 intro j
 induction j using Nat.strongRecOn with
 | _ j ih =>
  intro hj
  refine Classical.byContradiction fun hf => ?_
  have := ffirst_hit hj (fun k hk => ih k hk (by omega)) hf
  rw [h] at this
  exact hf this.symm
theorem zero_next {f : Nat → Fault} {k : Nat} (h : ∀ j, j < k → f j = ⟨0, 0⟩) (hk : f k = ⟨0, 0⟩) : ∀ j, j < k + 1 → f j = ⟨0, 0⟩ := fun j hj => by
 rcases Nat.lt_succ_iff_lt_or_eq.1 hj with q | rfl
 ·exact h j q
 ·exact hk
theorem fault_mk {c i : Int} (h : c ≠ 0) : (⟨c, i⟩ : Fault) ≠ ⟨0, 0⟩ := fun e => h (congrArg Fault.code e)
theorem fault_ne {f : Fault} : (!((f.code == 0) && (f.index == 0))) = true ↔ f ≠ ⟨0, 0⟩ := by
 obtain ⟨c, i⟩ := f
 simp only [Bool.not_eq_true', Bool.and_eq_false_iff, beq_eq_false_iff_ne, ne_eq, Fault.mk.injEq]
 omega
theorem fault_eq {f : Fault} : (!((f.code == 0) && (f.index == 0))) = false ↔ f = ⟨0, 0⟩ := by
 obtain ⟨c, i⟩ := f
 simp
theorem nodup_len : ∀ (N : Nat) (l : List Nat), l.Nodup → (∀ v ∈ l, v < N) → l.length ≤ N
 | 0, l, _, h => by
  cases l with
  | nil => simp
  | cons a r => exact absurd (h a List.mem_cons_self) (by omega)
 | N + 1, l, hn, h => by
  have h1 := nodup_len N (l.filter (· != N)) (hn.filter _) (fun v hv => by
   obtain ⟨a, b⟩ := List.mem_filter.1 hv
   have := h v a
   have : v ≠ N := by simpa using b
   omega)
  have h2 : l.length ≤ (l.filter (· != N)).length + 1 := by
   clear h h1
   induction l with
   | nil => simp
   | cons a r ih =>
    obtain ⟨ha, hr⟩ := List.nodup_cons.1 hn
    by_cases e : a = N
    ·subst e
     have : r.filter (· != a) = r := List.filter_eq_self.2 fun v hv => by
      have : v ≠ a := fun e => ha (e ▸ hv)
      simpa using this
     simp [this]
    ·have := ih hr
     simp [e]; omega
  omega
end Go.Proofs.YtojoehfldbimpaaGreatDoor.Pl

namespace Go.Proofs.YtojoehfldbimpaaGreatDoor.Pl
open Go Go.RowKit
def sp_in_ (n lo hi : Int) : Bool := decide (lo ≤ n) && decide (n ≤ hi)
def sp_at_ (c i : Int) : Fault := ⟨c, i⟩
def sp_has (l : List Int) (x : Int) : Bool := decide (x ∈ l)
def pre_has (l : List Int) (_ : Int) : Prop := l.length ≤ 1000
def sp_index (l : List Int) (v : Int) : Int := if v ∈ l then l.idxOf v else -1
def pre_index (l : List Int) (_ : Int) : Prop := l.length ≤ 1000
def sp_contains (l : List Int) (v : Int) : Bool := decide (v ∈ l)
def sp_isNaN1 (_ : Int) : Bool := false
def sp_less (x y : Int) : Bool := decide (x < y)
def sp_bsearch (x : List Int) (t : Int) : Int × Bool := ((x.filter (fun a => decide (a < t))).length, decide (t ∈ x))
def pre_bsearch (x : List Int) (_ : Int) : Prop := x.Pairwise (· < ·) ∧ x.length ≤ 1000
def sp_any {α : Type} (xs : List α) (p : α → Bool) (_ : α → Prop) : Bool := xs.any p
def pre_any {α : Type} (xs : List α) (_ : α → Bool) (D : α → Prop) : Prop := xs.length ≤ 1000 ∧ ∀ x ∈ xs, D x
def sp_indexF {α : Type} (xs : List α) (p : α → Bool) (_ : α → Prop) : Int := if xs.any p then xs.findIdx p else -1
def sp_isSet (l : List Int) (n : Int) : Bool := decide (l.Pairwise (· < ·) ∧ ∀ x ∈ l, 0 ≤ x ∧ x < n)
def pre_isSet (_ : List Int) (n : Int) : Prop := 0 ≤ n ∧ n ≤ 1000
def sp_meets1 (x : Int) (b : List Int) : Bool := decide (x ∈ b)
def pre_meets1 (_ : Int) (b : List Int) : Prop := b.Pairwise (· < ·) ∧ b.length ≤ 1000
def sp_meets (a b : List Int) : Bool := a.any fun x => decide (x ∈ b)
def pre_meets (a b : List Int) : Prop := a.length ≤ 1000 ∧ b.Pairwise (· < ·) ∧ b.length ≤ 1000
def sp_disjoint (a b : List Int) : Bool := !sp_meets a b
def pre_disjoint (a b : List Int) : Prop := a.length ≤ 1000 ∧ b.length ≤ 1000
def sp_operator (o : Operator) (n : Int) : Int :=
 if sp_isSet o.pre n = true ∧ sp_isSet o.add n = true ∧ sp_isSet o.del n = true ∧ sp_meets o.add o.del = false then
  if 0 ≤ o.cost ∧ o.cost ≤ 100 then 0 else 3
 else 5
def pre_operator (_ : Operator) (n : Int) : Prop := 0 ≤ n ∧ n ≤ 1000
def opFault (t : Task) (i : Nat) : Fault := if sp_operator (gt t.ops i) t.facts = 0 then ⟨0, 0⟩ else ⟨sp_operator (gt t.ops i) t.facts, i⟩
def sp_validate (t : Task) : Fault :=
 if t.facts < 0 ∨ 24 < t.facts then ⟨3, -1⟩
 else if sp_isSet t.init t.facts = false then ⟨5, -2⟩
 else if sp_isSet t.goal t.facts = false then ⟨5, -3⟩
 else if 40 < t.ops.length then ⟨2, -1⟩
 else ffirst (opFault t) t.ops.length
def allS (n : Nat) : List Int := (List.range n).map fun j : Nat => (j : Int)
def sp_subset (a b : List Int) : Bool := a.all fun x => decide (x ∈ b)
def pre_subset (a b : List Int) : Prop := a.length ≤ 1000 ∧ b.length ≤ 1000
def pre_applies (t : Task) (s : List Int) (op : Int) : Prop := sp_validate t = ⟨0, 0⟩ ∧ inb t.ops op ∧ s.length ≤ 1000
def sp_after (t : Task) (s : List Int) (op : Int) : List Int := (allS t.facts.toNat).filter fun p => decide (p ∈ (gt t.ops op).add ∨ (p ∈ s ∧ p ∉ (gt t.ops op).del))
def pre_after (t : Task) (s : List Int) (op : Int) : Prop := pre_applies t s op
def sp_sort (xs : List Int) : List Int := xs.mergeSort fun x y => decide (x ≤ y)
def pre_sort (xs : List Int) : Prop := xs.length ≤ 100000
def sp_compact (xs : List Int) : List Int := Lib.compact xs
def pre_compact (xs : List Int) : Prop := xs.length ≤ 100000
def sp_update (s add del : List Int) : List Int := sp_compact (sp_sort (s.filter (fun x => decide (x ∉ del)) ++ add))
def pre_update (s add del : List Int) : Prop := s.length ≤ 1000 ∧ add.length ≤ 1000 ∧ pre_bsearch del 0
def sp_contains2 (s part : List Int) : Bool := sp_subset part s
def pre_contains2 (s part : List Int) : Prop := s.length ≤ 1000 ∧ part.length ≤ 1000 ∧ s.Pairwise (· < ·) ∧ part.Pairwise (· < ·)
def pre_next (t : Task) (s : List Int) (op : Int) : Prop := sp_validate t = ⟨0, 0⟩ ∧ inb t.ops op ∧ sp_isSet s t.facts = true
end Go.Proofs.YtojoehfldbimpaaGreatDoor.Pl

namespace Go.Proofs.YtojoehfldbimpaaGreatDoor.Pl
open Go Go.RowKit
def rowL (s : List Int) : List UInt8 := s.flatMap fun x => Lib.itoa x ++ [44]
def keyL (l : List (List Int)) : List UInt8 := l.flatMap fun s => rowL s ++ [59]
def sp_key (l : List (List Int)) : List UInt8 := keyL l
def pre_key (l : List (List Int)) : Prop := l.length ≤ 1000 ∧ ∀ s ∈ l, s.length ≤ 1000 ∧ ∀ x ∈ s, -9223372036854775808 ≤ x ∧ x ≤ 9223372036854775807
def sp_reverse (s : List Int) : List Int := s.reverse
def pre_reverse (s : List Int) : Prop := s.length ≤ 100000
theorem sp_reverse_len (s : List Int) : (sp_reverse s).length = s.length := List.length_reverse
def sp_compare (x y : Int) : Int := if x < y then -1 else if y < x then 1 else 0
def sp_scompare : List Int → List Int → Int
 | [], [] => 0
 | [], _ :: _ => -1
 | _ :: _, [] => 1
 | x :: r, y :: q => if x < y then -1 else if y < x then 1 else sp_scompare r q
def pre_scompare (a b : List Int) : Prop := a.length ≤ 1000 ∧ b.length ≤ 1000
def sp_sequal (a b : List Int) : Bool := decide (a = b)
def pre_sequal (a b : List Int) : Prop := a.length ≤ 1000 ∧ b.length ≤ 1000
def sp_unknownFault (t : Task) (unknown : List Int) : Fault :=
 if sp_validate t = ⟨0, 0⟩ then if 4 < unknown.length then ⟨2, -8⟩ else if sp_isSet unknown t.facts = true then ⟨0, 0⟩ else ⟨5, -8⟩ else sp_validate t
def sp_sure1 (s x : List Int) : Bool := !sp_contains2 s x
def pre_sure1 (s x : List Int) : Prop := pre_contains2 s x
def sp_sure (worlds : List (List Int)) (facts : List Int) : Bool := !(worlds.any fun s => sp_sure1 s facts)
def pre_sure (worlds : List (List Int)) (facts : List Int) : Prop := worlds.length ≤ 1000 ∧ ∀ s ∈ worlds, pre_sure1 s facts
def sp_changed (n : Int) (s add del : List Int) : List Int := (allS n.toNat).filter fun p => decide (p ∈ add ∨ (p ∈ s ∧ p ∉ del))
def pre_changed (n : Int) (s add del : List Int) : Prop := 0 ≤ n ∧ n ≤ 1000 ∧ s.length ≤ 1000 ∧ add.length ≤ 1000 ∧ del.length ≤ 1000
abbrev Bel := List (List Int)
def sp_before : List Int → List Int → Bool
 | [], [] => false
 | [], _ :: _ => true
 | _ :: _, [] => false
 | x :: r, y :: q => if x = y then sp_before r q else decide (x < y)
def pre_before (a b : List Int) : Prop := a.length ≤ 1000 ∧ b.length ≤ 1000
def sp_ints (a b : List Int) : Bool := decide (a = b)
def pre_ints (a b : List Int) : Prop := a.length ≤ 1000 ∧ b.length ≤ 1000
def sp_insert : Bel → List Int → Bel
 | [], s => [s]
 | x :: r, s => if sp_before x s = true then x :: sp_insert r s else if x = s then x :: r else s :: x :: r
def pre_insert (l : Bel) (s : List Int) : Prop := l.length ≤ 1000 ∧ s.length ≤ 1000 ∧ ∀ x ∈ l, x.length ≤ 1000
def sp_normal (l : Bel) : Bel := l.foldl sp_insert []
def pre_normal (l : Bel) : Prop := l.length ≤ 1000 ∧ ∀ x ∈ l, x.length ≤ 1000
def sp_sortR (l : Bel) : Bel := l.mergeSort fun x y => !sp_before y x
def pre_sortR (l : Bel) : Prop := l.length ≤ 1000 ∧ ∀ x ∈ l, x.length ≤ 1000
def sp_compactR (l : Bel) : Bel := l.foldl (fun acc x => if acc.getLast? = some x then acc else acc ++ [x]) []
def pre_compactR (l : Bel) : Prop := l.length ≤ 1000 ∧ ∀ x ∈ l, x.length ≤ 1000
def maskAdd (u : List Int) (m : Nat) : List Int := (u.zipIdx.filter fun p => m.testBit p.2).map (·.1)
def sp_worlds (t : Task) (u : List Int) : Bel := sp_normal ((List.range (2 ^ u.length)).map fun m => sp_update t.init (maskAdd u m) u)
def UOK (t : Task) (u : List Int) : Prop := sp_validate t = ⟨0, 0⟩ ∧ u.length ≤ 4 ∧ sp_isSet u t.facts = true
def pre_worlds (t : Task) (u : List Int) : Prop := UOK t u
def WsOK (t : Task) (ws : Bel) : Prop := ws.length ≤ 16 ∧ ∀ s ∈ ws, sp_isSet s t.facts = true
def sp_bafter (t : Task) (ws : Bel) (op : Int) : Bel := sp_normal (ws.map fun s => sp_after t s op)
def pre_bafter (t : Task) (ws : Bel) (op : Int) : Prop := sp_validate t = ⟨0, 0⟩ ∧ inb t.ops op ∧ WsOK t ws
def flip2 (n : Int) (x : Int) (next : Bel) (s : List Int) : Bel := sp_insert (sp_insert next (sp_changed n s [x] [])) (sp_changed n s [] [x])
def sp_possible (t : Task) (u : List Int) : Bel := u.foldl (fun out x => out.foldl (flip2 t.facts x) []) [t.init]
def pre_possible (t : Task) (u : List Int) : Prop := UOK t u
def sp_afterAll (t : Task) (ws : Bel) (op : Int) : Bel := sp_bafter t ws op
def pre_afterAll (t : Task) (ws : Bel) (op : Int) : Prop := pre_bafter t ws op
def sp_allHold (ws : Bel) (facts : List Int) : Bool := ws.all fun s => sp_subset facts s
def pre_allHold (ws : Bel) (facts : List Int) : Prop := ws.length ≤ 1000 ∧ facts.length ≤ 1000 ∧ ∀ s ∈ ws, s.length ≤ 1000
def sp_same (a b : Bel) : Bool := decide (a = b)
def pre_same (a b : Bel) : Prop := a.length ≤ 1000 ∧ b.length ≤ 1000 ∧ (∀ s ∈ a, s.length ≤ 1000) ∧ ∀ s ∈ b, s.length ≤ 1000
def sp_placeOf (all : List Bel) (l : Bel) : Int := if l ∈ all then all.idxOf l else -1
def pre_placeOf (all : List Bel) (l : Bel) : Prop := all.length ≤ 1000 ∧ (∀ x ∈ all, x.length ≤ 1000 ∧ ∀ s ∈ x, s.length ≤ 1000) ∧ l.length ≤ 1000 ∧ ∀ s ∈ l, s.length ≤ 1000
def bsucc (t : Task) (ws : Bel) : List (Int × Bel) := (allS t.ops.length).filterMap fun op => if sp_sure ws (gt t.ops op).pre = true then some (op, sp_bafter t ws op) else none
def sp_succ (_ : Task) (_ : Bel) : Unit := ()
def sp_small1 (_ : Bel) : Bool := false
def sp_able : Task := ⟨1, [], [0], [⟨[], [0], [], 1⟩]⟩
def sp_observed (ws : Bel) (f : Int) : Bel × Bel := (ws.filter fun s => decide (f ∈ s), ws.filter fun s => !decide (f ∈ s))
def pre_observed (ws : Bel) (_ : Int) : Prop := ws.length ≤ 1000 ∧ ∀ s ∈ ws, s.length ≤ 1000
def osucc (t : Task) (sN : List Int) (ws : Bel) : List Bel := ((bsucc t ws).map (·.2)) ++ sN.flatMap fun f => if (sp_observed ws f).1 ≠ [] ∧ (sp_observed ws f).2 ≠ [] then [(sp_observed ws f).1, (sp_observed ws f).2] else []
def addNew (most : Int) : List Bel → List Bel → Option (List Bel)
 | [], all => some all
 | n :: r, all => if n ∈ all then addNew most r all else if most ≤ (all.length : Int) then none else addNew most r (all ++ [n])
def bclose (most : Int) (succ : Bel → List Bel) : Nat → List Bel → Nat → Option (List Bel)
 | 0, all, _ => some all
 | k + 1, all, i => match all[i]? with
  | none => some all
  | some b => match addNew most (succ b) all with
   | none => none
   | some all' => bclose most succ k all' (i + 1)
def sp_beliefs (t : Task) (start : Bel) (sN : List Int) (most : Int) : List Bel × Bool := match bclose most (osucc t sN) (most.toNat + 1) [start] 0 with
 | some all => (all, true)
 | none => ([], false)
def pre_beliefs (t : Task) (start : Bel) (sN : List Int) (most : Int) : Prop := sp_validate t = ⟨0, 0⟩ ∧ WsOK t start ∧ sp_isSet sN t.facts = true ∧ 1 ≤ most ∧ most ≤ 1000
structure Closed (t : Task) (all : List Bel) : Prop where
 val : sp_validate t = ⟨0, 0⟩
 len : all.length ≤ 1000
 pos : 0 < all.length
 ok : ∀ b ∈ all, WsOK t b
 nodup : all.Nodup
 step : ∀ b ∈ all, ∀ x ∈ bsucc t b, x.2 ∈ all
end Go.Proofs.YtojoehfldbimpaaGreatDoor.Pl

namespace Go.Proofs.YtojoehfldbimpaaGreatDoor.Pl
open Go Go.RowKit
structure Srch where
 t : Task
 sN : List Int
def sp_itoa (i : Int) : List UInt8 := Lib.itoa i
def pre_itoa (i : Int) : Prop := 0 ≤ i ∧ i < 100
def sp_ccheck (t : Task) (u sN : List Int) : Fault :=
 if sp_unknownFault t u = ⟨0, 0⟩ then if sp_isSet sN t.facts = true then ⟨0, 0⟩ else ⟨5, -9⟩ else sp_unknownFault t u
def sp_nodeCode (t : Task) (sN : List Int) (n : TNode) (i : Int) : Int :=
 if n.kind = 1 then (if n.op = 0 ∧ n.fact = 0 ∧ n.yes = 0 ∧ n.no = 0 then 0 else 5)
 else if n.kind = 2 then (if n.op < 0 ∨ (t.ops.length : Int) ≤ n.op then 3 else if n.fact = 0 ∧ n.no = 0 ∧ 0 ≤ n.yes ∧ n.yes < i then 0 else 5)
 else if n.kind = 3 then (if n.fact ∈ sN then (if n.op = 0 ∧ 0 ≤ n.yes ∧ n.yes < i ∧ 0 ≤ n.no ∧ n.no < i then 0 else 5) else 6)
 else 4
def pre_nodeCode (_ : Task) (sN : List Int) (_ : TNode) (i : Int) : Prop := sN.length ≤ 1000 ∧ 0 ≤ i ∧ i ≤ 1000
def nodeF (t : Task) (sN : List Int) (tree : List TNode) (j : Nat) : Fault := if sp_nodeCode t sN (gt tree j) j = 0 then ⟨0, 0⟩ else ⟨sp_nodeCode t sN (gt tree j) j, j⟩
def sp_cvalidate (t : Task) (sN : List Int) (tree : List TNode) : Fault :=
 if sp_ccheck t [] sN = ⟨0, 0⟩ then if tree.length = 0 ∨ 60 < tree.length then ⟨9, -1⟩ else ffirst (nodeF t sN tree) tree.length else sp_ccheck t [] sN
structure TreeOK (t : Task) (tree : List TNode) : Prop where
 pos : 0 < tree.length
 len : tree.length ≤ 60
 node : ∀ (j : Nat) (n : TNode), tree[j]? = some n → n.kind = 1 ∨ (n.kind = 2 ∧ inb t.ops n.op ∧ 0 ≤ n.yes ∧ n.yes < j) ∨ (n.kind = 3 ∧ 0 ≤ n.yes ∧ n.yes < j ∧ 0 ≤ n.no ∧ n.no < j)
def nodeD (d : List Int) (n : TNode) : Int := if n.kind = 2 then 1 + gt d n.yes else if n.kind = 3 then 1 + (if gt d n.yes < gt d n.no then gt d n.no else gt d n.yes) else 0
def depths (tree : List TNode) : List Int := tree.foldl (fun d n => d ++ [nodeD d n]) []
def sp_deep (tree : List TNode) : Int := gt (depths tree) ((tree.length : Int) - 1)
def pre_deep (tree : List TNode) : Prop := ∃ t, TreeOK t tree
def sp_depth (t : Task) (sN : List Int) (tree : List TNode) : Int × Fault := if sp_cvalidate t sN tree = ⟨0, 0⟩ then (sp_deep tree, ⟨0, 0⟩) else (0, sp_cvalidate t sN tree)
def sp_split (ws : Bel) (f : Int) : Bel × Bel := sp_observed ws f
def pre_split (ws : Bel) (f : Int) : Prop := pre_observed ws f
def obsOk (ws : Bel) (f : Int) : Bool := decide ((sp_observed ws f).1 ≠ [] ∧ (sp_observed ws f).2 ≠ [])
def within (t : Task) (sN : List Int) : Nat → Bel → Bool
 | 0, ws => sp_sure ws t.goal
 | d + 1, ws => sp_sure ws t.goal || ((bsucc t ws).any fun x => within t sN d x.2) ||
   sN.any fun f => obsOk ws f && (within t sN d (sp_observed ws f).1 && within t sN d (sp_observed ws f).2)
def sp_within (t : Task) (sN : List Int) (ws : Bel) (d : Int) : Bool := within t sN d.toNat ws
def pre_within (t : Task) (sN : List Int) (ws : Bel) (d : Int) : Prop := sp_validate t = ⟨0, 0⟩ ∧ WsOK t ws ∧ sp_isSet sN t.facts = true ∧ 0 ≤ d ∧ d ≤ 6
def mu_within (_ : Task) (_ : List Int) (_ : Bel) (d : Int) : Nat := d.toNat
def treeT (t : Task) (sN : List Int) : Nat → Bel → List TNode → List TNode
 | 0, _, out => out ++ [⟨1, 0, 0, 0, 0⟩]
 | d + 1, ws, out =>
  if within t sN d ws = true then treeT t sN d ws out
  else match (bsucc t ws).find? fun x => within t sN d x.2 with
   | some x => treeT t sN d x.2 out ++ [⟨2, x.1, 0, ((treeT t sN d x.2 out).length : Int) - 1, 0⟩]
   | none => match sN.find? fun f => obsOk ws f && (within t sN d (sp_observed ws f).1 && within t sN d (sp_observed ws f).2) with
    | some f => treeT t sN d (sp_observed ws f).2 (treeT t sN d (sp_observed ws f).1 out) ++
      [⟨3, 0, f, ((treeT t sN d (sp_observed ws f).1 out).length : Int) - 1, ((treeT t sN d (sp_observed ws f).2 (treeT t sN d (sp_observed ws f).1 out)).length : Int) - 1⟩]
    | none => out
def sp_tree (t : Task) (sN : List Int) (ws : Bel) (most : Int) (out : List TNode) : List TNode := treeT t sN most.toNat ws out
def pre_tree (t : Task) (sN : List Int) (ws : Bel) (most : Int) (out : List TNode) : Prop := pre_within t sN ws most ∧ out.length + 2 ^ (most.toNat + 1) ≤ 1000 ∧ within t sN most.toNat ws = true
def mu_tree (_ : Task) (_ : List Int) (_ : Bel) (most : Int) (_ : List TNode) : Nat := most.toNat
def sp_trees (a b : List TNode) : Bool := decide (a = b)
def pre_trees (a b : List TNode) : Prop := a.length ≤ 1000 ∧ b.length ≤ 1000
def srInv (k : Srch) (m : List UInt8 → Int) : Prop := ∀ (d : Int) (ws : Bel), 0 ≤ d → WsOK k.t ws → 0 < m ((Lib.itoa d ++ [58]) ++ keyL ws) → within k.t k.sN d.toNat ws = false
def sp_snext (_ : Srch) (_ : Bel) : Unit := ()
def sp_scan (k : Srch) (ws : Bel) (d : Int) : Bool := within k.t k.sN d.toNat ws
def pre_scan (k : Srch) (ws : Bel) (d : Int) : Prop := pre_within k.t k.sN ws d
def mu_scan (_ : Srch) (_ : Bel) (d : Int) : Nat := d.toNat
def leastW (t : Task) (sN : List Int) (ws : Bel) (most : Nat) : Option Nat := (List.range (most + 1)).find? fun d => within t sN d ws
def sp_sleast (k : Srch) (ws : Bel) (most : Int) : Int := match leastW k.t k.sN ws most.toNat with
 | some d => (d : Int)
 | none => -1
def pre_sleast (k : Srch) (ws : Bel) (most : Int) : Prop := pre_within k.t k.sN ws most
def sp_sput (_ : Srch) (tr : List TNode) (n : TNode) : Int × List TNode := ((tr.length : Int), tr ++ [n])
def pre_sput (_ : Srch) (tr : List TNode) (_ : TNode) : Prop := tr.length ≤ 1000
def sp_sbuild (k : Srch) (tr : List TNode) (ws : Bel) (d : Int) : Int × List TNode := (((treeT k.t k.sN d.toNat ws tr).length : Int) - 1, treeT k.t k.sN d.toNat ws tr)
def pre_sbuild (k : Srch) (tr : List TNode) (ws : Bel) (d : Int) : Prop := pre_tree k.t k.sN ws d tr ∧ ∀ j : Nat, (j : Int) < d → within k.t k.sN j ws = false
def mu_sbuild (_ : Srch) (_ : List TNode) (_ : Bel) (d : Int) : Nat := d.toNat
def csucc (t : Task) (sN : List Int) (ws : Bel) : List (Int × Bel) := bsucc t ws ++ sN.flatMap fun f => if obsOk ws f = true then [(-1, (sp_observed ws f).1), (-1, (sp_observed ws f).2)] else []
def sp_breadthC (start : Bel) (k : Srch) : List Int × Bool × Bool := search (csucc k.t k.sN) (fun _ => false) start
def pre_breadthC (start : Bel) (k : Srch) : Prop := sp_validate k.t = ⟨0, 0⟩ ∧ WsOK k.t start ∧ sp_isSet k.sN k.t.facts = true
def sp_smallC (start : Bel) (k : Srch) : Bool := (search (csucc k.t k.sN) (fun _ => false) start).2.2
def pre_smallC (start : Bel) (k : Srch) : Prop := pre_breadthC start k
def sp_cplan (t : Task) (u sN : List Int) (depth : Int) : List TNode × Bool × Fault :=
 if sp_ccheck t u sN = ⟨0, 0⟩ then
  if depth < 0 ∨ 6 < depth then ([], false, ⟨3, -10⟩)
  else if sp_smallC (sp_worlds t u) ⟨t, sN⟩ = true then
   match leastW t sN (sp_worlds t u) depth.toNat with
   | none => ([], false, ⟨0, 0⟩)
   | some d => if 60 < (treeT t sN d (sp_worlds t u) []).length then ([], false, ⟨10, -1⟩) else (treeT t sN d (sp_worlds t u) [], true, ⟨0, 0⟩)
  else ([], false, ⟨10, -7⟩)
 else ([], false, sp_ccheck t u sN)
def sp_stopped : Bool := true
def sp_lawContPlan (_ : Task) (_ _ : List Int) (_ : Int) : Bool := true
end Go.Proofs.YtojoehfldbimpaaGreatDoor.Pl

namespace Go.Proofs.YtojoehfldbimpaaGreatDoor.Pl
open Go Go.RowKit
theorem tZ27 : TZero Tryz.prog 27 [.int .i64 0, .int .i64 0] := tZero_mk (z := .agg #[.int .i64 0, .int .i64 0]) (by kernel_rfl) rfl
theorem tB27 : TBld Tryz.prog 27 [.int .i64 0, .int .i64 0] [(0, 1), (1, 1)] := tBld_mk Tryz.underlying27 (by kernel_rfl) (z := .agg #[.int .i64 0, .int .i64 0]) (by kernel_rfl) (by kernel_rfl)
theorem tA27 : TAgg Tryz.prog 27 2 := tAgg_mk Tryz.underlying27 rfl (by kernel_rfl)
theorem tS22 : TSl Tryz.prog 22 3 1 8 [.int .i64 0] := tSl_mk (z := .int .i64 0) Tryz.underlying22 (by kernel_rfl) rfl
theorem tO3 : TOne Tryz.prog 3 := tOne_mk Tryz.underlying3 rfl (by kernel_rfl)
theorem tO22 : TOne Tryz.prog 22 := tOne_mk Tryz.underlying22 rfl (by kernel_rfl)
theorem tF54_0 : FldAt Tryz.prog 54 0 0 := fldAt_mk Tryz.underlying54 (by kernel_rfl)
theorem tF54_1 : FldAt Tryz.prog 54 1 1 := fldAt_mk Tryz.underlying54 (by kernel_rfl)
theorem tF54_2 : FldAt Tryz.prog 54 2 2 := fldAt_mk Tryz.underlying54 (by kernel_rfl)
theorem tF54_3 : FldAt Tryz.prog 54 3 3 := fldAt_mk Tryz.underlying54 (by kernel_rfl)
theorem tF25_0 : FldAt Tryz.prog 25 0 0 := fldAt_mk Tryz.underlying25 (by kernel_rfl)
theorem tF25_1 : FldAt Tryz.prog 25 1 1 := fldAt_mk Tryz.underlying25 (by kernel_rfl)
theorem tF25_2 : FldAt Tryz.prog 25 2 2 := fldAt_mk Tryz.underlying25 (by kernel_rfl)
theorem tF25_3 : FldAt Tryz.prog 25 3 3 := fldAt_mk Tryz.underlying25 (by kernel_rfl)
theorem tO23 : TOne Tryz.prog 23 := tOne_mk Tryz.underlying23 rfl (by kernel_rfl)
theorem tS23 : TSl Tryz.prog 23 54 4 80 [.slice none 0 0, .slice none 0 0, .slice none 0 0, .int .i64 0] := tSl_mk (z := .agg #[.slice none 0 0, .slice none 0 0, .slice none 0 0, .int .i64 0]) Tryz.underlying23 (by kernel_rfl) rfl
theorem tA54 : TAgg Tryz.prog 54 4 := tAgg_mk Tryz.underlying54 rfl (by kernel_rfl)
theorem tZ54 : TZero Tryz.prog 54 [.slice none 0 0, .slice none 0 0, .slice none 0 0, .int .i64 0] := tZero_mk (z := .agg #[.slice none 0 0, .slice none 0 0, .slice none 0 0, .int .i64 0]) (by kernel_rfl) rfl
theorem tA25 : TAgg Tryz.prog 25 4 := tAgg_mk Tryz.underlying25 rfl (by kernel_rfl)
theorem tS35 : TSl Tryz.prog 35 22 1 24 [.slice none 0 0] := tSl_mk (z := .slice none 0 0) Tryz.underlying35 (by kernel_rfl) rfl
theorem tS110 : TSl Tryz.prog 110 5 1 1 [.int .u8 0] := tSl_mk (z := .int .u8 0) Tryz.underlying110 (by kernel_rfl) rfl
theorem tE27 : TEq2 Tryz.prog 27 := ⟨by kernel_rfl, fun d a b c e w => by
 simp [go_sem]
 by_cases h1 : a = c <;> by_cases h2 : b = e <;> simp [h1, h2]⟩
theorem tF27_0 : FldAt Tryz.prog 27 0 0 := fldAt_mk Tryz.underlying27 (by kernel_rfl)
theorem tS32 : TSl Tryz.prog 32 35 1 24 [.slice none 0 0] := tSl_mk (z := .slice none 0 0) Tryz.underlying32 (by kernel_rfl) rfl
theorem tO35 : TOne Tryz.prog 35 := tOne_mk Tryz.underlying35 rfl (by kernel_rfl)
theorem tZ25 : TZero Tryz.prog 25 [.int .i64 0, .slice none 0 0, .slice none 0 0, .slice none 0 0] := tZero_mk (z := .agg #[.int .i64 0, .slice none 0 0, .slice none 0 0, .slice none 0 0]) (by kernel_rfl) rfl
theorem tB54 : TBld Tryz.prog 54 [.slice none 0 0, .slice none 0 0, .slice none 0 0, .int .i64 0] [(0, 1), (1, 1), (2, 1), (3, 1)] := tBld_mk Tryz.underlying54 (by kernel_rfl) (z := .agg #[.slice none 0 0, .slice none 0 0, .slice none 0 0, .int .i64 0]) (by kernel_rfl) (by kernel_rfl)
theorem tB25 : TBld Tryz.prog 25 [.int .i64 0, .slice none 0 0, .slice none 0 0, .slice none 0 0] [(0, 1), (1, 1), (2, 1), (3, 1)] := tBld_mk Tryz.underlying25 (by kernel_rfl) (z := .agg #[.int .i64 0, .slice none 0 0, .slice none 0 0, .slice none 0 0]) (by kernel_rfl) (by kernel_rfl)
theorem tZ22 : TZero Tryz.prog 22 [.slice none 0 0] := tZero_mk (z := .slice none 0 0) (by kernel_rfl) rfl
theorem tZ4 : TZero Tryz.prog 4 [.bool false] := tZero_mk (z := .bool false) (by kernel_rfl) rfl
theorem tB113 : TBld Tryz.prog 113 [.slice none 0 0, .int .i64 0, .int .i64 0] [(0, 1), (1, 1), (2, 1)] := tBld_mk Tryz.underlying113 (by kernel_rfl) (z := .agg #[.slice none 0 0, .int .i64 0, .int .i64 0]) (by kernel_rfl) (by kernel_rfl)
theorem tS114 : TSl Tryz.prog 114 113 3 40 [.slice none 0 0, .int .i64 0, .int .i64 0] := tSl_mk (z := .agg #[.slice none 0 0, .int .i64 0, .int .i64 0]) Tryz.underlying114 (by kernel_rfl) rfl
theorem tZ114 : TZero Tryz.prog 114 [.slice none 0 0] := tZero_mk (z := .slice none 0 0) (by kernel_rfl) rfl
theorem tO114 : TOne Tryz.prog 114 := tOne_mk Tryz.underlying114 rfl (by kernel_rfl)
theorem tM97 : TMap Tryz.prog 97 := tMap_mk Tryz.underlying97 Tryz.underlying9 (by kernel_rfl)
theorem tO80 : TOne Tryz.prog 80 := tOne_mk Tryz.underlying80 rfl (by kernel_rfl)
theorem tZ97 : TZero Tryz.prog 97 [.map none] := tZero_mk (z := .map none) (by kernel_rfl) rfl
theorem tO97 : TOne Tryz.prog 97 := tOne_mk Tryz.underlying97 rfl (by kernel_rfl)
theorem tZ3 : TZero Tryz.prog 3 [.int .i64 0] := tZero_mk (z := .int .i64 0) (by kernel_rfl) rfl
theorem tF113_0 : FldAt Tryz.prog 113 0 0 := fldAt_mk Tryz.underlying113 (by kernel_rfl)
theorem tF113_1 : FldAt Tryz.prog 113 1 1 := fldAt_mk Tryz.underlying113 (by kernel_rfl)
theorem tF113_2 : FldAt Tryz.prog 113 2 2 := fldAt_mk Tryz.underlying113 (by kernel_rfl)
theorem tO4 : TOne Tryz.prog 4 := tOne_mk Tryz.underlying4 rfl (by kernel_rfl)
theorem tF102_0 : FldAt Tryz.prog 102 0 0 := fldAt_mk Tryz.underlying102 (by kernel_rfl)
theorem tB102 : TBld Tryz.prog 102 [.int .i64 0, .int .i64 0, .int .i64 0, .int .i64 0, .int .i64 0] [(0, 1), (1, 1), (2, 1), (3, 1), (4, 1)] := tBld_mk Tryz.underlying102 (by kernel_rfl) (z := .agg #[.int .i64 0, .int .i64 0, .int .i64 0, .int .i64 0, .int .i64 0]) (by kernel_rfl) (by kernel_rfl)
theorem tZ102 : TZero Tryz.prog 102 [.int .i64 0, .int .i64 0, .int .i64 0, .int .i64 0, .int .i64 0] := tZero_mk (z := .agg #[.int .i64 0, .int .i64 0, .int .i64 0, .int .i64 0, .int .i64 0]) (by kernel_rfl) rfl
theorem tA102 : TAgg Tryz.prog 102 5 := tAgg_mk Tryz.underlying102 rfl (by kernel_rfl)
theorem tF102_1 : FldAt Tryz.prog 102 1 1 := fldAt_mk Tryz.underlying102 (by kernel_rfl)
theorem tF102_3 : FldAt Tryz.prog 102 3 3 := fldAt_mk Tryz.underlying102 (by kernel_rfl)
theorem tF102_2 : FldAt Tryz.prog 102 2 2 := fldAt_mk Tryz.underlying102 (by kernel_rfl)
theorem tF102_4 : FldAt Tryz.prog 102 4 4 := fldAt_mk Tryz.underlying102 (by kernel_rfl)
theorem tE102 : TEq5 Tryz.prog 102 := ⟨by kernel_rfl, fun d a b c e f a' b' c' e' f' w => by
 simp [go_sem]
 by_cases h1 : a = a' <;> by_cases h2 : b = b' <;> by_cases h3 : c = c' <;> by_cases h4 : e = e' <;> by_cases h5 : f = f' <;> simp [h1, h2, h3, h4, h5]⟩
theorem tS60 : TSl Tryz.prog 60 102 5 40 [.int .i64 0, .int .i64 0, .int .i64 0, .int .i64 0, .int .i64 0] := tSl_mk (z := .agg #[.int .i64 0, .int .i64 0, .int .i64 0, .int .i64 0, .int .i64 0]) Tryz.underlying60 (by kernel_rfl) rfl
theorem tO96 : TOne Tryz.prog 96 := tOne_mk Tryz.underlying96 rfl (by kernel_rfl)
theorem tF99_0 : FldAt Tryz.prog 99 0 0 := fldAt_mk Tryz.underlying99 (by kernel_rfl)
theorem tO119 : TOne Tryz.prog 119 := tOne_mk Tryz.underlying119 rfl (by kernel_rfl)
theorem tF99_1 : FldAt Tryz.prog 99 1 4 := fldAt_mk Tryz.underlying99 (by kernel_rfl)
theorem tF99_2 : FldAt Tryz.prog 99 2 5 := fldAt_mk Tryz.underlying99 (by kernel_rfl)
theorem tF99_3 : FldAt Tryz.prog 99 3 6 := fldAt_mk Tryz.underlying99 (by kernel_rfl)
theorem tO60 : TOne Tryz.prog 60 := tOne_mk Tryz.underlying60 rfl (by kernel_rfl)
theorem tB99 : TBld Tryz.prog 99 [.int .i64 0, .slice none 0 0, .slice none 0 0, .slice none 0 0, .slice none 0 0, .map none, .slice none 0 0] [(0, 4), (4, 1), (5, 1), (6, 1)] := tBld_mk Tryz.underlying99 (by kernel_rfl) (z := .agg #[.int .i64 0, .slice none 0 0, .slice none 0 0, .slice none 0 0, .slice none 0 0, .map none, .slice none 0 0]) (by kernel_rfl) (by kernel_rfl)
end Go.Proofs.YtojoehfldbimpaaGreatDoor.Pl

namespace Go.Proofs.YtojoehfldbimpaaGreatDoor.Pl
open Go Go.RowKit
def F_in_ (n_ : Int) (low : Int) (high : Int) (K : Bool → Prop) : Prop :=
 ((decide (low ≤ n_)) = true →
  K (decide (n_ ≤ high))) ∧
 ((decide (low ≤ n_)) = false →
  K false)
def F_at_ (code : Int) (index : Int) (K : Fault → Prop) : Prop :=
 K (⟨code, index⟩ : Fault)
def F_has_L1 (l : List Int) (n_ : Int) (K : Bool → Prop) (i : Int) (I1 : Int → Prop) (μ1 : Int → Nat) : Prop :=
 ((decide (i < ((l.length : Nat) : Int))) = true →
  (inb l i) ∧
  (((gt l i) == n_) = true →
   K true) ∧
  (((gt l i) == n_) = false →
   I1 (IntKind.i64.wrap (i + 1)) ∧
 μ1 (IntKind.i64.wrap (i + 1)) < μ1 i)) ∧
 ((decide (i < ((l.length : Nat) : Int))) = false →
  K false)
def F_has (l : List Int) (n_ : Int) (K : Bool → Prop) : Prop :=
 ∃ (I1 : Int → Prop) (μ1 : Int → Nat), I1 0 ∧ ∀ (i : Int), I1 i → F_has_L1 l n_ K i I1 μ1
def F_index_L1 (s_ : List Int) (v : Int) (K : Int → Prop) (t8 : Int) (I1 : Int → Prop) (μ1 : Int → Nat) : Prop :=
 ((decide (t8 < ((s_.length : Nat) : Int))) = true →
  (inb s_ t8) ∧
  ((v == (gt s_ t8)) = true →
   K t8) ∧
  ((v == (gt s_ t8)) = false →
   I1 (IntKind.i64.wrap (t8 + 1)) ∧
 μ1 (IntKind.i64.wrap (t8 + 1)) < μ1 t8)) ∧
 ((decide (t8 < ((s_.length : Nat) : Int))) = false →
  K (-1))
def F_index (s_ : List Int) (v : Int) (K : Int → Prop) : Prop :=
 ∃ (I1 : Int → Prop) (μ1 : Int → Nat), I1 0 ∧ ∀ (t8 : Int), I1 t8 → F_index_L1 s_ v K t8 I1 μ1
def F_contains (s_ : List Int) (v : Int) (K : Bool → Prop) : Prop :=
 (pre_index s_ v) ∧
 ∀ r2 : Int, r2 = (sp_index s_ v) →
 K (decide (0 ≤ r2))
def F_isNaN1 (x : Int) (K : Bool → Prop) : Prop :=
 K (x != x)
def F_isNaN2 (x : Int) (K : Bool → Prop) : Prop :=
 K (x != x)
def F_less (x : Int) (y : Int) (K : Bool → Prop) : Prop :=
 ∀ r2 : Bool, r2 = (sp_isNaN1 x) →
 ((r2) = true →
  ∀ r3 : Bool, r3 = (sp_isNaN1 y) →
  ((!r3) = true →
   K true) ∧
  ((!r3) = false →
   K (decide (x < y)))) ∧
 ((r2) = false →
  K (decide (x < y)))
def F_bsearch_L1 (x : List Int) (target : Int) (K : (Int × Bool) → Prop) (i : Int) (j : Int) (I1 : Int → Int → Prop) (μ1 : Int → Int → Nat) : Prop :=
 ((decide (i < j)) = true →
  ∀ x2 : Int, x2 = (Int.fdiv (IntKind.u64.wrap (IntKind.i64.wrap (i + j))) (2 ^ (min ((1 : Int)).toNat (IntKind.bits .u64)))) →
  (inb x (IntKind.i64.wrap (x2))) ∧
  ∀ r2 : Bool, r2 = (sp_less (gt x (IntKind.i64.wrap (x2))) target) →
  ((r2) = true →
   I1 (IntKind.i64.wrap ((IntKind.i64.wrap (x2)) + 1)) j ∧
 μ1 (IntKind.i64.wrap ((IntKind.i64.wrap (x2)) + 1)) j < μ1 i j) ∧
  ((r2) = false →
   I1 i (IntKind.i64.wrap (x2)) ∧
 μ1 i (IntKind.i64.wrap (x2)) < μ1 i j)) ∧
 ((decide (i < j)) = false →
  ((decide (i < ((x.length : Nat) : Int))) = true →
   (inb x i) ∧
   (((gt x i) == target) = true →
    K (i, true)) ∧
   (((gt x i) == target) = false →
    ∀ r3 : Bool, r3 = (sp_isNaN1 (gt x i)) →
    ((r3) = true →
     ∀ r4 : Bool, r4 = (sp_isNaN1 target) →
     K (i, r4)) ∧
    ((r3) = false →
     K (i, false)))) ∧
  ((decide (i < ((x.length : Nat) : Int))) = false →
   K (i, false)))
def F_bsearch (x : List Int) (target : Int) (K : (Int × Bool) → Prop) : Prop :=
 ∃ (I1 : Int → Int → Prop) (μ1 : Int → Int → Nat), I1 0 ((x.length : Nat) : Int) ∧ ∀ (i : Int) (j : Int), I1 i j → F_bsearch_L1 x target K i j I1 μ1
def F_indexF_L1 (s_ : List Int) (pf : Int → Bool) (Df : Int → Prop) (K : Int → Prop) (t8 : Int) (I1 : Int → Prop) (μ1 : Int → Nat) : Prop :=
 ((decide (t8 < ((s_.length : Nat) : Int))) = true →
  (inb s_ t8) ∧
  (Df (gt s_ t8)) ∧
  ∀ r2 : Bool, r2 = (pf (gt s_ t8)) →
  ((r2) = true →
   K t8) ∧
  ((r2) = false →
   I1 (IntKind.i64.wrap (t8 + 1)) ∧
 μ1 (IntKind.i64.wrap (t8 + 1)) < μ1 t8)) ∧
 ((decide (t8 < ((s_.length : Nat) : Int))) = false →
  K (-1))
def F_indexF (s_ : List Int) (pf : Int → Bool) (Df : Int → Prop) (K : Int → Prop) : Prop :=
 ∃ (I1 : Int → Prop) (μ1 : Int → Nat), I1 0 ∧ ∀ (t8 : Int), I1 t8 → F_indexF_L1 s_ pf Df K t8 I1 μ1
def F_containsF (s_ : List Int) (pf : Int → Bool) (Df : Int → Prop) (K : Bool → Prop) : Prop :=
 (pre_any s_ pf Df) ∧
 ∀ r2 : Int, r2 = (sp_indexF s_ pf Df) →
 K (decide (0 ≤ r2))
def F_isSet_J1 (K : Bool → Prop) (t33 : Bool) (t9 : Int) (I1 : Int → Prop) (μ1 : Int → Nat) : Prop :=
 ((t33) = true →
  K false) ∧
 ((t33) = false →
  I1 (IntKind.i64.wrap (t9 + 1)) ∧
 μ1 (IntKind.i64.wrap (t9 + 1)) < μ1 t9)
def F_isSet_L1 (l : List Int) (n_ : Int) (K : Bool → Prop) (t9 : Int) (I1 : Int → Prop) (μ1 : Int → Nat) : Prop :=
 ((decide (t9 < ((l.length : Nat) : Int))) = true →
  (inb l t9) ∧
  ((decide ((gt l t9) < 0)) = true →
   F_isSet_J1 K true t9 I1 μ1) ∧
  ((decide ((gt l t9) < 0)) = false →
   ((decide (n_ ≤ (gt l t9))) = true →
    F_isSet_J1 K true t9 I1 μ1) ∧
   ((decide (n_ ≤ (gt l t9))) = false →
    ((decide (0 < t9)) = true →
     (inb l (IntKind.i64.wrap (t9 - 1))) ∧
     F_isSet_J1 K (decide ((gt l t9) ≤ (gt l (IntKind.i64.wrap (t9 - 1))))) t9 I1 μ1) ∧
    ((decide (0 < t9)) = false →
     F_isSet_J1 K false t9 I1 μ1)))) ∧
 ((decide (t9 < ((l.length : Nat) : Int))) = false →
  K true)
def F_isSet (l : List Int) (n_ : Int) (K : Bool → Prop) : Prop :=
 ∃ (I1 : Int → Prop) (μ1 : Int → Nat), I1 0 ∧ ∀ (t9 : Int), I1 t9 → F_isSet_L1 l n_ K t9 I1 μ1
def F_rIsSet_J1 (K : Bool → Prop) (t35 : Bool) (i : Int) (I1 : Int → Prop) (μ1 : Int → Nat) : Prop :=
 ((t35) = true →
  K false) ∧
 ((t35) = false →
  I1 (IntKind.i64.wrap (i + 1)) ∧
 μ1 (IntKind.i64.wrap (i + 1)) < μ1 i)
def F_rIsSet_L1 (l : List Int) (n_ : Int) (K : Bool → Prop) (i : Int) (I1 : Int → Prop) (μ1 : Int → Nat) : Prop :=
 ((decide (i < ((l.length : Nat) : Int))) = true →
  (inb l i) ∧
  ∀ r2 : Bool, r2 = (sp_in_ (gt l i) 0 (IntKind.i64.wrap (n_ - 1))) →
  ((!r2) = true →
   F_rIsSet_J1 K true i I1 μ1) ∧
  ((!r2) = false →
   ((decide (0 < i)) = true →
    (inb l (IntKind.i64.wrap (i - 1))) ∧
    F_rIsSet_J1 K (decide ((gt l i) ≤ (gt l (IntKind.i64.wrap (i - 1))))) i I1 μ1) ∧
   ((decide (0 < i)) = false →
    F_rIsSet_J1 K false i I1 μ1))) ∧
 ((decide (i < ((l.length : Nat) : Int))) = false →
  K true)
def F_rIsSet (l : List Int) (n_ : Int) (K : Bool → Prop) : Prop :=
 ∃ (I1 : Int → Prop) (μ1 : Int → Nat), I1 0 ∧ ∀ (i : Int), I1 i → F_rIsSet_L1 l n_ K i I1 μ1
def F_meets1 (x : Int) (x2 : List Int) (K : Bool → Prop) : Prop :=
 (pre_bsearch x2 x) ∧
 ∀ r2 : Int × Bool, r2 = (sp_bsearch x2 x) →
 K r2.2
def F_meets (a : List Int) (b : List Int) (K : Bool → Prop) : Prop :=
 (pre_any a (fun y_ : Int => sp_meets1 y_ b) (fun y_ : Int => pre_meets1 y_ b)) ∧
 ∀ r2 : Bool, r2 = (sp_any a (fun y_ : Int => sp_meets1 y_ b) (fun y_ : Int => pre_meets1 y_ b)) →
 K r2
def F_disjoint_L1 (a : List Int) (b : List Int) (K : Bool → Prop) (i : Int) (I1 : Int → Prop) (μ1 : Int → Nat) : Prop :=
 ((decide (i < ((a.length : Nat) : Int))) = true →
  (inb a i) ∧
  (pre_has b (gt a i)) ∧
  ∀ r2 : Bool, r2 = (sp_has b (gt a i)) →
  ((r2) = true →
   K false) ∧
  ((r2) = false →
   I1 (IntKind.i64.wrap (i + 1)) ∧
 μ1 (IntKind.i64.wrap (i + 1)) < μ1 i)) ∧
 ((decide (i < ((a.length : Nat) : Int))) = false →
  K true)
def F_disjoint (a : List Int) (b : List Int) (K : Bool → Prop) : Prop :=
 ∃ (I1 : Int → Prop) (μ1 : Int → Nat), I1 0 ∧ ∀ (i : Int), I1 i → F_disjoint_L1 a b K i I1 μ1
def F_operator_J2 (K : Int → Prop) (t32 : Bool) : Prop :=
 ((t32) = true →
  K 3) ∧
 ((t32) = false →
  K 0)
def F_operator_J1 (o : Operator) (K : Int → Prop) (t5 : Bool) : Prop :=
 ((t5) = true →
  K 5) ∧
 ((t5) = false →
  ((decide (o.cost < 0)) = true →
   F_operator_J2 K true) ∧
  ((decide (o.cost < 0)) = false →
   F_operator_J2 K (decide (100 < o.cost))))
def F_operator (o : Operator) (facts : Int) (K : Int → Prop) : Prop :=
 (pre_isSet o.pre facts) ∧
 ∀ r2 : Bool, r2 = (sp_isSet o.pre facts) →
 ((!r2) = true →
  F_operator_J1 o K true) ∧
 ((!r2) = false →
  (pre_isSet o.add facts) ∧
  ∀ r3 : Bool, r3 = (sp_isSet o.add facts) →
  ((!r3) = true →
   F_operator_J1 o K true) ∧
  ((!r3) = false →
   (pre_isSet o.del facts) ∧
   ∀ r4 : Bool, r4 = (sp_isSet o.del facts) →
   ((!r4) = true →
    F_operator_J1 o K true) ∧
   ((!r4) = false →
    (pre_meets o.add o.del) ∧
    ∀ r5 : Bool, r5 = (sp_meets o.add o.del) →
    F_operator_J1 o K r5)))
def F_validate_L1 (t : Task) (K : Fault → Prop) (t41 : Int) (I1 : Int → Prop) (μ1 : Int → Nat) : Prop :=
 ((decide (t41 < ((t.ops.length : Nat) : Int))) = true →
  (inb t.ops t41) ∧
  (pre_operator (gt t.ops t41) t.facts) ∧
  ∀ r4 : Int, r4 = (sp_operator (gt t.ops t41) t.facts) →
  ((r4 != 0) = true →
   K (⟨r4, t41⟩ : Fault)) ∧
  ((r4 != 0) = false →
   I1 (IntKind.i64.wrap (t41 + 1)) ∧
 μ1 (IntKind.i64.wrap (t41 + 1)) < μ1 t41)) ∧
 ((decide (t41 < ((t.ops.length : Nat) : Int))) = false →
  K (⟨0, 0⟩ : Fault))
def F_validate_J1 (t : Task) (K : Fault → Prop) (t6 : Bool) : Prop :=
 ((t6) = true →
  K (⟨3, (-1)⟩ : Fault)) ∧
 ((t6) = false →
  (pre_isSet t.init t.facts) ∧
  ∀ r2 : Bool, r2 = (sp_isSet t.init t.facts) →
  ((!r2) = true →
   K (⟨5, (-2)⟩ : Fault)) ∧
  ((!r2) = false →
   (pre_isSet t.goal t.facts) ∧
   ∀ r3 : Bool, r3 = (sp_isSet t.goal t.facts) →
   ((!r3) = true →
    K (⟨5, (-3)⟩ : Fault)) ∧
   ((!r3) = false →
    ((decide (40 < ((t.ops.length : Nat) : Int))) = true →
     K (⟨2, (-1)⟩ : Fault)) ∧
    ((decide (40 < ((t.ops.length : Nat) : Int))) = false →
     ∃ (I1 : Int → Prop) (μ1 : Int → Nat), I1 0 ∧ ∀ (t41 : Int), I1 t41 → F_validate_L1 t K t41 I1 μ1))))
def F_validate (t : Task) (K : Fault → Prop) : Prop :=
 ((decide (t.facts < 0)) = true →
  F_validate_J1 t K true) ∧
 ((decide (t.facts < 0)) = false →
  F_validate_J1 t K (decide (24 < t.facts)))
def F_taskFault_J1 (t : Task) (K : Fault → Prop) (t70 : Bool) (i : Int) (I1 : Int → Prop) (μ1 : Int → Nat) : Prop :=
 ((t70) = true →
  ∀ r9 : Fault, r9 = (sp_at_ 5 i) →
  K r9) ∧
 ((t70) = false →
  ∀ r10 : Bool, r10 = (sp_in_ ((gt t.ops i).cost) 0 100) →
  ((!r10) = true →
   ∀ r11 : Fault, r11 = (sp_at_ 3 i) →
   K r11) ∧
  ((!r10) = false →
   I1 (IntKind.i64.wrap (i + 1)) ∧
 μ1 (IntKind.i64.wrap (i + 1)) < μ1 i))
def F_taskFault_L1 (t : Task) (K : Fault → Prop) (i : Int) (I1 : Int → Prop) (μ1 : Int → Nat) : Prop :=
 ((decide (i < ((t.ops.length : Nat) : Int))) = true →
  (inb t.ops i) ∧
  (pre_isSet ((gt t.ops i).pre) t.facts) ∧
  ∀ r12 : Bool, r12 = (sp_isSet ((gt t.ops i).pre) t.facts) →
  ((!r12) = true →
   F_taskFault_J1 t K true i I1 μ1) ∧
  ((!r12) = false →
   (pre_isSet ((gt t.ops i).add) t.facts) ∧
   ∀ r13 : Bool, r13 = (sp_isSet ((gt t.ops i).add) t.facts) →
   ((!r13) = true →
    F_taskFault_J1 t K true i I1 μ1) ∧
   ((!r13) = false →
    (pre_isSet ((gt t.ops i).del) t.facts) ∧
    ∀ r14 : Bool, r14 = (sp_isSet ((gt t.ops i).del) t.facts) →
    ((!r14) = true →
     F_taskFault_J1 t K true i I1 μ1) ∧
    ((!r14) = false →
     (pre_disjoint ((gt t.ops i).add) ((gt t.ops i).del)) ∧
     ∀ r15 : Bool, r15 = (sp_disjoint ((gt t.ops i).add) ((gt t.ops i).del)) →
     F_taskFault_J1 t K (!r15) i I1 μ1)))) ∧
 ((decide (i < ((t.ops.length : Nat) : Int))) = false →
  K (⟨0, 0⟩ : Fault))
def F_taskFault (t : Task) (K : Fault → Prop) : Prop :=
 ∀ r2 : Bool, r2 = (sp_in_ t.facts 0 24) →
 ((!r2) = true →
  ∀ r3 : Fault, r3 = (sp_at_ 3 (-1)) →
  K r3) ∧
 ((!r2) = false →
  (pre_isSet t.init t.facts) ∧
  ∀ r4 : Bool, r4 = (sp_isSet t.init t.facts) →
  ((!r4) = true →
   ∀ r5 : Fault, r5 = (sp_at_ 5 (-2)) →
   K r5) ∧
  ((!r4) = false →
   (pre_isSet t.goal t.facts) ∧
   ∀ r6 : Bool, r6 = (sp_isSet t.goal t.facts) →
   ((!r6) = true →
    ∀ r7 : Fault, r7 = (sp_at_ 5 (-3)) →
    K r7) ∧
   ((!r6) = false →
    ((decide (40 < ((t.ops.length : Nat) : Int))) = true →
     ∀ r8 : Fault, r8 = (sp_at_ 2 (-1)) →
     K r8) ∧
    ((decide (40 < ((t.ops.length : Nat) : Int))) = false →
     ∃ (I1 : Int → Prop) (μ1 : Int → Nat), I1 0 ∧ ∀ (i : Int), I1 i → F_taskFault_L1 t K i I1 μ1))))
def F_subset_L1 (part : List Int) (l : List Int) (K : Bool → Prop) (i : Int) (I1 : Int → Prop) (μ1 : Int → Nat) : Prop :=
 ((decide (i < ((part.length : Nat) : Int))) = true →
  (inb part i) ∧
  (pre_has l (gt part i)) ∧
  ∀ r2 : Bool, r2 = (sp_has l (gt part i)) →
  ((!r2) = true →
   K false) ∧
  ((!r2) = false →
   I1 (IntKind.i64.wrap (i + 1)) ∧
 μ1 (IntKind.i64.wrap (i + 1)) < μ1 i)) ∧
 ((decide (i < ((part.length : Nat) : Int))) = false →
  K true)
def F_subset (part : List Int) (l : List Int) (K : Bool → Prop) : Prop :=
 ∃ (I1 : Int → Prop) (μ1 : Int → Nat), I1 0 ∧ ∀ (i : Int), I1 i → F_subset_L1 part l K i I1 μ1
def F_after_J1 (out : List Int) (p : Int) (I1 : Int → (List Int) → Prop) (μ1 : Int → (List Int) → Nat) (out3 : List Int) : Prop :=
 I1 (IntKind.i64.wrap (p + 1)) out3 ∧
 μ1 (IntKind.i64.wrap (p + 1)) out3 < μ1 p out
def F_after_J2 (t38 : Bool) (out : List Int) (p : Int) (I1 : Int → (List Int) → Prop) (μ1 : Int → (List Int) → Nat) : Prop :=
 ((t38) = true →
  (room ((out ++ ([p] : List Int))).length 8) ∧
  F_after_J1 out p I1 μ1 (out ++ ([p] : List Int))) ∧
 ((t38) = false →
  F_after_J1 out p I1 μ1 out)
def F_after_L1 (t : Task) (s_ : List Int) (op : Int) (K : (List Int) → Prop) (out : List Int) (p : Int) (I1 : Int → (List Int) → Prop) (μ1 : Int → (List Int) → Nat) : Prop :=
 ((decide (p < t.facts)) = true →
  (inb t.ops op) ∧
  (pre_has ((gt t.ops op).add) p) ∧
  ∀ r2 : Bool, r2 = (sp_has ((gt t.ops op).add) p) →
  ((r2) = true →
   F_after_J2 true out p I1 μ1) ∧
  ((r2) = false →
   (pre_has s_ p) ∧
   ∀ r3 : Bool, r3 = (sp_has s_ p) →
   ((r3) = true →
    (pre_has ((gt t.ops op).del) p) ∧
    ∀ r4 : Bool, r4 = (sp_has ((gt t.ops op).del) p) →
    F_after_J2 (!r4) out p I1 μ1) ∧
   ((r3) = false →
    F_after_J2 false out p I1 μ1))) ∧
 ((decide (p < t.facts)) = false →
  K out)
def F_after (t : Task) (s_ : List Int) (op : Int) (K : (List Int) → Prop) : Prop :=
 ∃ (I1 : Int → (List Int) → Prop) (μ1 : Int → (List Int) → Nat), I1 0 ([] : List Int) ∧ ∀ (p : Int) (out : List Int), I1 p out → F_after_L1 t s_ op K out p I1 μ1
def F_update_J1 (out : List Int) (t14 : Int) (I1 : Int → (List Int) → Prop) (μ1 : Int → (List Int) → Nat) (out3 : List Int) : Prop :=
 I1 (IntKind.i64.wrap (t14 + 1)) out3 ∧
 μ1 (IntKind.i64.wrap (t14 + 1)) out3 < μ1 t14 out
def F_update_L1 (s_ : List Int) (add : List Int) (del : List Int) (K : (List Int) → Prop) (out : List Int) (t14 : Int) (I1 : Int → (List Int) → Prop) (μ1 : Int → (List Int) → Nat) : Prop :=
 ((decide (t14 < ((s_.length : Nat) : Int))) = true →
  (inb s_ t14) ∧
  (pre_bsearch del (gt s_ t14)) ∧
  ∀ r2 : Int × Bool, r2 = (sp_bsearch del (gt s_ t14)) →
  ((!r2.2) = true →
   (room ((out ++ ([(gt s_ t14)] : List Int))).length 8) ∧
   F_update_J1 out t14 I1 μ1 (out ++ ([(gt s_ t14)] : List Int))) ∧
  ((!r2.2) = false →
   F_update_J1 out t14 I1 μ1 out)) ∧
 ((decide (t14 < ((s_.length : Nat) : Int))) = false →
  (room ((out ++ add)).length 8) ∧
  (pre_sort (out ++ add)) ∧
  ∀ r3 : List Int, r3 = (sp_sort (out ++ add)) →
  (pre_compact r3) ∧
  ∀ r4 : List Int, r4 = (sp_compact r3) →
  K r4)
def F_update (s_ : List Int) (add : List Int) (del : List Int) (K : (List Int) → Prop) : Prop :=
 ∃ (I1 : Int → (List Int) → Prop) (μ1 : Int → (List Int) → Nat), I1 0 ([] : List Int) ∧ ∀ (t14 : Int) (out : List Int), I1 t14 out → F_update_L1 s_ add del K out t14 I1 μ1
def F_contains2_J2 (K : Bool → Prop) (i : Int) (t39 : Bool) (t10 : Int) (i3 : Int) (I1 : Int → Int → Prop) (μ1 : Int → Int → Nat) : Prop :=
 ((t39) = true →
  K false) ∧
 ((t39) = false →
  I1 i3 (IntKind.i64.wrap (t10 + 1)) ∧
 μ1 i3 (IntKind.i64.wrap (t10 + 1)) < μ1 i t10)
def F_contains2_J1 (s_ : List Int) (part : List Int) (K : Bool → Prop) (t25 : Bool) (i : Int) (I2 : Int → Prop) (μ2 : Int → Nat) (t10 : Int) (i3 : Int) (I1 : Int → Int → Prop) (μ1 : Int → Int → Nat) : Prop :=
 ((t25) = true →
  I2 (IntKind.i64.wrap (i3 + 1)) ∧
 μ2 (IntKind.i64.wrap (i3 + 1)) < μ2 i3) ∧
 ((t25) = false →
  ((i3 == ((s_.length : Nat) : Int)) = true →
   F_contains2_J2 K i true t10 i3 I1 μ1) ∧
  ((i3 == ((s_.length : Nat) : Int)) = false →
   (inb s_ i3) ∧
   F_contains2_J2 K i ((gt s_ i3) != (gt part t10)) t10 i3 I1 μ1))
def F_contains2_L2 (s_ : List Int) (part : List Int) (K : Bool → Prop) (i : Int) (I2 : Int → Prop) (μ2 : Int → Nat) (t10 : Int) (i3 : Int) (I1 : Int → Int → Prop) (μ1 : Int → Int → Nat) : Prop :=
 ((decide (i3 < ((s_.length : Nat) : Int))) = true →
  (inb s_ i3) ∧
  F_contains2_J1 s_ part K (decide ((gt s_ i3) < (gt part t10))) i I2 μ2 t10 i3 I1 μ1) ∧
 ((decide (i3 < ((s_.length : Nat) : Int))) = false →
  F_contains2_J1 s_ part K false i I2 μ2 t10 i3 I1 μ1)
def F_contains2_L1 (s_ : List Int) (part : List Int) (K : Bool → Prop) (i : Int) (t10 : Int) (I1 : Int → Int → Prop) (μ1 : Int → Int → Nat) : Prop :=
 ((decide (t10 < ((part.length : Nat) : Int))) = true →
  (inb part t10) ∧
  ∃ (I2 : Int → Prop) (μ2 : Int → Nat), I2 i ∧ ∀ (i3 : Int), I2 i3 → F_contains2_L2 s_ part K i I2 μ2 t10 i3 I1 μ1) ∧
 ((decide (t10 < ((part.length : Nat) : Int))) = false →
  K true)
def F_contains2 (s_ : List Int) (part : List Int) (K : Bool → Prop) : Prop :=
 ∃ (I1 : Int → Int → Prop) (μ1 : Int → Int → Nat), I1 0 0 ∧ ∀ (i : Int) (t10 : Int), I1 i t10 → F_contains2_L1 s_ part K i t10 I1 μ1
def F_next (t : Task) (s_ : List Int) (op : Int) (K : (List Int) → Prop) : Prop :=
 (inb t.ops op) ∧
 (pre_update s_ ((gt t.ops op).add) ((gt t.ops op).del)) ∧
 ∀ r2 : List Int, r2 = (sp_update s_ ((gt t.ops op).add) ((gt t.ops op).del)) →
 K r2
def F_compare (x : Int) (y : Int) (K : Int → Prop) : Prop :=
 ∀ r2 : Bool, r2 = (sp_isNaN1 x) →
 ∀ r3 : Bool, r3 = (sp_isNaN1 y) →
 ((r2) = true →
  ((r3) = true →
   K 0) ∧
  ((r3) = false →
   K (-1))) ∧
 ((r2) = false →
  ((r3) = true →
   K 1) ∧
  ((r3) = false →
   ((decide (x < y)) = true →
    K (-1)) ∧
   ((decide (x < y)) = false →
    ((decide (y < x)) = true →
     K 1) ∧
    ((decide (y < x)) = false →
     K 0))))
def F_changed_J1 (out : List Int) (p : Int) (I1 : Int → (List Int) → Prop) (μ1 : Int → (List Int) → Nat) (out3 : List Int) : Prop :=
 I1 (IntKind.i64.wrap (p + 1)) out3 ∧
 μ1 (IntKind.i64.wrap (p + 1)) out3 < μ1 p out
def F_changed_J2 (t29 : Bool) (out : List Int) (p : Int) (I1 : Int → (List Int) → Prop) (μ1 : Int → (List Int) → Nat) : Prop :=
 ((t29) = true →
  (room ((out ++ ([p] : List Int))).length 8) ∧
  F_changed_J1 out p I1 μ1 (out ++ ([p] : List Int))) ∧
 ((t29) = false →
  F_changed_J1 out p I1 μ1 out)
def F_changed_L1 (facts : Int) (s_ : List Int) (add : List Int) (del : List Int) (K : (List Int) → Prop) (out : List Int) (p : Int) (I1 : Int → (List Int) → Prop) (μ1 : Int → (List Int) → Nat) : Prop :=
 ((decide (p < facts)) = true →
  (pre_has add p) ∧
  ∀ r2 : Bool, r2 = (sp_has add p) →
  ((r2) = true →
   F_changed_J2 true out p I1 μ1) ∧
  ((r2) = false →
   (pre_has s_ p) ∧
   ∀ r3 : Bool, r3 = (sp_has s_ p) →
   ((r3) = true →
    (pre_has del p) ∧
    ∀ r4 : Bool, r4 = (sp_has del p) →
    F_changed_J2 (!r4) out p I1 μ1) ∧
   ((r3) = false →
    F_changed_J2 false out p I1 μ1))) ∧
 ((decide (p < facts)) = false →
  K out)
def F_changed (facts : Int) (s_ : List Int) (add : List Int) (del : List Int) (K : (List Int) → Prop) : Prop :=
 ∃ (I1 : Int → (List Int) → Prop) (μ1 : Int → (List Int) → Nat), I1 0 ([] : List Int) ∧ ∀ (p : Int) (out : List Int), I1 p out → F_changed_L1 facts s_ add del K out p I1 μ1
def F_key_L2 (l : List (List Int)) (t16 : Int) (b : List UInt8) (I2 : Int → (List UInt8) → Prop) (μ2 : Int → (List UInt8) → Nat) (t10 : Int) (b3 : List UInt8) (I1 : Int → (List UInt8) → Prop) (μ1 : Int → (List UInt8) → Nat) : Prop :=
 ((decide (t16 < (((gt l t10).length : Nat) : Int))) = true →
  (inb (gt l t10) t16) ∧
  (-9223372036854775808 ≤ (gt (gt l t10) t16) ∧ (gt (gt l t10) t16) ≤ 9223372036854775807) ∧
  (b3.length + 21 ≤ 140737488355328) ∧
  (room (((b3 ++ Lib.itoa (gt (gt l t10) t16)) ++ ([44] : List UInt8))).length 1) ∧
  I2 (IntKind.i64.wrap (t16 + 1)) ((b3 ++ Lib.itoa (gt (gt l t10) t16)) ++ ([44] : List UInt8)) ∧
 μ2 (IntKind.i64.wrap (t16 + 1)) ((b3 ++ Lib.itoa (gt (gt l t10) t16)) ++ ([44] : List UInt8)) < μ2 t16 b3) ∧
 ((decide (t16 < (((gt l t10).length : Nat) : Int))) = false →
  (room ((b3 ++ ([59] : List UInt8))).length 1) ∧
  I1 (IntKind.i64.wrap (t10 + 1)) (b3 ++ ([59] : List UInt8)) ∧
 μ1 (IntKind.i64.wrap (t10 + 1)) (b3 ++ ([59] : List UInt8)) < μ1 t10 b)
def F_key_L1 (l : List (List Int)) (K : (List UInt8) → Prop) (b : List UInt8) (t10 : Int) (I1 : Int → (List UInt8) → Prop) (μ1 : Int → (List UInt8) → Nat) : Prop :=
 ((decide (t10 < ((l.length : Nat) : Int))) = true →
  (inb l t10) ∧
  ∃ (I2 : Int → (List UInt8) → Prop) (μ2 : Int → (List UInt8) → Nat), I2 0 b ∧ ∀ (t16 : Int) (b3 : List UInt8), I2 t16 b3 → F_key_L2 l t16 b I2 μ2 t10 b3 I1 μ1) ∧
 ((decide (t10 < ((l.length : Nat) : Int))) = false →
  K b)
def F_key (l : List (List Int)) (K : (List UInt8) → Prop) : Prop :=
 ∃ (I1 : Int → (List UInt8) → Prop) (μ1 : Int → (List UInt8) → Nat), I1 0 ([] : List UInt8) ∧ ∀ (t10 : Int) (b : List UInt8), I1 t10 b → F_key_L1 l K b t10 I1 μ1
def F_scompare_L1 (s1 : List Int) (s2 : List Int) (K : Int → Prop) (t11 : Int) (I1 : Int → Prop) (μ1 : Int → Nat) : Prop :=
 ((decide (t11 < ((s1.length : Nat) : Int))) = true →
  (inb s1 t11) ∧
  ((decide (((s2.length : Nat) : Int) ≤ t11)) = true →
   K 1) ∧
  ((decide (((s2.length : Nat) : Int) ≤ t11)) = false →
   (inb s2 t11) ∧
   ∀ r2 : Int, r2 = (sp_compare (gt s1 t11) (gt s2 t11)) →
   ((r2 != 0) = true →
    K r2) ∧
   ((r2 != 0) = false →
    I1 (IntKind.i64.wrap (t11 + 1)) ∧
 μ1 (IntKind.i64.wrap (t11 + 1)) < μ1 t11))) ∧
 ((decide (t11 < ((s1.length : Nat) : Int))) = false →
  ((decide (((s1.length : Nat) : Int) < ((s2.length : Nat) : Int))) = true →
   K (-1)) ∧
  ((decide (((s1.length : Nat) : Int) < ((s2.length : Nat) : Int))) = false →
   K 0))
def F_scompare (s1 : List Int) (s2 : List Int) (K : Int → Prop) : Prop :=
 ∃ (I1 : Int → Prop) (μ1 : Int → Nat), I1 0 ∧ ∀ (t11 : Int), I1 t11 → F_scompare_L1 s1 s2 K t11 I1 μ1
def F_sequal_L1 (s1 : List Int) (s2 : List Int) (K : Bool → Prop) (t13 : Int) (I1 : Int → Prop) (μ1 : Int → Nat) : Prop :=
 ((decide (t13 < ((s1.length : Nat) : Int))) = true →
  (inb s1 t13) ∧
  (inb s2 t13) ∧
  (((gt s1 t13) != (gt s2 t13)) = true →
   K false) ∧
  (((gt s1 t13) != (gt s2 t13)) = false →
   I1 (IntKind.i64.wrap (t13 + 1)) ∧
 μ1 (IntKind.i64.wrap (t13 + 1)) < μ1 t13)) ∧
 ((decide (t13 < ((s1.length : Nat) : Int))) = false →
  K true)
def F_sequal (s1 : List Int) (s2 : List Int) (K : Bool → Prop) : Prop :=
 ((((s1.length : Nat) : Int) != ((s2.length : Nat) : Int)) = true →
  K false) ∧
 ((((s1.length : Nat) : Int) != ((s2.length : Nat) : Int)) = false →
  ∃ (I1 : Int → Prop) (μ1 : Int → Nat), I1 0 ∧ ∀ (t13 : Int), I1 t13 → F_sequal_L1 s1 s2 K t13 I1 μ1)
def F_indexR_L1 (s_ : List (List Int)) (pf : (List Int) → Bool) (Df : (List Int) → Prop) (K : Int → Prop) (t8 : Int) (I1 : Int → Prop) (μ1 : Int → Nat) : Prop :=
 ((decide (t8 < ((s_.length : Nat) : Int))) = true →
  (inb s_ t8) ∧
  (Df (gt s_ t8)) ∧
  ∀ r2 : Bool, r2 = (pf (gt s_ t8)) →
  ((r2) = true →
   K t8) ∧
  ((r2) = false →
   I1 (IntKind.i64.wrap (t8 + 1)) ∧
 μ1 (IntKind.i64.wrap (t8 + 1)) < μ1 t8)) ∧
 ((decide (t8 < ((s_.length : Nat) : Int))) = false →
  K (-1))
def F_indexR (s_ : List (List Int)) (pf : (List Int) → Bool) (Df : (List Int) → Prop) (K : Int → Prop) : Prop :=
 ∃ (I1 : Int → Prop) (μ1 : Int → Nat), I1 0 ∧ ∀ (t8 : Int), I1 t8 → F_indexR_L1 s_ pf Df K t8 I1 μ1
def F_containsR (s_ : List (List Int)) (pf : (List Int) → Bool) (Df : (List Int) → Prop) (K : Bool → Prop) : Prop :=
 (pre_any s_ pf Df) ∧
 ∀ r2 : Int, r2 = (sp_indexF s_ pf Df) →
 K (decide (0 ≤ r2))
def F_reverse_L1 (K : (List Int) → Prop) (i : Int) (j : Int) (s_2 : List Int) (I1 : Int → Int → (List Int) → Prop) (μ1 : Int → Int → (List Int) → Nat) : Prop :=
 ((decide (i < j)) = true →
  (inb s_2 j) ∧
  (inb s_2 i) ∧
  ∀ d : List Int, d = (s_2.set (i).toNat (gt s_2 j)) →
  (inb d j) ∧
  ∀ d2 : List Int, d2 = (d.set (j).toNat (gt s_2 i)) →
  I1 (IntKind.i64.wrap (i + 1)) (IntKind.i64.wrap (j - 1)) d2 ∧
 μ1 (IntKind.i64.wrap (i + 1)) (IntKind.i64.wrap (j - 1)) d2 < μ1 i j s_2) ∧
 ((decide (i < j)) = false →
  K s_2)
def F_reverse (s_ : List Int) (K : (List Int) → Prop) : Prop :=
 ∃ (I1 : Int → Int → (List Int) → Prop) (μ1 : Int → Int → (List Int) → Nat), I1 0 (IntKind.i64.wrap (((s_.length : Nat) : Int) - 1)) s_ ∧ ∀ (i : Int) (j : Int) (s_2 : List Int), I1 i j s_2 → F_reverse_L1 K i j s_2 I1 μ1
def F_unknownFault (t : Task) (unknown : List Int) (K : Fault → Prop) : Prop :=
 ∀ r2 : Fault, r2 = (sp_validate t) →
 ((!((r2.code == 0) && (r2.index == 0))) = true →
  K r2) ∧
 ((!((r2.code == 0) && (r2.index == 0))) = false →
  ((decide (4 < ((unknown.length : Nat) : Int))) = true →
   K (⟨2, (-8)⟩ : Fault)) ∧
  ((decide (4 < ((unknown.length : Nat) : Int))) = false →
   (pre_isSet unknown t.facts) ∧
   ∀ r3 : Bool, r3 = (sp_isSet unknown t.facts) →
   ((!r3) = true →
    K (⟨5, (-8)⟩ : Fault)) ∧
   ((!r3) = false →
    K (⟨0, 0⟩ : Fault))))
def F_sure1 (s_ : List Int) (x : List Int) (K : Bool → Prop) : Prop :=
 (pre_contains2 s_ x) ∧
 ∀ r2 : Bool, r2 = (sp_contains2 s_ x) →
 K (!r2)
def F_sure (worlds : List (List Int)) (facts : List Int) (K : Bool → Prop) : Prop :=
 (pre_any worlds (fun y_ : List Int => sp_sure1 y_ facts) (fun y_ : List Int => pre_sure1 y_ facts)) ∧
 ∀ r2 : Bool, r2 = (sp_any worlds (fun y_ : List Int => sp_sure1 y_ facts) (fun y_ : List Int => pre_sure1 y_ facts)) →
 K (!r2)
def F_compactR_J1 (s_2 : List (List Int)) (k3 : Int) (k22 : Int) (I2 : Int → Int → (List (List Int)) → Prop) (μ2 : Int → Int → (List (List Int)) → Nat) (s_4 : List (List Int)) (k5 : Int) : Prop :=
 I2 k5 (IntKind.i64.wrap (k22 + 1)) s_4 ∧
 μ2 k5 (IntKind.i64.wrap (k22 + 1)) s_4 < μ2 k3 k22 s_2
def F_compactR_L2 (s_ : List (List Int)) (K : (List (List Int)) → Prop) (k : Int) (s_2 : List (List Int)) (k3 : Int) (k22 : Int) (I2 : Int → Int → (List (List Int)) → Prop) (μ2 : Int → Int → (List (List Int)) → Nat) : Prop :=
 ((decide (k22 < (((s_.length - (k).toNat) : Nat) : Int))) = true →
  (0 ≤ k22) ∧
  (inb s_2 ((((k).toNat : Nat) : Int) + k22)) ∧
  (0 ≤ (IntKind.i64.wrap (k22 - 1))) ∧
  (inb s_2 ((((k).toNat : Nat) : Int) + (IntKind.i64.wrap (k22 - 1)))) ∧
  (pre_sequal (gt s_2 ((((k).toNat : Nat) : Int) + k22)) (gt s_2 ((((k).toNat : Nat) : Int) + (IntKind.i64.wrap (k22 - 1))))) ∧
  ∀ r3 : Bool, r3 = (sp_sequal (gt s_2 ((((k).toNat : Nat) : Int) + k22)) (gt s_2 ((((k).toNat : Nat) : Int) + (IntKind.i64.wrap (k22 - 1))))) →
  ((!r3) = true →
   (inb s_2 k3) ∧
   ∀ d : List (List Int), d = (s_2.set (k3).toNat (gt s_2 ((((k).toNat : Nat) : Int) + k22))) →
   F_compactR_J1 s_2 k3 k22 I2 μ2 d (IntKind.i64.wrap (k3 + 1))) ∧
  ((!r3) = false →
   F_compactR_J1 s_2 k3 k22 I2 μ2 s_2 k3)) ∧
 ((decide (k22 < (((s_.length - (k).toNat) : Nat) : Int))) = false →
  (0 ≤ k3 ∧ k3 ≤ ((s_.length : Nat) : Int)) ∧
  K ((s_2.take (k3).toNat ++ List.replicate (s_.length - (k3).toNat) []).take ((k3).toNat)))
def F_compactR_L1 (s_ : List (List Int)) (K : (List (List Int)) → Prop) (k : Int) (I1 : Int → Prop) (μ1 : Int → Nat) : Prop :=
 ((decide (k < ((s_.length : Nat) : Int))) = true →
  (inb s_ k) ∧
  (inb s_ (IntKind.i64.wrap (k - 1))) ∧
  (pre_sequal (gt s_ k) (gt s_ (IntKind.i64.wrap (k - 1)))) ∧
  ∀ r2 : Bool, r2 = (sp_sequal (gt s_ k) (gt s_ (IntKind.i64.wrap (k - 1)))) →
  ((r2) = true →
   (0 ≤ k ∧ k ≤ ((s_.length : Nat) : Int)) ∧
   ∃ (I2 : Int → Int → (List (List Int)) → Prop) (μ2 : Int → Int → (List (List Int)) → Nat), I2 k 1 s_ ∧ ∀ (k3 : Int) (k22 : Int) (s_2 : List (List Int)), I2 k3 k22 s_2 → F_compactR_L2 s_ K k s_2 k3 k22 I2 μ2) ∧
  ((r2) = false →
   I1 (IntKind.i64.wrap (k + 1)) ∧
 μ1 (IntKind.i64.wrap (k + 1)) < μ1 k)) ∧
 ((decide (k < ((s_.length : Nat) : Int))) = false →
  K s_)
def F_compactR (s_ : List (List Int)) (K : (List (List Int)) → Prop) : Prop :=
 ((decide (((s_.length : Nat) : Int) < 2)) = true →
  K s_) ∧
 ((decide (((s_.length : Nat) : Int) < 2)) = false →
  ∃ (I1 : Int → Prop) (μ1 : Int → Nat), I1 1 ∧ ∀ (k : Int), I1 k → F_compactR_L1 s_ K k I1 μ1)
def F_normal (l : List (List Int)) (K : (List (List Int)) → Prop) : Prop :=
 (pre_sortR l) ∧
 ∀ r2 : List (List Int), r2 = (sp_sortR l) →
 (pre_compactR r2) ∧
 ∀ r3 : List (List Int), r3 = (sp_compactR r2) →
 K r3
def F_worlds_J1 (add : List Int) (t18 : Int) (I2 : Int → (List Int) → Prop) (μ2 : Int → (List Int) → Nat) (add3 : List Int) : Prop :=
 I2 (IntKind.i64.wrap (t18 + 1)) add3 ∧
 μ2 (IntKind.i64.wrap (t18 + 1)) add3 < μ2 t18 add
def F_worlds_L2 (t : Task) (unknown : List Int) (add : List Int) (t18 : Int) (I2 : Int → (List Int) → Prop) (μ2 : Int → (List Int) → Nat) (t13 : Int) (out : List (List Int)) (I1 : Int → (List (List Int)) → Prop) (μ1 : Int → (List (List Int)) → Nat) : Prop :=
 ((decide (t18 < ((unknown.length : Nat) : Int))) = true →
  (inb unknown t18) ∧
  (0 ≤ t18) ∧
  ∀ x2 : Int, x2 = (bits .and .i64 (Int.fdiv t13 (2 ^ (min ((t18 : Int)).toNat (IntKind.bits .i64)))) 1) →
  ((x2 == 1) = true →
   (room ((add ++ ([(gt unknown t18)] : List Int))).length 8) ∧
   F_worlds_J1 add t18 I2 μ2 (add ++ ([(gt unknown t18)] : List Int))) ∧
  ((x2 == 1) = false →
   F_worlds_J1 add t18 I2 μ2 add)) ∧
 ((decide (t18 < ((unknown.length : Nat) : Int))) = false →
  (pre_update t.init add unknown) ∧
  ∀ r2 : List Int, r2 = (sp_update t.init add unknown) →
  (room ((out ++ ([r2] : List (List Int)))).length 24) ∧
  I1 (IntKind.i64.wrap (t13 + 1)) (out ++ ([r2] : List (List Int))) ∧
 μ1 (IntKind.i64.wrap (t13 + 1)) (out ++ ([r2] : List (List Int))) < μ1 t13 out)
def F_worlds_L1 (t : Task) (unknown : List Int) (K : (List (List Int)) → Prop) (x : Int) (t13 : Int) (out : List (List Int)) (I1 : Int → (List (List Int)) → Prop) (μ1 : Int → (List (List Int)) → Nat) : Prop :=
 ((decide (t13 < x)) = true →
  ∃ (I2 : Int → (List Int) → Prop) (μ2 : Int → (List Int) → Nat), I2 0 ([] : List Int) ∧ ∀ (t18 : Int) (add : List Int), I2 t18 add → F_worlds_L2 t unknown add t18 I2 μ2 t13 out I1 μ1) ∧
 ((decide (t13 < x)) = false →
  (pre_normal out) ∧
  ∀ r3 : List (List Int), r3 = (sp_normal out) →
  K r3)
def F_worlds (t : Task) (unknown : List Int) (K : (List (List Int)) → Prop) : Prop :=
 (0 ≤ ((unknown.length : Nat) : Int)) ∧
 ∀ x : Int, x = (IntKind.i64.wrap (1 * 2 ^ (min ((((unknown.length : Nat) : Int) : Int)).toNat (IntKind.bits .i64)))) →
 ∃ (I1 : Int → (List (List Int)) → Prop) (μ1 : Int → (List (List Int)) → Nat), I1 0 ([] : List (List Int)) ∧ ∀ (t13 : Int) (out : List (List Int)), I1 t13 out → F_worlds_L1 t unknown K x t13 out I1 μ1
def F_bafter_L1 (t : Task) (worlds : List (List Int)) (op : Int) (K : (List (List Int)) → Prop) (t12 : Int) (out : List (List Int)) (I1 : Int → (List (List Int)) → Prop) (μ1 : Int → (List (List Int)) → Nat) : Prop :=
 ((decide (t12 < ((worlds.length : Nat) : Int))) = true →
  (inb worlds t12) ∧
  (pre_next t (gt worlds t12) op) ∧
  ∀ r2 : List Int, r2 = (sp_after t (gt worlds t12) op) →
  (room ((out ++ ([r2] : List (List Int)))).length 24) ∧
  I1 (IntKind.i64.wrap (t12 + 1)) (out ++ ([r2] : List (List Int))) ∧
 μ1 (IntKind.i64.wrap (t12 + 1)) (out ++ ([r2] : List (List Int))) < μ1 t12 out) ∧
 ((decide (t12 < ((worlds.length : Nat) : Int))) = false →
  (pre_normal out) ∧
  ∀ r3 : List (List Int), r3 = (sp_normal out) →
  K r3)
def F_bafter (t : Task) (worlds : List (List Int)) (op : Int) (K : (List (List Int)) → Prop) : Prop :=
 ∃ (I1 : Int → (List (List Int)) → Prop) (μ1 : Int → (List (List Int)) → Nat), I1 0 ([] : List (List Int)) ∧ ∀ (t12 : Int) (out : List (List Int)), I1 t12 out → F_bafter_L1 t worlds op K t12 out I1 μ1
def F_rUnknownFault_J3 (K : Fault → Prop) (x : Int) (x2 : Int) (t26 : Bool) : Prop :=
 ((t26) = true →
  ∀ r3 : Fault, r3 = (sp_at_ 5 (-8)) →
  K r3) ∧
 ((t26) = false →
  K (⟨x, x2⟩ : Fault))
def F_rUnknownFault_J2 (t : Task) (unknown : List Int) (K : Fault → Prop) (x : Int) (x2 : Int) : Prop :=
 ((x == 0) = true →
  (pre_isSet unknown t.facts) ∧
  ∀ r4 : Bool, r4 = (sp_isSet unknown t.facts) →
  F_rUnknownFault_J3 K x x2 (!r4)) ∧
 ((x == 0) = false →
  F_rUnknownFault_J3 K x x2 false)
def F_rUnknownFault_J1 (t : Task) (unknown : List Int) (K : Fault → Prop) (r2 : Fault) (t15 : Bool) : Prop :=
 ((t15) = true →
  ∀ r5 : Fault, r5 = (sp_at_ 2 (-8)) →
  F_rUnknownFault_J2 t unknown K r5.code r5.index) ∧
 ((t15) = false →
  F_rUnknownFault_J2 t unknown K r2.code r2.index)
def F_rUnknownFault (t : Task) (unknown : List Int) (K : Fault → Prop) : Prop :=
 ∀ r2 : Fault, r2 = (sp_validate t) →
 ((r2.code == 0) = true →
  F_rUnknownFault_J1 t unknown K r2 (decide (4 < ((unknown.length : Nat) : Int)))) ∧
 ((r2.code == 0) = false →
  F_rUnknownFault_J1 t unknown K r2 false)
def F_before_J1 (a : List Int) (b : List Int) (K : Bool → Prop) (t15 : Bool) (i : Int) (I1 : Int → Prop) (μ1 : Int → Nat) : Prop :=
 ((t15) = true →
  (inb a i) ∧
  (inb b i) ∧
  (((gt a i) != (gt b i)) = true →
   K (decide ((gt a i) < (gt b i)))) ∧
  (((gt a i) != (gt b i)) = false →
   I1 (IntKind.i64.wrap (i + 1)) ∧
 μ1 (IntKind.i64.wrap (i + 1)) < μ1 i)) ∧
 ((t15) = false →
  K (decide (((a.length : Nat) : Int) < ((b.length : Nat) : Int))))
def F_before_L1 (a : List Int) (b : List Int) (K : Bool → Prop) (i : Int) (I1 : Int → Prop) (μ1 : Int → Nat) : Prop :=
 ((decide (i < ((a.length : Nat) : Int))) = true →
  F_before_J1 a b K (decide (i < ((b.length : Nat) : Int))) i I1 μ1) ∧
 ((decide (i < ((a.length : Nat) : Int))) = false →
  F_before_J1 a b K false i I1 μ1)
def F_before (a : List Int) (b : List Int) (K : Bool → Prop) : Prop :=
 ∃ (I1 : Int → Prop) (μ1 : Int → Nat), I1 0 ∧ ∀ (i : Int), I1 i → F_before_L1 a b K i I1 μ1
def F_ints_L1 (a : List Int) (b : List Int) (K : Bool → Prop) (i : Int) (I1 : Int → Prop) (μ1 : Int → Nat) : Prop :=
 ((decide (i < ((a.length : Nat) : Int))) = true →
  (inb a i) ∧
  (inb b i) ∧
  (((gt a i) != (gt b i)) = true →
   K false) ∧
  (((gt a i) != (gt b i)) = false →
   I1 (IntKind.i64.wrap (i + 1)) ∧
 μ1 (IntKind.i64.wrap (i + 1)) < μ1 i)) ∧
 ((decide (i < ((a.length : Nat) : Int))) = false →
  K true)
def F_ints (a : List Int) (b : List Int) (K : Bool → Prop) : Prop :=
 ((((a.length : Nat) : Int) != ((b.length : Nat) : Int)) = true →
  K false) ∧
 ((((a.length : Nat) : Int) != ((b.length : Nat) : Int)) = false →
  ∃ (I1 : Int → Prop) (μ1 : Int → Nat), I1 0 ∧ ∀ (i : Int), I1 i → F_ints_L1 a b K i I1 μ1)
def F_insert_J2 (l : List (List Int)) (s_ : List Int) (K : (List (List Int)) → Prop) (k : Int) (t31 : Bool) : Prop :=
 ((t31) = true →
  K l) ∧
 ((t31) = false →
  (0 ≤ k ∧ k ≤ (l.length : Int)) ∧
  (room ((([] : List (List Int)) ++ (l.take (k).toNat))).length 24) ∧
  (room (((([] : List (List Int)) ++ (l.take (k).toNat)) ++ ([s_] : List (List Int)))).length 24) ∧
  (room ((((([] : List (List Int)) ++ (l.take (k).toNat)) ++ ([s_] : List (List Int))) ++ (l.drop (k).toNat))).length 24) ∧
  K (((([] : List (List Int)) ++ (l.take (k).toNat)) ++ ([s_] : List (List Int))) ++ (l.drop (k).toNat)))
def F_insert_J1 (l : List (List Int)) (s_ : List Int) (K : (List (List Int)) → Prop) (t17 : Bool) (k : Int) (I1 : Int → Prop) (μ1 : Int → Nat) : Prop :=
 ((t17) = true →
  I1 (IntKind.i64.wrap (k + 1)) ∧
 μ1 (IntKind.i64.wrap (k + 1)) < μ1 k) ∧
 ((t17) = false →
  ((decide (k < ((l.length : Nat) : Int))) = true →
   (inb l k) ∧
   (pre_ints (gt l k) s_) ∧
   ∀ r2 : Bool, r2 = (sp_ints (gt l k) s_) →
   F_insert_J2 l s_ K k r2) ∧
  ((decide (k < ((l.length : Nat) : Int))) = false →
   F_insert_J2 l s_ K k false))
def F_insert_L1 (l : List (List Int)) (s_ : List Int) (K : (List (List Int)) → Prop) (k : Int) (I1 : Int → Prop) (μ1 : Int → Nat) : Prop :=
 ((decide (k < ((l.length : Nat) : Int))) = true →
  (inb l k) ∧
  (pre_before (gt l k) s_) ∧
  ∀ r3 : Bool, r3 = (sp_before (gt l k) s_) →
  F_insert_J1 l s_ K r3 k I1 μ1) ∧
 ((decide (k < ((l.length : Nat) : Int))) = false →
  F_insert_J1 l s_ K false k I1 μ1)
def F_insert (l : List (List Int)) (s_ : List Int) (K : (List (List Int)) → Prop) : Prop :=
 ∃ (I1 : Int → Prop) (μ1 : Int → Nat), I1 0 ∧ ∀ (k : Int), I1 k → F_insert_L1 l s_ K k I1 μ1
def F_possible_L2 (t : Task) (unknown : List Int) (next : List (List Int)) (k : Int) (I2 : (List (List Int)) → Int → Prop) (μ2 : (List (List Int)) → Int → Nat) (out : List (List Int)) (i : Int) (I1 : (List (List Int)) → Int → Prop) (μ1 : (List (List Int)) → Int → Nat) : Prop :=
 ((decide (k < ((out.length : Nat) : Int))) = true →
  (inb out k) ∧
  (inb unknown i) ∧
  (pre_changed t.facts (gt out k) ([(gt unknown i)] : List Int) []) ∧
  ∀ r2 : List Int, r2 = (sp_changed t.facts (gt out k) ([(gt unknown i)] : List Int) []) →
  (pre_insert next r2) ∧
  ∀ r3 : List (List Int), r3 = (sp_insert next r2) →
  (pre_changed t.facts (gt out k) [] ([(gt unknown i)] : List Int)) ∧
  ∀ r4 : List Int, r4 = (sp_changed t.facts (gt out k) [] ([(gt unknown i)] : List Int)) →
  (pre_insert r3 r4) ∧
  ∀ r5 : List (List Int), r5 = (sp_insert r3 r4) →
  I2 r5 (IntKind.i64.wrap (k + 1)) ∧
 μ2 r5 (IntKind.i64.wrap (k + 1)) < μ2 next k) ∧
 ((decide (k < ((out.length : Nat) : Int))) = false →
  I1 next (IntKind.i64.wrap (i + 1)) ∧
 μ1 next (IntKind.i64.wrap (i + 1)) < μ1 out i)
def F_possible_L1 (t : Task) (unknown : List Int) (K : (List (List Int)) → Prop) (out : List (List Int)) (i : Int) (I1 : (List (List Int)) → Int → Prop) (μ1 : (List (List Int)) → Int → Nat) : Prop :=
 ((decide (i < ((unknown.length : Nat) : Int))) = true →
  ∃ (I2 : (List (List Int)) → Int → Prop) (μ2 : (List (List Int)) → Int → Nat), I2 [] 0 ∧ ∀ (next : List (List Int)) (k : Int), I2 next k → F_possible_L2 t unknown next k I2 μ2 out i I1 μ1) ∧
 ((decide (i < ((unknown.length : Nat) : Int))) = false →
  K out)
def F_possible (t : Task) (unknown : List Int) (K : (List (List Int)) → Prop) : Prop :=
 ∃ (I1 : (List (List Int)) → Int → Prop) (μ1 : (List (List Int)) → Int → Nat), I1 ([t.init] : List (List Int)) 0 ∧ ∀ (out : List (List Int)) (i : Int), I1 out i → F_possible_L1 t unknown K out i I1 μ1
def F_afterAll_L1 (t : Task) (l : List (List Int)) (op : Int) (K : (List (List Int)) → Prop) (out : List (List Int)) (i : Int) (I1 : (List (List Int)) → Int → Prop) (μ1 : (List (List Int)) → Int → Nat) : Prop :=
 ((decide (i < ((l.length : Nat) : Int))) = true →
  (inb l i) ∧
  (pre_after t (gt l i) op) ∧
  ∀ r2 : List Int, r2 = (sp_after t (gt l i) op) →
  (pre_insert out r2) ∧
  ∀ r3 : List (List Int), r3 = (sp_insert out r2) →
  I1 r3 (IntKind.i64.wrap (i + 1)) ∧
 μ1 r3 (IntKind.i64.wrap (i + 1)) < μ1 out i) ∧
 ((decide (i < ((l.length : Nat) : Int))) = false →
  K out)
def F_afterAll (t : Task) (l : List (List Int)) (op : Int) (K : (List (List Int)) → Prop) : Prop :=
 ∃ (I1 : (List (List Int)) → Int → Prop) (μ1 : (List (List Int)) → Int → Nat), I1 [] 0 ∧ ∀ (out : List (List Int)) (i : Int), I1 out i → F_afterAll_L1 t l op K out i I1 μ1
def F_allHold_L1 (l : List (List Int)) (facts : List Int) (K : Bool → Prop) (i : Int) (I1 : Int → Prop) (μ1 : Int → Nat) : Prop :=
 ((decide (i < ((l.length : Nat) : Int))) = true →
  (inb l i) ∧
  (pre_subset facts (gt l i)) ∧
  ∀ r2 : Bool, r2 = (sp_subset facts (gt l i)) →
  ((!r2) = true →
   K false) ∧
  ((!r2) = false →
   I1 (IntKind.i64.wrap (i + 1)) ∧
 μ1 (IntKind.i64.wrap (i + 1)) < μ1 i)) ∧
 ((decide (i < ((l.length : Nat) : Int))) = false →
  K true)
def F_allHold (l : List (List Int)) (facts : List Int) (K : Bool → Prop) : Prop :=
 ∃ (I1 : Int → Prop) (μ1 : Int → Nat), I1 0 ∧ ∀ (i : Int), I1 i → F_allHold_L1 l facts K i I1 μ1
def F_same_L1 (a : List (List Int)) (b : List (List Int)) (K : Bool → Prop) (i : Int) (I1 : Int → Prop) (μ1 : Int → Nat) : Prop :=
 ((decide (i < ((a.length : Nat) : Int))) = true →
  (inb a i) ∧
  (inb b i) ∧
  (pre_ints (gt a i) (gt b i)) ∧
  ∀ r2 : Bool, r2 = (sp_ints (gt a i) (gt b i)) →
  ((!r2) = true →
   K false) ∧
  ((!r2) = false →
   I1 (IntKind.i64.wrap (i + 1)) ∧
 μ1 (IntKind.i64.wrap (i + 1)) < μ1 i)) ∧
 ((decide (i < ((a.length : Nat) : Int))) = false →
  K true)
def F_same (a : List (List Int)) (b : List (List Int)) (K : Bool → Prop) : Prop :=
 ((((a.length : Nat) : Int) != ((b.length : Nat) : Int)) = true →
  K false) ∧
 ((((a.length : Nat) : Int) != ((b.length : Nat) : Int)) = false →
  ∃ (I1 : Int → Prop) (μ1 : Int → Nat), I1 0 ∧ ∀ (i : Int), I1 i → F_same_L1 a b K i I1 μ1)
def F_placeOf_L1 (all : List (List (List Int))) (l : List (List Int)) (K : Int → Prop) (i : Int) (I1 : Int → Prop) (μ1 : Int → Nat) : Prop :=
 ((decide (i < ((all.length : Nat) : Int))) = true →
  (inb all i) ∧
  (pre_same (gt all i) l) ∧
  ∀ r2 : Bool, r2 = (sp_same (gt all i) l) →
  ((r2) = true →
   K i) ∧
  ((r2) = false →
   I1 (IntKind.i64.wrap (i + 1)) ∧
 μ1 (IntKind.i64.wrap (i + 1)) < μ1 i)) ∧
 ((decide (i < ((all.length : Nat) : Int))) = false →
  K (-1))
def F_placeOf (all : List (List (List Int))) (l : List (List Int)) (K : Int → Prop) : Prop :=
 ∃ (I1 : Int → Prop) (μ1 : Int → Nat), I1 0 ∧ ∀ (i : Int), I1 i → F_placeOf_L1 all l K i I1 μ1
def F_observed_J1 (yes : List (List Int)) (no : List (List Int)) (i : Int) (I1 : Int → (List (List Int)) → (List (List Int)) → Prop) (μ1 : Int → (List (List Int)) → (List (List Int)) → Nat) (yes3 : List (List Int)) (no3 : List (List Int)) : Prop :=
 I1 (IntKind.i64.wrap (i + 1)) yes3 no3 ∧
 μ1 (IntKind.i64.wrap (i + 1)) yes3 no3 < μ1 i yes no
def F_observed_L1 (l : List (List Int)) (fact : Int) (K : (List (List Int) × List (List Int)) → Prop) (yes : List (List Int)) (no : List (List Int)) (i : Int) (I1 : Int → (List (List Int)) → (List (List Int)) → Prop) (μ1 : Int → (List (List Int)) → (List (List Int)) → Nat) : Prop :=
 ((decide (i < ((l.length : Nat) : Int))) = true →
  (inb l i) ∧
  (pre_has (gt l i) fact) ∧
  ∀ r2 : Bool, r2 = (sp_has (gt l i) fact) →
  ((r2) = true →
   (room ((yes ++ ([(gt l i)] : List (List Int)))).length 24) ∧
   F_observed_J1 yes no i I1 μ1 (yes ++ ([(gt l i)] : List (List Int))) no) ∧
  ((r2) = false →
   (room ((no ++ ([(gt l i)] : List (List Int)))).length 24) ∧
   F_observed_J1 yes no i I1 μ1 yes (no ++ ([(gt l i)] : List (List Int))))) ∧
 ((decide (i < ((l.length : Nat) : Int))) = false →
  K (yes, no))
def F_observed (l : List (List Int)) (fact : Int) (K : (List (List Int) × List (List Int)) → Prop) : Prop :=
 ∃ (I1 : Int → (List (List Int)) → (List (List Int)) → Prop) (μ1 : Int → (List (List Int)) → (List (List Int)) → Nat), I1 0 ([] : List (List Int)) ([] : List (List Int)) ∧ ∀ (i : Int) (yes : List (List Int)) (no : List (List Int)), I1 i yes no → F_observed_L1 l fact K yes no i I1 μ1
def F_beliefs_J1 (next : List (List (List Int))) (op : Int) (I2 : Int → (List (List (List Int))) → Prop) (μ2 : Int → (List (List (List Int))) → Nat) (next3 : List (List (List Int))) : Prop :=
 I2 (IntKind.i64.wrap (op + 1)) next3 ∧
 μ2 (IntKind.i64.wrap (op + 1)) next3 < μ2 op next
def F_beliefs_J2 (next4 : List (List (List Int))) (k : Int) (I3 : Int → (List (List (List Int))) → Prop) (μ3 : Int → (List (List (List Int))) → Nat) (next6 : List (List (List Int))) : Prop :=
 I3 (IntKind.i64.wrap (k + 1)) next6 ∧
 μ3 (IntKind.i64.wrap (k + 1)) next6 < μ3 k next4
def F_beliefs_J3 (r4 : List (List Int) × List (List Int)) (t79 : Bool) (next4 : List (List (List Int))) (k : Int) (I3 : Int → (List (List (List Int))) → Prop) (μ3 : Int → (List (List (List Int))) → Nat) : Prop :=
 ((t79) = true →
  (room ((next4 ++ ([r4.1, r4.2] : List (List (List Int))))).length 24) ∧
  F_beliefs_J2 next4 k I3 μ3 (next4 ++ ([r4.1, r4.2] : List (List (List Int))))) ∧
 ((t79) = false →
  F_beliefs_J2 next4 k I3 μ3 next4)
def F_beliefs_J4 (k3 : Int) (I4 : Int → (List (List (List Int))) → Prop) (μ4 : Int → (List (List (List Int))) → Nat) (all3 : List (List (List Int))) (all5 : List (List (List Int))) : Prop :=
 I4 (IntKind.i64.wrap (k3 + 1)) all5 ∧
 μ4 (IntKind.i64.wrap (k3 + 1)) all5 < μ4 k3 all3
def F_beliefs_L4 (most : Int) (K : (List (List (List Int)) × Bool) → Prop) (next4 : List (List (List Int))) (all : List (List (List Int))) (k3 : Int) (I4 : Int → (List (List (List Int))) → Prop) (μ4 : Int → (List (List (List Int))) → Nat) (all3 : List (List (List Int))) (i : Int) (I1 : Int → (List (List (List Int))) → Prop) (μ1 : Int → (List (List (List Int))) → Nat) : Prop :=
 ((decide (k3 < ((next4.length : Nat) : Int))) = true →
  (inb next4 k3) ∧
  (pre_placeOf all3 (gt next4 k3)) ∧
  ∀ r5 : Int, r5 = (sp_placeOf all3 (gt next4 k3)) →
  ((decide (r5 < 0)) = true →
   ((decide (most ≤ ((all3.length : Nat) : Int))) = true →
    K (([] : List (List (List Int))), false)) ∧
   ((decide (most ≤ ((all3.length : Nat) : Int))) = false →
    (room ((all3 ++ ([(gt next4 k3)] : List (List (List Int))))).length 24) ∧
    F_beliefs_J4 k3 I4 μ4 all3 (all3 ++ ([(gt next4 k3)] : List (List (List Int)))))) ∧
  ((decide (r5 < 0)) = false →
   F_beliefs_J4 k3 I4 μ4 all3 all3)) ∧
 ((decide (k3 < ((next4.length : Nat) : Int))) = false →
  I1 (IntKind.i64.wrap (i + 1)) all3 ∧
 μ1 (IntKind.i64.wrap (i + 1)) all3 < μ1 i all)
def F_beliefs_L3 (sN : List Int) (most : Int) (K : (List (List (List Int)) × Bool) → Prop) (next4 : List (List (List Int))) (k : Int) (I3 : Int → (List (List (List Int))) → Prop) (μ3 : Int → (List (List (List Int))) → Nat) (all : List (List (List Int))) (i : Int) (I1 : Int → (List (List (List Int))) → Prop) (μ1 : Int → (List (List (List Int))) → Nat) : Prop :=
 ((decide (k < ((sN.length : Nat) : Int))) = true →
  (inb all i) ∧
  (inb sN k) ∧
  (pre_observed (gt all i) (gt sN k)) ∧
  ∀ r4 : List (List Int) × List (List Int), r4 = (sp_observed (gt all i) (gt sN k)) →
  ((decide (0 < ((r4.1.length : Nat) : Int))) = true →
   F_beliefs_J3 r4 (decide (0 < ((r4.2.length : Nat) : Int))) next4 k I3 μ3) ∧
  ((decide (0 < ((r4.1.length : Nat) : Int))) = false →
   F_beliefs_J3 r4 false next4 k I3 μ3)) ∧
 ((decide (k < ((sN.length : Nat) : Int))) = false →
  ∃ (I4 : Int → (List (List (List Int))) → Prop) (μ4 : Int → (List (List (List Int))) → Nat), I4 0 all ∧ ∀ (k3 : Int) (all3 : List (List (List Int))), I4 k3 all3 → F_beliefs_L4 most K next4 all k3 I4 μ4 all3 i I1 μ1)
def F_beliefs_L2 (t : Task) (sN : List Int) (most : Int) (K : (List (List (List Int)) × Bool) → Prop) (next : List (List (List Int))) (op : Int) (I2 : Int → (List (List (List Int))) → Prop) (μ2 : Int → (List (List (List Int))) → Nat) (all : List (List (List Int))) (i : Int) (I1 : Int → (List (List (List Int))) → Prop) (μ1 : Int → (List (List (List Int))) → Nat) : Prop :=
 ((decide (op < ((t.ops.length : Nat) : Int))) = true →
  (inb all i) ∧
  (inb t.ops op) ∧
  (pre_allHold (gt all i) ((gt t.ops op).pre)) ∧
  ∀ r2 : Bool, r2 = (sp_allHold (gt all i) ((gt t.ops op).pre)) →
  ((r2) = true →
   (pre_afterAll t (gt all i) op) ∧
   ∀ r3 : List (List Int), r3 = (sp_afterAll t (gt all i) op) →
   (room ((next ++ ([r3] : List (List (List Int))))).length 24) ∧
   F_beliefs_J1 next op I2 μ2 (next ++ ([r3] : List (List (List Int))))) ∧
  ((r2) = false →
   F_beliefs_J1 next op I2 μ2 next)) ∧
 ((decide (op < ((t.ops.length : Nat) : Int))) = false →
  ∃ (I3 : Int → (List (List (List Int))) → Prop) (μ3 : Int → (List (List (List Int))) → Nat), I3 0 next ∧ ∀ (k : Int) (next4 : List (List (List Int))), I3 k next4 → F_beliefs_L3 sN most K next4 k I3 μ3 all i I1 μ1)
def F_beliefs_L1 (t : Task) (sN : List Int) (most : Int) (K : (List (List (List Int)) × Bool) → Prop) (all : List (List (List Int))) (i : Int) (I1 : Int → (List (List (List Int))) → Prop) (μ1 : Int → (List (List (List Int))) → Nat) : Prop :=
 ((decide (i < ((all.length : Nat) : Int))) = true →
  ∃ (I2 : Int → (List (List (List Int))) → Prop) (μ2 : Int → (List (List (List Int))) → Nat), I2 0 ([] : List (List (List Int))) ∧ ∀ (op : Int) (next : List (List (List Int))), I2 op next → F_beliefs_L2 t sN most K next op I2 μ2 all i I1 μ1) ∧
 ((decide (i < ((all.length : Nat) : Int))) = false →
  K (all, true))
def F_beliefs (t : Task) (start2 : List (List Int)) (sN : List Int) (most : Int) (K : (List (List (List Int)) × Bool) → Prop) : Prop :=
 ∃ (I1 : Int → (List (List (List Int))) → Prop) (μ1 : Int → (List (List (List Int))) → Nat), I1 0 ([start2] : List (List (List Int))) ∧ ∀ (i : Int) (all : List (List (List Int))), I1 i all → F_beliefs_L1 t sN most K all i I1 μ1
def F_able (K : Task → Prop) : Prop :=
 K (⟨1, [], ([0] : List Int), ([(⟨[], ([0] : List Int), [], 1⟩ : Operator)] : List Operator)⟩ : Task)
def F_succ (_ : Task) (_ : List (List Int)) (K : Unit → Prop) : Prop :=
 K ()
def F_small1 (_ : List (List Int)) (K : Bool → Prop) : Prop :=
 K false
def F_ccheck (t : Task) (unknown : List Int) (sN : List Int) (K : Fault → Prop) : Prop :=
 ∀ r2 : Fault, r2 = (sp_unknownFault t unknown) →
 ((!((r2.code == 0) && (r2.index == 0))) = true →
  K r2) ∧
 ((!((r2.code == 0) && (r2.index == 0))) = false →
  (pre_isSet sN t.facts) ∧
  ∀ r3 : Bool, r3 = (sp_isSet sN t.facts) →
  ((!r3) = true →
   K (⟨5, (-9)⟩ : Fault)) ∧
  ((!r3) = false →
   K (⟨0, 0⟩ : Fault)))
def F_nodeCode_J2 (K : Int → Prop) (t81 : Bool) : Prop :=
 ((t81) = true →
  K 5) ∧
 ((t81) = false →
  K 0)
def F_nodeCode_J1 (n_ : TNode) (i : Int) (K : Int → Prop) (x : Int) (x2 : Int) (x3 : Int) (x4 : Int) : Prop :=
 ∀ x5 : Bool, x5 = (!((((n_.kind == n_.kind) && (n_.op == x)) && ((n_.fact == x2) && (n_.yes == x3))) && (n_.no == x4))) →
 ((x5) = true →
  F_nodeCode_J2 K true) ∧
 ((x5) = false →
  ((n_.kind != 1) = true →
   ((decide ((if n_.no < n_.yes then n_.no else n_.yes) < 0)) = true →
    F_nodeCode_J2 K true) ∧
   ((decide ((if n_.no < n_.yes then n_.no else n_.yes) < 0)) = false →
    F_nodeCode_J2 K (decide (i ≤ (if n_.yes < n_.no then n_.no else n_.yes))))) ∧
  ((n_.kind != 1) = false →
   F_nodeCode_J2 K false))
def F_nodeCode_J3 (n_ : TNode) (i : Int) (K : Int → Prop) (t29 : Bool) : Prop :=
 ((t29) = true →
  K 3) ∧
 ((t29) = false →
  F_nodeCode_J1 n_ i K n_.op 0 n_.yes 0)
def F_nodeCode (t : Task) (sN : List Int) (n_ : TNode) (i : Int) (K : Int → Prop) : Prop :=
 ((n_.kind == 1) = true →
  F_nodeCode_J1 n_ i K 0 0 0 0) ∧
 ((n_.kind == 1) = false →
  ((n_.kind == 2) = true →
   ((decide (n_.op < 0)) = true →
    F_nodeCode_J3 n_ i K true) ∧
   ((decide (n_.op < 0)) = false →
    F_nodeCode_J3 n_ i K (decide (((t.ops.length : Nat) : Int) ≤ n_.op)))) ∧
  ((n_.kind == 2) = false →
   ((n_.kind == 3) = true →
    (pre_index sN n_.fact) ∧
    ∀ r2 : Bool, r2 = (sp_contains sN n_.fact) →
    ((!r2) = true →
     K 6) ∧
    ((!r2) = false →
     F_nodeCode_J1 n_ i K 0 n_.fact n_.yes n_.no)) ∧
   ((n_.kind == 3) = false →
    K 4)))
def F_cvalidate_L1 (t : Task) (sN : List Int) (tree : List TNode) (K : Fault → Prop) (t29 : Int) (I1 : Int → Prop) (μ1 : Int → Nat) : Prop :=
 ((decide (t29 < ((tree.length : Nat) : Int))) = true →
  (inb tree t29) ∧
  (pre_nodeCode t sN (gt tree t29) t29) ∧
  ∀ r3 : Int, r3 = (sp_nodeCode t sN (gt tree t29) t29) →
  ((r3 != 0) = true →
   K (⟨r3, t29⟩ : Fault)) ∧
  ((r3 != 0) = false →
   I1 (IntKind.i64.wrap (t29 + 1)) ∧
 μ1 (IntKind.i64.wrap (t29 + 1)) < μ1 t29)) ∧
 ((decide (t29 < ((tree.length : Nat) : Int))) = false →
  K (⟨0, 0⟩ : Fault))
def F_cvalidate_J1 (t : Task) (sN : List Int) (tree : List TNode) (K : Fault → Prop) (t25 : Bool) : Prop :=
 ((t25) = true →
  K (⟨9, (-1)⟩ : Fault)) ∧
 ((t25) = false →
  ∃ (I1 : Int → Prop) (μ1 : Int → Nat), I1 0 ∧ ∀ (t29 : Int), I1 t29 → F_cvalidate_L1 t sN tree K t29 I1 μ1)
def F_cvalidate (t : Task) (sN : List Int) (tree : List TNode) (K : Fault → Prop) : Prop :=
 ∀ r2 : Fault, r2 = (sp_ccheck t [] sN) →
 ((!((r2.code == 0) && (r2.index == 0))) = true →
  K r2) ∧
 ((!((r2.code == 0) && (r2.index == 0))) = false →
  ((((tree.length : Nat) : Int) == 0) = true →
   F_cvalidate_J1 t sN tree K true) ∧
  ((((tree.length : Nat) : Int) == 0) = false →
   F_cvalidate_J1 t sN tree K (decide (60 < ((tree.length : Nat) : Int)))))
def F_deep_J1 (d : List Int) (d3 : List Int) (t11 : Int) (I1 : Int → (List Int) → Prop) (μ1 : Int → (List Int) → Nat) : Prop :=
 I1 (IntKind.i64.wrap (t11 + 1)) d3 ∧
 μ1 (IntKind.i64.wrap (t11 + 1)) d3 < μ1 t11 d
def F_deep_L1 (tree : List TNode) (K : Int → Prop) (d : List Int) (t11 : Int) (I1 : Int → (List Int) → Prop) (μ1 : Int → (List Int) → Nat) : Prop :=
 ((decide (t11 < ((tree.length : Nat) : Int))) = true →
  (inb tree t11) ∧
  ((((gt tree t11).kind) == 2) = true →
   (inb d ((gt tree t11).yes)) ∧
   (inb d t11) ∧
   ∀ d4 : List Int, d4 = (d.set (t11).toNat (IntKind.i64.wrap (1 + (gt d ((gt tree t11).yes))))) →
   F_deep_J1 d d4 t11 I1 μ1) ∧
  ((((gt tree t11).kind) == 2) = false →
   ((((gt tree t11).kind) == 3) = true →
    (inb d ((gt tree t11).yes)) ∧
    (inb d ((gt tree t11).no)) ∧
    ∀ x : Int, x = (if (gt d ((gt tree t11).yes)) < (gt d ((gt tree t11).no)) then (gt d ((gt tree t11).no)) else (gt d ((gt tree t11).yes))) →
    (inb d t11) ∧
    ∀ d5 : List Int, d5 = (d.set (t11).toNat (IntKind.i64.wrap (1 + x))) →
    F_deep_J1 d d5 t11 I1 μ1) ∧
   ((((gt tree t11).kind) == 3) = false →
    F_deep_J1 d d t11 I1 μ1))) ∧
 ((decide (t11 < ((tree.length : Nat) : Int))) = false →
  ∀ x2 : Int, x2 = (IntKind.i64.wrap ((((((tree.length : Nat) : Int)).toNat : Nat) : Int) - 1)) →
  (inb d x2) ∧
  K (gt d x2))
def F_deep (tree : List TNode) (K : Int → Prop) : Prop :=
 (mkok ((tree.length : Nat) : Int) 8) ∧
 ∃ (I1 : Int → (List Int) → Prop) (μ1 : Int → (List Int) → Nat), I1 0 (List.replicate (((tree.length : Nat) : Int)).toNat (0 : Int)) ∧ ∀ (t11 : Int) (d : List Int), I1 t11 d → F_deep_L1 tree K d t11 I1 μ1
def F_depth (t : Task) (sN : List Int) (tree : List TNode) (K : (Int × Fault) → Prop) : Prop :=
 ∀ r2 : Fault, r2 = (sp_cvalidate t sN tree) →
 ((!((r2.code == 0) && (r2.index == 0))) = true →
  K (0, r2)) ∧
 ((!((r2.code == 0) && (r2.index == 0))) = false →
  (pre_deep tree) ∧
  ∀ r3 : Int, r3 = (sp_deep tree) →
  K (r3, (⟨0, 0⟩ : Fault)))
def F_split_J1 (yes : List (List Int)) (no : List (List Int)) (t10 : Int) (I1 : Int → (List (List Int)) → (List (List Int)) → Prop) (μ1 : Int → (List (List Int)) → (List (List Int)) → Nat) (yes3 : List (List Int)) (no3 : List (List Int)) : Prop :=
 I1 (IntKind.i64.wrap (t10 + 1)) yes3 no3 ∧
 μ1 (IntKind.i64.wrap (t10 + 1)) yes3 no3 < μ1 t10 yes no
def F_split_L1 (worlds : List (List Int)) (fact : Int) (K : (List (List Int) × List (List Int)) → Prop) (yes : List (List Int)) (no : List (List Int)) (t10 : Int) (I1 : Int → (List (List Int)) → (List (List Int)) → Prop) (μ1 : Int → (List (List Int)) → (List (List Int)) → Nat) : Prop :=
 ((decide (t10 < ((worlds.length : Nat) : Int))) = true →
  (inb worlds t10) ∧
  (pre_index (gt worlds t10) fact) ∧
  ∀ r2 : Bool, r2 = (sp_contains (gt worlds t10) fact) →
  ((r2) = true →
   (room ((yes ++ ([(gt worlds t10)] : List (List Int)))).length 24) ∧
   F_split_J1 yes no t10 I1 μ1 (yes ++ ([(gt worlds t10)] : List (List Int))) no) ∧
  ((r2) = false →
   (room ((no ++ ([(gt worlds t10)] : List (List Int)))).length 24) ∧
   F_split_J1 yes no t10 I1 μ1 yes (no ++ ([(gt worlds t10)] : List (List Int))))) ∧
 ((decide (t10 < ((worlds.length : Nat) : Int))) = false →
  K (yes, no))
def F_split (worlds : List (List Int)) (fact : Int) (K : (List (List Int) × List (List Int)) → Prop) : Prop :=
 ∃ (I1 : Int → (List (List Int)) → (List (List Int)) → Prop) (μ1 : Int → (List (List Int)) → (List (List Int)) → Nat), I1 0 ([] : List (List Int)) ([] : List (List Int)) ∧ ∀ (t10 : Int) (yes : List (List Int)) (no : List (List Int)), I1 t10 yes no → F_split_L1 worlds fact K yes no t10 I1 μ1
def F_within_J1 (K : Bool → Prop) (t44 : Bool) (op : Int) (I1 : Int → Prop) (μ1 : Int → Nat) : Prop :=
 ((t44) = true →
  K true) ∧
 ((t44) = false →
  I1 (IntKind.i64.wrap (op + 1)) ∧
 μ1 (IntKind.i64.wrap (op + 1)) < μ1 op)
def F_within_J2 (K : Bool → Prop) (t83 : Bool) (k : Int) (I2 : Int → Prop) (μ2 : Int → Nat) : Prop :=
 ((t83) = true →
  K true) ∧
 ((t83) = false →
  I2 (IntKind.i64.wrap (k + 1)) ∧
 μ2 (IntKind.i64.wrap (k + 1)) < μ2 k)
def F_within_L2 (t : Task) (sN : List Int) (l : List (List Int)) (depth : Int) (K : Bool → Prop) (k : Int) (I2 : Int → Prop) (μ2 : Int → Nat) : Prop :=
 ((decide (k < ((sN.length : Nat) : Int))) = true →
  (inb sN k) ∧
  (pre_observed l (gt sN k)) ∧
  ∀ r6 : List (List Int) × List (List Int), r6 = (sp_observed l (gt sN k)) →
  ((decide (0 < ((r6.1.length : Nat) : Int))) = true →
   ((decide (0 < ((r6.2.length : Nat) : Int))) = true →
    (pre_within t sN r6.1 (IntKind.i64.wrap (depth - 1))) ∧
    (mu_within t sN r6.1 (IntKind.i64.wrap (depth - 1)) < mu_within t sN l depth) ∧
    ∀ r7 : Bool, r7 = (sp_within t sN r6.1 (IntKind.i64.wrap (depth - 1))) →
    ((r7) = true →
     (pre_within t sN r6.2 (IntKind.i64.wrap (depth - 1))) ∧
     (mu_within t sN r6.2 (IntKind.i64.wrap (depth - 1)) < mu_within t sN l depth) ∧
     ∀ r8 : Bool, r8 = (sp_within t sN r6.2 (IntKind.i64.wrap (depth - 1))) →
     F_within_J2 K r8 k I2 μ2) ∧
    ((r7) = false →
     F_within_J2 K false k I2 μ2)) ∧
   ((decide (0 < ((r6.2.length : Nat) : Int))) = false →
    F_within_J2 K false k I2 μ2)) ∧
  ((decide (0 < ((r6.1.length : Nat) : Int))) = false →
   F_within_J2 K false k I2 μ2)) ∧
 ((decide (k < ((sN.length : Nat) : Int))) = false →
  K false)
def F_within_L1 (t : Task) (sN : List Int) (l : List (List Int)) (depth : Int) (K : Bool → Prop) (op : Int) (I1 : Int → Prop) (μ1 : Int → Nat) : Prop :=
 ((decide (op < ((t.ops.length : Nat) : Int))) = true →
  (inb t.ops op) ∧
  (pre_allHold l ((gt t.ops op).pre)) ∧
  ∀ r3 : Bool, r3 = (sp_allHold l ((gt t.ops op).pre)) →
  ((r3) = true →
   (pre_afterAll t l op) ∧
   ∀ r4 : List (List Int), r4 = (sp_afterAll t l op) →
   (pre_within t sN r4 (IntKind.i64.wrap (depth - 1))) ∧
   (mu_within t sN r4 (IntKind.i64.wrap (depth - 1)) < mu_within t sN l depth) ∧
   ∀ r5 : Bool, r5 = (sp_within t sN r4 (IntKind.i64.wrap (depth - 1))) →
   F_within_J1 K r5 op I1 μ1) ∧
  ((r3) = false →
   F_within_J1 K false op I1 μ1)) ∧
 ((decide (op < ((t.ops.length : Nat) : Int))) = false →
  ∃ (I2 : Int → Prop) (μ2 : Int → Nat), I2 0 ∧ ∀ (k : Int), I2 k → F_within_L2 t sN l depth K k I2 μ2)
def F_within (t : Task) (sN : List Int) (l : List (List Int)) (depth : Int) (K : Bool → Prop) : Prop :=
 (pre_allHold l t.goal) ∧
 ∀ r2 : Bool, r2 = (sp_allHold l t.goal) →
 ((r2) = true →
  K true) ∧
 ((r2) = false →
  ((depth == 0) = true →
   K false) ∧
  ((depth == 0) = false →
   ∃ (I1 : Int → Prop) (μ1 : Int → Nat), I1 0 ∧ ∀ (op : Int), I1 op → F_within_L1 t sN l depth K op I1 μ1))
def F_tree_J2 (op : Int) (I2 : Int → Prop) (μ2 : Int → Nat) : Prop :=
 I2 (IntKind.i64.wrap (op + 1)) ∧
 μ2 (IntKind.i64.wrap (op + 1)) < μ2 op
def F_tree_J3 (t : Task) (sN : List Int) (l : List (List Int)) (most : Int) (out : List TNode) (K : (List TNode) → Prop) (d : Int) (r7 : List (List Int) × List (List Int)) (t116 : Bool) (k : Int) (I3 : Int → Prop) (μ3 : Int → Nat) : Prop :=
 ((t116) = true →
  (pre_tree t sN r7.1 (IntKind.i64.wrap (d - 1)) out) ∧
  (mu_tree t sN r7.1 (IntKind.i64.wrap (d - 1)) out < mu_tree t sN l most out) ∧
  ∀ r8 : List TNode, r8 = (sp_tree t sN r7.1 (IntKind.i64.wrap (d - 1)) out) →
  (pre_tree t sN r7.2 (IntKind.i64.wrap (d - 1)) r8) ∧
  (mu_tree t sN r7.2 (IntKind.i64.wrap (d - 1)) r8 < mu_tree t sN l most out) ∧
  ∀ r9 : List TNode, r9 = (sp_tree t sN r7.2 (IntKind.i64.wrap (d - 1)) r8) →
  (room ((r9 ++ ([(⟨3, 0, (gt sN k), IntKind.i64.wrap (((r8.length : Nat) : Int) - 1), IntKind.i64.wrap (((r9.length : Nat) : Int) - 1)⟩ : TNode)] : List TNode))).length 40) ∧
  K (r9 ++ ([(⟨3, 0, (gt sN k), IntKind.i64.wrap (((r8.length : Nat) : Int) - 1), IntKind.i64.wrap (((r9.length : Nat) : Int) - 1)⟩ : TNode)] : List TNode))) ∧
 ((t116) = false →
  I3 (IntKind.i64.wrap (k + 1)) ∧
 μ3 (IntKind.i64.wrap (k + 1)) < μ3 k)
def F_tree_L3 (t : Task) (sN : List Int) (l : List (List Int)) (most : Int) (out : List TNode) (K : (List TNode) → Prop) (d : Int) (k : Int) (I3 : Int → Prop) (μ3 : Int → Nat) : Prop :=
 ((decide (k < ((sN.length : Nat) : Int))) = true →
  (inb sN k) ∧
  (pre_observed l (gt sN k)) ∧
  ∀ r7 : List (List Int) × List (List Int), r7 = (sp_observed l (gt sN k)) →
  ((decide (0 < ((r7.1.length : Nat) : Int))) = true →
   ((decide (0 < ((r7.2.length : Nat) : Int))) = true →
    (pre_within t sN r7.1 (IntKind.i64.wrap (d - 1))) ∧
    ∀ r10 : Bool, r10 = (sp_within t sN r7.1 (IntKind.i64.wrap (d - 1))) →
    ((r10) = true →
     (pre_within t sN r7.2 (IntKind.i64.wrap (d - 1))) ∧
     ∀ r11 : Bool, r11 = (sp_within t sN r7.2 (IntKind.i64.wrap (d - 1))) →
     F_tree_J3 t sN l most out K d r7 r11 k I3 μ3) ∧
    ((r10) = false →
     F_tree_J3 t sN l most out K d r7 false k I3 μ3)) ∧
   ((decide (0 < ((r7.2.length : Nat) : Int))) = false →
    F_tree_J3 t sN l most out K d r7 false k I3 μ3)) ∧
  ((decide (0 < ((r7.1.length : Nat) : Int))) = false →
   F_tree_J3 t sN l most out K d r7 false k I3 μ3)) ∧
 ((decide (k < ((sN.length : Nat) : Int))) = false →
  K out)
def F_tree_L2 (t : Task) (sN : List Int) (l : List (List Int)) (most : Int) (out : List TNode) (K : (List TNode) → Prop) (d : Int) (op : Int) (I2 : Int → Prop) (μ2 : Int → Nat) : Prop :=
 ((decide (op < ((t.ops.length : Nat) : Int))) = true →
  (inb t.ops op) ∧
  (pre_allHold l ((gt t.ops op).pre)) ∧
  ∀ r3 : Bool, r3 = (sp_allHold l ((gt t.ops op).pre)) →
  ((!r3) = true →
   F_tree_J2 op I2 μ2) ∧
  ((!r3) = false →
   (pre_afterAll t l op) ∧
   ∀ r4 : List (List Int), r4 = (sp_afterAll t l op) →
   (pre_within t sN r4 (IntKind.i64.wrap (d - 1))) ∧
   ∀ r5 : Bool, r5 = (sp_within t sN r4 (IntKind.i64.wrap (d - 1))) →
   ((r5) = true →
    (pre_tree t sN r4 (IntKind.i64.wrap (d - 1)) out) ∧
    (mu_tree t sN r4 (IntKind.i64.wrap (d - 1)) out < mu_tree t sN l most out) ∧
    ∀ r6 : List TNode, r6 = (sp_tree t sN r4 (IntKind.i64.wrap (d - 1)) out) →
    (room ((r6 ++ ([(⟨2, op, 0, IntKind.i64.wrap (((r6.length : Nat) : Int) - 1), 0⟩ : TNode)] : List TNode))).length 40) ∧
    K (r6 ++ ([(⟨2, op, 0, IntKind.i64.wrap (((r6.length : Nat) : Int) - 1), 0⟩ : TNode)] : List TNode))) ∧
   ((r5) = false →
    F_tree_J2 op I2 μ2))) ∧
 ((decide (op < ((t.ops.length : Nat) : Int))) = false →
  ∃ (I3 : Int → Prop) (μ3 : Int → Nat), I3 0 ∧ ∀ (k : Int), I3 k → F_tree_L3 t sN l most out K d k I3 μ3)
def F_tree_J1 (t : Task) (sN : List Int) (l : List (List Int)) (most : Int) (out : List TNode) (K : (List TNode) → Prop) (d : Int) (t32 : Bool) : Prop :=
 ((t32) = true →
  (room ((out ++ ([(⟨1, 0, 0, 0, 0⟩ : TNode)] : List TNode))).length 40) ∧
  K (out ++ ([(⟨1, 0, 0, 0, 0⟩ : TNode)] : List TNode))) ∧
 ((t32) = false →
  ∃ (I2 : Int → Prop) (μ2 : Int → Nat), I2 0 ∧ ∀ (op : Int), I2 op → F_tree_L2 t sN l most out K d op I2 μ2)
def F_tree_L1 (t : Task) (sN : List Int) (l : List (List Int)) (most : Int) (out : List TNode) (K : (List TNode) → Prop) (d : Int) (I1 : Int → Prop) (μ1 : Int → Nat) : Prop :=
 (pre_within t sN l d) ∧
 ∀ r2 : Bool, r2 = (sp_within t sN l d) →
 ((!r2) = true →
  I1 (IntKind.i64.wrap (d + 1)) ∧
 μ1 (IntKind.i64.wrap (d + 1)) < μ1 d) ∧
 ((!r2) = false →
  ((d == 0) = true →
   F_tree_J1 t sN l most out K d true) ∧
  ((d == 0) = false →
   F_tree_J1 t sN l most out K d (decide (most < d))))
def F_tree (t : Task) (sN : List Int) (l : List (List Int)) (most : Int) (out : List TNode) (K : (List TNode) → Prop) : Prop :=
 ∃ (I1 : Int → Prop) (μ1 : Int → Nat), I1 0 ∧ ∀ (d : Int), I1 d → F_tree_L1 t sN l most out K d I1 μ1
def F_trees_L1 (a : List TNode) (b : List TNode) (K : Bool → Prop) (i : Int) (I1 : Int → Prop) (μ1 : Int → Nat) : Prop :=
 ((decide (i < ((a.length : Nat) : Int))) = true →
  (inb a i) ∧
  (inb b i) ∧
  ∀ x : Bool, x = (!((((((gt a i).kind) == ((gt b i).kind)) && (((gt a i).op) == ((gt b i).op))) && ((((gt a i).fact) == ((gt b i).fact)) && (((gt a i).yes) == ((gt b i).yes)))) && (((gt a i).no) == ((gt b i).no)))) →
  ((x) = true →
   K false) ∧
  ((x) = false →
   I1 (IntKind.i64.wrap (i + 1)) ∧
 μ1 (IntKind.i64.wrap (i + 1)) < μ1 i)) ∧
 ((decide (i < ((a.length : Nat) : Int))) = false →
  K true)
def F_trees (a : List TNode) (b : List TNode) (K : Bool → Prop) : Prop :=
 ((((a.length : Nat) : Int) != ((b.length : Nat) : Int)) = true →
  K false) ∧
 ((((a.length : Nat) : Int) != ((b.length : Nat) : Int)) = false →
  ∃ (I1 : Int → Prop) (μ1 : Int → Nat), I1 0 ∧ ∀ (i : Int), I1 i → F_trees_L1 a b K i I1 μ1)
def F_snext (_ : Srch) (_ : List (List Int)) (K : Unit → Prop) : Prop :=
 K ()
def F_breadthC_L2 (K : (List Int × Bool × Bool) → Prop) (i : Int) (out : List Int) (I2 : Int → (List Int) → Prop) (μ2 : Int → (List Int) → Nat) (l : List Entry) : Prop :=
 (inb l i) ∧
 ((decide (0 ≤ ((gt l i).from_))) = true →
  (room ((out ++ ([(gt l i).step] : List Int))).length 8) ∧
  I2 ((gt l i).from_) (out ++ ([(gt l i).step] : List Int)) ∧
 μ2 ((gt l i).from_) (out ++ ([(gt l i).step] : List Int)) < μ2 i out) ∧
 ((decide (0 ≤ ((gt l i).from_))) = false →
  (pre_reverse out) ∧
  ∀ r4 : List Int, r4 = (sp_reverse out) →
  K (r4, true, true))
def F_breadthC_J1 (t9 : Int) (I3 : Int → (List Entry) → (List UInt8 → Int) → Prop) (μ3 : Int → (List Entry) → (List UInt8 → Int) → Nat) (l5 : List Entry) (m3 : List UInt8 → Int) (l7 : List Entry) (m5 : List UInt8 → Int) : Prop :=
 I3 (IntKind.i64.wrap (t9 + 1)) l7 m5 ∧
 μ3 (IntKind.i64.wrap (t9 + 1)) l7 m5 < μ3 t9 l5 m3
def F_breadthC_J2 (t28 : Int) (I4 : Int → (List Entry) → (List UInt8 → Int) → Prop) (μ4 : Int → (List Entry) → (List UInt8 → Int) → Nat) (l8 : List Entry) (m6 : List UInt8 → Int) (l10 : List Entry) (m8 : List UInt8 → Int) : Prop :=
 I4 (IntKind.i64.wrap (t28 + 1)) l10 m8 ∧
 μ4 (IntKind.i64.wrap (t28 + 1)) l10 m8 < μ4 t28 l8 m6
def F_breadthC_L4 (k : Srch) (K : (List Int × Bool × Bool) → Prop) (x : Int) (m : List UInt8 → Int) (t28 : Int) (I4 : Int → (List Entry) → (List UInt8 → Int) → Prop) (μ4 : Int → (List Entry) → (List UInt8 → Int) → Nat) (l8 : List Entry) (m6 : List UInt8 → Int) (l : List Entry) (I1 : Int → (List Entry) → (List UInt8 → Int) → Prop) (μ1 : Int → (List Entry) → (List UInt8 → Int) → Nat) : Prop :=
 ((decide (t28 < ((k.sN.length : Nat) : Int))) = true →
  (inb k.sN t28) ∧
  (pre_split ((gt l x).node) (gt k.sN t28)) ∧
  ∀ r10 : List (List Int) × List (List Int), r10 = (sp_split ((gt l x).node) (gt k.sN t28)) →
  ((decide (0 < ((r10.1.length : Nat) : Int))) = true →
   ((decide (0 < ((r10.2.length : Nat) : Int))) = true →
    (pre_key r10.1) ∧
    ∀ r11 : List UInt8, r11 = (sp_key r10.1) →
    ((decide (0 < (m6 r11))) = true →
     (pre_key r10.2) ∧
     ∀ r12 : List UInt8, r12 = (sp_key r10.2) →
     ((decide (0 < (m6 r12))) = true →
      F_breadthC_J2 t28 I4 μ4 l8 m6 l8 m6) ∧
     ((decide (0 < (m6 r12))) = false →
      ((((l8.length : Nat) : Int) == 2000) = true →
       K (([] : List Int), false, false)) ∧
      ((((l8.length : Nat) : Int) == 2000) = false →
       (room ((l8 ++ ([(⟨r10.2, x, (-1)⟩ : Entry)] : List Entry))).length 40) ∧
       F_breadthC_J2 t28 I4 μ4 l8 m6 (l8 ++ ([(⟨r10.2, x, (-1)⟩ : Entry)] : List Entry)) (upd m6 r12 1)))) ∧
    ((decide (0 < (m6 r11))) = false →
     ((((l8.length : Nat) : Int) == 2000) = true →
      K (([] : List Int), false, false)) ∧
     ((((l8.length : Nat) : Int) == 2000) = false →
      (room ((l8 ++ ([(⟨r10.1, x, (-1)⟩ : Entry)] : List Entry))).length 40) ∧
      (pre_key r10.2) ∧
      ∀ r13 : List UInt8, r13 = (sp_key r10.2) →
      ((decide (0 < ((upd m6 r11 1) r13))) = true →
       F_breadthC_J2 t28 I4 μ4 l8 m6 (l8 ++ ([(⟨r10.1, x, (-1)⟩ : Entry)] : List Entry)) (upd m6 r11 1)) ∧
      ((decide (0 < ((upd m6 r11 1) r13))) = false →
       ∀ x3 : Int, x3 = (((l8 ++ ([(⟨r10.1, x, (-1)⟩ : Entry)] : List Entry)).length : Nat) : Int) →
       ((x3 == 2000) = true →
        K (([] : List Int), false, false)) ∧
       ((x3 == 2000) = false →
        (room (((l8 ++ ([(⟨r10.1, x, (-1)⟩ : Entry)] : List Entry)) ++ ([(⟨r10.2, x, (-1)⟩ : Entry)] : List Entry))).length 40) ∧
        F_breadthC_J2 t28 I4 μ4 l8 m6 ((l8 ++ ([(⟨r10.1, x, (-1)⟩ : Entry)] : List Entry)) ++ ([(⟨r10.2, x, (-1)⟩ : Entry)] : List Entry)) (upd (upd m6 r11 1) r13 1)))))) ∧
   ((decide (0 < ((r10.2.length : Nat) : Int))) = false →
    F_breadthC_J2 t28 I4 μ4 l8 m6 l8 m6)) ∧
  ((decide (0 < ((r10.1.length : Nat) : Int))) = false →
   F_breadthC_J2 t28 I4 μ4 l8 m6 l8 m6)) ∧
 ((decide (t28 < ((k.sN.length : Nat) : Int))) = false →
  I1 (IntKind.i64.wrap (x + 1)) l8 m6 ∧
 μ1 (IntKind.i64.wrap (x + 1)) l8 m6 < μ1 x l m)
def F_breadthC_L3 (k : Srch) (K : (List Int × Bool × Bool) → Prop) (x : Int) (m : List UInt8 → Int) (t9 : Int) (I3 : Int → (List Entry) → (List UInt8 → Int) → Prop) (μ3 : Int → (List Entry) → (List UInt8 → Int) → Nat) (l5 : List Entry) (m3 : List UInt8 → Int) (l : List Entry) (I1 : Int → (List Entry) → (List UInt8 → Int) → Prop) (μ1 : Int → (List Entry) → (List UInt8 → Int) → Nat) : Prop :=
 ((decide (t9 < ((k.t.ops.length : Nat) : Int))) = true →
  (inb k.t.ops t9) ∧
  (pre_sure ((gt l x).node) ((gt k.t.ops t9).pre)) ∧
  ∀ r7 : Bool, r7 = (sp_sure ((gt l x).node) ((gt k.t.ops t9).pre)) →
  ((r7) = true →
   (pre_bafter k.t ((gt l x).node) t9) ∧
   ∀ r8 : List (List Int), r8 = (sp_bafter k.t ((gt l x).node) t9) →
   (pre_key r8) ∧
   ∀ r9 : List UInt8, r9 = (sp_key r8) →
   ((decide (0 < (m3 r9))) = true →
    F_breadthC_J1 t9 I3 μ3 l5 m3 l5 m3) ∧
   ((decide (0 < (m3 r9))) = false →
    ((((l5.length : Nat) : Int) == 2000) = true →
     K (([] : List Int), false, false)) ∧
    ((((l5.length : Nat) : Int) == 2000) = false →
     (room ((l5 ++ ([(⟨r8, x, t9⟩ : Entry)] : List Entry))).length 40) ∧
     F_breadthC_J1 t9 I3 μ3 l5 m3 (l5 ++ ([(⟨r8, x, t9⟩ : Entry)] : List Entry)) (upd m3 r9 1)))) ∧
  ((r7) = false →
   F_breadthC_J1 t9 I3 μ3 l5 m3 l5 m3)) ∧
 ((decide (t9 < ((k.t.ops.length : Nat) : Int))) = false →
  ∃ (I4 : Int → (List Entry) → (List UInt8 → Int) → Prop) (μ4 : Int → (List Entry) → (List UInt8 → Int) → Nat), I4 0 l5 m3 ∧ ∀ (t28 : Int) (l8 : List Entry) (m6 : List UInt8 → Int), I4 t28 l8 m6 → F_breadthC_L4 k K x m t28 I4 μ4 l8 m6 l I1 μ1)
def F_breadthC_L1 (k : Srch) (K : (List Int × Bool × Bool) → Prop) (x : Int) (m : List UInt8 → Int) (l : List Entry) (I1 : Int → (List Entry) → (List UInt8 → Int) → Prop) (μ1 : Int → (List Entry) → (List UInt8 → Int) → Nat) : Prop :=
 ((decide (x < ((l.length : Nat) : Int))) = true →
  (inb l x) ∧
  ∀ r3 : Bool, r3 = (sp_small1 ((gt l x).node)) →
  ((r3) = true →
   ∃ (I2 : Int → (List Int) → Prop) (μ2 : Int → (List Int) → Nat), I2 x ([] : List Int) ∧ ∀ (i : Int) (out : List Int), I2 i out → F_breadthC_L2 K i out I2 μ2 l) ∧
  ((r3) = false →
   ∀ r5 : Unit, r5 = (sp_snext k ((gt l x).node)) →
   ∀ r6 : Unit, r6 = (sp_succ k.t ((gt l x).node)) →
   ∃ (I3 : Int → (List Entry) → (List UInt8 → Int) → Prop) (μ3 : Int → (List Entry) → (List UInt8 → Int) → Nat), I3 0 l m ∧ ∀ (t9 : Int) (l5 : List Entry) (m3 : List UInt8 → Int), I3 t9 l5 m3 → F_breadthC_L3 k K x m t9 I3 μ3 l5 m3 l I1 μ1)) ∧
 ((decide (x < ((l.length : Nat) : Int))) = false →
  K (([] : List Int), false, true))
def F_breadthC (start2 : List (List Int)) (k : Srch) (K : (List Int × Bool × Bool) → Prop) : Prop :=
 (pre_key start2) ∧
 ∀ r2 : List UInt8, r2 = (sp_key start2) →
 ∃ (I1 : Int → (List Entry) → (List UInt8 → Int) → Prop) (μ1 : Int → (List Entry) → (List UInt8 → Int) → Nat), I1 0 ([(⟨start2, (-1), 0⟩ : Entry)] : List Entry) (upd (fun _ => 0) r2 1) ∧ ∀ (x : Int) (l : List Entry) (m : List UInt8 → Int), I1 x l m → F_breadthC_L1 k K x m l I1 μ1
def F_smallC (start2 : List (List Int)) (k : Srch) (K : Bool → Prop) : Prop :=
 (pre_breadthC start2 k) ∧
 ∀ r2 : List Int × Bool × Bool, r2 = (sp_breadthC start2 k) →
 K r2.2.2
def F_scan_J1 (m2 : List UInt8 → Int) (next : Int) (m4 : List UInt8 → Int) (I1 : Int → (List UInt8 → Int) → Prop) (μ1 : Int → (List UInt8 → Int) → Nat) : Prop :=
 I1 (IntKind.i64.wrap (next + 1)) m4 ∧
 μ1 (IntKind.i64.wrap (next + 1)) m4 < μ1 next m2
def F_scan_J2 (k : Srch) (K : Bool → Prop) (m6 : List UInt8 → Int) (t85 : Bool) (m8 : List UInt8 → Int) (t54 : Int) (I2 : Int → (List UInt8 → Int) → Prop) (μ2 : Int → (List UInt8 → Int) → Nat) : Prop :=
 ((t85) = true →
  (srInv k m8) ∧
  K true) ∧
 ((t85) = false →
  I2 (IntKind.i64.wrap (t54 + 1)) m8 ∧
 μ2 (IntKind.i64.wrap (t54 + 1)) m8 < μ2 t54 m6)
def F_scan_L2 (k : Srch) (worlds : List (List Int)) (depth : Int) (K : Bool → Prop) (r3 : List UInt8) (r4 : List UInt8) (m6 : List UInt8 → Int) (t54 : Int) (I2 : Int → (List UInt8 → Int) → Prop) (μ2 : Int → (List UInt8 → Int) → Nat) : Prop :=
 ((decide (t54 < ((k.sN.length : Nat) : Int))) = true →
  (inb k.sN t54) ∧
  (pre_split worlds (gt k.sN t54)) ∧
  ∀ r9 : List (List Int) × List (List Int), r9 = (sp_split worlds (gt k.sN t54)) →
  ((decide (0 < ((r9.1.length : Nat) : Int))) = true →
   ((decide (0 < ((r9.2.length : Nat) : Int))) = true →
    (srInv k m6) ∧
    (pre_scan k r9.1 (IntKind.i64.wrap (depth - 1))) ∧
    (mu_scan k r9.1 (IntKind.i64.wrap (depth - 1)) < mu_scan k worlds depth) ∧
    ∀ r10 : Bool, r10 = (sp_scan k r9.1 (IntKind.i64.wrap (depth - 1))) →
    ∀ m9 : List UInt8 → Int, srInv k m9 →
    ((r10) = true →
     (pre_scan k r9.2 (IntKind.i64.wrap (depth - 1))) ∧
     (mu_scan k r9.2 (IntKind.i64.wrap (depth - 1)) < mu_scan k worlds depth) ∧
     ∀ r11 : Bool, r11 = (sp_scan k r9.2 (IntKind.i64.wrap (depth - 1))) →
     ∀ m10 : List UInt8 → Int, srInv k m10 →
     F_scan_J2 k K m6 r11 m10 t54 I2 μ2) ∧
    ((r10) = false →
     F_scan_J2 k K m6 false m9 t54 I2 μ2)) ∧
   ((decide (0 < ((r9.2.length : Nat) : Int))) = false →
    F_scan_J2 k K m6 false m6 t54 I2 μ2)) ∧
  ((decide (0 < ((r9.1.length : Nat) : Int))) = false →
   F_scan_J2 k K m6 false m6 t54 I2 μ2)) ∧
 ((decide (t54 < ((k.sN.length : Nat) : Int))) = false →
  (srInv k (upd m6 ((r3 ++ ([58] : List UInt8)) ++ r4) 1)) ∧
  K false)
def F_scan_L1 (k : Srch) (worlds : List (List Int)) (depth : Int) (K : Bool → Prop) (r3 : List UInt8) (r4 : List UInt8) (m2 : List UInt8 → Int) (next : Int) (I1 : Int → (List UInt8 → Int) → Prop) (μ1 : Int → (List UInt8 → Int) → Nat) : Prop :=
 ((decide (next < ((k.t.ops.length : Nat) : Int))) = true →
  (inb k.t.ops next) ∧
  (pre_sure worlds ((gt k.t.ops next).pre)) ∧
  ∀ r6 : Bool, r6 = (sp_sure worlds ((gt k.t.ops next).pre)) →
  ((r6) = true →
   (pre_bafter k.t worlds next) ∧
   ∀ r7 : List (List Int), r7 = (sp_bafter k.t worlds next) →
   (srInv k m2) ∧
   (pre_scan k r7 (IntKind.i64.wrap (depth - 1))) ∧
   (mu_scan k r7 (IntKind.i64.wrap (depth - 1)) < mu_scan k worlds depth) ∧
   ∀ r8 : Bool, r8 = (sp_scan k r7 (IntKind.i64.wrap (depth - 1))) →
   ∀ m5 : List UInt8 → Int, srInv k m5 →
   ((r8) = true →
    K true) ∧
   ((r8) = false →
    F_scan_J1 m2 next m5 I1 μ1)) ∧
  ((r6) = false →
   F_scan_J1 m2 next m2 I1 μ1)) ∧
 ((decide (next < ((k.t.ops.length : Nat) : Int))) = false →
  ∃ (I2 : Int → (List UInt8 → Int) → Prop) (μ2 : Int → (List UInt8 → Int) → Nat), I2 0 m2 ∧ ∀ (t54 : Int) (m6 : List UInt8 → Int), I2 t54 m6 → F_scan_L2 k worlds depth K r3 r4 m6 t54 I2 μ2)
def F_scan (k : Srch) (worlds : List (List Int)) (depth : Int) (K : Bool → Prop) : Prop :=
 ∀ m : List UInt8 → Int, srInv k m →
 (pre_sure worlds k.t.goal) ∧
 ∀ r2 : Bool, r2 = (sp_sure worlds k.t.goal) →
 ((r2) = true →
  K true) ∧
 ((r2) = false →
  ((depth == 0) = true →
   K false) ∧
  ((depth == 0) = false →
   (pre_itoa depth) ∧
   ∀ r3 : List UInt8, r3 = (sp_itoa depth) →
   (((r3 ++ ([58] : List UInt8)).length : Int) ≤ 9223372036854775807) ∧
   (pre_key worlds) ∧
   ∀ r4 : List UInt8, r4 = (sp_key worlds) →
   ((((r3 ++ ([58] : List UInt8)) ++ r4).length : Int) ≤ 9223372036854775807) ∧
   ((decide (0 < (m ((r3 ++ ([58] : List UInt8)) ++ r4)))) = true →
    K false) ∧
   ((decide (0 < (m ((r3 ++ ([58] : List UInt8)) ++ r4)))) = false →
    ∀ r5 : Unit, r5 = (sp_succ k.t worlds) →
    ∃ (I1 : Int → (List UInt8 → Int) → Prop) (μ1 : Int → (List UInt8 → Int) → Nat), I1 0 m ∧ ∀ (next : Int) (m2 : List UInt8 → Int), I1 next m2 → F_scan_L1 k worlds depth K r3 r4 m2 next I1 μ1)))
def F_sleast_L1 (k : Srch) (worlds : List (List Int)) (most : Int) (K : Int → Prop) (m2 : List UInt8 → Int) (t10 : Int) (I1 : Int → (List UInt8 → Int) → Prop) (μ1 : Int → (List UInt8 → Int) → Nat) : Prop :=
 ((decide (t10 < (IntKind.i64.wrap (most + 1)))) = true →
  (srInv k m2) ∧
  (pre_scan k worlds t10) ∧
  ∀ r2 : Bool, r2 = (sp_scan k worlds t10) →
  ∀ m4 : List UInt8 → Int, srInv k m4 →
  ((r2) = true →
   K t10) ∧
  ((r2) = false →
   I1 (IntKind.i64.wrap (t10 + 1)) m4 ∧
 μ1 (IntKind.i64.wrap (t10 + 1)) m4 < μ1 t10 m2)) ∧
 ((decide (t10 < (IntKind.i64.wrap (most + 1)))) = false →
  (srInv k m2) ∧
  K (-1))
def F_sleast (k : Srch) (worlds : List (List Int)) (most : Int) (K : Int → Prop) : Prop :=
 ∀ m : List UInt8 → Int, srInv k m →
 ∃ (I1 : Int → (List UInt8 → Int) → Prop) (μ1 : Int → (List UInt8 → Int) → Nat), I1 0 m ∧ ∀ (t10 : Int) (m2 : List UInt8 → Int), I1 t10 m2 → F_sleast_L1 k worlds most K m2 t10 I1 μ1
def F_sput (k : Srch) (tr : List TNode) (n_ : TNode) (K : (Int × (List TNode)) → Prop) : Prop :=
 ∀ m : List UInt8 → Int, srInv k m →
 (room ((tr ++ ([n_] : List TNode))).length 40) ∧
 ∀ x : Int, x = (IntKind.i64.wrap ((((tr ++ ([n_] : List TNode)).length : Nat) : Int) - 1)) →
 K (x, (tr ++ ([n_] : List TNode)))
def F_sbuild_J1 (m3 : List UInt8 → Int) (m5 : List UInt8 → Int) (d : Int) (I1 : Int → (List UInt8 → Int) → Prop) (μ1 : Int → (List UInt8 → Int) → Nat) : Prop :=
 I1 (IntKind.i64.wrap (d + 1)) m5 ∧
 μ1 (IntKind.i64.wrap (d + 1)) m5 < μ1 d m3
def F_sbuild_J2 (m9 : List UInt8 → Int) (m11 : List UInt8 → Int) (t50 : Int) (I2 : Int → (List UInt8 → Int) → Prop) (μ2 : Int → (List UInt8 → Int) → Nat) : Prop :=
 I2 (IntKind.i64.wrap (t50 + 1)) m11 ∧
 μ2 (IntKind.i64.wrap (t50 + 1)) m11 < μ2 t50 m9
def F_sbuild_J4 (k : Srch) (tr : List TNode) (worlds : List (List Int)) (depth : Int) (K : (Int × (List TNode)) → Prop) (r9 : List (List Int) × List (List Int)) (r10 : Int) (m9 : List UInt8 → Int) (r11 : Int) (t83 : Bool) (m13 : List UInt8 → Int) (t50 : Int) (I2 : Int → (List UInt8 → Int) → Prop) (μ2 : Int → (List UInt8 → Int) → Nat) : Prop :=
 ((t83) = true →
  (srInv k m13) ∧
  (pre_sbuild k tr r9.1 r10) ∧
  (mu_sbuild k tr r9.1 r10 < mu_sbuild k tr worlds depth) ∧
  ∀ r12 : Int × (List TNode), r12 = (sp_sbuild k tr r9.1 r10) →
  ∀ m14 : List UInt8 → Int, srInv k m14 →
  (pre_sbuild k r12.2 r9.2 r11) ∧
  (mu_sbuild k r12.2 r9.2 r11 < mu_sbuild k tr worlds depth) ∧
  ∀ r13 : Int × (List TNode), r13 = (sp_sbuild k r12.2 r9.2 r11) →
  ∀ m15 : List UInt8 → Int, srInv k m15 →
  (pre_sput k r13.2 (⟨3, 0, (gt k.sN t50), r12.1, r13.1⟩ : TNode)) ∧
  ∀ r14 : Int × (List TNode), r14 = (sp_sput k r13.2 (⟨3, 0, (gt k.sN t50), r12.1, r13.1⟩ : TNode)) →
  ∀ m16 : List UInt8 → Int, srInv k m16 →
  K (r14.1, r14.2)) ∧
 ((t83) = false →
  F_sbuild_J2 m9 m13 t50 I2 μ2)
def F_sbuild_J3 (k : Srch) (tr : List TNode) (worlds : List (List Int)) (depth : Int) (K : (Int × (List TNode)) → Prop) (r9 : List (List Int) × List (List Int)) (t67 : Bool) (m9 : List UInt8 → Int) (t50 : Int) (I2 : Int → (List UInt8 → Int) → Prop) (μ2 : Int → (List UInt8 → Int) → Nat) : Prop :=
 ((t67) = true →
  F_sbuild_J2 m9 m9 t50 I2 μ2) ∧
 ((t67) = false →
  (srInv k m9) ∧
  (pre_sleast k r9.1 (IntKind.i64.wrap (depth - 1))) ∧
  ∀ r10 : Int, r10 = (sp_sleast k r9.1 (IntKind.i64.wrap (depth - 1))) →
  ∀ m12 : List UInt8 → Int, srInv k m12 →
  (pre_sleast k r9.2 (IntKind.i64.wrap (depth - 1))) ∧
  ∀ r11 : Int, r11 = (sp_sleast k r9.2 (IntKind.i64.wrap (depth - 1))) →
  ∀ m13 : List UInt8 → Int, srInv k m13 →
  ((decide (0 ≤ r10)) = true →
   F_sbuild_J4 k tr worlds depth K r9 r10 m9 r11 (decide (0 ≤ r11)) m13 t50 I2 μ2) ∧
  ((decide (0 ≤ r10)) = false →
   F_sbuild_J4 k tr worlds depth K r9 r10 m9 r11 false m13 t50 I2 μ2))
def F_sbuild_L2 (k : Srch) (tr : List TNode) (worlds : List (List Int)) (depth : Int) (K : (Int × (List TNode)) → Prop) (m9 : List UInt8 → Int) (t50 : Int) (I2 : Int → (List UInt8 → Int) → Prop) (μ2 : Int → (List UInt8 → Int) → Nat) : Prop :=
 ((decide (t50 < ((k.sN.length : Nat) : Int))) = true →
  (inb k.sN t50) ∧
  (pre_split worlds (gt k.sN t50)) ∧
  ∀ r9 : List (List Int) × List (List Int), r9 = (sp_split worlds (gt k.sN t50)) →
  ((((r9.1.length : Nat) : Int) == 0) = true →
   F_sbuild_J3 k tr worlds depth K r9 true m9 t50 I2 μ2) ∧
  ((((r9.1.length : Nat) : Int) == 0) = false →
   F_sbuild_J3 k tr worlds depth K r9 (((r9.2.length : Nat) : Int) == 0) m9 t50 I2 μ2)) ∧
 ((decide (t50 < ((k.sN.length : Nat) : Int))) = false →
  (srInv k m9) ∧
  K (0, tr))
def F_sbuild_L1 (k : Srch) (tr : List TNode) (worlds : List (List Int)) (depth : Int) (K : (Int × (List TNode)) → Prop) (m3 : List UInt8 → Int) (d : Int) (I1 : Int → (List UInt8 → Int) → Prop) (μ1 : Int → (List UInt8 → Int) → Nat) : Prop :=
 ((decide (d < ((k.t.ops.length : Nat) : Int))) = true →
  (inb k.t.ops d) ∧
  (pre_sure worlds ((gt k.t.ops d).pre)) ∧
  ∀ r4 : Bool, r4 = (sp_sure worlds ((gt k.t.ops d).pre)) →
  ((r4) = true →
   (pre_bafter k.t worlds d) ∧
   ∀ r5 : List (List Int), r5 = (sp_bafter k.t worlds d) →
   (srInv k m3) ∧
   (pre_sleast k r5 (IntKind.i64.wrap (depth - 1))) ∧
   ∀ r6 : Int, r6 = (sp_sleast k r5 (IntKind.i64.wrap (depth - 1))) →
   ∀ m6 : List UInt8 → Int, srInv k m6 →
   ((decide (0 ≤ r6)) = true →
    (pre_sbuild k tr r5 r6) ∧
    (mu_sbuild k tr r5 r6 < mu_sbuild k tr worlds depth) ∧
    ∀ r7 : Int × (List TNode), r7 = (sp_sbuild k tr r5 r6) →
    ∀ m7 : List UInt8 → Int, srInv k m7 →
    (pre_sput k r7.2 (⟨2, d, 0, r7.1, 0⟩ : TNode)) ∧
    ∀ r8 : Int × (List TNode), r8 = (sp_sput k r7.2 (⟨2, d, 0, r7.1, 0⟩ : TNode)) →
    ∀ m8 : List UInt8 → Int, srInv k m8 →
    K (r8.1, r8.2)) ∧
   ((decide (0 ≤ r6)) = false →
    F_sbuild_J1 m3 m6 d I1 μ1)) ∧
  ((r4) = false →
   F_sbuild_J1 m3 m3 d I1 μ1)) ∧
 ((decide (d < ((k.t.ops.length : Nat) : Int))) = false →
  ∃ (I2 : Int → (List UInt8 → Int) → Prop) (μ2 : Int → (List UInt8 → Int) → Nat), I2 0 m3 ∧ ∀ (t50 : Int) (m9 : List UInt8 → Int), I2 t50 m9 → F_sbuild_L2 k tr worlds depth K m9 t50 I2 μ2)
def F_sbuild (k : Srch) (tr : List TNode) (worlds : List (List Int)) (depth : Int) (K : (Int × (List TNode)) → Prop) : Prop :=
 ∀ m : List UInt8 → Int, srInv k m →
 ((depth == 0) = true →
  (pre_sput k tr (⟨1, 0, 0, 0, 0⟩ : TNode)) ∧
  ∀ r2 : Int × (List TNode), r2 = (sp_sput k tr (⟨1, 0, 0, 0, 0⟩ : TNode)) →
  ∀ m2 : List UInt8 → Int, srInv k m2 →
  K (r2.1, r2.2)) ∧
 ((depth == 0) = false →
  ∀ r3 : Unit, r3 = (sp_succ k.t worlds) →
  ∃ (I1 : Int → (List UInt8 → Int) → Prop) (μ1 : Int → (List UInt8 → Int) → Nat), I1 0 m ∧ ∀ (d : Int) (m3 : List UInt8 → Int), I1 d m3 → F_sbuild_L1 k tr worlds depth K m3 d I1 μ1)
def F_cplan_J1 (t : Task) (unknown : List Int) (sN : List Int) (depth : Int) (K : (List TNode × Bool × Fault) → Prop) (t28 : Bool) : Prop :=
 ((t28) = true →
  K (([] : List TNode), false, (⟨3, (-10)⟩ : Fault))) ∧
 ((t28) = false →
  (pre_worlds t unknown) ∧
  ∀ r3 : List (List Int), r3 = (sp_worlds t unknown) →
  (pre_smallC r3 (⟨t, sN⟩ : Srch)) ∧
  ∀ r4 : Bool, r4 = (sp_smallC r3 (⟨t, sN⟩ : Srch)) →
  ((!r4) = true →
   K (([] : List TNode), false, (⟨10, (-7)⟩ : Fault))) ∧
  ((!r4) = false →
   (srInv (⟨t, sN⟩ : Srch) (fun _ => 0)) ∧
   (pre_sleast (⟨t, sN⟩ : Srch) r3 depth) ∧
   ∀ r5 : Int, r5 = (sp_sleast (⟨t, sN⟩ : Srch) r3 depth) →
   ∀ m : List UInt8 → Int, srInv (⟨t, sN⟩ : Srch) m →
   ((decide (r5 < 0)) = true →
    K (([] : List TNode), false, (⟨0, 0⟩ : Fault))) ∧
   ((decide (r5 < 0)) = false →
    (pre_sbuild (⟨t, sN⟩ : Srch) ([] : List TNode) r3 r5) ∧
    ∀ r6 : Int × (List TNode), r6 = (sp_sbuild (⟨t, sN⟩ : Srch) ([] : List TNode) r3 r5) →
    ∀ m2 : List UInt8 → Int, srInv (⟨t, sN⟩ : Srch) m2 →
    ((decide (60 < ((r6.2.length : Nat) : Int))) = true →
     K (([] : List TNode), false, (⟨10, (-1)⟩ : Fault))) ∧
    ((decide (60 < ((r6.2.length : Nat) : Int))) = false →
     K (r6.2, true, (⟨0, 0⟩ : Fault))))))
def F_cplan (t : Task) (unknown : List Int) (sN : List Int) (depth : Int) (K : (List TNode × Bool × Fault) → Prop) : Prop :=
 ∀ r2 : Fault, r2 = (sp_ccheck t unknown sN) →
 ((!((r2.code == 0) && (r2.index == 0))) = true →
  K (([] : List TNode), false, r2)) ∧
 ((!((r2.code == 0) && (r2.index == 0))) = false →
  ((decide (depth < 0)) = true →
   F_cplan_J1 t unknown sN depth K true) ∧
  ((decide (depth < 0)) = false →
   F_cplan_J1 t unknown sN depth K (decide (6 < depth))))
def F_stopped (K : Bool → Prop) : Prop :=
 ∀ r2 : Task, r2 = sp_able →
 ∀ r3 : Int × Fault, r3 = (sp_depth r2 [] ([(⟨1, 0, 0, 0, 0⟩ : TNode)] : List TNode)) →
 ∀ r4 : Task, r4 = sp_able →
 ∀ r5 : List TNode × Bool × Fault, r5 = (sp_cplan r4 [] [] 1) →
 ((r3.2.code == 0) = true →
  ((r5.2.2.code == 0) = true →
   ((r3.1 == 0) = true →
    ((r5.2.1) = true →
     (pre_trees r5.1 ([(⟨1, 0, 0, 0, 0⟩ : TNode), (⟨2, 0, 0, 0, 0⟩ : TNode)] : List TNode)) ∧
     ∀ r6 : Bool, r6 = (sp_trees r5.1 ([(⟨1, 0, 0, 0, 0⟩ : TNode), (⟨2, 0, 0, 0, 0⟩ : TNode)] : List TNode)) →
     K r6) ∧
    ((r5.2.1) = false →
     K false)) ∧
   ((r3.1 == 0) = false →
    K false)) ∧
  ((r5.2.2.code == 0) = false →
   K false)) ∧
 ((r3.2.code == 0) = false →
  K false)
def F_lawContPlan_J6 (t : Task) (sN : List Int) (depth : Int) (K : Bool → Prop) (r2 : List TNode × Bool × Fault) (r5 : List (List Int)) (t100 : Bool) : Prop :=
 ((t100) = true →
  K false) ∧
 ((t100) = false →
  ((!r2.2.1) = true →
   ((((r2.1.length : Nat) : Int) == 0) = true →
    ∀ r8 : Bool, r8 = sp_stopped →
    K r8) ∧
   ((((r2.1.length : Nat) : Int) == 0) = false →
    ((r2.2.1) = true →
     (pre_tree t sN r5 depth ([] : List TNode)) ∧
     ∀ r9 : List TNode, r9 = (sp_tree t sN r5 depth ([] : List TNode)) →
     (pre_trees r2.1 r9) ∧
     ∀ r10 : Bool, r10 = (sp_trees r2.1 r9) →
     ((r10) = true →
      ∀ r11 : Bool, r11 = sp_stopped →
      K r11) ∧
     ((r10) = false →
      K false)) ∧
    ((r2.2.1) = false →
     K false))) ∧
  ((!r2.2.1) = false →
   ((r2.2.1) = true →
    (pre_tree t sN r5 depth ([] : List TNode)) ∧
    ∀ r12 : List TNode, r12 = (sp_tree t sN r5 depth ([] : List TNode)) →
    (pre_trees r2.1 r12) ∧
    ∀ r13 : Bool, r13 = (sp_trees r2.1 r12) →
    ((r13) = true →
     ∀ r14 : Bool, r14 = sp_stopped →
     K r14) ∧
    ((r13) = false →
     K false)) ∧
   ((r2.2.1) = false →
    K false)))
def F_lawContPlan_J5 (t : Task) (sN : List Int) (depth : Int) (K : Bool → Prop) (r2 : List TNode × Bool × Fault) (r5 : List (List Int)) (t87 : Bool) : Prop :=
 ((t87) = true →
  ∀ r7 : Bool, r7 = sp_stopped →
  K r7) ∧
 ((t87) = false →
  ((r2.2.2.code != 0) = true →
   F_lawContPlan_J6 t sN depth K r2 r5 true) ∧
  ((r2.2.2.code != 0) = false →
   (pre_within t sN r5 depth) ∧
   ∀ r15 : Bool, r15 = (sp_within t sN r5 depth) →
   F_lawContPlan_J6 t sN depth K r2 r5 (r2.2.1 != r15)))
def F_lawContPlan_J4 (t : Task) (unknown : List Int) (sN : List Int) (depth : Int) (K : Bool → Prop) (r2 : List TNode × Bool × Fault) (x3 : Int) (x4 : Int) : Prop :=
 ((x3 != 0) = true →
  (((r2.2.2.code == x3) && (r2.2.2.index == x4)) = true →
   ((!r2.2.1) = true →
    ((((r2.1.length : Nat) : Int) == 0) = true →
     ∀ r4 : Bool, r4 = sp_stopped →
     K r4) ∧
    ((((r2.1.length : Nat) : Int) == 0) = false →
     K false)) ∧
   ((!r2.2.1) = false →
    K false)) ∧
  (((r2.2.2.code == x3) && (r2.2.2.index == x4)) = false →
   K false)) ∧
 ((x3 != 0) = false →
  (pre_possible t unknown) ∧
  ∀ r5 : List (List Int), r5 = (sp_possible t unknown) →
  (pre_beliefs t r5 sN 150) ∧
  ∀ r6 : List (List (List Int)) × Bool, r6 = (sp_beliefs t r5 sN 150) →
  ((!r6.2) = true →
   F_lawContPlan_J5 t sN depth K r2 r5 true) ∧
  ((!r6.2) = false →
   ((decide (3 < depth)) = true →
    F_lawContPlan_J5 t sN depth K r2 r5 true) ∧
   ((decide (3 < depth)) = false →
    F_lawContPlan_J5 t sN depth K r2 r5 (decide (8 < ((t.ops.length : Nat) : Int))))))
def F_lawContPlan_J3 (t : Task) (unknown : List Int) (sN : List Int) (depth : Int) (K : Bool → Prop) (r2 : List TNode × Bool × Fault) (x : Int) (x2 : Int) (t46 : Bool) : Prop :=
 ((t46) = true →
  ∀ r16 : Fault, r16 = (sp_at_ 3 (-10)) →
  F_lawContPlan_J4 t unknown sN depth K r2 r16.code r16.index) ∧
 ((t46) = false →
  F_lawContPlan_J4 t unknown sN depth K r2 x x2)
def F_lawContPlan_J2 (t : Task) (unknown : List Int) (sN : List Int) (depth : Int) (K : Bool → Prop) (r2 : List TNode × Bool × Fault) (x : Int) (x2 : Int) : Prop :=
 ((x == 0) = true →
  ∀ r17 : Bool, r17 = (sp_in_ depth 0 6) →
  F_lawContPlan_J3 t unknown sN depth K r2 x x2 (!r17)) ∧
 ((x == 0) = false →
  F_lawContPlan_J3 t unknown sN depth K r2 x x2 false)
def F_lawContPlan_J1 (t : Task) (unknown : List Int) (sN : List Int) (depth : Int) (K : Bool → Prop) (r2 : List TNode × Bool × Fault) (r3 : Fault) (t37 : Bool) : Prop :=
 ((t37) = true →
  ∀ r18 : Fault, r18 = (sp_at_ 5 (-9)) →
  F_lawContPlan_J2 t unknown sN depth K r2 r18.code r18.index) ∧
 ((t37) = false →
  F_lawContPlan_J2 t unknown sN depth K r2 r3.code r3.index)
def F_lawContPlan (t : Task) (unknown : List Int) (sN : List Int) (depth : Int) (K : Bool → Prop) : Prop :=
 ∀ r2 : List TNode × Bool × Fault, r2 = (sp_cplan t unknown sN depth) →
 ∀ r3 : Fault, r3 = (sp_unknownFault t unknown) →
 ((r3.code == 0) = true →
  (pre_isSet sN t.facts) ∧
  ∀ r19 : Bool, r19 = (sp_isSet sN t.facts) →
  F_lawContPlan_J1 t unknown sN depth K r2 r3 (!r19)) ∧
 ((r3.code == 0) = false →
  F_lawContPlan_J1 t unknown sN depth K r2 r3 false)
end Go.Proofs.YtojoehfldbimpaaGreatDoor.Pl

namespace Go.Proofs.YtojoehfldbimpaaGreatDoor.Pl
open Go Go.RowKit
theorem rowL_len {s : List Int} (h : ∀ x ∈ s, -9223372036854775808 ≤ x ∧ x ≤ 9223372036854775807) : (rowL s).length ≤ 22 * s.length := by
 induction s with
 | nil => simp [rowL]
 | cons x r ih =>
  have h1 := Lib.itoa_length_le x (h x List.mem_cons_self).1 (h x List.mem_cons_self).2
  have h2 := ih fun y hy => h y (List.mem_cons_of_mem _ hy)
  have e : rowL (x :: r) = (Lib.itoa x ++ [44]) ++ rowL r := rfl
  rw [e]; simp; omega
theorem keyL_len {l : List (List Int)} (h : ∀ s ∈ l, s.length ≤ 1000 ∧ ∀ x ∈ s, -9223372036854775808 ≤ x ∧ x ≤ 9223372036854775807) : (keyL l).length ≤ 22001 * l.length := by
 induction l with
 | nil => simp [keyL]
 | cons s r ih =>
  have h1 := rowL_len (h s List.mem_cons_self).2
  have h0 := (h s List.mem_cons_self).1
  have h2 := ih fun y hy => h y (List.mem_cons_of_mem _ hy)
  have e : keyL (s :: r) = (rowL s ++ [59]) ++ keyL r := rfl
  rw [e]; simp; omega
theorem rowL_take {s : List Int} {j : Nat} (h : j < s.length) : rowL (s.take (j + 1)) = rowL (s.take j) ++ (Lib.itoa (gt s j) ++ [44]) := by
 rw [takeN_gt h]; simp [rowL]
theorem keyL_take {l : List (List Int)} {k : Nat} (h : k < l.length) : keyL (l.take (k + 1)) = keyL (l.take k) ++ (rowL (gt l k) ++ [59]) := by
 rw [takeN_gt h]; simp [keyL]
theorem ok_key : ∀ (l : List (List Int)), pre_key l → F_key l (fun r => r = sp_key l) := fun l ⟨hl, hp⟩ => by
 unfold F_key
 refine ⟨fun t b => ∃ k : Nat, t = k ∧ k ≤ l.length ∧ b = keyL (l.take k), fun t _ => (l.length - t).toNat, ⟨0, rfl, Nat.zero_le _, rfl⟩, ?_⟩
 rintro _ _ ⟨k, rfl, k1, rfl⟩
 unfold F_key_L1
 simp only [decide_eq_true_eq, decide_eq_false_iff_not]
 refine ⟨fun h => ?_, fun h => ?_⟩
 ·have hk : k < l.length := by omega
  have hrow := hp _ (gt_memN hk)
  have hkl := keyL_len (l := l.take k) fun s hs => hp s (List.mem_of_mem_take hs)
  rw [List.length_take] at hkl
  refine ⟨⟨by omega, h⟩, fun t b => ∃ j : Nat, t = j ∧ j ≤ (gt l k).length ∧ b = keyL (l.take k) ++ rowL ((gt l k).take j), fun t _ => ((gt l k).length - t).toNat, ⟨0, rfl, Nat.zero_le _, by simp [rowL]⟩, ?_⟩
  rintro _ _ ⟨j, rfl, j1, rfl⟩
  unfold F_key_L2
  simp only [decide_eq_true_eq, decide_eq_false_iff_not]
  have hrl := rowL_len (s := (gt l k).take j) fun x hx => hrow.2 x (List.mem_of_mem_take hx)
  rw [List.length_take] at hrl
  refine ⟨fun g => ?_, fun g => ?_⟩
  ·have hj : j < (gt l k).length := by omega
   have hx := hrow.2 _ (gt_memN hj)
   have hil := Lib.itoa_length_le _ hx.1 hx.2
   rw [w64 (by omega)]
   refine ⟨⟨by omega, g⟩, hx, by rw [List.length_append]; omega, ⟨?_, ?_⟩, ⟨j + 1, by omega, by omega, by rw [rowL_take hj]; simp⟩, show (((gt l k).length : Int) - ((j : Int) + 1)).toNat < (((gt l k).length : Int) - (j : Int)).toNat by omega⟩
   ·simp only [List.length_append, List.length_singleton, maxLen]; omega
   ·simp only [List.length_append, List.length_singleton]; omega
  ·have ej : (gt l k).take j = gt l k := List.take_of_length_le (by omega)
   rw [ej] at hrl ⊢
   rw [w64 (by omega)]
   refine ⟨⟨?_, ?_⟩, ⟨k + 1, by omega, by omega, by rw [keyL_take hk, List.append_assoc]⟩, show ((l.length : Int) - ((k : Int) + 1)).toNat < ((l.length : Int) - (k : Int)).toNat by omega⟩
   ·simp only [List.length_append, List.length_singleton, maxLen]; omega
   ·simp only [List.length_append, List.length_singleton]; omega
 ·rw [List.take_of_length_le (by omega)]; rfl
end Go.Proofs.YtojoehfldbimpaaGreatDoor.Pl

namespace Go.Proofs.YtojoehfldbimpaaGreatDoor.Pl
open Go Go.RowKit
theorem ok_in_ : ∀ (n_ : Int) (low : Int) (high : Int), F_in_ n_ low high (fun r => r = sp_in_ n_ low high) := fun n lo hi => by
 unfold F_in_ sp_in_
 refine ⟨fun h => ?_, fun h => ?_⟩ <;> rw [h] <;> simp
theorem ok_at_ : ∀ (code : Int) (index : Int), F_at_ code index (fun r => r = sp_at_ code index) := fun _ _ => rfl
theorem ok_has : ∀ (l : List Int) (n_ : Int), pre_has l n_ → F_has l n_ (fun r => r = sp_has l n_) := fun l x hp => by
 unfold pre_has at hp
 refine ⟨fun t => ∃ k : Nat, t = k ∧ k ≤ l.length ∧ x ∉ l.take k, fun t => (l.length - t).toNat, ⟨0, rfl, Nat.zero_le _, by simp⟩, ?_⟩
 rintro _ ⟨k, rfl, k1, k2⟩
 unfold F_has_L1
 simp only [decide_eq_true_eq, decide_eq_false_iff_not, beq_iff_eq, beq_eq_false_iff_ne, ne_eq]
 refine ⟨fun h => ?_, fun h => ?_⟩
 ·have hk : k < l.length := by omega
  refine ⟨⟨by omega, h⟩, fun q => ?_, fun q => ?_⟩
  ·have : x ∈ l := q ▸ gt_memN hk
   simp [sp_has, this]
  ·rw [w64 (by omega)]
   refine ⟨⟨k + 1, by omega, by omega, ?_⟩, by omega⟩
   rw [takeN_gt hk]
   simp only [List.mem_append, List.mem_singleton, not_or]
   exact ⟨k2, fun e => q e.symm⟩
 ·rw [List.take_of_length_le (by omega)] at k2
  simp [sp_has, k2]
theorem idxOf_hit {l : List Int} {v : Int} {k : Nat} (hk : k < l.length) (h : v ∉ l.take k) (e : v = gt l (k : Int)) : l.idxOf v = k := by
 have h1 : l = l.take k ++ (gt l (k : Int) :: l.drop (k + 1)) := by
  have h2 := drop_gt (xs := l) (i := (k : Int)) ⟨by omega, by omega⟩
  have h3 : ((k : Int) + 1).toNat = k + 1 := by omega
  rw [h3, Int.toNat_natCast] at h2
  rw [← h2, List.take_append_drop]
 rw [h1, List.idxOf_append, if_neg h, ← e, List.idxOf_cons_self, List.length_take]
 omega
theorem ok_index : ∀ (s_ : List Int) (v : Int), pre_index s_ v → F_index s_ v (fun r => r = sp_index s_ v) := fun l x hp => by
 unfold pre_index at hp
 refine ⟨fun t => ∃ k : Nat, t = k ∧ k ≤ l.length ∧ x ∉ l.take k, fun t => (l.length - t).toNat, ⟨0, rfl, Nat.zero_le _, by simp⟩, ?_⟩
 rintro _ ⟨k, rfl, k1, k2⟩
 unfold F_index_L1
 simp only [decide_eq_true_eq, decide_eq_false_iff_not, beq_iff_eq, beq_eq_false_iff_ne, ne_eq]
 refine ⟨fun h => ?_, fun h => ?_⟩
 ·have hk : k < l.length := by omega
  refine ⟨⟨by omega, h⟩, fun q => ?_, fun q => ?_⟩
  ·have : x ∈ l := q ▸ gt_memN hk
   rw [sp_index, if_pos this, idxOf_hit hk k2 q]
  ·rw [w64 (by omega)]
   refine ⟨⟨k + 1, by omega, by omega, ?_⟩, by omega⟩
   rw [takeN_gt hk]
   simp only [List.mem_append, List.mem_singleton, not_or]
   exact ⟨k2, q⟩
 ·rw [List.take_of_length_le (by omega)] at k2
  rw [sp_index, if_neg k2]
theorem ok_contains : ∀ (s_ : List Int) (v : Int), pre_index s_ v → F_contains s_ v (fun r => r = sp_contains s_ v) := fun l x hp => by
 refine ⟨hp, fun r hr => ?_⟩
 rw [hr]
 unfold sp_index sp_contains
 by_cases h : x ∈ l
 ·rw [if_pos h]; simp [h]
 ·rw [if_neg h]; simp [h]
theorem ok_isNaN1 : ∀ (x : Int), F_isNaN1 x (fun r => r = sp_isNaN1 x) := fun x => by
 show (x != x) = false
 simp
theorem ok_isNaN2 : ∀ (x : Int), F_isNaN2 x (fun r => r = sp_isNaN1 x) := fun x => by
 show (x != x) = false
 simp
theorem ok_less : ∀ (x : Int) (y : Int), F_less x y (fun r => r = sp_less x y) := fun x y => by
 unfold F_less
 simp only [forall_eq, sp_isNaN1]
 exact ⟨fun h => absurd h (by decide), fun _ => rfl⟩
theorem ok_indexF : ∀ (s_ : List Int) (pf : Int → Bool) (Df : Int → Prop), pre_any s_ pf Df → F_indexF s_ pf Df (fun r => r = sp_indexF s_ pf Df) := fun xs p D ⟨hl, hD⟩ => by
 refine ⟨fun t => 0 ≤ t ∧ t ≤ xs.length ∧ ∀ x ∈ xs.take t.toNat, p x = false, fun t => (xs.length - t).toNat, ⟨Int.le_refl _, by omega, by simp⟩, ?_⟩
 rintro t ⟨h0, h1, h2⟩
 unfold F_indexF_L1
 obtain ⟨k1, k2⟩ := any_split h0 h2
 simp only [decide_eq_true_eq, decide_eq_false_iff_not, forall_eq]
 refine ⟨fun h => ⟨⟨h0, h⟩, hD _ (gt_mem ⟨h0, h⟩), fun q => (k1 h q).symm, fun q => ?_⟩, fun h => (k2 h).symm⟩
 rw [w64 (by omega)]
 exact ⟨⟨by omega, by omega, any_next h0 h2 h q⟩, by omega⟩
theorem ok_containsF : ∀ (s_ : List Int) (pf : Int → Bool) (Df : Int → Prop), pre_any s_ pf Df → F_containsF s_ pf Df (fun r => r = sp_any s_ pf Df) := fun xs p D hp => by
 refine ⟨hp, fun r hr => ?_⟩
 rw [hr]
 show decide (0 ≤ sp_indexF xs p D) = sp_any xs p D
 unfold sp_indexF sp_any
 cases h : xs.any p
 ·simp
 ·simp
end Go.Proofs.YtojoehfldbimpaaGreatDoor.Pl

namespace Go.Proofs.YtojoehfldbimpaaGreatDoor.Pl
open Go Go.RowKit
theorem half {n : Int} (h0 : 0 ≤ n) (h1 : n ≤ 100000) : IntKind.i64.wrap (Int.fdiv (IntKind.u64.wrap (IntKind.i64.wrap n)) (2 ^ (min ((1 : Int)).toNat (IntKind.bits .u64)))) = n / 2 := by
 have e : (2 : Int) ^ (min ((1 : Int)).toNat (IntKind.bits .u64)) = 2 := by decide
 rw [e, w64 (n := n) (by omega), IntKind.wrap_u64, Int.fdiv_eq_ediv_of_nonneg _ (by omega), w64 (by omega)]
 omega
theorem filter_lt {x : List Int} {t : Int} {i : Nat} (hi : i ≤ x.length) (h1 : ∀ p : Nat, p < i → gt x (p : Int) < t) (h2 : ∀ p : Nat, i ≤ p → p < x.length → t ≤ gt x (p : Int)) : (x.filter fun a => decide (a < t)).length = i := by
 have e1 : (x.take i).filter (fun a => decide (a < t)) = x.take i := List.filter_eq_self.2 fun a ha => by
  obtain ⟨p, hp, rfl⟩ := List.mem_take_iff_getElem.1 ha
  have := h1 p (by omega)
  rw [gt_of ⟨by omega, by omega⟩] at this
  simpa using this
 have e2 : (x.drop i).filter (fun a => decide (a < t)) = [] := List.filter_eq_nil_iff.2 fun a ha => by
  obtain ⟨p, hp, rfl⟩ := List.mem_drop_iff_getElem.1 ha
  have := h2 (i + p) (by omega) (by omega)
  rw [gt_of ⟨by omega, by omega⟩] at this
  simp only [Int.toNat_natCast] at this
  simpa [Nat.add_comm] using this
 conv => lhs; rw [← List.take_append_drop i x]
 rw [List.filter_append, e1, e2, List.append_nil, List.length_take]
 omega
theorem sorted_gt {x : List Int} (hs : x.Pairwise (· < ·)) {p q : Nat} (hpq : p < q) (hq : q < x.length) : gt x (p : Int) < gt x (q : Int) := by
 rw [gt_of ⟨by omega, by omega⟩, gt_of ⟨by omega, by omega⟩]
 exact List.pairwise_iff_getElem.1 hs _ _ _ _ (by simpa using hpq)
theorem ok_bsearch : ∀ (x : List Int) (target : Int), pre_bsearch x target → F_bsearch x target (fun r => r = sp_bsearch x target) := fun x t ⟨hs, hl⟩ => by
 refine ⟨fun i j => ∃ a b : Nat, i = a ∧ j = b ∧ a ≤ b ∧ b ≤ x.length ∧ (∀ p : Nat, p < a → gt x (p : Int) < t) ∧ ∀ p : Nat, b ≤ p → p < x.length → t ≤ gt x (p : Int), fun i j => (j - i).toNat, ⟨0, x.length, rfl, rfl, by omega, by omega, fun p hp => by omega, fun p h1 h2 => by omega⟩, ?_⟩
 rintro _ _ ⟨a, b, rfl, rfl, hab, hb, h1, h2⟩
 unfold F_bsearch_L1
 simp only [decide_eq_true_eq, decide_eq_false_iff_not, forall_eq, beq_iff_eq, beq_eq_false_iff_ne, ne_eq, sp_isNaN1, sp_less]
 have ew := half (n := (a : Int) + b) (by omega) (by omega)
 refine ⟨fun h => ?_, fun h => ?_⟩
 ·rw [ew]
  have em : ((a : Int) + b) / 2 = ((a + b) / 2 : Nat) := by omega
  rw [em]
  have hm : (a + b) / 2 < b := by omega
  refine ⟨⟨by omega, by omega⟩, fun q => ?_, fun q => ?_⟩
  ·rw [w64 (by omega)]
   refine ⟨⟨(a + b) / 2 + 1, b, by omega, rfl, by omega, hb, fun p hp => ?_, h2⟩, by omega⟩
   rcases Nat.lt_or_ge p ((a + b) / 2) with g | g
   ·exact Int.lt_trans (sorted_gt hs g (by omega)) q
   ·rw [show p = (a + b) / 2 by omega]; exact q
  ·refine ⟨⟨a, (a + b) / 2, rfl, rfl, by omega, by omega, h1, fun p g1 g2 => ?_⟩, by omega⟩
   rcases Nat.lt_or_ge ((a + b) / 2) p with g | g
   ·have := sorted_gt hs g g2
    omega
   ·rw [show p = (a + b) / 2 by omega]; omega
 ·have e : a = b := by omega
  subst e
  have hf := filter_lt hb h1 h2
  have hm : (t ∈ x) ↔ a < x.length ∧ gt x (a : Int) = t := by
   constructor
   ·intro hx
    obtain ⟨p, hp, e⟩ := mem_gt hx
    rcases Nat.lt_trichotomy p a with g | g | g
    ·have := h1 p g; omega
    ·subst g; exact ⟨hp, e⟩
    ·have := sorted_gt hs g hp
     have := h2 a (Nat.le_refl _) (by omega)
     omega
   ·rintro ⟨g1, g2⟩
    exact g2 ▸ gt_memN g1
  unfold sp_bsearch
  rw [hf]
  refine ⟨fun g => ⟨⟨by omega, g⟩, fun q => ?_, fun q => ⟨fun g => absurd g (by decide), fun _ => ?_⟩⟩, fun g => ?_⟩
  ·rw [decide_eq_true (hm.2 ⟨by omega, q⟩)]
  ·rw [decide_eq_false fun k => q (hm.1 k).2]
  ·rw [decide_eq_false fun k => g (by have := (hm.1 k).1; omega)]
def SetTo (l : List Int) (n : Int) (k : Nat) : Prop := ∀ p : Nat, p < k → (0 ≤ gt l (p : Int) ∧ gt l (p : Int) < n) ∧ (0 < p → gt l ((p - 1 : Nat) : Int) < gt l (p : Int))
theorem SetTo.pair {l : List Int} {n : Int} {k : Nat} (h : SetTo l n k) : ∀ q : Nat, q < k → ∀ p : Nat, p < q → gt l (p : Int) < gt l (q : Int)
 | 0, _, p, hp => by omega
 | q + 1, hq, p, hp => by
  have h1 := (h (q + 1) hq).2 (by omega)
  rw [Nat.add_sub_cancel] at h1
  rcases Nat.lt_or_ge p q with g | g
  ·exact Int.lt_trans (h.pair q (by omega) p g) h1
  ·rw [show p = q by omega]; exact h1
theorem SetTo.all {l : List Int} {n : Int} (h : SetTo l n l.length) : sp_isSet l n = true := decide_eq_true ⟨List.pairwise_iff_getElem.2 fun p q hp hq hpq => by
  have := h.pair q hq p hpq
  rw [gt_of ⟨by omega, by omega⟩, gt_of ⟨by omega, by omega⟩] at this
  simpa using this, fun x hx => by
  obtain ⟨p, hp, rfl⟩ := mem_gt hx
  exact (h p hp).1⟩
theorem setTo_of {l : List Int} {n : Int} (h : sp_isSet l n = true) : SetTo l n l.length := fun p hp =>
 ⟨(of_decide_eq_true h).2 _ (gt_memN hp), fun h0 => sorted_gt (of_decide_eq_true h).1 (by omega) hp⟩
theorem not_setTo {l : List Int} {n : Int} {k : Nat} (hk : k < l.length) (h : ¬ SetTo l n (k + 1)) : sp_isSet l n = false := by
 cases e : sp_isSet l n
 ·rfl
 ·exact absurd (fun p hp => setTo_of e p (by omega)) h
theorem SetTo.small {l : List Int} {n : Int} (hn : 0 ≤ n) : ∀ {k : Nat}, SetTo l n k → (k : Int) ≤ n ∧ (0 < k → (k : Int) ≤ gt l ((k - 1 : Nat) : Int) + 1)
 | 0, _ => ⟨by omega, fun h => by omega⟩
 | k + 1, h => by
  have ih := SetTo.small hn (k := k) (fun p hp => h p (by omega))
  have h1 := h k (by omega)
  rw [Nat.add_sub_cancel]
  rcases Nat.eq_zero_or_pos k with rfl | q
  ·constructor
   ·have := h1.1; omega
   ·intro _; have := h1.1; omega
  ·have h2 := h1.2 q
   have h3 := ih.2 q
   constructor
   ·have := h1.1; omega
   ·intro _; omega
theorem setTo_next {l : List Int} {n : Int} {k : Nat} (h : SetTo l n k) : SetTo l n (k + 1) ↔ (0 ≤ gt l (k : Int) ∧ gt l (k : Int) < n) ∧ (0 < k → gt l ((k - 1 : Nat) : Int) < gt l (k : Int)) := by
 refine ⟨fun g => g k (by omega), fun g p hp => ?_⟩
 rcases Nat.lt_or_ge p k with q | q
 ·exact h p q
 ·rw [show p = k by omega]; exact g
theorem ok_isSet : ∀ (l : List Int) (n_ : Int), pre_isSet l n_ → F_isSet l n_ (fun r => r = sp_isSet l n_) := fun l n ⟨n0, n1⟩ => by
 refine ⟨fun t => ∃ k : Nat, t = k ∧ k ≤ l.length ∧ SetTo l n k, fun t => (l.length - t).toNat, ⟨0, rfl, Nat.zero_le _, fun p hp => by omega⟩, ?_⟩
 rintro _ ⟨k, rfl, k1, k2⟩
 unfold F_isSet_L1 F_isSet_J1
 simp only [decide_eq_true_eq, decide_eq_false_iff_not]
 have hk := k2.small n0
 rw [w64 (n := (k : Int) + 1) (by omega)]
 refine ⟨fun h => ?_, fun h => ?_⟩
 ·have bad : ¬ ((0 ≤ gt l (k : Int) ∧ gt l (k : Int) < n) ∧ (0 < k → gt l ((k - 1 : Nat) : Int) < gt l (k : Int))) → false = sp_isSet l n := fun q => (not_setTo (k := k) (by omega) (fun g => q ((setTo_next k2).1 g))).symm
  have good : ((0 ≤ gt l (k : Int) ∧ gt l (k : Int) < n) ∧ (0 < k → gt l ((k - 1 : Nat) : Int) < gt l (k : Int))) → (∃ k' : Nat, (k : Int) + 1 = k' ∧ k' ≤ l.length ∧ SetTo l n k') ∧ ((l.length : Int) - (k + 1)).toNat < ((l.length : Int) - k).toNat := fun q => ⟨⟨k + 1, by omega, by omega, (setTo_next k2).2 q⟩, by omega⟩
  refine ⟨⟨by omega, h⟩, fun q => ⟨fun _ => bad fun g => ?_, fun g => absurd g (by decide)⟩, fun q => ⟨fun q2 => ⟨fun _ => bad fun g => ?_, fun g => absurd g (by decide)⟩, fun q2 => ⟨fun q3 => ?_, fun q3 => ⟨fun g => absurd g (by decide), fun _ => good ⟨by omega, fun q4 => by omega⟩⟩⟩⟩⟩
  ·have := g.1.1; omega
  ·have := g.1.2; omega
  ·rw [w64 (by omega), show ((k : Int) - 1) = ((k - 1 : Nat) : Int) by omega]
   refine ⟨⟨by omega, by omega⟩, fun g => bad fun g2 => ?_, fun g => good ⟨by omega, fun _ => by omega⟩⟩
   have := g2.2 (by omega); omega
 ·have : k = l.length := by omega
  subst this
  exact k2.all.symm
theorem ok_rIsSet : ∀ (l : List Int) (n_ : Int), pre_isSet l n_ → F_rIsSet l n_ (fun r => r = sp_isSet l n_) := fun l n ⟨n0, n1⟩ => by
 refine ⟨fun t => ∃ k : Nat, t = k ∧ k ≤ l.length ∧ SetTo l n k, fun t => (l.length - t).toNat, ⟨0, rfl, Nat.zero_le _, fun p hp => by omega⟩, ?_⟩
 rintro _ ⟨k, rfl, k1, k2⟩
 unfold F_rIsSet_L1 F_rIsSet_J1
 have hk := k2.small n0
 rw [w64 (n := (k : Int) + 1) (by omega), w64 (n := n - 1) (by omega)]
 simp only [decide_eq_true_eq, decide_eq_false_iff_not, forall_eq, sp_in_, Bool.not_eq_true', Bool.not_eq_false', Bool.and_eq_true, Bool.and_eq_false_iff]
 refine ⟨fun h => ?_, fun h => ?_⟩
 ·have bad : ¬ ((0 ≤ gt l (k : Int) ∧ gt l (k : Int) < n) ∧ (0 < k → gt l ((k - 1 : Nat) : Int) < gt l (k : Int))) → false = sp_isSet l n := fun q => (not_setTo (k := k) (by omega) (fun g => q ((setTo_next k2).1 g))).symm
  have good : ((0 ≤ gt l (k : Int) ∧ gt l (k : Int) < n) ∧ (0 < k → gt l ((k - 1 : Nat) : Int) < gt l (k : Int))) → (∃ k' : Nat, (k : Int) + 1 = k' ∧ k' ≤ l.length ∧ SetTo l n k') ∧ ((l.length : Int) - (k + 1)).toNat < ((l.length : Int) - k).toNat := fun q => ⟨⟨k + 1, by omega, by omega, (setTo_next k2).2 q⟩, by omega⟩
  refine ⟨⟨by omega, h⟩, fun q => ⟨fun _ => bad fun g => ?_, fun g => absurd g (by decide)⟩, fun q => ⟨fun q3 => ?_, fun q3 => ⟨fun g => absurd g (by decide), fun _ => good ⟨by omega, fun q4 => by omega⟩⟩⟩⟩
  ·have := g.1; omega
  ·rw [w64 (by omega), show ((k : Int) - 1) = ((k - 1 : Nat) : Int) by omega]
   refine ⟨⟨by omega, by omega⟩, fun g => bad fun g2 => ?_, fun g => good ⟨by omega, fun _ => by omega⟩⟩
   have := g2.2 (by omega); omega
 ·have : k = l.length := by omega
  subst this
  exact k2.all.symm
end Go.Proofs.YtojoehfldbimpaaGreatDoor.Pl

namespace Go.Proofs.YtojoehfldbimpaaGreatDoor.Pl
open Go Go.RowKit
theorem ok_meets1 : ∀ (x : Int) (x2 : List Int), pre_meets1 x x2 → F_meets1 x x2 (fun r => r = sp_meets1 x x2) := fun x b hp => by
 refine ⟨hp, fun r hr => ?_⟩
 rw [hr]; rfl
theorem ok_meets : ∀ (a : List Int) (b : List Int), pre_meets a b → F_meets a b (fun r => r = sp_meets a b) := fun a b ⟨h1, h2⟩ => by
 refine ⟨⟨h1, fun x _ => h2⟩, fun r hr => ?_⟩
 rw [hr]; rfl
theorem ok_disjoint : ∀ (a : List Int) (b : List Int), pre_disjoint a b → F_disjoint a b (fun r => r = sp_disjoint a b) := fun a b ⟨h1, h2⟩ => by
 refine ⟨fun t => ∃ k : Nat, t = k ∧ k ≤ a.length ∧ ∀ x ∈ a.take k, x ∉ b, fun t => (a.length - t).toNat, ⟨0, rfl, Nat.zero_le _, by simp⟩, ?_⟩
 rintro _ ⟨k, rfl, k1, k2⟩
 unfold F_disjoint_L1
 simp only [decide_eq_true_eq, decide_eq_false_iff_not, forall_eq, sp_has]
 refine ⟨fun h => ⟨⟨by omega, h⟩, h2, fun q => ?_, fun q => ?_⟩, fun h => ?_⟩
 ·have : sp_meets a b = true := List.any_eq_true.2 ⟨_, gt_memN (i := k) (by omega), by simpa using q⟩
  rw [sp_disjoint, this]; rfl
 ·rw [w64 (by omega)]
  refine ⟨⟨k + 1, by omega, by omega, fun x hx => ?_⟩, by omega⟩
  rw [takeN_gt (by omega)] at hx
  rcases List.mem_append.1 hx with hx | hx
  ·exact k2 x hx
  ·rw [List.mem_singleton.1 hx]; simpa using q
 ·rw [List.take_of_length_le (by omega)] at k2
  have : sp_meets a b = false := by
   rw [sp_meets, List.any_eq_false]
   intro x hx
   simpa using k2 x hx
  rw [sp_disjoint, this]; rfl
theorem set_len {l : List Int} {n : Int} (hn : 0 ≤ n) (h : sp_isSet l n = true) : (l.length : Int) ≤ n := (setTo_of h).small hn |>.1
theorem set_sorted {l : List Int} {n : Int} (h : sp_isSet l n = true) : l.Pairwise (· < ·) := (of_decide_eq_true h).1
theorem set_rng {l : List Int} {n : Int} (h : sp_isSet l n = true) : ∀ x ∈ l, 0 ≤ x ∧ x < n := (of_decide_eq_true h).2
theorem ok_operator : ∀ (o : Operator) (facts : Int), pre_operator o facts → F_operator o facts (fun r => r = sp_operator o facts) := fun o n ⟨n0, n1⟩ => by
 have bad : ¬ (sp_isSet o.pre n = true ∧ sp_isSet o.add n = true ∧ sp_isSet o.del n = true ∧ sp_meets o.add o.del = false) → (5 : Int) = sp_operator o n := fun h => by rw [sp_operator, if_neg h]
 unfold F_operator F_operator_J1 F_operator_J2
 simp only [forall_eq, Bool.not_eq_true', Bool.not_eq_false', decide_eq_true_eq, decide_eq_false_iff_not]
 refine ⟨⟨n0, n1⟩, fun h => ⟨fun _ => bad fun g => ?_, fun g => absurd g (by decide)⟩, fun h1 => ⟨⟨n0, n1⟩, fun h => ⟨fun _ => bad fun g => ?_, fun g => absurd g (by decide)⟩, fun h2 => ⟨⟨n0, n1⟩, fun h => ⟨fun _ => bad fun g => ?_, fun g => absurd g (by decide)⟩, fun h3 => ?_⟩⟩⟩
 ·rw [g.1] at h; exact absurd h (by decide)
 ·rw [g.2.1] at h; exact absurd h (by decide)
 ·rw [g.2.2.1] at h; exact absurd h (by decide)
 ·have l1 := set_len n0 h2
  have l2 := set_len n0 h3
  refine ⟨⟨by omega, set_sorted h3, by omega⟩, fun h => bad fun g => ?_, fun h => ?_⟩
  ·rw [g.2.2.2] at h; exact absurd h (by decide)
  ·have e : sp_operator o n = if 0 ≤ o.cost ∧ o.cost ≤ 100 then 0 else 3 := by rw [sp_operator, if_pos ⟨h1, h2, h3, h⟩]
   rw [e]
   refine ⟨fun q => ⟨fun _ => ?_, fun g => absurd g (by decide)⟩, fun q => ⟨fun g => ?_, fun g => ?_⟩⟩
   ·rw [if_neg (by omega)]
   ·rw [if_neg (by omega)]
   ·rw [if_pos (by omega)]
theorem opFault_zero {t : Task} {k : Nat} (h : sp_operator (gt t.ops k) t.facts = 0) : opFault t k = ⟨0, 0⟩ := by rw [opFault, if_pos h]
theorem opFault_ne {t : Task} {k : Nat} (h : sp_operator (gt t.ops k) t.facts ≠ 0) : opFault t k = ⟨sp_operator (gt t.ops k) t.facts, k⟩ := by rw [opFault, if_neg h]
theorem ok_validate : ∀ (t : Task), F_validate t (fun r => r = sp_validate t) := fun t => by
 have hs : sp_validate t = if t.facts < 0 ∨ 24 < t.facts then ⟨3, -1⟩ else if sp_isSet t.init t.facts = false then ⟨5, -2⟩ else if sp_isSet t.goal t.facts = false then ⟨5, -3⟩ else if 40 < t.ops.length then ⟨2, -1⟩ else ffirst (opFault t) t.ops.length := rfl
 have key : ¬ (t.facts < 0 ∨ 24 < t.facts) → F_validate_J1 t (fun r => r = sp_validate t) false := fun hf => by
  unfold F_validate_J1
  simp only [forall_eq, Bool.not_eq_true', Bool.not_eq_false', decide_eq_true_eq, decide_eq_false_iff_not]
  refine ⟨fun g => absurd g (by decide), fun _ => ⟨⟨by omega, by omega⟩, fun h => ?_, fun h1 => ⟨⟨by omega, by omega⟩, fun h => ?_, fun h2 => ⟨fun h => ?_, fun h3 => ?_⟩⟩⟩⟩
  ·rw [hs, if_neg hf, if_pos h]
  ·rw [hs, if_neg hf, if_neg (by rw [h1]; decide), if_pos h]
  ·rw [hs, if_neg hf, if_neg (by rw [h1]; decide), if_neg (by rw [h2]; decide), if_pos (by omega)]
  ·have e : sp_validate t = ffirst (opFault t) t.ops.length := by rw [hs, if_neg hf, if_neg (by rw [h1]; decide), if_neg (by rw [h2]; decide), if_neg (by omega)]
   rw [e]
   refine ⟨fun i => ∃ k : Nat, i = k ∧ k ≤ t.ops.length ∧ ∀ j, j < k → opFault t j = ⟨0, 0⟩, fun i => (t.ops.length - i).toNat, ⟨0, rfl, by omega, fun j hj => by omega⟩, ?_⟩
   rintro _ ⟨k, rfl, k1, k2⟩
   unfold F_validate_L1
   simp only [decide_eq_true_eq, decide_eq_false_iff_not, forall_eq, bne_iff_ne, ne_eq, bne_eq_false_iff_eq]
   refine ⟨fun h => ⟨⟨by omega, h⟩, ⟨by omega, by omega⟩, fun q => ?_, fun q => ?_⟩, fun h => ?_⟩
   ·rw [ffirst_hit (i := k) (by omega) k2 (by rw [opFault_ne q]; exact fault_mk q), opFault_ne q]
   ·rw [w64 (by omega)]
    exact ⟨⟨k + 1, by omega, by omega, zero_next k2 (opFault_zero q)⟩, by omega⟩
   ·rw [ffirst_none fun j hj => k2 j (by omega)]
 unfold F_validate
 simp only [decide_eq_true_eq, decide_eq_false_iff_not]
 refine ⟨fun h => ⟨fun _ => ?_, fun g => absurd g (by decide)⟩, fun h => ?_⟩
 ·rw [hs, if_pos (.inl h)]
 ·by_cases h2 : 24 < t.facts
  ·rw [decide_eq_true h2]
   refine ⟨fun _ => ?_, fun g => absurd g (by decide)⟩
   rw [hs, if_pos (.inr h2)]
  ·rw [decide_eq_false h2]
   exact key (by omega)
theorem ok_taskFault : ∀ (t : Task), F_taskFault t (fun r => r = sp_validate t) := fun t => by
 have hs : sp_validate t = if t.facts < 0 ∨ 24 < t.facts then ⟨3, -1⟩ else if sp_isSet t.init t.facts = false then ⟨5, -2⟩ else if sp_isSet t.goal t.facts = false then ⟨5, -3⟩ else if 40 < t.ops.length then ⟨2, -1⟩ else ffirst (opFault t) t.ops.length := rfl
 unfold F_taskFault
 simp only [forall_eq, sp_in_, sp_at_, Bool.not_eq_true', Bool.not_eq_false', Bool.and_eq_true, Bool.and_eq_false_iff, decide_eq_true_eq, decide_eq_false_iff_not]
 refine ⟨fun h => ?_, fun hf => ⟨⟨by omega, by omega⟩, fun h => ?_, fun h1 => ⟨⟨by omega, by omega⟩, fun h => ?_, fun h2 => ⟨fun h => ?_, fun h3 => ?_⟩⟩⟩⟩
 ·rw [hs, if_pos (by omega)]
 ·rw [hs, if_neg (by omega), if_pos h]
 ·rw [hs, if_neg (by omega), if_neg (by rw [h1]; decide), if_pos h]
 ·rw [hs, if_neg (by omega), if_neg (by rw [h1]; decide), if_neg (by rw [h2]; decide), if_pos (by omega)]
 ·have e : sp_validate t = ffirst (opFault t) t.ops.length := by rw [hs, if_neg (by omega), if_neg (by rw [h1]; decide), if_neg (by rw [h2]; decide), if_neg (by omega)]
  rw [e]
  refine ⟨fun i => ∃ k : Nat, i = k ∧ k ≤ t.ops.length ∧ ∀ j, j < k → opFault t j = ⟨0, 0⟩, fun i => (t.ops.length - i).toNat, ⟨0, rfl, by omega, fun j hj => by omega⟩, ?_⟩
  rintro _ ⟨k, rfl, k1, k2⟩
  unfold F_taskFault_L1 F_taskFault_J1
  simp only [decide_eq_true_eq, decide_eq_false_iff_not, forall_eq, sp_in_, sp_at_, Bool.not_eq_true', Bool.not_eq_false', Bool.and_eq_true, Bool.and_eq_false_iff]
  have hit : sp_operator (gt t.ops k) t.facts ≠ 0 → (k : Int) < t.ops.length → (⟨sp_operator (gt t.ops k) t.facts, k⟩ : Fault) = ffirst (opFault t) t.ops.length := fun q h => by
   rw [ffirst_hit (i := k) (by omega) k2 (by rw [opFault_ne q]; exact fault_mk q), opFault_ne q]
  have bad : ¬ (sp_isSet (gt t.ops k).pre t.facts = true ∧ sp_isSet (gt t.ops k).add t.facts = true ∧ sp_isSet (gt t.ops k).del t.facts = true ∧ sp_meets (gt t.ops k).add (gt t.ops k).del = false) → (k : Int) < t.ops.length → (⟨5, k⟩ : Fault) = ffirst (opFault t) t.ops.length := fun q h => by
   have e : sp_operator (gt t.ops k) t.facts = 5 := by rw [sp_operator, if_neg q]
   have := hit (by omega) h
   rwa [e] at this
  have fin : (sp_isSet (gt t.ops k).pre t.facts = true ∧ sp_isSet (gt t.ops k).add t.facts = true ∧ sp_isSet (gt t.ops k).del t.facts = true ∧ sp_meets (gt t.ops k).add (gt t.ops k).del = false) → (k : Int) < t.ops.length → (¬ (0 ≤ (gt t.ops k).cost) ∨ ¬ ((gt t.ops k).cost ≤ 100) → (⟨3, k⟩ : Fault) = ffirst (opFault t) t.ops.length) ∧ (0 ≤ (gt t.ops k).cost ∧ (gt t.ops k).cost ≤ 100 → (∃ k' : Nat, IntKind.i64.wrap ((k : Int) + 1) = k' ∧ k' ≤ t.ops.length ∧ ∀ j, j < k' → opFault t j = ⟨0, 0⟩) ∧ (t.ops.length - IntKind.i64.wrap ((k : Int) + 1)).toNat < (t.ops.length - (k : Int)).toNat) := fun q h => by
   refine ⟨fun c => ?_, fun c => ?_⟩
   ·have e : sp_operator (gt t.ops k) t.facts = 3 := by rw [sp_operator, if_pos q, if_neg (by omega)]
    have := hit (by omega) h
    rwa [e] at this
   ·have e : sp_operator (gt t.ops k) t.facts = 0 := by rw [sp_operator, if_pos q, if_pos c]
    rw [w64 (by omega)]
    exact ⟨⟨k + 1, by omega, by omega, zero_next k2 (opFault_zero e)⟩, by omega⟩
  refine ⟨fun h => ⟨⟨by omega, h⟩, ⟨by omega, by omega⟩, fun q => ⟨fun _ => bad (fun g => ?_) h, fun g => absurd g (by decide)⟩, fun q1 => ⟨⟨by omega, by omega⟩, fun q => ⟨fun _ => bad (fun g => ?_) h, fun g => absurd g (by decide)⟩, fun q2 => ⟨⟨by omega, by omega⟩, fun q => ⟨fun _ => bad (fun g => ?_) h, fun g => absurd g (by decide)⟩, fun q3 => ?_⟩⟩⟩, fun h => ?_⟩
  ·rw [g.1] at q; exact absurd q (by decide)
  ·rw [g.2.1] at q; exact absurd q (by decide)
  ·rw [g.2.2.1] at q; exact absurd q (by decide)
  ·have l1 := set_len (by omega) q2
   have l2 := set_len (by omega) q3
   refine ⟨⟨by omega, by omega⟩, fun q => bad (fun g => ?_) h, fun q => ?_⟩
   ·rw [sp_disjoint, g.2.2.2] at q; exact absurd q (by decide)
   ·have q4 : sp_meets (gt t.ops k).add (gt t.ops k).del = false := by
     rw [sp_disjoint] at q
     simpa using q
    exact fin ⟨q1, q2, q3, q4⟩ h
  ·rw [ffirst_none fun j hj => k2 j (by omega)]
structure TaskOK (t : Task) : Prop where
 facts : 0 ≤ t.facts ∧ t.facts ≤ 24
 init : sp_isSet t.init t.facts = true
 goal : sp_isSet t.goal t.facts = true
 len : t.ops.length ≤ 40
 ops : ∀ k : Nat, k < t.ops.length → sp_operator (gt t.ops k) t.facts = 0
theorem taskOK_of {t : Task} (h : sp_validate t = ⟨0, 0⟩) : TaskOK t := by
 unfold sp_validate at h
 split at h
 ·exact absurd h (fault_mk (by decide))
 ·split at h
  ·exact absurd h (fault_mk (by decide))
  ·split at h
   ·exact absurd h (fault_mk (by decide))
   ·split at h
    ·exact absurd h (fault_mk (by decide))
    ·rename_i h1 h2 h3 h4
     refine ⟨by omega, by simpa using h2, by simpa using h3, by omega, fun k hk => ?_⟩
     have := ffirst_zero h k hk
     unfold opFault at this
     split at this
     ·assumption
     ·rename_i h5
      exact absurd this (fault_mk h5)
theorem fault_code_ff {f : Nat → Fault} {n : Nat} (h : ∀ k, (f k).code = 0 → f k = ⟨0, 0⟩) : (ffirst f n).code = 0 → ffirst f n = ⟨0, 0⟩ := by
 unfold ffirst
 split
 ·exact h _
 ·exact fun _ => rfl
theorem validate_code {t : Task} : (sp_validate t).code = 0 → sp_validate t = ⟨0, 0⟩ := by
 unfold sp_validate
 repeat' split
 ·exact fun h => absurd h (by decide)
 ·exact fun h => absurd h (by decide)
 ·exact fun h => absurd h (by decide)
 ·exact fun h => absurd h (by decide)
 ·refine fault_code_ff fun k => ?_
  unfold opFault
  split
  ·exact fun _ => rfl
  ·rename_i h1
   exact fun h => absurd h h1
end Go.Proofs.YtojoehfldbimpaaGreatDoor.Pl

namespace Go.Proofs.YtojoehfldbimpaaGreatDoor.Pl
open Go Go.RowKit
theorem mem_allS {n : Nat} {x : Int} : x ∈ allS n ↔ 0 ≤ x ∧ x < n := by
 unfold allS
 simp only [List.mem_map, List.mem_range]
 constructor
 ·rintro ⟨j, hj, rfl⟩; omega
 ·intro h; exact ⟨x.toNat, by omega, by omega⟩
theorem allS_len (n : Nat) : (allS n).length = n := by simp [allS]
theorem filter1_pos {p : Int → Bool} {k : Int} (h : p k = true) : [k].filter p = [k] := by rw [List.filter_cons, if_pos h]; rfl
theorem filter1_neg {p : Int → Bool} {k : Int} (h : p k = false) : [k].filter p = [] := by rw [List.filter_cons, if_neg (by rw [h]; decide)]; rfl
theorem subset_iff {a b : List Int} : sp_subset a b = true ↔ ∀ x ∈ a, x ∈ b := by
 simp only [sp_subset, List.all_eq_true, decide_eq_true_eq]
theorem ok_subset : ∀ (part : List Int) (l : List Int), pre_subset part l → F_subset part l (fun r => r = sp_subset part l) := fun a b ⟨h1, h2⟩ => by
 refine ⟨fun t => ∃ k : Nat, t = k ∧ k ≤ a.length ∧ ∀ x ∈ a.take k, x ∈ b, fun t => (a.length - t).toNat, ⟨0, rfl, Nat.zero_le _, by simp⟩, ?_⟩
 rintro _ ⟨k, rfl, k1, k2⟩
 unfold F_subset_L1
 simp only [decide_eq_true_eq, decide_eq_false_iff_not, forall_eq, sp_has, Bool.not_eq_true', Bool.not_eq_false']
 refine ⟨fun h => ⟨⟨by omega, h⟩, h2, fun q => ?_, fun q => ?_⟩, fun h => ?_⟩
 ·cases e : sp_subset a b
  ·rfl
  ·exact absurd (subset_iff.1 e _ (gt_memN (i := k) (by omega))) q
 ·rw [w64 (by omega)]
  refine ⟨⟨k + 1, by omega, by omega, fun x hx => ?_⟩, by omega⟩
  rw [takeN_gt (by omega)] at hx
  rcases List.mem_append.1 hx with hx | hx
  ·exact k2 x hx
  ·rw [List.mem_singleton.1 hx]; exact q
 ·rw [List.take_of_length_le (by omega)] at k2
  exact (subset_iff.2 k2).symm
theorem TaskOK.op {t : Task} (h : TaskOK t) {i : Int} (hi : inb t.ops i) : sp_isSet (gt t.ops i).pre t.facts = true ∧ sp_isSet (gt t.ops i).add t.facts = true ∧ sp_isSet (gt t.ops i).del t.facts = true ∧ sp_meets (gt t.ops i).add (gt t.ops i).del = false := by
 have h1 := h.ops i.toNat (by have := hi.2; have := hi.1; omega)
 rw [Int.toNat_of_nonneg hi.1] at h1
 unfold sp_operator at h1
 split at h1
 ·assumption
 ·exact absurd h1 (by decide)
theorem TaskOK.lens {t : Task} (h : TaskOK t) {i : Int} (hi : inb t.ops i) : (gt t.ops i).pre.length ≤ 24 ∧ (gt t.ops i).add.length ≤ 24 ∧ (gt t.ops i).del.length ≤ 24 := by
 obtain ⟨h1, h2, h3, _⟩ := h.op hi
 have hf := h.facts
 have := set_len hf.1 h1
 have := set_len hf.1 h2
 have := set_len hf.1 h3
 omega
theorem allS_succ (n : Nat) : allS (n + 1) = allS n ++ [(n : Int)] := by
 unfold allS
 rw [List.range_succ, List.map_append]; rfl
theorem mem_after {t : Task} (hf : 0 ≤ t.facts) {s : List Int} {op f : Int} : f ∈ sp_after t s op ↔ (0 ≤ f ∧ f < t.facts) ∧ (f ∈ (gt t.ops op).add ∨ (f ∈ s ∧ f ∉ (gt t.ops op).del)) := by
 rw [sp_after, List.mem_filter, mem_allS, decide_eq_true_eq, Int.toNat_of_nonneg hf]
theorem ok_after : ∀ (t : Task) (s_ : List Int) (op : Int), pre_after t s_ op → F_after t s_ op (fun r => r = sp_after t s_ op) := fun t s op ⟨h1, h2, h3⟩ => by
 have tk := taskOK_of h1
 have hl := tk.lens h2
 have hf := tk.facts
 refine ⟨fun p out => ∃ k : Nat, p = k ∧ k ≤ t.facts.toNat ∧ out = (allS k).filter (fun p => decide (p ∈ (gt t.ops op).add ∨ (p ∈ s ∧ p ∉ (gt t.ops op).del))), fun p _ => (t.facts - p).toNat, ⟨0, rfl, Nat.zero_le _, rfl⟩, ?_⟩
 rintro _ out ⟨k, rfl, k1, k2⟩
 unfold F_after_L1 F_after_J2 F_after_J1
 have hlen : out.length ≤ k := by
  rw [k2]
  have := List.length_filter_le (fun p => decide (p ∈ (gt t.ops op).add ∨ (p ∈ s ∧ p ∉ (gt t.ops op).del))) (allS k)
  rwa [allS_len] at this
 rw [w64 (n := (k : Int) + 1) (by omega)]
 simp only [decide_eq_true_eq, decide_eq_false_iff_not, forall_eq, sp_has, Bool.not_eq_true', Bool.not_eq_false', List.length_append, List.length_singleton]
 refine ⟨fun h => ?_, fun h => ?_⟩
 ·have yes : ((k : Int) ∈ (gt t.ops op).add ∨ ((k : Int) ∈ s ∧ (k : Int) ∉ (gt t.ops op).del)) → room (out.length + 1) 8 ∧ (∃ k' : Nat, (k : Int) + 1 = k' ∧ k' ≤ t.facts.toNat ∧ out ++ [(k : Int)] = (allS k').filter (fun p => decide (p ∈ (gt t.ops op).add ∨ (p ∈ s ∧ p ∉ (gt t.ops op).del)))) ∧ (t.facts - ((k : Int) + 1)).toNat < (t.facts - (k : Int)).toNat := fun q => by
   refine ⟨⟨by simp only [maxLen]; omega, by omega⟩, ⟨k + 1, by omega, by omega, ?_⟩, by omega⟩
   rw [allS_succ, List.filter_append, ← k2, filter1_pos (p := fun p => decide (p ∈ (gt t.ops op).add ∨ (p ∈ s ∧ p ∉ (gt t.ops op).del))) (decide_eq_true q)]
  have no : ¬ ((k : Int) ∈ (gt t.ops op).add ∨ ((k : Int) ∈ s ∧ (k : Int) ∉ (gt t.ops op).del)) → (∃ k' : Nat, (k : Int) + 1 = k' ∧ k' ≤ t.facts.toNat ∧ out = (allS k').filter (fun p => decide (p ∈ (gt t.ops op).add ∨ (p ∈ s ∧ p ∉ (gt t.ops op).del)))) ∧ (t.facts - ((k : Int) + 1)).toNat < (t.facts - (k : Int)).toNat := fun q => by
   refine ⟨⟨k + 1, by omega, by omega, ?_⟩, by omega⟩
   rw [allS_succ, List.filter_append, ← k2, filter1_neg (p := fun p => decide (p ∈ (gt t.ops op).add ∨ (p ∈ s ∧ p ∉ (gt t.ops op).del))) (decide_eq_false q), List.append_nil]
  refine ⟨h2, show _ ≤ _ by omega, fun q => ⟨fun _ => yes (.inl q), fun g => absurd g (by decide)⟩, fun q => ⟨h3, fun q2 => ⟨show _ ≤ _ by omega, fun q3 => yes (.inr ⟨q2, q3⟩), fun q3 => no ?_⟩, fun q2 => ⟨fun g => absurd g (by decide), fun _ => no ?_⟩⟩⟩
  ·exact fun g => g.elim q fun g => g.2 q3
  ·exact fun g => g.elim q fun g => q2 g.1
 ·have e : k = t.facts.toNat := by omega
  rw [k2, e]; rfl
end Go.Proofs.YtojoehfldbimpaaGreatDoor.Pl

namespace Go.Proofs.YtojoehfldbimpaaGreatDoor.Pl
open Go Go.RowKit
theorem sorted_ext : ∀ (a b : List Int), a.Pairwise (· < ·) → b.Pairwise (· < ·) → (∀ x, x ∈ a ↔ x ∈ b) → a = b
 | [], b, _, _, h => by
  cases b with
  | nil => rfl
  | cons y s => exact absurd ((h y).2 List.mem_cons_self) (by simp)
 | x :: r, [], _, _, h => absurd ((h x).1 List.mem_cons_self) (by simp)
 | x :: r, y :: s, ha, hb, h => by
  obtain ⟨a1, a2⟩ := List.pairwise_cons.1 ha
  obtain ⟨b1, b2⟩ := List.pairwise_cons.1 hb
  have e : x = y := by
   rcases List.mem_cons.1 ((h x).1 List.mem_cons_self) with q | q
   ·exact q
   ·rcases List.mem_cons.1 ((h y).2 List.mem_cons_self) with q2 | q2
    ·exact q2.symm
    ·have := a1 _ q2; have := b1 _ q; omega
  subst e
  rw [sorted_ext r s a2 b2 fun z => ?_]
  constructor
  ·intro hz
   rcases List.mem_cons.1 ((h z).1 (List.mem_cons_of_mem _ hz)) with q | q
   ·have := a1 _ hz; omega
   ·exact q
  ·intro hz
   rcases List.mem_cons.1 ((h z).2 (List.mem_cons_of_mem _ hz)) with q | q
   ·have := b1 _ hz; omega
   ·exact q
theorem mem_sort {xs : List Int} {x : Int} : x ∈ sp_sort xs ↔ x ∈ xs := List.mem_mergeSort
theorem sort_sorted (xs : List Int) : (sp_sort xs).Pairwise (· ≤ ·) := by
 have := List.pairwise_mergeSort (le := fun x y : Int => decide (x ≤ y)) (fun a b c h1 h2 => by simp only [decide_eq_true_eq] at *; omega) (fun a b => by simp only [Bool.or_eq_true, decide_eq_true_eq]; omega) xs
 exact this.imp fun h => by simpa using h
theorem getB {xs : List Int} {j : Nat} (h : j < xs.length) : xs.toArray[j]! = xs[j] := by simp [h]
theorem compact_eq (xs : List Int) : sp_compact xs = ((List.range xs.length).filter (Lib.keeps xs.toArray)).map (fun j => xs.toArray[j]!) := rfl
theorem mem_compact {xs : List Int} {x : Int} : x ∈ sp_compact xs ↔ x ∈ xs := by
 rw [compact_eq, List.mem_map]
 constructor
 ·rintro ⟨j, hj, rfl⟩
  have := List.mem_range.1 (List.mem_filter.1 hj).1
  rw [getB this]; exact List.getElem_mem _
 ·intro hx
  obtain ⟨j, hj, rfl⟩ := List.mem_iff_getElem.1 hx
  have key : ∀ j : Nat, (h : j < xs.length) → ∃ i, i ∈ (List.range xs.length).filter (Lib.keeps xs.toArray) ∧ xs.toArray[i]! = xs[j] := by
   intro j
   induction j with
   | zero => intro h; exact ⟨0, List.mem_filter.2 ⟨List.mem_range.2 h, by simp [Lib.keeps]⟩, getB h⟩
   | succ j ih =>
    intro h
    by_cases q : xs[j + 1] = xs[j]
    ·obtain ⟨i, h1, h2⟩ := ih (by omega)
     exact ⟨i, h1, by rw [h2, q]⟩
    ·refine ⟨j + 1, List.mem_filter.2 ⟨List.mem_range.2 h, ?_⟩, getB h⟩
     refine Lib.keeps_pos ?_
     rw [Nat.add_sub_cancel, getB h, getB (by omega)]; exact q
  exact key j hj
theorem compact_sorted {xs : List Int} (h : xs.Pairwise (· ≤ ·)) : (sp_compact xs).Pairwise (· < ·) := by
 rw [compact_eq, List.pairwise_map]
 refine List.Pairwise.imp_of_mem (fun {a b} ha hb hab => ?_) ((List.pairwise_lt_range (n := xs.length)).filter _)
 have ha' := List.mem_range.1 (List.mem_filter.1 ha).1
 obtain ⟨hb1, hb2⟩ := List.mem_filter.1 hb
 have hb' := List.mem_range.1 hb1
 rw [getB ha', getB hb']
 have hle := List.pairwise_iff_getElem.1 h
 have hk : xs[b] ≠ xs[b - 1]'(by omega) := by
  simp only [Lib.keeps, decide_eq_true_eq] at hb2
  rcases hb2 with q | q
  ·omega
  ·rwa [getB hb', getB (by omega)] at q
 have h1 : xs[b - 1]'(by omega) ≤ xs[b] := hle _ _ (by omega) hb' (by omega)
 have h2 : xs[a] ≤ xs[b - 1]'(by omega) := by
  rcases Nat.lt_or_ge a (b - 1) with q | q
  ·exact hle _ _ ha' (by omega) q
  ·have : a = b - 1 := by omega
   subst this; exact Int.le_refl _
 omega
theorem mem_update {s add del : List Int} {x : Int} : x ∈ sp_update s add del ↔ (x ∈ s ∧ x ∉ del) ∨ x ∈ add := by
 rw [sp_update, mem_compact, mem_sort, List.mem_append, List.mem_filter, decide_eq_true_eq]
theorem update_sorted (s add del : List Int) : (sp_update s add del).Pairwise (· < ·) := compact_sorted (sort_sorted _)
theorem allS_sorted (n : Nat) : (allS n).Pairwise (· < ·) := List.pairwise_map.2 ((List.pairwise_lt_range (n := n)).imp fun h => by omega)
theorem after_set {t : Task} (hf : 0 ≤ t.facts) (s : List Int) (op : Int) : sp_isSet (sp_after t s op) t.facts = true :=
 decide_eq_true ⟨(allS_sorted _).filter _, fun _ hx => ((mem_after hf).1 hx).1⟩
theorem update_after {t : Task} {s : List Int} {op : Int} (hp : pre_next t s op) : sp_update s (gt t.ops op).add (gt t.ops op).del = sp_after t s op := by
 obtain ⟨h1, h2, h3⟩ := hp
 have tk := taskOK_of h1
 have hf := tk.facts.1
 refine sorted_ext _ _ (update_sorted _ _ _) (set_sorted (after_set hf s op)) fun x => ?_
 rw [mem_update, mem_after hf]
 constructor
 ·rintro (⟨a, b⟩ | a)
  ·exact ⟨set_rng h3 x a, .inr ⟨a, b⟩⟩
  ·exact ⟨set_rng (tk.op h2).2.1 x a, .inl a⟩
 ·rintro ⟨_, a | a⟩
  ·exact .inr a
  ·exact .inl a
theorem ok_update : ∀ (s_ : List Int) (add : List Int) (del : List Int), pre_update s_ add del → F_update s_ add del (fun r => r = sp_update s_ add del) := fun s add del ⟨h1, h2, h3⟩ => by
 refine ⟨fun t out => ∃ k : Nat, t = k ∧ k ≤ s.length ∧ out = (s.take k).filter (fun x => decide (x ∉ del)), fun t _ => (s.length - t).toNat, ⟨0, rfl, Nat.zero_le _, rfl⟩, ?_⟩
 rintro _ out ⟨k, rfl, k1, k2⟩
 unfold F_update_L1 F_update_J1
 have hlen : out.length ≤ k := by
  rw [k2]
  exact Nat.le_trans (List.length_filter_le _ _) (by rw [List.length_take]; omega)
 simp only [decide_eq_true_eq, decide_eq_false_iff_not, forall_eq, sp_bsearch, Bool.not_eq_true', Bool.not_eq_false', List.length_append, List.length_singleton]
 refine ⟨fun h => ?_, fun h => ?_⟩
 ·rw [w64 (by omega)]
  have hk : k < s.length := by omega
  refine ⟨⟨by omega, h⟩, h3, fun q => ⟨⟨by simp only [maxLen]; omega, by omega⟩, ⟨k + 1, by omega, by omega, ?_⟩, by omega⟩, fun q => ⟨⟨k + 1, by omega, by omega, ?_⟩, by omega⟩⟩
  ·rw [takeN_gt hk, List.filter_append, ← k2, filter1_pos (p := fun x => decide (x ∉ del)) (decide_eq_true q)]
  ·rw [takeN_gt hk, List.filter_append, ← k2, filter1_neg (p := fun x => decide (x ∉ del)) (decide_eq_false fun g => g q), List.append_nil]
 ·have e : k = s.length := by omega
  rw [e, List.take_length] at k2
  refine ⟨⟨by simp only [maxLen]; omega, by omega⟩, show (out ++ add).length ≤ 100000 by rw [List.length_append]; omega, show (sp_sort (out ++ add)).length ≤ 100000 by rw [sp_sort, List.length_mergeSort, List.length_append]; omega, ?_⟩
  rw [k2]; rfl
theorem contains_past {s : List Int} (hs : s.Pairwise (· < ·)) {i : Nat} {x : Int} (hlt : ∀ p : Nat, p < i → p < s.length → gt s (p : Int) < x) (h : i < s.length → gt s (i : Int) ≠ x ∧ ¬ gt s (i : Int) < x) : x ∉ s := fun hx => by
 obtain ⟨p, hp, e⟩ := mem_gt hx
 rcases Nat.lt_trichotomy p i with g | g | g
 ·have := hlt p g hp; omega
 ·subst g; exact (h hp).1 e
 ·have h1 := h (by omega)
  have := sorted_gt hs g hp
  omega
theorem ok_contains2 : ∀ (s_ : List Int) (part : List Int), pre_contains2 s_ part → F_contains2 s_ part (fun r => r = sp_contains2 s_ part) := fun s part ⟨h1, h2, h3, h4⟩ => by
 have bad : ∀ k : Nat, k < part.length → gt part (k : Int) ∉ s → false = sp_contains2 s part := fun k hk q => by
  cases e : sp_contains2 s part
  ·rfl
  ·exact absurd (subset_iff.1 e _ (gt_memN hk)) q
 refine ⟨fun i t => ∃ a k : Nat, i = a ∧ t = k ∧ a ≤ s.length ∧ k ≤ part.length ∧ (∀ x ∈ part.take k, x ∈ s) ∧ (k < part.length → ∀ p : Nat, p < a → p < s.length → gt s (p : Int) < gt part (k : Int)), fun _ t => (part.length - t).toNat, ⟨0, 0, rfl, rfl, Nat.zero_le _, Nat.zero_le _, by simp, fun _ p hp => by omega⟩, ?_⟩
 rintro _ _ ⟨a, k, rfl, rfl, a1, k1, k2, k3⟩
 unfold F_contains2_L1
 simp only [decide_eq_true_eq, decide_eq_false_iff_not]
 refine ⟨fun h => ⟨⟨by omega, h⟩, ?_⟩, fun h => ?_⟩
 ·have hk : k < part.length := by omega
  refine ⟨fun i => ∃ b : Nat, i = b ∧ a ≤ b ∧ b ≤ s.length ∧ ∀ p : Nat, p < b → p < s.length → gt s (p : Int) < gt part (k : Int), fun i => (s.length - i).toNat, ⟨a, rfl, Nat.le_refl _, a1, k3 hk⟩, ?_⟩
  rintro _ ⟨b, rfl, b1, b2, b3⟩
  have fin : (¬ (b < s.length ∧ gt s (b : Int) < gt part (k : Int))) → F_contains2_J1 s part (fun r => r = sp_contains2 s part) false a (fun i => ∃ b : Nat, i = b ∧ a ≤ b ∧ b ≤ s.length ∧ ∀ p : Nat, p < b → p < s.length → gt s (p : Int) < gt part (k : Int)) (fun i => (s.length - i).toNat) k b (fun i t => ∃ a k : Nat, i = a ∧ t = k ∧ a ≤ s.length ∧ k ≤ part.length ∧ (∀ x ∈ part.take k, x ∈ s) ∧ (k < part.length → ∀ p : Nat, p < a → p < s.length → gt s (p : Int) < gt part (k : Int))) (fun _ t => (part.length - t).toNat) := fun hn => by
   unfold F_contains2_J1 F_contains2_J2
   rw [w64 (n := (k : Int) + 1) (by omega)]
   simp only [beq_iff_eq, beq_eq_false_iff_ne, ne_eq, bne_iff_ne, bne_eq_false_iff_eq]
   refine ⟨fun g => absurd g (by decide), fun _ => ⟨fun e => ⟨fun _ => bad k hk (contains_past h3 b3 fun g => by omega), fun g => absurd g (by decide)⟩, fun e => ⟨⟨by omega, by omega⟩, fun q => bad k hk (contains_past h3 b3 fun g => ⟨q, fun g2 => hn ⟨g, g2⟩⟩), fun q => ⟨⟨b, k + 1, rfl, by omega, b2, by omega, fun x hx => ?_, fun hk2 p hp hp2 => ?_⟩, by omega⟩⟩⟩⟩
   ·rw [takeN_gt hk] at hx
    rcases List.mem_append.1 hx with hx | hx
    ·exact k2 x hx
    ·rw [List.mem_singleton.1 hx, ← q]; exact gt_memN (by omega)
   ·exact Int.lt_trans (b3 p hp hp2) (sorted_gt h4 (Nat.lt_succ_self k) hk2)
  unfold F_contains2_L2
  simp only [decide_eq_true_eq, decide_eq_false_iff_not]
  refine ⟨fun h2 => ⟨⟨by omega, h2⟩, ?_⟩, fun h2 => fin fun g => by omega⟩
  by_cases q : gt s (b : Int) < gt part (k : Int)
  ·rw [decide_eq_true q]
   unfold F_contains2_J1
   refine ⟨fun _ => ?_, fun g => absurd g (by decide)⟩
   rw [w64 (by omega)]
   refine ⟨⟨b + 1, by omega, by omega, by omega, fun p hp hp2 => ?_⟩, show ((s.length : Int) - (b + 1)).toNat < ((s.length : Int) - b).toNat by omega⟩
   rcases Nat.lt_or_ge p b with g | g
   ·exact b3 p g hp2
   ·rw [show p = b by omega]; exact q
  ·rw [decide_eq_false q]
   exact fin fun g => q g.2
 ·rw [List.take_of_length_le (by omega)] at k2
  exact (subset_iff.2 k2).symm
theorem next_lens {t : Task} {s : List Int} {op : Int} (hp : pre_next t s op) : s.length ≤ 24 ∧ (gt t.ops op).pre.length ≤ 24 ∧ (gt t.ops op).add.length ≤ 24 ∧ (gt t.ops op).del.length ≤ 24 := by
 obtain ⟨h1, h2, h3⟩ := hp
 have tk := taskOK_of h1
 have := set_len tk.facts.1 h3
 have := tk.facts
 have := tk.lens h2
 omega
theorem ok_next : ∀ (t : Task) (s_ : List Int) (op : Int), pre_next t s_ op → F_next t s_ op (fun r => r = sp_after t s_ op) := fun t s op hp => by
 have hl := next_lens hp
 have tk := taskOK_of hp.1
 refine ⟨hp.2.1, ⟨by omega, by omega, set_sorted (tk.op hp.2.1).2.2.1, by omega⟩, fun r hr => ?_⟩
 rw [hr, update_after hp]
end Go.Proofs.YtojoehfldbimpaaGreatDoor.Pl

namespace Go.Proofs.YtojoehfldbimpaaGreatDoor.Pl
open Go Go.RowKit
end Go.Proofs.YtojoehfldbimpaaGreatDoor.Pl

namespace Go.Proofs.YtojoehfldbimpaaGreatDoor.Pl
open Go Go.RowKit
theorem ok_sure1 : ∀ (s_ : List Int) (x : List Int), pre_sure1 s_ x → F_sure1 s_ x (fun r => r = sp_sure1 s_ x) := fun s x hp => by
 refine ⟨hp, fun r hr => ?_⟩
 subst hr; rfl
theorem ok_sure : ∀ (worlds : List (List Int)) (facts : List Int), pre_sure worlds facts → F_sure worlds facts (fun r => r = sp_sure worlds facts) := fun w f ⟨h1, h2⟩ => by
 refine ⟨⟨h1, h2⟩, fun r hr => ?_⟩
 subst hr; rfl
theorem ok_compare : ∀ (x : Int) (y : Int), F_compare x y (fun r => r = sp_compare x y) := fun x y => by
 unfold F_compare
 simp only [forall_eq, sp_isNaN1, decide_eq_true_eq, decide_eq_false_iff_not]
 refine ⟨fun h => absurd h (by decide), fun _ => ⟨fun h => absurd h (by decide), fun _ => ⟨fun h => ?_, fun h => ⟨fun g => ?_, fun g => ?_⟩⟩⟩⟩
 ·rw [sp_compare, if_pos h]
 ·rw [sp_compare, if_neg h, if_pos g]
 ·rw [sp_compare, if_neg h, if_neg g]
theorem mem_changed {n : Int} (hn : 0 ≤ n) {s add del : List Int} {x : Int} : x ∈ sp_changed n s add del ↔ (0 ≤ x ∧ x < n) ∧ (x ∈ add ∨ (x ∈ s ∧ x ∉ del)) := by
 rw [sp_changed, List.mem_filter, mem_allS, decide_eq_true_eq, Int.toNat_of_nonneg hn]
theorem changed_set {n : Int} (hn : 0 ≤ n) (s add del : List Int) : sp_isSet (sp_changed n s add del) n = true :=
 decide_eq_true ⟨(allS_sorted _).filter _, fun _ hx => ((mem_changed hn).1 hx).1⟩
theorem ok_changed : ∀ (facts : Int) (s_ : List Int) (add : List Int) (del : List Int), pre_changed facts s_ add del → F_changed facts s_ add del (fun r => r = sp_changed facts s_ add del) := fun n s add del ⟨n0, n1, h1, h2, h3⟩ => by
 refine ⟨fun i out => ∃ k : Nat, i = k ∧ (k : Int) ≤ n ∧ out = (allS k).filter fun p => decide (p ∈ add ∨ (p ∈ s ∧ p ∉ del)), fun i _ => (n - i).toNat, ⟨0, rfl, by omega, rfl⟩, ?_⟩
 rintro _ out ⟨k, rfl, k1, k2⟩
 have hlen : out.length ≤ k := by rw [k2]; exact Nat.le_trans (List.length_filter_le _ _) (by rw [allS_len]; exact Nat.le_refl _)
 have step : ∀ b : Bool, (b = true ↔ ((k : Int) ∈ add ∨ ((k : Int) ∈ s ∧ (k : Int) ∉ del))) → (k : Int) < n → F_changed_J2 b out (k : Int) (fun i out => ∃ k : Nat, i = k ∧ (k : Int) ≤ n ∧ out = (allS k).filter fun p => decide (p ∈ add ∨ (p ∈ s ∧ p ∉ del))) (fun i _ => (n - i).toNat) := fun b hb h => by
  unfold F_changed_J2 F_changed_J1
  rw [w64 (n := (k : Int) + 1) (by omega)]
  refine ⟨fun q => ⟨⟨by rw [List.length_append]; simp only [maxLen, List.length_singleton]; omega, by rw [List.length_append]; simp only [List.length_singleton]; omega⟩, ⟨k + 1, by omega, by omega, ?_⟩, by dsimp only; omega⟩, fun q => ⟨⟨k + 1, by omega, by omega, ?_⟩, by dsimp only; omega⟩⟩
  ·rw [allS_succ, List.filter_append, ← k2, filter1_pos (p := fun p => decide (p ∈ add ∨ (p ∈ s ∧ p ∉ del))) (decide_eq_true (hb.1 q))]
  ·rw [allS_succ, List.filter_append, ← k2, filter1_neg (p := fun p => decide (p ∈ add ∨ (p ∈ s ∧ p ∉ del))) (decide_eq_false fun g => by rw [hb.2 g] at q; cases q), List.append_nil]
 unfold F_changed_L1
 simp only [decide_eq_true_eq, decide_eq_false_iff_not, forall_eq, sp_has]
 refine ⟨fun h => ⟨h2, fun q => step true (by simp [q]) h, fun q => ⟨h1, fun q2 => ⟨h3, step _ ?_ h⟩, fun q2 => step false ?_ h⟩⟩, fun h => ?_⟩
 ·simp [q, q2]
 ·simp [q, q2]
 ·have e : k = n.toNat := by omega
  rw [k2, e]; rfl
end Go.Proofs.YtojoehfldbimpaaGreatDoor.Pl

namespace Go.Proofs.YtojoehfldbimpaaGreatDoor.Pl
open Go Go.RowKit
theorem drop_gtN {α : Type} [Inhabited α] {xs : List α} {k : Nat} (h : k < xs.length) : xs.drop k = gt xs (k : Int) :: xs.drop (k + 1) := by
 have h2 := drop_gt (xs := xs) (i := (k : Int)) ⟨by omega, by omega⟩
 have h3 : ((k : Int) + 1).toNat = k + 1 := by omega
 rwa [h3, Int.toNat_natCast] at h2
theorem TaskOK.rng {t : Task} (h : sp_validate t = ⟨0, 0⟩) : 0 ≤ t.facts ∧ t.facts ≤ 24 ∧ sp_isSet t.init t.facts = true ∧ sp_isSet t.goal t.facts = true := by
 have := taskOK_of h
 exact ⟨this.facts.1, this.facts.2, this.init, this.goal⟩
theorem ok_unknownFault : ∀ (t : Task) (unknown : List Int), F_unknownFault t unknown (fun r => r = sp_unknownFault t unknown) := fun t u => by
 unfold F_unknownFault sp_unknownFault
 simp only [forall_eq, fault_ne, fault_eq]
 simp only [decide_eq_true_eq, decide_eq_false_iff_not, Bool.not_eq_true', Bool.not_eq_false']
 refine ⟨fun h => by rw [if_neg h], fun h => ?_⟩
 rw [if_pos h]
 refine ⟨fun g => by rw [if_pos (by omega)], fun g => ?_⟩
 rw [if_neg (by omega)]
 obtain ⟨f0, f1, _⟩ := TaskOK.rng h
 refine ⟨⟨f0, by omega⟩, fun q => ?_, fun q => ?_⟩
 ·rw [q]; rfl
 ·rw [if_pos q]
theorem ok_rUnknownFault : ∀ (t : Task) (unknown : List Int), F_rUnknownFault t unknown (fun r => r = sp_unknownFault t unknown) := fun t u => by
 unfold F_rUnknownFault F_rUnknownFault_J1 F_rUnknownFault_J2 F_rUnknownFault_J3 sp_unknownFault
 simp only [forall_eq, sp_at_, beq_iff_eq, beq_eq_false_iff_ne, ne_eq, decide_eq_true_eq, decide_eq_false_iff_not, Bool.not_eq_true', Bool.not_eq_false']
 have e : (⟨(sp_validate t).code, (sp_validate t).index⟩ : Fault) = sp_validate t := rfl
 refine ⟨fun h => ⟨fun g => ⟨fun q => absurd q (by decide), fun _ => ⟨fun q => absurd q (by decide), fun _ => ?_⟩⟩, fun g => ⟨fun _ => ?_, fun q => absurd h q⟩⟩, fun h => ⟨fun g => absurd g (by decide), fun _ => ⟨fun q => absurd q h, fun _ => ⟨fun q => absurd q (by decide), fun _ => ?_⟩⟩⟩⟩
 ·rw [if_pos (validate_code h), if_pos (by omega)]
 ·have hv := validate_code h
  obtain ⟨f0, f1, _⟩ := TaskOK.rng hv
  rw [if_pos hv, if_neg (by omega)]
  refine ⟨⟨f0, by omega⟩, fun q => ?_, fun q => ?_⟩
  ·rw [q]; rfl
  ·rw [if_pos q, ← hv]
 ·rw [if_neg fun k => h (by rw [k])]
theorem unknown_ok {t : Task} {u : List Int} (h : sp_unknownFault t u = ⟨0, 0⟩) : UOK t u := by
 unfold sp_unknownFault at h
 split at h
 ·rename_i hv
  split at h
  ·exact absurd h (fault_mk (by decide))
  ·rename_i hl
   split at h
   ·rename_i hs; exact ⟨hv, by omega, hs⟩
   ·exact absurd h (fault_mk (by decide))
 ·rename_i hv; exact absurd h hv
theorem unknown_code {t : Task} {u : List Int} : (sp_unknownFault t u).code = 0 → sp_unknownFault t u = ⟨0, 0⟩ := fun h => by
 unfold sp_unknownFault at h ⊢
 split
 ·rename_i hv
  rw [if_pos hv] at h
  split
  ·rename_i hl; rw [if_pos hl] at h; exact absurd h (by decide)
  ·rename_i hl
   rw [if_neg hl] at h
   split
   ·rfl
   ·rename_i hs; rw [if_neg hs] at h; exact absurd h (by decide)
 ·rename_i hv
  rw [if_neg hv] at h
  exact absurd (validate_code h) hv
theorem ok_scompare : ∀ (s1 : List Int) (s2 : List Int), pre_scompare s1 s2 → F_scompare s1 s2 (fun r => r = sp_scompare s1 s2) := fun a b ⟨h1, h2⟩ => by
 refine ⟨fun t => ∃ k : Nat, t = k ∧ k ≤ a.length ∧ k ≤ b.length ∧ sp_scompare (a.drop k) (b.drop k) = sp_scompare a b, fun t => (a.length - t).toNat, ⟨0, rfl, Nat.zero_le _, Nat.zero_le _, by simp⟩, ?_⟩
 rintro _ ⟨k, rfl, k1, k2, k3⟩
 unfold F_scompare_L1
 simp only [forall_eq, decide_eq_true_eq, decide_eq_false_iff_not, bne_iff_ne, ne_eq, bne_eq_false_iff_eq, sp_compare]
 refine ⟨fun h => ?_, fun h => ?_⟩
 ·have hk : k < a.length := by omega
  have ea := drop_gtN hk
  refine ⟨⟨by omega, h⟩, fun g => ?_, fun g => ?_⟩
  ·rw [← k3, ea, List.drop_eq_nil_of_le (show b.length ≤ k by omega)]; rfl
  ·have hb : k < b.length := by omega
   rw [ea, drop_gtN hb, sp_scompare] at k3
   refine ⟨⟨by omega, by omega⟩, ?_⟩
   rcases Int.lt_trichotomy (gt a (k : Int)) (gt b (k : Int)) with q | q | q
   ·rw [if_pos q] at k3 ⊢
    exact ⟨fun _ => k3, fun e => absurd e (by decide)⟩
   ·have n1 : ¬ gt a (k : Int) < gt b (k : Int) := by omega
    have n2 : ¬ gt b (k : Int) < gt a (k : Int) := by omega
    rw [if_neg n1, if_neg n2] at k3 ⊢
    refine ⟨fun e => absurd rfl e, fun _ => ?_⟩
    rw [w64 (by omega)]
    exact ⟨⟨k + 1, by omega, by omega, by omega, k3⟩, by omega⟩
   ·have n1 : ¬ gt a (k : Int) < gt b (k : Int) := by omega
    rw [if_neg n1, if_pos q] at k3 ⊢
    exact ⟨fun _ => k3, fun e => absurd e (by decide)⟩
 ·rw [List.drop_eq_nil_of_le (show a.length ≤ k by omega)] at k3
  refine ⟨fun g => ?_, fun g => ?_⟩
  ·rw [← k3, drop_gtN (xs := b) (k := k) (by omega)]; rfl
  ·rw [← k3, List.drop_eq_nil_of_le (show b.length ≤ k by omega)]; rfl
theorem take_same {α : Type} [Inhabited α] {a b : List α} {k : Nat} (ha : k < a.length) (hb : k < b.length) (h : a.take k = b.take k) (e : gt a (k : Int) = gt b (k : Int)) : a.take (k + 1) = b.take (k + 1) := by
 rw [takeN_gt ha, takeN_gt hb, h, e]
theorem ok_sequal : ∀ (s1 : List Int) (s2 : List Int), pre_sequal s1 s2 → F_sequal s1 s2 (fun r => r = sp_sequal s1 s2) := fun a b ⟨h1, h2⟩ => by
 unfold F_sequal
 simp only [bne_iff_ne, ne_eq, bne_eq_false_iff_eq]
 refine ⟨fun h => (decide_eq_false fun e => h (by rw [e])).symm, fun h => ?_⟩
 have hl : a.length = b.length := by omega
 refine ⟨fun t => ∃ k : Nat, t = k ∧ k ≤ a.length ∧ a.take k = b.take k, fun t => (a.length - t).toNat, ⟨0, rfl, Nat.zero_le _, by simp⟩, ?_⟩
 rintro _ ⟨k, rfl, k1, k2⟩
 unfold F_sequal_L1
 simp only [decide_eq_true_eq, decide_eq_false_iff_not, bne_iff_ne, ne_eq, bne_eq_false_iff_eq]
 refine ⟨fun g => ⟨⟨by omega, g⟩, ⟨by omega, by omega⟩, fun q => (decide_eq_false fun e => q (by rw [e])).symm, fun q => ?_⟩, fun g => ?_⟩
 ·rw [w64 (by omega)]
  exact ⟨⟨k + 1, by omega, by omega, take_same (by omega) (by omega) k2 q⟩, by omega⟩
 ·rw [List.take_of_length_le (by omega), List.take_of_length_le (by omega)] at k2
  exact (decide_eq_true k2).symm
theorem ok_ints : ∀ (a : List Int) (b : List Int), pre_ints a b → F_ints a b (fun r => r = sp_ints a b) := fun a b ⟨h1, h2⟩ => by
 unfold F_ints
 simp only [bne_iff_ne, ne_eq, bne_eq_false_iff_eq]
 refine ⟨fun h => (decide_eq_false fun e => h (by rw [e])).symm, fun h => ?_⟩
 have hl : a.length = b.length := by omega
 refine ⟨fun t => ∃ k : Nat, t = k ∧ k ≤ a.length ∧ a.take k = b.take k, fun t => (a.length - t).toNat, ⟨0, rfl, Nat.zero_le _, by simp⟩, ?_⟩
 rintro _ ⟨k, rfl, k1, k2⟩
 unfold F_ints_L1
 simp only [decide_eq_true_eq, decide_eq_false_iff_not, bne_iff_ne, ne_eq, bne_eq_false_iff_eq]
 refine ⟨fun g => ⟨⟨by omega, g⟩, ⟨by omega, by omega⟩, fun q => (decide_eq_false fun e => q (by rw [e])).symm, fun q => ?_⟩, fun g => ?_⟩
 ·rw [w64 (by omega)]
  exact ⟨⟨k + 1, by omega, by omega, take_same (by omega) (by omega) k2 q⟩, by omega⟩
 ·rw [List.take_of_length_le (by omega), List.take_of_length_le (by omega)] at k2
  exact (decide_eq_true k2).symm
theorem ok_indexR : ∀ (s_ : List (List Int)) (pf : (List Int) → Bool) (Df : (List Int) → Prop), pre_any s_ pf Df → F_indexR s_ pf Df (fun r => r = sp_indexF s_ pf Df) := fun xs p D ⟨hl, hD⟩ => by
 refine ⟨fun t => 0 ≤ t ∧ t ≤ xs.length ∧ ∀ x ∈ xs.take t.toNat, p x = false, fun t => (xs.length - t).toNat, ⟨Int.le_refl _, by omega, by simp⟩, ?_⟩
 rintro t ⟨h0, h1, h2⟩
 unfold F_indexR_L1
 obtain ⟨k1, k2⟩ := any_split h0 h2
 simp only [decide_eq_true_eq, decide_eq_false_iff_not, forall_eq]
 refine ⟨fun h => ⟨⟨h0, h⟩, hD _ (gt_mem ⟨h0, h⟩), fun q => (k1 h q).symm, fun q => ?_⟩, fun h => (k2 h).symm⟩
 rw [w64 (by omega)]
 exact ⟨⟨by omega, by omega, any_next h0 h2 h q⟩, by omega⟩
theorem ok_containsR : ∀ (s_ : List (List Int)) (pf : (List Int) → Bool) (Df : (List Int) → Prop), pre_any s_ pf Df → F_containsR s_ pf Df (fun r => r = sp_any s_ pf Df) := fun xs p D hp => by
 refine ⟨hp, fun r hr => ?_⟩
 rw [hr]
 show decide (0 ≤ sp_indexF xs p D) = sp_any xs p D
 unfold sp_indexF sp_any
 cases h : xs.any p
 ·simp
 ·simp
theorem ok_reverse : ∀ (s_ : List Int), pre_reverse s_ → F_reverse s_ (fun r => r = sp_reverse s_) := fun s hp => by
 unfold pre_reverse at hp
 have hg : ∀ (l : List Int) (p : Nat), p < l.length → gt l.reverse (p : Int) = gt l ((l.length - 1 - p : Nat) : Int) := fun l p h => by
  rw [gt_of ⟨by omega, by rw [List.length_reverse]; omega⟩, gt_of ⟨by omega, by omega⟩]
  simp only [Int.toNat_natCast, List.getElem_reverse]
 unfold F_reverse
 rw [w64 (n := (s.length : Int) - 1) (by omega)]
 refine ⟨fun i j l => ∃ k : Nat, i = k ∧ j = (s.length : Int) - 1 - k ∧ 2 * k ≤ s.length + 1 ∧ l.length = s.length ∧ ∀ p : Nat, p < s.length → gt l (p : Int) = if p < k ∨ s.length ≤ p + k then gt s ((s.length - 1 - p : Nat) : Int) else gt s (p : Int), fun i j _ => (j - i).toNat, ⟨0, rfl, by omega, by omega, rfl, fun p h => by rw [if_neg (by omega)]⟩, ?_⟩
 rintro _ _ l ⟨k, rfl, rfl, k1, k2, k3⟩
 unfold F_reverse_L1
 simp only [decide_eq_true_eq, decide_eq_false_iff_not, forall_eq]
 refine ⟨fun h => ?_, fun h => ?_⟩
 ·have ej : (s.length : Int) - 1 - k = ((s.length - 1 - k : Nat) : Int) := by omega
  rw [ej] at h ⊢
  have i1 : inb l ((s.length - 1 - k : Nat) : Int) := ⟨by omega, by omega⟩
  have i2 : inb l (k : Int) := ⟨by omega, by omega⟩
  have i3 : inb (l.set ((k : Int)).toNat (gt l ((s.length - 1 - k : Nat) : Int))) ((s.length - 1 - k : Nat) : Int) := ⟨by omega, by rw [List.length_set]; omega⟩
  rw [w64 (n := (k : Int) + 1) (by omega), w64 (n := ((s.length - 1 - k : Nat) : Int) - 1) (by omega)]
  refine ⟨i1, i2, i3, ⟨k + 1, by omega, by omega, by omega, by rw [List.length_set, List.length_set]; exact k2, fun p hp => ?_⟩, by omega⟩
  rw [gt_setI i3 (by omega), gt_setI i2 (by omega)]
  by_cases e1 : p = s.length - 1 - k
  ·subst e1
   rw [if_pos rfl, if_pos (by omega), k3 k (by omega), if_neg (by omega)]
   congr 1; omega
  ·rw [if_neg (by omega)]
   by_cases e2 : p = k
   ·subst e2
    rw [if_pos rfl, if_pos (by omega), k3 _ (by omega), if_neg (by omega)]
   ·rw [if_neg (by omega), k3 p hp]
    by_cases e3 : p < k ∨ s.length ≤ p + k
    ·rw [if_pos e3, if_pos (by omega)]
    ·rw [if_neg e3, if_neg (by omega)]
 ·refine ext_gt (by rw [k2]; exact (sp_reverse_len s).symm) fun p hp => ?_
  rw [k2] at hp
  rw [k3 p hp, sp_reverse, hg s p hp]
  by_cases e3 : p < k ∨ s.length ≤ p + k
  ·rw [if_pos e3]
  ·rw [if_neg e3]; congr 1; omega
theorem ok_before : ∀ (a : List Int) (b : List Int), pre_before a b → F_before a b (fun r => r = sp_before a b) := fun a b ⟨h1, h2⟩ => by
 refine ⟨fun t => ∃ k : Nat, t = k ∧ k ≤ a.length ∧ k ≤ b.length ∧ sp_before (a.drop k) (b.drop k) = sp_before a b, fun t => (a.length - t).toNat, ⟨0, rfl, Nat.zero_le _, Nat.zero_le _, by simp⟩, ?_⟩
 rintro _ ⟨k, rfl, k1, k2, k3⟩
 unfold F_before_L1 F_before_J1
 simp only [decide_eq_true_eq, decide_eq_false_iff_not, bne_iff_ne, ne_eq, bne_eq_false_iff_eq]
 have out : ¬ ((k : Int) < a.length ∧ (k : Int) < b.length) → decide ((a.length : Int) < b.length) = sp_before a b := fun h => by
  rw [← k3]
  rcases Nat.lt_or_ge k a.length with g | g
  ·rw [drop_gtN g, List.drop_eq_nil_of_le (show b.length ≤ k by omega), sp_before]
   exact decide_eq_false (by omega)
  ·rw [List.drop_eq_nil_of_le g]
   rcases Nat.lt_or_ge k b.length with q | q
   ·rw [drop_gtN q, sp_before]; exact decide_eq_true (by omega)
   ·rw [List.drop_eq_nil_of_le q, sp_before]; exact decide_eq_false (by omega)
 refine ⟨fun h => ⟨fun g => ?_, fun g => out (by omega)⟩, fun h => ⟨fun g => absurd g (by decide), fun _ => out (by omega)⟩⟩
 rw [drop_gtN (show k < a.length by omega), drop_gtN (show k < b.length by omega), sp_before] at k3
 refine ⟨⟨by omega, h⟩, ⟨by omega, g⟩, fun q => ?_, fun q => ?_⟩
 ·rw [if_neg q] at k3; exact k3
 ·rw [if_pos q] at k3
  rw [w64 (by omega)]
  exact ⟨⟨k + 1, by omega, by omega, by omega, k3⟩, by omega⟩
theorem insert_split : ∀ (l : Bel) (s : List Int) (k : Nat), k ≤ l.length → (∀ x ∈ l.take k, sp_before x s = true) → sp_insert l s = l.take k ++ sp_insert (l.drop k) s
 | l, s, 0, _, _ => by simp
 | [], s, k + 1, h, _ => by simp at h
 | x :: r, s, k + 1, h, hx => by
  have h1 := hx x (by simp)
  rw [List.take_succ_cons, List.drop_succ_cons, sp_insert, if_pos h1, insert_split r s k (by simpa using h) fun y hy => hx y (by simp [hy])]
  rfl
theorem ok_insert : ∀ (l : List (List Int)) (s_ : List Int), pre_insert l s_ → F_insert l s_ (fun r => r = sp_insert l s_) := fun l s ⟨h1, h2, h3⟩ => by
 refine ⟨fun t => ∃ k : Nat, t = k ∧ k ≤ l.length ∧ ∀ x ∈ l.take k, sp_before x s = true, fun t => (l.length - t).toNat, ⟨0, rfl, Nat.zero_le _, by simp⟩, ?_⟩
 rintro _ ⟨k, rfl, k1, k2⟩
 have sp := insert_split l s k k1 k2
 unfold F_insert_L1 F_insert_J1 F_insert_J2
 simp only [forall_eq, decide_eq_true_eq, decide_eq_false_iff_not, List.nil_append, Int.toNat_natCast, sp_ints]
 have fin : (l.drop k = [] ∨ ∃ y r, l.drop k = y :: r ∧ sp_before y s = false ∧ y ≠ s) → (0 ≤ (k : Int) ∧ (k : Int) ≤ (l.length : Int)) ∧ room (l.take k).length 24 ∧ room (l.take k ++ [s]).length 24 ∧ room (l.take k ++ [s] ++ l.drop k).length 24 ∧ l.take k ++ [s] ++ l.drop k = sp_insert l s := fun h => by
  have e1 : (l.take k).length = k := by rw [List.length_take]; omega
  refine ⟨⟨by omega, by omega⟩, ⟨?_, ?_⟩, ⟨?_, ?_⟩, ⟨?_, ?_⟩, ?_⟩
  all_goals try (simp only [List.length_append, List.length_drop, e1, List.length_singleton, maxLen]; omega)
  rw [sp]
  rcases h with h | ⟨y, r, h, hb, hn⟩
  ·rw [h]; simp [sp_insert]
  ·rw [h, sp_insert, if_neg (by rw [hb]; decide), if_neg hn, List.append_assoc]; rfl
 refine ⟨fun h => ?_, fun h => ⟨fun g => absurd g (by decide), fun _ => ⟨fun g => absurd h (by omega), fun _ => ⟨fun g => absurd g (by decide), fun _ => fin (.inl (List.drop_eq_nil_of_le (by omega)))⟩⟩⟩⟩
 have hk : k < l.length := by omega
 refine ⟨⟨by omega, h⟩, ⟨h3 _ (gt_memN hk), h2⟩, fun g => ?_, fun g => ⟨fun _ => ⟨⟨by omega, h⟩, ⟨h3 _ (gt_memN hk), h2⟩, fun q => ?_, fun q => ?_⟩, fun q => absurd h q⟩⟩
 ·rw [w64 (by omega)]
  refine ⟨⟨k + 1, by omega, by omega, fun x hx => ?_⟩, by omega⟩
  rw [takeN_gt hk] at hx
  rcases List.mem_append.1 hx with hx | hx
  ·exact k2 x hx
  ·rw [List.mem_singleton.1 hx]; exact g
 ·rw [sp, drop_gtN hk, sp_insert, if_neg (by rw [g]; decide), if_pos q, ← drop_gtN hk, List.take_append_drop]
 ·exact fin (.inr ⟨_, _, drop_gtN hk, g, q⟩)
end Go.Proofs.YtojoehfldbimpaaGreatDoor.Pl

namespace Go.Proofs.YtojoehfldbimpaaGreatDoor.Pl
open Go Go.RowKit
theorem before_irr : ∀ a : List Int, sp_before a a = false
 | [] => rfl
 | x :: r => by simp [sp_before, before_irr r]
theorem before_trans : ∀ a b c : List Int, sp_before a b = true → sp_before b c = true → sp_before a c = true
 | [], [], _, h, _ => by simp [sp_before] at h
 | [], _ :: _, [], _, h => by simp [sp_before] at h
 | [], _ :: _, _ :: _, _, _ => rfl
 | _ :: _, [], _, h, _ => by simp [sp_before] at h
 | _ :: _, _ :: _, [], _, h => by simp [sp_before] at h
 | x :: a, y :: b, z :: c, h, g => by
  unfold sp_before at h g ⊢
  by_cases e : x = y
  ·subst e
   rw [if_pos rfl] at h
   by_cases e2 : x = z
   ·subst e2
    rw [if_pos rfl] at g ⊢
    exact before_trans a b c h g
   ·rw [if_neg e2] at g ⊢; exact g
  ·rw [if_neg e] at h
   have h := of_decide_eq_true h
   by_cases e2 : y = z
   ·subst e2
    rw [if_neg e]; exact decide_eq_true h
   ·rw [if_neg e2] at g
    have g := of_decide_eq_true g
    rw [if_neg (by omega)]
    exact decide_eq_true (by omega)
theorem before_tri : ∀ a b : List Int, sp_before a b = true ∨ a = b ∨ sp_before b a = true
 | [], [] => .inr (.inl rfl)
 | [], _ :: _ => .inl rfl
 | _ :: _, [] => .inr (.inr rfl)
 | x :: a, y :: b => by
  by_cases e : x = y
  ·subst e
   rcases before_tri a b with h | h | h
   ·exact .inl (by simp [sp_before, h])
   ·exact .inr (.inl (by rw [h]))
   ·exact .inr (.inr (by simp [sp_before, h]))
  ·rcases Int.lt_or_lt_of_ne e with h | h
   ·exact .inl (by simp [sp_before, e, h])
   ·exact .inr (.inr (by simp [sp_before, Ne.symm e, h]))
theorem scompare_before : ∀ a b : List Int, (sp_scompare a b < 0 ↔ sp_before a b = true) ∧ (sp_scompare a b = 0 ↔ a = b)
 | [], [] => by simp [sp_scompare, sp_before]
 | [], _ :: _ => by simp [sp_scompare, sp_before]
 | _ :: _, [] => by simp [sp_scompare, sp_before]
 | x :: a, y :: b => by
  have ih := scompare_before a b
  by_cases e : x = y
  ·subst e
   simp [sp_scompare, sp_before, ih]
  ·rcases Int.lt_or_lt_of_ne e with h | h
   ·simp [sp_scompare, sp_before, e, h]
   ·have : ¬ x < y := by omega
    simp [sp_scompare, sp_before, e, h, this]
theorem ordered_ext {α : Type} {r : α → α → Prop} (irr : ∀ x, ¬ r x x) (tr : ∀ x y z, r x y → r y z → r x z) : ∀ (a b : List α), a.Pairwise r → b.Pairwise r → (∀ x, x ∈ a ↔ x ∈ b) → a = b
 | [], [], _, _, _ => rfl
 | [], y :: b, _, _, h => absurd ((h y).2 List.mem_cons_self) List.not_mem_nil
 | x :: a, [], _, _, h => absurd ((h x).1 List.mem_cons_self) List.not_mem_nil
 | x :: a, y :: b, ha, hb, h => by
  rw [List.pairwise_cons] at ha hb
  have e : x = y := by
   rcases List.mem_cons.1 ((h x).1 List.mem_cons_self) with e | e
   ·exact e
   ·rcases List.mem_cons.1 ((h y).2 List.mem_cons_self) with e' | e'
    ·exact e'.symm
    ·exact absurd (tr _ _ _ (ha.1 y e') (hb.1 x e)) (irr _)
  subst e
  rw [ordered_ext irr tr a b ha.2 hb.2 fun z => ?_]
  have hz := h z
  simp only [List.mem_cons] at hz
  constructor
  ·intro k
   rcases hz.1 (.inr k) with g | g
   ·subst g; exact absurd (ha.1 _ k) (irr _)
   ·exact g
  ·intro k
   rcases hz.2 (.inr k) with g | g
   ·subst g; exact absurd (hb.1 _ k) (irr _)
   ·exact g
abbrev Bfr (a b : List Int) : Prop := sp_before a b = true
theorem bfr_irr (x : List Int) : ¬ Bfr x x := fun h => by rw [Bfr, before_irr] at h; cases h
theorem bfr_ext {a b : List (List Int)} (ha : a.Pairwise Bfr) (hb : b.Pairwise Bfr) (h : ∀ x, x ∈ a ↔ x ∈ b) : a = b := ordered_ext bfr_irr before_trans a b ha hb h
theorem mem_insert : ∀ {l : List (List Int)} {s x : List Int}, x ∈ sp_insert l s ↔ x = s ∨ x ∈ l
 | [], s, x => by simp [sp_insert]
 | y :: r, s, x => by
  unfold sp_insert
  split
  ·rw [List.mem_cons, mem_insert, List.mem_cons]
   constructor
   ·rintro (h | h | h)
    ·exact .inr (.inl h)
    ·exact .inl h
    ·exact .inr (.inr h)
   ·rintro (h | h | h)
    ·exact .inr (.inl h)
    ·exact .inl h
    ·exact .inr (.inr h)
  ·split
   ·rename_i e
    subst e
    constructor
    ·exact .inr
    ·rintro (h | h)
     ·rw [h]; exact List.mem_cons_self
     ·exact h
   ·rw [List.mem_cons]
theorem insert_sorted : ∀ {l : List (List Int)} {s : List Int}, l.Pairwise Bfr → (sp_insert l s).Pairwise Bfr
 | [], s, _ => by simp [sp_insert]
 | y :: r, s, h => by
  have h' := List.pairwise_cons.1 h
  unfold sp_insert
  split
  ·rename_i hb
   refine List.pairwise_cons.2 ⟨fun x hx => ?_, insert_sorted h'.2⟩
   rcases mem_insert.1 hx with e | e
   ·rw [e]; exact hb
   ·exact h'.1 x e
  ·rename_i hb
   split
   ·exact h
   ·rename_i hne
    have hs : Bfr s y := by
     rcases before_tri s y with g | g | g
     ·exact g
     ·exact absurd g.symm hne
     ·exact absurd g hb
    refine List.pairwise_cons.2 ⟨fun x hx => ?_, h⟩
    rcases List.mem_cons.1 hx with e | e
    ·rw [e]; exact hs
    ·exact before_trans _ _ _ hs (h'.1 x e)
theorem insert_len : ∀ (l : List (List Int)) (s : List Int), (sp_insert l s).length ≤ l.length + 1
 | [], s => by simp [sp_insert]
 | y :: r, s => by
  unfold sp_insert
  split
  ·have := insert_len r s; simp; omega
  ·split <;> simp
theorem mem_foldI : ∀ {l m : List (List Int)} {x : List Int}, x ∈ l.foldl sp_insert m ↔ x ∈ l ∨ x ∈ m
 | [], m, x => by simp
 | s :: l, m, x => by
  rw [List.foldl_cons, mem_foldI, mem_insert, List.mem_cons]
  constructor
  ·rintro (h | h | h)
   ·exact .inl (.inr h)
   ·exact .inl (.inl h)
   ·exact .inr h
  ·rintro ((h | h) | h)
   ·exact .inr (.inl h)
   ·exact .inl h
   ·exact .inr (.inr h)
theorem foldI_sorted : ∀ {l m : List (List Int)}, m.Pairwise Bfr → (l.foldl sp_insert m).Pairwise Bfr
 | [], _, h => h
 | _ :: l, _, h => foldI_sorted (l := l) (insert_sorted h)
theorem foldI_len : ∀ (l m : List (List Int)), (l.foldl sp_insert m).length ≤ l.length + m.length
 | [], m => by simp
 | s :: l, m => by
  have := foldI_len l (sp_insert m s)
  have := insert_len m s
  simp; omega
theorem mem_normal {l : List (List Int)} {x : List Int} : x ∈ sp_normal l ↔ x ∈ l := by
 unfold sp_normal; rw [mem_foldI]; simp
theorem normal_sorted (l : List (List Int)) : (sp_normal l).Pairwise Bfr := foldI_sorted List.Pairwise.nil
theorem normal_len (l : List (List Int)) : (sp_normal l).length ≤ l.length := by
 have := foldI_len l []
 simpa [sp_normal] using this
theorem mem_maskAdd {u : List Int} {m : Nat} {x : Int} : x ∈ maskAdd u m ↔ ∃ i : Nat, u[i]? = some x ∧ m.testBit i = true := by
 unfold maskAdd
 simp only [List.mem_map, List.mem_filter]
 constructor
 ·rintro ⟨⟨y, i⟩, ⟨h1, h2⟩, rfl⟩
  rw [List.mem_zipIdx_iff_getElem?] at h1
  exact ⟨i, h1, h2⟩
 ·rintro ⟨i, h1, h2⟩
  exact ⟨(x, i), ⟨List.mem_zipIdx_iff_getElem?.2 h1, h2⟩, rfl⟩
theorem ex_mask (p : Nat → Bool) : ∀ k : Nat, ∃ m : Nat, m < 2 ^ k ∧ ∀ i, i < k → m.testBit i = p i
 | 0 => ⟨0, by simp, fun i h => by omega⟩
 | k + 1 => by
  obtain ⟨m, h1, h2⟩ := ex_mask p k
  cases hp : p k
  ·refine ⟨m, by rw [Nat.pow_succ]; omega, fun i hi => ?_⟩
   by_cases e : i = k
   ·subst e; rw [hp]; exact Nat.testBit_lt_two_pow h1
   ·exact h2 i (by omega)
  ·refine ⟨2 ^ k + m, by rw [Nat.pow_succ]; omega, fun i hi => ?_⟩
   by_cases e : i = k
   ·subst e
    rw [hp, Nat.testBit_two_pow_add_eq, Nat.testBit_lt_two_pow h1]; rfl
   ·rw [Nat.testBit_two_pow_add_gt (by omega)]
    exact h2 i (by omega)
def Poss (t : Task) (u s : List Int) : Prop := sp_isSet s t.facts = true ∧ ∀ x, x ∉ u → (x ∈ s ↔ x ∈ t.init)
theorem mask_set {t : Task} {u : List Int} (hv : sp_validate t = ⟨0, 0⟩) (hu : sp_isSet u t.facts = true) (m : Nat) : sp_isSet (sp_update t.init (maskAdd u m) u) t.facts = true := decide_eq_true ⟨update_sorted _ _ _, fun x hx => by
 rcases mem_update.1 hx with h | h
 ·exact set_rng (TaskOK.rng hv).2.2.1 x h.1
 ·obtain ⟨i, h1, _⟩ := mem_maskAdd.1 h
  exact set_rng hu x (List.mem_of_getElem? h1)⟩
theorem mem_worlds {t : Task} {u s : List Int} (hv : sp_validate t = ⟨0, 0⟩) (hu : sp_isSet u t.facts = true) : s ∈ sp_worlds t u ↔ Poss t u s := by
 obtain ⟨f0, f1, hi, hg⟩ := TaskOK.rng hv
 unfold sp_worlds
 rw [mem_normal]
 simp only [List.mem_map, List.mem_range]
 constructor
 ·rintro ⟨m, hm, rfl⟩
  refine ⟨mask_set hv hu m, fun x hx => ?_⟩
  rw [mem_update]
  constructor
  ·rintro (h | h)
   ·exact h.1
   ·obtain ⟨i, h1, _⟩ := mem_maskAdd.1 h
    exact absurd (List.mem_of_getElem? h1) hx
  ·exact fun h => .inl ⟨h, hx⟩
 ·rintro ⟨h1, h2⟩
  obtain ⟨m, hm, hb⟩ := ex_mask (fun i => decide (u.getD i 0 ∈ s)) u.length
  refine ⟨m, hm, sorted_ext _ _ (update_sorted _ _ _) (set_sorted h1) fun x => ?_⟩
  rw [mem_update]
  constructor
  ·rintro (h | h)
   ·exact (h2 x h.2).2 h.1
   ·obtain ⟨i, g1, g2⟩ := mem_maskAdd.1 h
    have hl := (List.getElem?_eq_some_iff.1 g1).1
    rw [hb i hl] at g2
    have := of_decide_eq_true g2
    rw [List.getD_eq_getElem?_getD, g1] at this
    exact this
  ·intro h
   by_cases hx : x ∈ u
   ·obtain ⟨i, hl, e⟩ := List.mem_iff_getElem.1 hx
    refine .inr (mem_maskAdd.2 ⟨i, by rw [List.getElem?_eq_getElem hl, e], ?_⟩)
    rw [hb i hl]
    refine decide_eq_true ?_
    rw [List.getD_eq_getElem?_getD, List.getElem?_eq_getElem hl, e]
    exact h
   ·exact .inl ⟨(h2 x hx).1 h, hx⟩
theorem worlds_sorted (t : Task) (u : List Int) : (sp_worlds t u).Pairwise Bfr := normal_sorted _
theorem worlds_len {t : Task} {u : List Int} (h : u.length ≤ 4) : (sp_worlds t u).length ≤ 16 := by
 unfold sp_worlds
 refine Nat.le_trans (normal_len _) ?_
 rw [List.length_map, List.length_range]
 calc 2 ^ u.length ≤ 2 ^ 4 := Nat.pow_le_pow_right (by decide) h
  _ = 16 := rfl
theorem worlds_set {t : Task} {u s : List Int} (hv : sp_validate t = ⟨0, 0⟩) (hu : sp_isSet u t.facts = true) (h : s ∈ sp_worlds t u) : sp_isSet s t.facts = true := ((mem_worlds hv hu).1 h).1
theorem mem_flips {n x : Int} : ∀ {l next : List (List Int)} {s : List Int}, s ∈ l.foldl (flip2 n x) next ↔ s ∈ next ∨ ∃ s0 ∈ l, s = sp_changed n s0 [x] [] ∨ s = sp_changed n s0 [] [x]
 | [], next, s => by simp
 | a :: l, next, s => by
  rw [List.foldl_cons, mem_flips, flip2, mem_insert, mem_insert]
  constructor
  ·rintro ((h | h | h) | ⟨s0, h1, h2⟩)
   ·exact .inr ⟨a, List.mem_cons_self, .inr h⟩
   ·exact .inr ⟨a, List.mem_cons_self, .inl h⟩
   ·exact .inl h
   ·exact .inr ⟨s0, List.mem_cons_of_mem _ h1, h2⟩
  ·rintro (h | ⟨s0, h1, h2⟩)
   ·exact .inl (.inr (.inr h))
   ·rcases List.mem_cons.1 h1 with rfl | h1
    ·rcases h2 with h2 | h2
     ·exact .inl (.inr (.inl h2))
     ·exact .inl (.inl h2)
    ·exact .inr ⟨s0, h1, h2⟩
theorem flips_sorted {n x : Int} : ∀ {l next : List (List Int)}, next.Pairwise Bfr → (l.foldl (flip2 n x) next).Pairwise Bfr
 | [], _, h => h
 | _ :: l, _, h => flips_sorted (l := l) (insert_sorted (insert_sorted h))
theorem flips_len {n x : Int} : ∀ (l next : List (List Int)), (l.foldl (flip2 n x) next).length ≤ 2 * l.length + next.length
 | [], next => by simp
 | a :: l, next => by
  have h1 := flips_len (n := n) (x := x) l (flip2 n x next a)
  have h2 := insert_len (sp_insert next (sp_changed n a [x] [])) (sp_changed n a [] [x])
  have h3 := insert_len next (sp_changed n a [x] [])
  rw [List.foldl_cons, List.length_cons]
  unfold flip2 at h1 ⊢
  omega
theorem possible_snoc (t : Task) (u : List Int) (x : Int) : sp_possible t (u ++ [x]) = (sp_possible t u).foldl (flip2 t.facts x) [] := by
 unfold sp_possible; rw [List.foldl_append]; rfl
theorem possible_sorted (t : Task) (u : List Int) : (sp_possible t u).Pairwise Bfr := by
 rcases List.eq_nil_or_concat u with rfl | ⟨u, x, rfl⟩
 ·simp [sp_possible]
 ·rw [List.concat_eq_append, possible_snoc]; exact flips_sorted List.Pairwise.nil
theorem mem_possible {t : Task} (hv : sp_validate t = ⟨0, 0⟩) : ∀ (m : Nat) {u s : List Int}, u.length = m → (∀ x ∈ u, 0 ≤ x ∧ x < t.facts) → (s ∈ sp_possible t u ↔ Poss t u s)
 | 0, u, s, hm, _ => by
  have : u = [] := List.length_eq_zero_iff.1 hm
  subst this
  obtain ⟨_, _, hi, _⟩ := TaskOK.rng hv
  simp only [sp_possible, List.foldl_nil, List.mem_singleton, Poss]
  constructor
  ·rintro rfl; exact ⟨hi, fun _ _ => Iff.rfl⟩
  ·rintro ⟨h1, h2⟩; exact sorted_ext _ _ (set_sorted h1) (set_sorted hi) fun x => h2 x List.not_mem_nil
 | m + 1, u, s, hm, hu => by
  rcases List.eq_nil_or_concat u with rfl | ⟨u, x, rfl⟩
  ·simp at hm
  rw [List.concat_eq_append] at hm hu ⊢
  obtain ⟨f0, _, _, _⟩ := TaskOK.rng hv
  have hx := hu x (by simp)
  have ih : ∀ s0, s0 ∈ sp_possible t u ↔ Poss t u s0 := fun s0 => mem_possible hv m (by simpa using hm) fun y hy => hu y (List.mem_append_left _ hy)
  rw [possible_snoc, mem_flips]
  constructor
  ·rintro (h | ⟨s0, h1, h2⟩)
   ·cases h
   ·obtain ⟨g1, g2⟩ := (ih s0).1 h1
    rcases h2 with rfl | rfl
    ·refine ⟨changed_set f0 _ _ _, fun y hy => ?_⟩
     simp only [List.mem_append, List.mem_singleton, not_or] at hy
     rw [mem_changed f0, ← g2 y hy.1]
     constructor
     ·rintro ⟨_, h | h⟩
      ·exact absurd (List.mem_singleton.1 h) hy.2
      ·exact h.1
     ·exact fun h => ⟨set_rng g1 y h, .inr ⟨h, List.not_mem_nil⟩⟩
    ·refine ⟨changed_set f0 _ _ _, fun y hy => ?_⟩
     simp only [List.mem_append, List.mem_singleton, not_or] at hy
     rw [mem_changed f0, ← g2 y hy.1]
     constructor
     ·rintro ⟨_, h | h⟩
      ·cases h
      ·exact h.1
     ·exact fun h => ⟨set_rng g1 y h, .inr ⟨h, fun k => hy.2 (List.mem_singleton.1 k)⟩⟩
  ·rintro ⟨h1, h2⟩
   refine .inr ?_
   have key : ∀ (add del : List Int), (∀ y, y ∈ add ∨ y ∈ del ↔ y = x) → (x ∈ add ↔ x ∈ t.init) → (x ∈ del ↔ x ∉ t.init) → Poss t u (sp_changed t.facts s add del) := fun add del ha h3 h4 => by
    refine ⟨changed_set f0 _ _ _, fun y hy => ?_⟩
    rw [mem_changed f0]
    by_cases e : y = x
    ·subst e
     constructor
     ·rintro ⟨_, h | ⟨_, h⟩⟩
      ·exact h3.1 h
      ·exact Classical.byContradiction fun k => h (h4.2 k)
     ·exact fun h => ⟨hx, .inl (h3.2 h)⟩
    ·rw [← h2 y (by simp [hy, e])]
     have n1 : y ∉ add := fun k => e ((ha y).1 (.inl k))
     have n2 : y ∉ del := fun k => e ((ha y).1 (.inr k))
     constructor
     ·rintro ⟨_, h | h⟩
      ·exact absurd h n1
      ·exact h.1
     ·exact fun h => ⟨set_rng h1 y h, .inr ⟨h, n2⟩⟩
   have back : ∀ (a d a2 d2 : List Int), (∀ y, y ∈ a ∨ y ∈ d → y = x) → (∀ y, y ∈ a2 ∨ y ∈ d2 ↔ y = x) → (x ∈ a2 ↔ x ∈ s) → (x ∈ d2 ↔ x ∉ s) → s = sp_changed t.facts (sp_changed t.facts s a d) a2 d2 := fun a d a2 d2 ha ha2 h3 h4 => by
    refine sorted_ext _ _ (set_sorted h1) (set_sorted (changed_set f0 _ _ _)) fun y => ?_
    rw [mem_changed f0, mem_changed f0]
    by_cases e : y = x
    ·subst e
     constructor
     ·exact fun h => ⟨set_rng h1 _ h, .inl (h3.2 h)⟩
     ·rintro ⟨_, h | ⟨_, h⟩⟩
      ·exact h3.1 h
      ·exact Classical.byContradiction fun k => h (h4.2 k)
    ·have n1 : y ∉ a := fun k => e (ha y (.inl k))
     have n2 : y ∉ d := fun k => e (ha y (.inr k))
     have n3 : y ∉ a2 := fun k => e ((ha2 y).1 (.inl k))
     have n4 : y ∉ d2 := fun k => e ((ha2 y).1 (.inr k))
     constructor
     ·exact fun h => ⟨set_rng h1 y h, .inr ⟨⟨set_rng h1 y h, .inr ⟨h, n2⟩⟩, n4⟩⟩
     ·rintro ⟨_, h | ⟨⟨_, h | h⟩, _⟩⟩
      ·exact absurd h n3
      ·exact absurd h n1
      ·exact h.1
   by_cases hin : x ∈ t.init
   ·refine ⟨sp_changed t.facts s [x] [], (ih _).2 (key [x] [] (by simp) (by simp [hin]) (by simp [hin])), ?_⟩
    by_cases hs : x ∈ s
    ·exact .inl (back _ _ _ _ (by simp) (by simp) (by simp [hs]) (by simp [hs]))
    ·exact .inr (back _ _ _ _ (by simp) (by simp) (by simp [hs]) (by simp [hs]))
   ·refine ⟨sp_changed t.facts s [] [x], (ih _).2 (key [] [x] (by simp) (by simp [hin]) (by simp [hin])), ?_⟩
    by_cases hs : x ∈ s
    ·exact .inl (back _ _ _ _ (by simp) (by simp) (by simp [hs]) (by simp [hs]))
    ·exact .inr (back _ _ _ _ (by simp) (by simp) (by simp [hs]) (by simp [hs]))
theorem worlds_possible {t : Task} {u : List Int} (hv : sp_validate t = ⟨0, 0⟩) (hu : sp_isSet u t.facts = true) : sp_worlds t u = sp_possible t u :=
 bfr_ext (worlds_sorted t u) (possible_sorted t u) fun _ => (mem_worlds hv hu).trans (mem_possible hv _ rfl (set_rng hu)).symm
theorem possible_len {t : Task} : ∀ (m : Nat) (u : List Int), u.length = m → (sp_possible t u).length ≤ 2 ^ m
 | 0, u, hm => by
  have : u = [] := List.length_eq_zero_iff.1 hm
  subst this
  simp [sp_possible]
 | m + 1, u, hm => by
  rcases List.eq_nil_or_concat u with rfl | ⟨u, x, rfl⟩
  ·simp at hm
  rw [List.concat_eq_append] at hm ⊢
  rw [possible_snoc]
  have h1 := possible_len (t := t) m u (by simpa using hm)
  have h2 := flips_len (n := t.facts) (x := x) (sp_possible t u) []
  simp at h2
  rw [Nat.pow_succ]; omega
theorem mem_bafter {t : Task} {ws : List (List Int)} {op : Int} {s : List Int} : s ∈ sp_bafter t ws op ↔ ∃ s0 ∈ ws, s = sp_after t s0 op := by
 unfold sp_bafter; rw [mem_normal, List.mem_map]
 exact ⟨fun ⟨a, h, e⟩ => ⟨a, h, e.symm⟩, fun ⟨a, h, e⟩ => ⟨a, h, e.symm⟩⟩
theorem bafter_len (t : Task) (ws : List (List Int)) (op : Int) : (sp_bafter t ws op).length ≤ ws.length := by
 have := normal_len (ws.map fun s => sp_after t s op)
 rwa [List.length_map] at this
theorem bafter_set {t : Task} (hv : sp_validate t = ⟨0, 0⟩) {ws : List (List Int)} {op : Int} {s : List Int} (h : s ∈ sp_bafter t ws op) : sp_isSet s t.facts = true := by
 obtain ⟨s0, _, rfl⟩ := mem_bafter.1 h
 exact after_set (TaskOK.rng hv).1 _ _
end Go.Proofs.YtojoehfldbimpaaGreatDoor.Pl

namespace Go.Proofs.YtojoehfldbimpaaGreatDoor.Pl
open Go Go.RowKit
theorem mask_bit : ∀ (m : Fin 16) (i : Fin 4), (bits .and .i64 (Int.fdiv ((m : Nat) : Int) (2 ^ (min (((i : Nat) : Int)).toNat (IntKind.bits .i64)))) 1 == 1) = (m : Nat).testBit i := by decide
theorem pow_len : ∀ n : Fin 5, IntKind.i64.wrap (1 * 2 ^ (min (((n : Nat) : Int)).toNat (IntKind.bits .i64))) = ((2 ^ (n : Nat) : Nat) : Int) := by decide
theorem maskAdd_snoc (l : List Int) (x : Int) (m : Nat) : maskAdd (l ++ [x]) m = maskAdd l m ++ (if m.testBit l.length = true then [x] else []) := by
 unfold maskAdd
 rw [List.zipIdx_append, List.filter_append, List.map_append]
 congr 1
 simp only [List.zipIdx_cons, List.zipIdx_nil, Nat.zero_add]
 by_cases h : m.testBit l.length = true
 ·simp [h]
 ·simp [h]
theorem maskAdd_len (l : List Int) (m : Nat) : (maskAdd l m).length ≤ l.length := by
 unfold maskAdd
 rw [List.length_map]
 exact Nat.le_trans (List.length_filter_le _ _) (by rw [List.length_zipIdx]; exact Nat.le_refl _)
theorem set_len24 {t : Task} (hv : sp_validate t = ⟨0, 0⟩) {s : List Int} (h : sp_isSet s t.facts = true) : s.length ≤ 24 := by
 obtain ⟨f0, f1, _⟩ := TaskOK.rng hv
 have := set_len f0 h
 omega
theorem ok_worlds : ∀ (t : Task) (unknown : List Int), pre_worlds t unknown → F_worlds t unknown (fun r => r = sp_worlds t unknown) := fun t u ⟨hv, hl, hu⟩ => by
 have hpow : (2 : Nat) ^ u.length ≤ 16 := by
  calc 2 ^ u.length ≤ 2 ^ 4 := Nat.pow_le_pow_right (by decide) hl
   _ = 16 := rfl
 unfold F_worlds
 refine ⟨by omega, ?_⟩
 rw [pow_len ⟨u.length, by omega⟩]
 simp only [forall_eq]
 refine ⟨fun t13 out => ∃ m : Nat, t13 = m ∧ m ≤ 2 ^ u.length ∧ out = (List.range m).map fun m => sp_update t.init (maskAdd u m) u, fun t13 _ => ((2 ^ u.length : Nat) - t13).toNat, ⟨0, rfl, Nat.zero_le _, rfl⟩, ?_⟩
 rintro _ _ ⟨m, rfl, m1, rfl⟩
 unfold F_worlds_L1
 simp only [forall_eq, decide_eq_true_eq, decide_eq_false_iff_not]
 have olen : ((List.range m).map fun m => sp_update t.init (maskAdd u m) u).length = m := by rw [List.length_map, List.length_range]
 refine ⟨fun h => ?_, fun h => ⟨⟨by rw [olen]; omega, fun x hx => ?_⟩, ?_⟩⟩
 ·refine ⟨fun t18 add => ∃ i : Nat, t18 = i ∧ i ≤ u.length ∧ add = maskAdd (u.take i) m, fun t18 _ => (u.length - t18).toNat, ⟨0, rfl, Nat.zero_le _, by simp [maskAdd]⟩, ?_⟩
  rintro _ _ ⟨i, rfl, i1, rfl⟩
  unfold F_worlds_L2 F_worlds_J1
  simp only [forall_eq, decide_eq_true_eq, decide_eq_false_iff_not]
  have alen := maskAdd_len (u.take i) m
  rw [List.length_take] at alen
  refine ⟨fun g => ?_, fun g => ?_⟩
  ·have hi : i < u.length := by omega
   rw [mask_bit ⟨m, by omega⟩ ⟨i, by omega⟩, w64 (by omega)]
   have e1 : maskAdd (u.take (i + 1)) m = maskAdd (u.take i) m ++ if m.testBit i = true then [gt u (i : Int)] else [] := by
    rw [takeN_gt hi, maskAdd_snoc, List.length_take, Nat.min_eq_left (by omega)]
   refine ⟨⟨by omega, g⟩, by omega, fun q => ⟨⟨?_, ?_⟩, ⟨i + 1, by omega, by omega, ?_⟩, by omega⟩, fun q => ⟨⟨i + 1, by omega, by omega, ?_⟩, by omega⟩⟩
   ·simp only [List.length_append, List.length_singleton, maxLen]; omega
   ·simp only [List.length_append, List.length_singleton]; omega
   ·rw [e1, if_pos q]
   ·rw [e1, if_neg (by rw [q]; decide), List.append_nil]
  ·rw [List.take_of_length_le (show u.length ≤ i by omega)]
   have := maskAdd_len u m
   refine ⟨⟨by have := set_len24 hv (TaskOK.rng hv).2.2.1; omega, by omega, set_sorted hu, by omega⟩, ⟨?_, ?_⟩, ⟨m + 1, by rw [w64 (by omega)]; omega, by omega, ?_⟩, ?_⟩
   ·rw [List.length_append, olen]; simp only [List.length_singleton, maxLen]; omega
   ·rw [List.length_append, olen]; simp only [List.length_singleton]; omega
   ·rw [List.range_succ, List.map_append]; rfl
   ·rw [w64 (by omega)]; omega
 ·obtain ⟨k, _, rfl⟩ := List.mem_map.1 hx
  have := set_len24 hv (mask_set hv hu k)
  omega
 ·have : m = 2 ^ u.length := by omega
  rw [this]; rfl
theorem ok_bafter : ∀ (t : Task) (worlds : List (List Int)) (op : Int), pre_bafter t worlds op → F_bafter t worlds op (fun r => r = sp_bafter t worlds op) := fun t ws op ⟨hv, hi, hl, hs⟩ => by
 refine ⟨fun t12 out => ∃ k : Nat, t12 = k ∧ k ≤ ws.length ∧ out = (ws.take k).map fun s => sp_after t s op, fun t12 _ => (ws.length - t12).toNat, ⟨0, rfl, Nat.zero_le _, rfl⟩, ?_⟩
 rintro _ _ ⟨k, rfl, k1, rfl⟩
 unfold F_bafter_L1
 simp only [forall_eq, decide_eq_true_eq, decide_eq_false_iff_not]
 have olen : ((ws.take k).map fun s => sp_after t s op).length = k := by rw [List.length_map, List.length_take]; omega
 refine ⟨fun h => ?_, fun h => ⟨⟨by rw [olen]; omega, fun x hx => ?_⟩, ?_⟩⟩
 ·have hk : k < ws.length := by omega
  refine ⟨⟨by omega, h⟩, ⟨hv, hi, hs _ (gt_memN hk)⟩, ⟨?_, ?_⟩, ⟨k + 1, ?_, by omega, ?_⟩, ?_⟩
  ·rw [List.length_append, olen]; simp only [List.length_singleton, maxLen]; omega
  ·rw [List.length_append, olen]; simp only [List.length_singleton]; omega
  ·rw [w64 (by omega)]; omega
  ·rw [takeN_gt hk, List.map_append]; rfl
  ·rw [w64 (by omega)]; omega
 ·obtain ⟨s, _, rfl⟩ := List.mem_map.1 hx
  have := set_len24 hv (after_set (TaskOK.rng hv).1 s op)
  omega
 ·rw [List.take_of_length_le (by omega)]; rfl
theorem sure_iff {ws : Bel} {facts : List Int} : sp_sure ws facts = true ↔ ∀ s ∈ ws, ∀ x ∈ facts, x ∈ s := by
 unfold sp_sure sp_sure1 sp_contains2
 simp only [Bool.not_eq_true', List.any_eq_false, Bool.not_eq_false]
 exact ⟨fun h s hs => subset_iff.1 (h s hs), fun h s hs => subset_iff.2 (h s hs)⟩
theorem allHold_iff {ws : Bel} {facts : List Int} : sp_allHold ws facts = true ↔ ∀ s ∈ ws, ∀ x ∈ facts, x ∈ s := by
 unfold sp_allHold
 rw [List.all_eq_true]
 exact ⟨fun h s hs => subset_iff.1 (h s hs), fun h s hs => subset_iff.2 (h s hs)⟩
theorem sure_allHold (ws : Bel) (facts : List Int) : sp_sure ws facts = sp_allHold ws facts := by
 rw [Bool.eq_iff_iff, sure_iff, allHold_iff]
theorem pre_sure_of {t : Task} (hv : sp_validate t = ⟨0, 0⟩) {ws : Bel} (hw : WsOK t ws) {facts : List Int} (hf : sp_isSet facts t.facts = true) : pre_sure ws facts :=
 ⟨by have := hw.1; omega, fun s hs => ⟨by have := set_len24 hv (hw.2 s hs); omega, by have := set_len24 hv hf; omega, set_sorted (hw.2 s hs), set_sorted hf⟩⟩
theorem worlds_ok {t : Task} {u : List Int} (h : UOK t u) : WsOK t (sp_worlds t u) := ⟨worlds_len h.2.1, fun _ hs => worlds_set h.1 h.2.2 hs⟩
theorem changed_len (n : Int) (s add del : List Int) : (sp_changed n s add del).length ≤ n.toNat := by
 unfold sp_changed
 exact Nat.le_trans (List.length_filter_le _ _) (by rw [allS_len]; exact Nat.le_refl _)
theorem possible_rows {t : Task} (hv : sp_validate t = ⟨0, 0⟩) (u : List Int) {s : List Int} (h : s ∈ sp_possible t u) : s.length ≤ 24 := by
 obtain ⟨f0, f1, hi, _⟩ := TaskOK.rng hv
 rcases List.eq_nil_or_concat u with rfl | ⟨u, x, rfl⟩
 ·rw [List.mem_singleton.1 (show s ∈ [t.init] from h)]; exact set_len24 hv hi
 ·rw [List.concat_eq_append, possible_snoc] at h
  rcases mem_flips.1 h with h | ⟨s0, _, rfl | rfl⟩
  ·cases h
  ·have := changed_len t.facts s0 [x] []; omega
  ·have := changed_len t.facts s0 [] [x]; omega
theorem ok_possible : ∀ (t : Task) (unknown : List Int), pre_possible t unknown → F_possible t unknown (fun r => r = sp_possible t unknown) := fun t u ⟨hv, hl, hu⟩ => by
 obtain ⟨f0, f1, hi, _⟩ := TaskOK.rng hv
 refine ⟨fun out i => ∃ j : Nat, i = j ∧ j ≤ u.length ∧ out = sp_possible t (u.take j), fun _ i => (u.length - i).toNat, ⟨0, rfl, Nat.zero_le _, by simp [sp_possible]⟩, ?_⟩
 rintro _ _ ⟨j, rfl, j1, rfl⟩
 have plen : (sp_possible t (u.take j)).length ≤ 16 := by
  refine Nat.le_trans (possible_len _ _ rfl) ?_
  rw [List.length_take]
  calc 2 ^ min j u.length ≤ 2 ^ 4 := Nat.pow_le_pow_right (by decide) (by omega)
   _ = 16 := rfl
 have prow := fun s hs => possible_rows hv (u.take j) (s := s) hs
 unfold F_possible_L1
 simp only [decide_eq_true_eq, decide_eq_false_iff_not]
 refine ⟨fun h => ?_, fun h => by rw [List.take_of_length_le (by omega)]⟩
 have hj : j < u.length := by omega
 refine ⟨fun next k => ∃ q : Nat, k = q ∧ q ≤ (sp_possible t (u.take j)).length ∧ next = ((sp_possible t (u.take j)).take q).foldl (flip2 t.facts (gt u (j : Int))) [], fun _ k => ((sp_possible t (u.take j)).length - k).toNat, ⟨0, rfl, Nat.zero_le _, rfl⟩, ?_⟩
 rintro _ _ ⟨q, rfl, q1, rfl⟩
 unfold F_possible_L2
 simp only [forall_eq, decide_eq_true_eq, decide_eq_false_iff_not]
 generalize hout : sp_possible t (u.take j) = out at *
 have nlen := flips_len (n := t.facts) (x := gt u (j : Int)) (out.take q) []
 rw [List.length_take, List.length_nil] at nlen
 have nrow : ∀ s ∈ (out.take q).foldl (flip2 t.facts (gt u (j : Int))) [], s.length ≤ 24 := fun s hs => by
  rcases mem_flips.1 hs with h | ⟨s0, _, rfl | rfl⟩
  ·cases h
  ·have := changed_len t.facts s0 [gt u (j : Int)] []; omega
  ·have := changed_len t.facts s0 [] [gt u (j : Int)]; omega
 refine ⟨fun g => ?_, fun g => ?_⟩
 ·have hq : q < out.length := by omega
  have hr := prow _ (gt_memN hq)
  have c1 := changed_len t.facts (gt out (q : Int)) [gt u (j : Int)] []
  have c2 := changed_len t.facts (gt out (q : Int)) [] [gt u (j : Int)]
  have i1 := insert_len ((out.take q).foldl (flip2 t.facts (gt u (j : Int))) []) (sp_changed t.facts (gt out (q : Int)) [gt u (j : Int)] [])
  refine ⟨⟨by omega, g⟩, ⟨by omega, h⟩, ⟨f0, by omega, by omega, by simp, by simp⟩, ⟨by omega, by omega, fun s hs => by have := nrow s hs; omega⟩, ⟨f0, by omega, by omega, by simp, by simp⟩, ⟨by omega, by omega, fun s hs => ?_⟩, ⟨q + 1, ?_, by omega, ?_⟩, ?_⟩
  ·rcases mem_insert.1 hs with rfl | hs
   ·omega
   ·have := nrow s hs; omega
  ·rw [w64 (by omega)]; omega
  ·rw [takeN_gt hq, List.foldl_append]; rfl
  ·rw [w64 (by omega)]; omega
 ·rw [w64 (by omega), List.take_of_length_le (show out.length ≤ q by omega)]
  refine ⟨⟨j + 1, by omega, by omega, ?_⟩, by omega⟩
  rw [takeN_gt hj, possible_snoc, hout]
theorem ok_afterAll : ∀ (t : Task) (l : List (List Int)) (op : Int), pre_afterAll t l op → F_afterAll t l op (fun r => r = sp_afterAll t l op) := fun t ws op ⟨hv, hi, hl, hs⟩ => by
 refine ⟨fun out i => ∃ k : Nat, i = k ∧ k ≤ ws.length ∧ out = sp_normal ((ws.take k).map fun s => sp_after t s op), fun _ i => (ws.length - i).toNat, ⟨0, rfl, Nat.zero_le _, rfl⟩, ?_⟩
 rintro _ _ ⟨k, rfl, k1, rfl⟩
 unfold F_afterAll_L1
 simp only [forall_eq, decide_eq_true_eq, decide_eq_false_iff_not]
 have hrow : ∀ s : List Int, (sp_after t s op).length ≤ 24 := fun s => set_len24 hv (after_set (TaskOK.rng hv).1 s op)
 refine ⟨fun h => ?_, fun h => ?_⟩
 ·have hk : k < ws.length := by omega
  have nl := normal_len ((ws.take k).map fun s => sp_after t s op)
  rw [List.length_map, List.length_take] at nl
  refine ⟨⟨by omega, h⟩, ⟨hv, hi, by have := set_len24 hv (hs _ (gt_memN hk)); omega⟩, ⟨by omega, by have := hrow (gt ws (k : Int)); omega, fun s hs' => ?_⟩, ⟨k + 1, ?_, by omega, ?_⟩, ?_⟩
  ·obtain ⟨s0, _, rfl⟩ := List.mem_map.1 (mem_normal.1 hs')
   have := hrow s0; omega
  ·rw [w64 (by omega)]; omega
  ·rw [takeN_gt hk, List.map_append, sp_normal, sp_normal, List.foldl_append]; rfl
  ·rw [w64 (by omega)]; omega
 ·rw [List.take_of_length_le (by omega)]; rfl
theorem ok_allHold : ∀ (l : List (List Int)) (facts : List Int), pre_allHold l facts → F_allHold l facts (fun r => r = sp_allHold l facts) := fun l facts ⟨h1, h2, h3⟩ => by
 refine ⟨fun i => ∃ k : Nat, i = k ∧ k ≤ l.length ∧ ∀ s ∈ l.take k, sp_subset facts s = true, fun i => (l.length - i).toNat, ⟨0, rfl, Nat.zero_le _, by simp⟩, ?_⟩
 rintro _ ⟨k, rfl, k1, k2⟩
 unfold F_allHold_L1
 simp only [forall_eq, decide_eq_true_eq, decide_eq_false_iff_not, Bool.not_eq_true', Bool.not_eq_false']
 refine ⟨fun h => ?_, fun h => ?_⟩
 ·have hk : k < l.length := by omega
  refine ⟨⟨by omega, h⟩, ⟨h2, h3 _ (gt_memN hk)⟩, fun g => ?_, fun g => ?_⟩
  ·refine (Bool.eq_false_iff.2 fun e => ?_).symm
   have := List.all_eq_true.1 e _ (gt_memN hk)
   rw [g] at this; cases this
  ·rw [w64 (by omega)]
   refine ⟨⟨k + 1, by omega, by omega, fun s hs => ?_⟩, by omega⟩
   rw [takeN_gt hk] at hs
   rcases List.mem_append.1 hs with hs | hs
   ·exact k2 s hs
   ·rw [List.mem_singleton.1 hs]; exact g
 ·rw [List.take_of_length_le (by omega)] at k2
  exact (List.all_eq_true.2 k2).symm
theorem ok_same : ∀ (a : List (List Int)) (b : List (List Int)), pre_same a b → F_same a b (fun r => r = sp_same a b) := fun a b ⟨h1, h2, h3, h4⟩ => by
 unfold F_same
 simp only [bne_iff_ne, ne_eq, bne_eq_false_iff_eq]
 refine ⟨fun h => (decide_eq_false fun e => h (by rw [e])).symm, fun h => ?_⟩
 have hl : a.length = b.length := by omega
 refine ⟨fun t => ∃ k : Nat, t = k ∧ k ≤ a.length ∧ a.take k = b.take k, fun t => (a.length - t).toNat, ⟨0, rfl, Nat.zero_le _, by simp⟩, ?_⟩
 rintro _ ⟨k, rfl, k1, k2⟩
 unfold F_same_L1
 simp only [forall_eq, decide_eq_true_eq, decide_eq_false_iff_not, Bool.not_eq_true', Bool.not_eq_false', sp_ints]
 refine ⟨fun g => ⟨⟨by omega, g⟩, ⟨by omega, by omega⟩, ⟨h3 _ (gt_memN (by omega)), h4 _ (gt_memN (by omega))⟩, fun q => (decide_eq_false fun e => q (by rw [e])).symm, fun q => ?_⟩, fun g => ?_⟩
 ·rw [w64 (by omega)]
  exact ⟨⟨k + 1, by omega, by omega, take_same (by omega) (by omega) k2 q⟩, by omega⟩
 ·rw [List.take_of_length_le (by omega), List.take_of_length_le (by omega)] at k2
  exact (decide_eq_true k2).symm
theorem idx_hit {α : Type} [Inhabited α] [BEq α] [LawfulBEq α] {l : List α} {v : α} {k : Nat} (hk : k < l.length) (h : v ∉ l.take k) (e : gt l (k : Int) = v) : l.idxOf v = k := by
 have h1 : l = l.take k ++ (gt l (k : Int) :: l.drop (k + 1)) := by
  rw [← drop_gtN hk, List.take_append_drop]
 rw [h1, List.idxOf_append, if_neg h, e, List.idxOf_cons_self, List.length_take]
 omega
theorem ok_placeOf : ∀ (all : List (List (List Int))) (l : List (List Int)), pre_placeOf all l → F_placeOf all l (fun r => r = sp_placeOf all l) := fun all l ⟨h1, h2, h3, h4⟩ => by
 refine ⟨fun t => ∃ k : Nat, t = k ∧ k ≤ all.length ∧ l ∉ all.take k, fun t => (all.length - t).toNat, ⟨0, rfl, Nat.zero_le _, by simp⟩, ?_⟩
 rintro _ ⟨k, rfl, k1, k2⟩
 unfold F_placeOf_L1
 simp only [forall_eq, decide_eq_true_eq, decide_eq_false_iff_not, sp_same]
 refine ⟨fun h => ?_, fun h => ?_⟩
 ·have hk : k < all.length := by omega
  obtain ⟨p1, p2⟩ := h2 _ (gt_memN hk)
  refine ⟨⟨by omega, h⟩, ⟨p1, h3, p2, h4⟩, fun q => ?_, fun q => ?_⟩
  ·rw [sp_placeOf, if_pos (q ▸ gt_memN hk), idx_hit hk k2 q]
  ·rw [w64 (by omega)]
   refine ⟨⟨k + 1, by omega, by omega, ?_⟩, by omega⟩
   rw [takeN_gt hk]
   simp only [List.mem_append, List.mem_singleton, not_or]
   exact ⟨k2, fun e => q e.symm⟩
 ·rw [List.take_of_length_le (by omega)] at k2
  rw [sp_placeOf, if_neg k2]
theorem ok_observed : ∀ (l : List (List Int)) (fact : Int), pre_observed l fact → F_observed l fact (fun r => r = sp_observed l fact) := fun l f ⟨h1, h2⟩ => by
 refine ⟨fun i yes no => ∃ k : Nat, i = k ∧ k ≤ l.length ∧ yes = (l.take k).filter (fun s => decide (f ∈ s)) ∧ no = (l.take k).filter (fun s => !decide (f ∈ s)), fun i _ _ => (l.length - i).toNat, ⟨0, rfl, Nat.zero_le _, rfl, rfl⟩, ?_⟩
 rintro _ _ _ ⟨k, rfl, k1, rfl, rfl⟩
 unfold F_observed_L1 F_observed_J1
 simp only [forall_eq, decide_eq_true_eq, decide_eq_false_iff_not, sp_has]
 have l1 := List.length_filter_le (fun s : List Int => decide (f ∈ s)) (l.take k)
 have l2 := List.length_filter_le (fun s : List Int => !decide (f ∈ s)) (l.take k)
 rw [List.length_take] at l1 l2
 refine ⟨fun h => ?_, fun h => ?_⟩
 ·have hk : k < l.length := by omega
  rw [w64 (by omega)]
  refine ⟨⟨by omega, h⟩, h2 _ (gt_memN hk), fun q => ⟨⟨?_, ?_⟩, ⟨k + 1, by omega, by omega, ?_, ?_⟩, by omega⟩, fun q => ⟨⟨?_, ?_⟩, ⟨k + 1, by omega, by omega, ?_, ?_⟩, by omega⟩⟩
  ·rw [List.length_append]; simp only [List.length_singleton, maxLen]; omega
  ·rw [List.length_append]; simp only [List.length_singleton]; omega
  ·rw [takeN_gt hk, List.filter_append]; simp [q]
  ·rw [takeN_gt hk, List.filter_append]; simp [q]
  ·rw [List.length_append]; simp only [List.length_singleton, maxLen]; omega
  ·rw [List.length_append]; simp only [List.length_singleton]; omega
  ·rw [takeN_gt hk, List.filter_append]; simp [q]
  ·rw [takeN_gt hk, List.filter_append]; simp [q]
 ·rw [List.take_of_length_le (by omega)]; rfl
theorem ok_able : F_able (fun r => r = sp_able) := rfl
theorem ok_succ : ∀ (t : Task) (worlds : List (List Int)), F_succ t worlds (fun r => r = sp_succ t worlds) := fun _ _ => rfl
theorem ok_small1 : ∀ (x : List (List Int)), F_small1 x (fun r => r = sp_small1 x) := fun _ => rfl
end Go.Proofs.YtojoehfldbimpaaGreatDoor.Pl

namespace Go.Proofs.YtojoehfldbimpaaGreatDoor.Pl
open Go Go.RowKit
theorem digits_mem (u : Nat) : ∀ c ∈ Lib.decDigits u, 48 ≤ c.toNat ∧ c.toNat ≤ 57 := by
 induction u using Nat.strongRecOn with
 | _ u ih =>
  intro c hc
  have one : ∀ d : Fin 10, 48 ≤ (UInt8.ofNat (48 + d.val)).toNat ∧ (UInt8.ofNat (48 + d.val)).toNat ≤ 57 := by decide
  by_cases h : u < 10
  ·rw [Lib.decDigits, dif_pos h] at hc
   rw [List.mem_singleton.1 hc]
   exact one ⟨u, h⟩
  ·rw [Lib.decDigits, dif_neg h] at hc
   rcases List.mem_append.1 hc with hc | hc
   ·exact ih (u / 10) (by omega) c hc
   ·rw [List.mem_singleton.1 hc]
    exact one ⟨u % 10, by omega⟩
theorem digits_inj (u : Nat) : ∀ v : Nat, Lib.decDigits u = Lib.decDigits v → u = v := by
 have one : ∀ d e : Fin 10, UInt8.ofNat (48 + d.val) = UInt8.ofNat (48 + e.val) → d = e := by decide
 have pos : ∀ v : Nat, Lib.decDigits v ≠ [] := fun v => by
  rw [Lib.decDigits]
  split <;> simp
 induction u using Nat.strongRecOn with
 | _ u ih =>
  intro v h
  by_cases hu : u < 10 <;> by_cases hv : v < 10
  ·rw [Lib.decDigits, dif_pos hu, Lib.decDigits, dif_pos hv] at h
   have := one ⟨u, hu⟩ ⟨v, hv⟩ (List.singleton_inj.1 h)
   exact congrArg Fin.val this
  ·rw [Lib.decDigits, dif_pos hu, Lib.decDigits, dif_neg hv] at h
   have h2 := congrArg List.length h
   have := List.length_pos_iff.2 (pos (v / 10))
   simp only [List.length_append, List.length_singleton] at h2; omega
  ·rw [Lib.decDigits, dif_neg hu] at h
   conv at h => rhs; rw [Lib.decDigits, dif_pos hv]
   have h2 := congrArg List.length h
   have := List.length_pos_iff.2 (pos (u / 10))
   simp only [List.length_append, List.length_singleton] at h2; omega
  ·rw [Lib.decDigits, dif_neg hu] at h
   conv at h => rhs; rw [Lib.decDigits, dif_neg hv]
   obtain ⟨h1, h2⟩ := List.append_inj' h rfl
   have e1 := ih (u / 10) (by omega) (v / 10) h1
   have e2 := congrArg Fin.val (one ⟨u % 10, by omega⟩ ⟨v % 10, by omega⟩ (List.singleton_inj.1 h2))
   simp only at e2
   omega
theorem itoa_mem (x : Int) : ∀ c ∈ Lib.itoa x, c.toNat = 45 ∨ (48 ≤ c.toNat ∧ c.toNat ≤ 57) := fun c hc => by
 unfold Lib.itoa at hc
 split at hc
 ·rcases List.mem_cons.1 hc with rfl | hc
  ·exact .inl rfl
  ·exact .inr (digits_mem _ c hc)
 ·exact .inr (digits_mem _ c hc)
theorem itoa_inj {x y : Int} (h : Lib.itoa x = Lib.itoa y) : x = y := by
 have head : ∀ (u v : Nat), 45 :: Lib.decDigits u ≠ Lib.decDigits v := fun u v e => by
  have := digits_mem v 45 (e ▸ List.mem_cons_self)
  exact absurd this.1 (by decide)
 unfold Lib.itoa at h
 split at h <;> split at h
 ·have := digits_inj _ _ (List.cons.inj h).2; omega
 ·exact absurd h (head _ _)
 ·exact absurd h.symm (head _ _)
 ·have := digits_inj _ _ h; omega
theorem itoa_ne (x : Int) {c : UInt8} (h : c.toNat = 44 ∨ 58 ≤ c.toNat) : c ∉ Lib.itoa x := fun hc => by
 have := itoa_mem x c hc
 omega
theorem split_at {c : UInt8} : ∀ {p q u v : List UInt8}, c ∉ p → c ∉ q → p ++ c :: u = q ++ c :: v → p = q ∧ u = v
 | [], [], _, _, _, _, h => ⟨rfl, (List.cons.inj h).2⟩
 | [], y :: q, _, _, _, hq, h => absurd ((List.cons.inj h).1 ▸ List.mem_cons_self) hq
 | x :: p, [], _, _, hp, _, h => absurd ((List.cons.inj h).1 ▸ List.mem_cons_self) hp
 | x :: p, y :: q, u, v, hp, hq, h => by
  obtain ⟨h1, h2⟩ := List.cons.inj h
  obtain ⟨h3, h4⟩ := split_at (fun k => hp (List.mem_cons_of_mem _ k)) (fun k => hq (List.mem_cons_of_mem _ k)) h2
  exact ⟨by rw [h1, h3], h4⟩
theorem itoa_pos (x : Int) : Lib.itoa x ≠ [] := by
 unfold Lib.itoa
 split
 ·simp
 ·rw [Lib.decDigits]; split <;> simp
theorem rowL_inj : ∀ {a b : List Int} {r r' : List UInt8}, rowL a ++ 59 :: r = rowL b ++ 59 :: r' → a = b ∧ r = r'
 | [], [], _, _, h => ⟨rfl, (List.cons.inj h).2⟩
 | [], y :: b, r, r', h => by
  have e : rowL (y :: b) = Lib.itoa y ++ (44 :: rowL b) := by simp [rowL]
  rw [e] at h
  cases hi : Lib.itoa y with
  | nil => exact absurd hi (itoa_pos y)
  | cons c q =>
   rw [hi] at h
   have := (List.cons.inj h).1
   exact absurd (hi ▸ this ▸ List.mem_cons_self) (itoa_ne y (c := 59) (by decide))
 | x :: a, [], r, r', h => by
  have e : rowL (x :: a) = Lib.itoa x ++ (44 :: rowL a) := by simp [rowL]
  rw [e] at h
  cases hi : Lib.itoa x with
  | nil => exact absurd hi (itoa_pos x)
  | cons c q =>
   rw [hi] at h
   have := (List.cons.inj h).1
   exact absurd (hi ▸ this ▸ List.mem_cons_self) (itoa_ne x (c := 59) (by decide))
 | x :: a, y :: b, r, r', h => by
  have e1 : rowL (x :: a) = Lib.itoa x ++ (44 :: rowL a) := by simp [rowL]
  have e2 : rowL (y :: b) = Lib.itoa y ++ (44 :: rowL b) := by simp [rowL]
  rw [e1, e2, List.append_assoc, List.append_assoc] at h
  obtain ⟨h1, h2⟩ := split_at (itoa_ne x (by decide)) (itoa_ne y (by decide)) h
  obtain ⟨h3, h4⟩ := rowL_inj (a := a) (b := b) h2
  exact ⟨by rw [itoa_inj h1, h3], h4⟩
theorem keyL_inj : ∀ {a b : Bel}, keyL a = keyL b → a = b
 | [], [], _ => rfl
 | [], s :: b, h => by simp [keyL] at h
 | s :: a, [], h => by simp [keyL] at h
 | s :: a, q :: b, h => by
  have e1 : keyL (s :: a) = rowL s ++ 59 :: keyL a := by simp [keyL]
  have e2 : keyL (q :: b) = rowL q ++ 59 :: keyL b := by simp [keyL]
  rw [e1, e2] at h
  obtain ⟨h1, h2⟩ := rowL_inj h
  rw [h1, keyL_inj h2]
def mapOf (l : List Entry) : List UInt8 → Int := fun k => if k ∈ l.map (fun e => keyL e.node) then 1 else 0
theorem mapOf_pos {l : List Entry} {n : Bel} : 0 < mapOf l (keyL n) ↔ n ∈ l.map (·.node) := by
 unfold mapOf
 constructor
 ·intro h
  split at h
  ·rename_i hm
   obtain ⟨e, he, hk⟩ := List.mem_map.1 hm
   exact List.mem_map.2 ⟨e, he, keyL_inj hk⟩
  ·exact absurd h (by decide)
 ·intro h
  obtain ⟨e, he, hk⟩ := List.mem_map.1 h
  rw [if_pos (List.mem_map.2 ⟨e, he, by rw [hk]⟩)]
  decide
theorem mapOf_push (l : List Entry) (e : Entry) : upd (mapOf l) (keyL e.node) 1 = mapOf (l ++ [e]) := by
 funext k
 unfold upd mapOf
 rw [List.map_append]
 by_cases h : k = keyL e.node
 ·rw [if_pos h, if_pos (by simp [h])]
 ·rw [if_neg h]
  simp [h]
theorem mapOf_one (e : Entry) : upd (fun _ => 0) (keyL e.node) 1 = mapOf [e] := by
 funext k
 unfold upd mapOf
 by_cases h : k = keyL e.node
 ·rw [if_pos h, if_pos (by simp [h])]
 ·rw [if_neg h, if_neg (by simp [h])]
theorem key_ok {t : Task} (hv : sp_validate t = ⟨0, 0⟩) {ws : Bel} (hw : WsOK t ws) : pre_key ws := by
 obtain ⟨f0, f1, _⟩ := TaskOK.rng hv
 refine ⟨by have := hw.1; omega, fun s hs => ⟨by have := set_len24 hv (hw.2 s hs); omega, fun x hx => ?_⟩⟩
 have := set_rng (hw.2 s hs) x hx
 omega
theorem bafter_ok {t : Task} (hv : sp_validate t = ⟨0, 0⟩) {ws : Bel} (hw : WsOK t ws) (op : Int) : WsOK t (sp_bafter t ws op) :=
 ⟨Nat.le_trans (bafter_len t ws op) hw.1, fun _ hs => bafter_set hv hs⟩
def opS (t : Task) (ws : Bel) (op : Int) : Option (Int × Bel) := if sp_sure ws (gt t.ops op).pre = true then some (op, sp_bafter t ws op) else none
theorem bsucc_def (t : Task) (ws : Bel) : bsucc t ws = (allS t.ops.length).filterMap (opS t ws) := rfl
theorem mem_bsucc {t : Task} {ws : Bel} {x : Int × Bel} : x ∈ bsucc t ws ↔ inb t.ops x.1 ∧ sp_sure ws (gt t.ops x.1).pre = true ∧ x.2 = sp_bafter t ws x.1 := by
 rw [bsucc_def, List.mem_filterMap]
 constructor
 ·rintro ⟨op, h1, h2⟩
  unfold opS at h2
  split at h2
  ·rename_i hs
   obtain rfl := Option.some.inj h2
   obtain ⟨a, b⟩ := mem_allS.1 h1
   exact ⟨⟨a, b⟩, hs, rfl⟩
  ·cases h2
 ·rintro ⟨h1, h2, h3⟩
  refine ⟨x.1, mem_allS.2 ⟨h1.1, h1.2⟩, ?_⟩
  unfold opS
  rw [if_pos h2, ← h3]
theorem bsucc_sorted (t : Task) (ws : Bel) : ((bsucc t ws).map (·.1)).Pairwise (· < ·) := by
 rw [bsucc_def, List.map_filterMap]
 refine List.Pairwise.filterMap _ (fun a a' h b hb b' hb' => ?_) (allS_sorted t.ops.length)
 unfold opS at hb hb'
 split at hb
 ·split at hb'
  ·simp at hb hb'; subst hb; subst hb'; exact h
  ·simp at hb'
 ·simp at hb
theorem bsucc_ok {t : Task} (hv : sp_validate t = ⟨0, 0⟩) {ws : Bel} (hw : WsOK t ws) {x : Int × Bel} (h : x ∈ bsucc t ws) : WsOK t x.2 := by
 rw [(mem_bsucc.1 h).2.2]; exact bafter_ok hv hw _
theorem allS_drop {n j : Nat} (h : j < n) : (allS n).drop j = (j : Int) :: (allS n).drop (j + 1) := by
 have hl : j < (allS n).length := by rw [allS_len]; exact h
 rw [List.drop_eq_getElem_cons hl]
 congr 1
 simp [allS]
structure QOK (t : Task) (start : Bel) (l : List Entry) (m : List UInt8 → Int) : Prop where
 map : m = mapOf l
 shape : Shape (bsucc t) start l
 len : l.length ≤ 2000
 ok : ∀ e ∈ l, WsOK t e.node
theorem QOK.start {t : Task} {start : Bel} (h : WsOK t start) : QOK t start [⟨start, -1, 0⟩] (upd (fun _ => 0) (keyL start) 1) :=
 ⟨mapOf_one ⟨start, -1, 0⟩, Shape.start _ _, by simp, fun e he => by rw [List.mem_singleton.1 he]; exact h⟩
theorem QOK.push {t : Task} {start : Bel} {l : List Entry} {m : List UInt8 → Int} (h : QOK t start l m) {i : Nat} {e : Entry} (hi : l[i]? = some e) {s : Int} {n : Bel} (hs : (s, n) ∈ bsucc t e.node) (hn : n ∉ l.map (·.node)) (hw : WsOK t n) (hl : l.length ≠ 2000) : QOK t start (l ++ [⟨n, (i : Int), s⟩]) (upd m (keyL n) 1) := by
 refine ⟨by rw [h.map]; exact mapOf_push l ⟨n, (i : Int), s⟩, h.shape.push hi hs hn, by have := h.len; simp; omega, fun e' he' => ?_⟩
 rcases List.mem_append.1 he' with he' | he'
 ·exact h.ok e' he'
 ·rw [List.mem_singleton.1 he']; exact hw
theorem entry_gt {l : List Entry} {i : Nat} (h : i < l.length) : l[i]? = some (gt l (i : Int)) := by
 have := gt_get (xs := l) (i := (i : Int)) ⟨by omega, by omega⟩
 rwa [Int.toNat_natCast] at this
end Go.Proofs.YtojoehfldbimpaaGreatDoor.Pl

