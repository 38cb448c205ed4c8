import Derived.WalkKit
import Derived.Below
import Derived.Deep.Quiet
import Derived.RangeFuncNested
import Derived.RangeFuncCalls
import Derived.RangeFuncLeaves
import Derived.TacticsIn
import Derived.Maps.AppendAt
import Derived.Lib.BufferMore
import Derived.Laws.CopyRow
import Derived.OrdersIn
import Derived.MapKept
import Derived.Shelf.Strconv.AppendIntPublic10
import Derived.Laws.IdiomStrings
import Derived.Lib.ItoaLen
import Derived.LoopN
import Derived.LoopNIn
import Derived.Deep.AppendSrc
namespace Go.Proofs.YtimillpakjgnoaaGreat.Pl
open Go Go.RowKit
theorem ex_bind {ε α β : Type} {x : Except ε α} {f : α → Except ε β} {b : β} (h : (x >>= f) = .ok b) : ∃ a, x = .ok a ∧ f a = .ok b := by
 cases x with
 | error e => cases h
 | ok a => exact ⟨a, rfl, h⟩
theorem view_drawn {p : Program} {w w' : World} {at_ : Addr} {u : TypeId} {k : Addr} {v : Value} {at2 : Bool} {l : List Addr} (h : w.viewStore p at_ u k v at2 = .ok (w', l)) : w'.drawn = w.drawn := by
 unfold World.viewStore at h
 dsimp only at h
 split at h
 ·cases h
 ·obtain ⟨⟨c, e, f1, f2, f3, f4⟩, _, h⟩ := ex_bind h
  dsimp only at h
  split at h
  ·split at h
   ·cases h
   ·obtain ⟨_, _, h⟩ := ex_bind h
    have := Except.ok.inj h
    rw [Prod.mk.injEq] at this
    rw [← this.1]
  ·cases h
theorem far_drawn {p : Program} {w w' : World} {a : Addr} {v : Value} {at2 : Bool} {l : List Addr} (h : w.farStore p a v at2 = .ok (w', l)) : w'.drawn = w.drawn := by
 unfold World.farStore at h
 split at h
 ·split at h
  ·rename_i r hr
   obtain rfl := Except.ok.inj h
   exact view_drawn hr
  ·cases h
 ·cases h
theorem ask_drawn {α : Type} : ∀ (m : Ask α) (w : World), w.drawn ≤ (w.ask m).2.drawn
 | .done a, w => Nat.le_refl _
 | .ask what range k, w => by
  unfold World.ask
  simp only
  split
  ·exact ask_drawn _ _
  ·exact Nat.le_trans (Nat.le_succ _) (ask_drawn _ { w with drawn := w.drawn + 1 })
theorem sys_drawn (w : World) (c : Sys) : w.drawn ≤ (w.sys c).2.drawn := by
 have := ask_drawn (Kernel.perform c w.os) w
 unfold World.sys
 split
 ·exact Nat.le_refl _
 ·rename_i h
  rw [h] at this
  exact this
theorem run_drawn {p : Program} {α : Type} : ∀ (m : Sem α) (w w' : World) (v : α), m.run p w = .ok v w' → w.drawn ≤ w'.drawn := by
 intro m
 induction m with
 | pure a => intro w w' v h; cases h; exact Nat.le_refl _
 | load m a k ih =>
  intro w w' v h
  simp only [Sem.run] at h
  split at h
  ·exact ih _ _ _ _ h
  ·split at h
   ·exact ih _ _ _ _ h
   ·cases h
 | store m a x k ih =>
  intro w w' v h
  have key : ∀ x, (match w.cell? a with
   | some _ => if w.frozen? a then (.halt (.unsupported (.unsafePointer "a write to bytes that a string shares")) w : Result α) else k.run p (w.setCell a x)
   | none => match w.farStore p a x (m == Mode.atomic) with
    | .ok (w, _) => k.run p w
    | .error h => .halt h w) = .ok v w' → w.drawn ≤ w'.drawn := fun x h => by
   split at h
   ·split at h
    ·cases h
    ·have := ih _ _ _ h; exact this
   ·split at h
    ·rename_i w2 l hf
     rw [← far_drawn hf]
     exact ih _ _ _ h
    ·cases h
  cases x <;> first | (simp only [Sem.run] at h; cases h; done) | exact key _ h
 | new o k ih => intro w w' v h; have := ih _ _ _ _ h; exact this
 | shape r k ih => intro w w' v h; exact ih _ _ _ _ h
 | freeze a n k ih =>
  intro w w' v h
  have := ih _ _ _ h
  rwa [show (w.freeze a n).drawn = w.drawn by unfold World.freeze; split <;> rfl] at this
 | frozen a k ih => intro w w' v h; exact ih _ _ _ _ h
 | getObj r k ih =>
  intro w w' v h
  simp only [Sem.run] at h
  split at h
  ·cases h
  ·exact ih _ _ _ _ h
  ·cases h
 | setObj r o k ih =>
  intro w w' v h
  simp only [Sem.run] at h
  split at h
  ·cases h
  ·have := ih _ _ _ h; exact this
  ·cases h
 | choose q k ih =>
  intro w w' v h
  simp only [Sem.run] at h
  split at h
  ·exact ih _ _ _ _ h
  ·exact Nat.le_trans (Nat.le_succ _) (ih _ _ _ _ h)
 | sys c k ih => intro w w' v h; exact Nat.le_trans (sys_drawn w c) (ih _ _ _ _ h)
 | program k ih => intro w w' v h; exact ih _ _ _ _ h
 | mark m k ih => intro w w' v h; exact ih _ _ _ h
 | halt h => intro w w' v e; cases e
def dr (w : World) : Nat := w.drawn
theorem dr_drew (w : World) : dr w ≤ dr w.drew := by unfold dr; first | exact Nat.le_succ _ | exact Nat.le_refl _
theorem run_dr {p : Program} {α : Type} (m : Sem α) (w w' : World) (v : α) (h : m.run p w = .ok v w') : dr w ≤ dr w' := by
 have := run_drawn m w w' v h
 unfold dr; omega
structure Below (B : Nat) (w w' : World) : Prop where
 os : w'.os = w.os
 tape : w'.tape = w.tape
 output : w'.output = w.output
 size : w.heap.size ≤ w'.heap.size
 block : ∀ k, k < B → w'.heap[k]? = w.heap[k]?
 drawn : dr w ≤ dr w'
theorem Below.toK {B : Nat} {w w' : World} (h : Below B w w') : Go.RowKit.Below B w w' := ⟨h.os, h.tape, h.output, h.size, h.block⟩
theorem Below.refl (B : Nat) (w : World) : Below B w w := ⟨rfl, rfl, rfl, Nat.le_refl _, fun _ _ => rfl, Nat.le_refl _⟩
theorem Below.drew {B : Nat} {a w : World} (h : Below B a w) : Below B a w.drew := ⟨h.os, h.tape, h.output, h.size, h.block, Nat.le_trans h.drawn (dr_drew _)⟩
theorem Below.alloc {B : Nat} {a w : World} (h : Below B a w) (hB : B ≤ w.heap.size) (o : Obj) : Below B a (w.alloc o) :=
 have k := h.toK.alloc hB o
 ⟨k.os, k.tape, k.output, k.size, k.block, h.drawn⟩
abbrev FH := Nat → Option Obj
def FH.le (h h' : FH) : Prop := ∀ b o, h b = some o → h' b = some o
theorem FH.le_refl (h : FH) : FH.le h h := fun _ _ e => e
theorem FH.le_trans {a b c : FH} (x : FH.le a b) (y : FH.le b c) : FH.le a c := fun i o e => y i o (x i o e)
def Sub (h : FH) (w : World) : Prop := ∀ b o, h b = some o → w.heap[b]? = some o
theorem Sub.anti {h h' : FH} {w : World} (hl : FH.le h h') (s : Sub h' w) : Sub h w := fun b o e => s b o (hl b o e)
theorem Sub.lt {h : FH} {w : World} (s : Sub h w) {b : Nat} {o : Obj} (e : h b = some o) : b < w.heap.size :=
 (Array.getElem?_eq_some_iff.1 (s b o e)).1
theorem Sub.ext {h : FH} {w w' : World} (s : Sub h w) (hb : ∀ b, b < w.heap.size → w'.heap[b]? = w.heap[b]?) : Sub h w' :=
 fun b o e => (hb b (s.lt e)).trans (s b o e)
def FH.cell (h : FH) (a : Addr) : Option Value :=
 match h a.block with
 | some (.cells c _ _) => if a.spot.isSome then none else c[a.off]?
 | _ => none
theorem FH.cell_mono {h h' : FH} (hl : FH.le h h') {a : Addr} {v : Value} (e : h.cell a = some v) : h'.cell a = some v := by
 unfold FH.cell at *
 cases hb : h a.block with
 | none => rw [hb] at e; cases e
 | some o => rw [hb] at e; rw [hl _ _ hb]; exact e
theorem Sub.cell {h : FH} {w : World} (s : Sub h w) {a : Addr} {v : Value} (e : h.cell a = some v) : w.cell? a = some v := by
 unfold FH.cell at e
 cases hb : h a.block with
 | none => rw [hb] at e; cases e
 | some o => rw [hb] at e; unfold World.cell?; rw [s _ _ hb]; exact e
def FH.join (h g : FH) : FH := fun b => match h b with | some o => some o | none => g b
def Disj (g g' : FH) : Prop := ∀ b, g b = none ∨ g' b = none
theorem Disj.symm {g g' : FH} (d : Disj g g') : Disj g' g := fun b => (d b).symm
theorem FH.le_join_left (h g : FH) : FH.le h (h.join g) := fun b o e => by simp [FH.join, e]
theorem FH.le_join_right {h g : FH} (d : Disj h g) : FH.le g (h.join g) := fun b o e => by
 rcases d b with e' | e'
 ·simp [FH.join, e', e]
 ·rw [e'] at e; cases e
theorem Sub.join {h g : FH} {w : World} (s : Sub h w) (t : Sub g w) : Sub (h.join g) w := fun b o e => by
 unfold FH.join at e
 cases hb : h b with
 | none => rw [hb] at e; exact t b o e
 | some o' => rw [hb] at e; exact s b o (by simpa [hb] using e)
def FH.one (b : Nat) (o : Obj) : FH := fun b' => if b' = b then some o else none
theorem FH.one_self (b : Nat) (o : Obj) : FH.one b o b = some o := by simp [FH.one]
theorem FH.one_ne {b b' : Nat} {o : Obj} (h : FH.one b o b' ≠ none) : b' = b := by
 unfold FH.one at h
 split at h
 ·assumption
 ·exact absurd rfl h
theorem Sub.one {b : Nat} {o : Obj} {w : World} (h : w.heap[b]? = some o) : Sub (FH.one b o) w := fun b' o' e => by
 unfold FH.one at e
 split at e
 ·rename_i hb; rw [hb, h]; exact e
 ·cases e
abbrev Asrt := FH → Prop
def tru : Asrt := fun _ => True
structure Kp where
 w : World
 h : FH
 keep : Nat → Prop
 lt : ∀ b, keep b → b < w.heap.size
structure Kept (K : Kp) (w : World) : Prop where
 os : w.os = K.w.os
 tape : w.tape = K.w.tape
 output : w.output = K.w.output
 size : K.w.heap.size ≤ w.heap.size
 block : ∀ b, K.keep b → w.heap[b]? = K.w.heap[b]?
 drawn : dr K.w ≤ dr w
def Kp.all (w : World) (h : FH) : Kp := ⟨w, h, fun b => b < w.heap.size, fun _ h => h⟩
theorem Kept.start (w : World) (h : FH) : Kept (Kp.all w h) w := ⟨rfl, rfl, rfl, Nat.le_refl _, fun _ _ => rfl, Nat.le_refl _⟩
theorem Kept.below {w w' : World} {h : FH} (k : Kept (Kp.all w h) w') : Below w.heap.size w w' := ⟨k.os, k.tape, k.output, k.size, k.block, k.drawn⟩
structure Own (K : Kp) (h : FH) (w : World) (g : FH) : Prop where
 disj : Disj h g
 sub : Sub g w
 free : ∀ b, g b ≠ none → ¬ K.keep b
def Parts (K : Kp) (h : FH) (w : World) (A : List Asrt) (gs : List FH) : Prop :=
 gs.length = A.length ∧ (∀ (i : Nat) (g : FH) (X : Asrt), gs[i]? = some g → A[i]? = some X → X g) ∧ (∀ (i : Nat) (g : FH), gs[i]? = some g → Own K h w g) ∧
  (∀ (i j : Nat) (g g' : FH), i ≠ j → gs[i]? = some g → gs[j]? = some g' → Disj g g')
structure SH (K : Kp) (h : FH) (w : World) (A : List Asrt) : Prop where
 kept : Kept K w
 sub : Sub h w
 fresh : ∀ b, h b ≠ none → K.h b ≠ none ∨ ¬ K.keep b
 parts : ∃ gs, Parts K h w A gs
section
variable {K : Kp} {h : FH} {w : World} {A : List Asrt}
theorem SH.start (w : World) (h : FH) (s : Sub h w) : SH (Kp.all w h) h w [] :=
 ⟨Kept.start w h, s, fun _ h => .inl h, [], rfl, by simp, by simp, by simp⟩
theorem SH.below {w0 : World} {h0 : FH} (s : SH (Kp.all w0 h0) h w A) : Below w0.heap.size w0 w := s.kept.below
theorem SH.anti {h' : FH} (hl : FH.le h h') (s : SH K h' w A) : SH K h w A := by
 obtain ⟨gs, p1, p2, p3, p4⟩ := s.parts
 refine ⟨s.kept, s.sub.anti hl, fun b hb => s.fresh b (by
  cases e : h b with
  | none => exact absurd e hb
  | some o => rw [hl b o e]; simp), gs, p1, p2, fun i g hi => ?_, p4⟩
 have o := p3 i g hi
 refine ⟨fun b => ?_, o.sub, o.free⟩
 rcases o.disj b with e | e
 ·cases hb : h b with
  | none => exact .inl rfl
  | some x => rw [hl _ _ hb] at e; cases e
 ·exact .inr e
theorem SH.ext {w' : World} (s : SH K h w A) (hb : Below w.heap.size w w') : SH K h w' A := by
 obtain ⟨gs, p1, p2, p3, p4⟩ := s.parts
 refine ⟨⟨hb.os.trans s.kept.os, hb.tape.trans s.kept.tape, hb.output.trans s.kept.output, Nat.le_trans s.kept.size hb.size, fun b hk => ?_, Nat.le_trans s.kept.drawn hb.drawn⟩, s.sub.ext hb.block, s.fresh, gs, p1, p2, fun i g hi => ⟨(p3 i g hi).disj, (p3 i g hi).sub.ext hb.block, (p3 i g hi).free⟩, p4⟩
 rw [hb.block b (Nat.lt_of_lt_of_le (K.lt b hk) s.kept.size)]
 exact s.kept.block b hk
theorem list_set_get {α : Type} {l : List α} {k i : Nat} {x y : α} (h : (l.set k x)[i]? = some y) : (i = k ∧ y = x ∧ k < l.length) ∨ (i ≠ k ∧ l[i]? = some y) := by
 by_cases e : k = i
 ·subst e
  rw [List.getElem?_set] at h
  split at h
  ·split at h
   ·exact .inl ⟨rfl, (Option.some.inj h).symm, by assumption⟩
   ·cases h
  ·rename_i hne; exact absurd rfl hne
 ·rw [List.getElem?_set_ne e] at h
  exact .inr ⟨fun e' => e e'.symm, h⟩
theorem SH.upd {k : Nat} {X : Asrt} (s : SH K h w A) (hk : A[k]? = some X) :
  ∃ g, X g ∧ Own K h w g ∧ ∀ (X' : Asrt) (g' : FH) (w' : World), X' g' → Sub g' w' → (∀ b, g' b ≠ none → g b ≠ none ∨ w.heap.size ≤ b) →
   (∀ b, b < w.heap.size → g b = none → w'.heap[b]? = w.heap[b]?) → w'.os = w.os → w'.tape = w.tape → w'.output = w.output → w.heap.size ≤ w'.heap.size → dr w ≤ dr w' →
   SH K h w' (A.set k X') := by
 obtain ⟨gs, p1, p2, p3, p4⟩ := s.parts
 have hkl : k < gs.length := by rw [p1]; exact (List.getElem?_eq_some_iff.1 hk).1
 have hg : gs[k]? = some gs[k] := List.getElem?_eq_getElem hkl
 have own := p3 k _ hg
 refine ⟨gs[k], p2 k _ X hg hk, own, fun X' g' w' hx hs hdom hsame h1 h2 h3 hsz hdr => ?_⟩
 have out : ∀ b, b < w.heap.size → (∃ i g, i ≠ k ∧ gs[i]? = some g ∧ g b ≠ none) → w'.heap[b]? = w.heap[b]? := fun b hb ⟨i, g, hi, hgi, hne⟩ => by
  refine hsame b hb ?_
  rcases p4 i k g _ hi hgi hg b with e | e
  ·exact absurd e hne
  ·exact e
 refine ⟨⟨h1.trans s.kept.os, h2.trans s.kept.tape, h3.trans s.kept.output, Nat.le_trans s.kept.size hsz, fun b hkb => ?_, Nat.le_trans s.kept.drawn hdr⟩, fun b o e => ?_, s.fresh, gs.set k g', by simp [p1], fun i g Y hi hY => ?_, fun i g hi => ?_, fun i j g g2 hij hi hj => ?_⟩
 ·have hb := Nat.lt_of_lt_of_le (K.lt b hkb) s.kept.size
  refine (hsame b hb ?_).trans (s.kept.block b hkb)
  cases e : gs[k] b with
  | none => rfl
  | some o => exact absurd hkb (own.free b (by simp [e]))
 ·have hb := s.sub.lt e
  refine (hsame b hb ?_).trans (s.sub b o e)
  rcases own.disj b with e' | e'
  ·rw [e] at e'; cases e'
  ·exact e'
 ·rcases list_set_get hi with ⟨rfl, rfl, _⟩ | ⟨hne, hi'⟩
  ·rcases list_set_get hY with ⟨_, rfl, _⟩ | ⟨hne, _⟩
   ·exact hx
   ·exact absurd rfl hne
  ·rcases list_set_get hY with ⟨rfl, _, _⟩ | ⟨_, hY'⟩
   ·exact absurd rfl hne
   ·exact p2 i g Y hi' hY'
 ·rcases list_set_get hi with ⟨rfl, rfl, _⟩ | ⟨hne, hi'⟩
  ·refine ⟨fun b => ?_, hs, fun b hb hkb => ?_⟩
   ·cases e : g b with
    | none => exact .inr rfl
    | some o =>
     refine .inl ?_
     rcases hdom b (by simp [e]) with e' | e'
     ·rcases own.disj b with x | x
      ·exact x
      ·exact absurd x e'
     ·cases hh : h b with
      | none => rfl
      | some o' => have := s.sub.lt hh; omega
   ·rcases hdom b hb with e' | e'
    ·exact own.free b e' hkb
    ·have := Nat.lt_of_lt_of_le (K.lt b hkb) s.kept.size; omega
  ·have o := p3 i g hi'
   refine ⟨o.disj, fun b ob e => ?_, o.free⟩
   exact (out b (o.sub.lt e) ⟨i, g, hne, hi', by simp [e]⟩).trans (o.sub b ob e)
 ·have key : ∀ i g, i ≠ k → gs[i]? = some g → Disj g' g := fun i g hne hi' b => by
   cases e : g' b with
   | none => exact .inl rfl
   | some o =>
    refine .inr ?_
    rcases hdom b (by simp [e]) with e' | e'
    ·rcases p4 i k g _ hne hi' hg b with x | x
     ·exact x
     ·exact absurd x e'
    ·cases hh : g b with
     | none => rfl
     | some o' => have := (p3 i g hi').sub.lt hh; omega
  rcases list_set_get hi with ⟨rfl, rfl, _⟩ | ⟨hne, hi'⟩
  ·rcases list_set_get hj with ⟨rfl, _, _⟩ | ⟨hne2, hj'⟩
   ·exact absurd rfl hij
   ·exact key j g2 hne2 hj'
  ·rcases list_set_get hj with ⟨rfl, rfl, _⟩ | ⟨hne2, hj'⟩
   ·exact (key i g hne hi').symm
   ·exact p4 i j g g2 hij hi' hj'
theorem SH.push {w' : World} {X : Asrt} {g : FH} (s : SH K h w A) (hb : Below w.heap.size w w') (hx : X g) (hs : Sub g w') (hnew : ∀ b, g b ≠ none → w.heap.size ≤ b) : SH K h w' (X :: A) := by
 have s' := s.ext hb
 obtain ⟨gs0, q1, q2, q3, q4⟩ := s.parts
 refine ⟨s'.kept, s'.sub, s.fresh, g :: gs0, by simp [q1], fun i g1 Y hi hY => ?_, fun i g1 hi => ?_, fun i j g1 g2 hij hi hj => ?_⟩
 ·cases i with
  | zero => simp at hi hY; subst hi; subst hY; exact hx
  | succ i => simp at hi hY; exact q2 i g1 Y hi hY
 ·cases i with
  | zero =>
   simp at hi; subst hi
   refine ⟨fun b => ?_, hs, fun b hb' hk => ?_⟩
   ·cases e : h b with
    | none => exact .inl rfl
    | some o =>
     refine .inr ?_
     cases e2 : g b with
     | none => rfl
     | some o2 => have h1 := s.sub.lt e; have h2 := hnew b (by simp [e2]); omega
   ·have h1 := hnew b hb'; have h2 := Nat.lt_of_lt_of_le (K.lt b hk) s.kept.size; omega
  | succ i => simp at hi; exact ⟨(q3 i g1 hi).disj, (q3 i g1 hi).sub.ext hb.block, (q3 i g1 hi).free⟩
 ·have key : ∀ i g1, gs0[i]? = some g1 → Disj g g1 := fun i g1 hi b => by
   cases e : g1 b with
   | none => exact .inr rfl
   | some o =>
    refine .inl ?_
    cases e2 : g b with
    | none => rfl
    | some o2 => have h1 := (q3 i g1 hi).sub.lt e; have h2 := hnew b (by simp [e2]); omega
  cases i with
  | zero =>
   simp at hi; subst hi
   cases j with
   | zero => exact absurd rfl hij
   | succ j => simp at hj; exact key j g2 hj
  | succ i =>
   simp at hi
   cases j with
   | zero => simp at hj; subst hj; exact (key i g1 hi).symm
   | succ j => simp at hj; exact q4 i j g1 g2 (by omega) hi hj
theorem SH.merge {w' : World} {h0 h1 : FH} {B : List Asrt} (s : SH K h w A) (r : SH (Kp.all w h0) h1 w' B) (fr : ∀ b, h1 b ≠ none → h b ≠ none ∨ w.heap.size ≤ b) : SH K h1 w' (B ++ A) := by
 have s' := s.ext r.below
 obtain ⟨gs, p1, p2, p3, p4⟩ := s.parts
 obtain ⟨gr, r1, r2, r3, r4⟩ := r.parts
 have old : ∀ (i : Nat) (g : FH) (b : Nat), gs[i]? = some g → g b ≠ none → b < w.heap.size := fun i g b hi hb => by
  cases e : g b with
  | none => exact absurd e hb
  | some o => exact (p3 i g hi).sub.lt e
 have new : ∀ (i : Nat) (g : FH) (b : Nat), gr[i]? = some g → g b ≠ none → w.heap.size ≤ b := fun i g b hi hb => Nat.le_of_not_lt ((r3 i g hi).free b hb)
 have cut : ∀ (i : Nat) (X : FH), (gr ++ gs)[i]? = some X → (i < gr.length ∧ gr[i]? = some X) ∨ (gr.length ≤ i ∧ gs[i - gr.length]? = some X) := fun i X hi => by
  by_cases hlt : i < gr.length
  ·rw [List.getElem?_append_left hlt] at hi; exact .inl ⟨hlt, hi⟩
  ·rw [List.getElem?_append_right (by omega)] at hi; exact .inr ⟨by omega, hi⟩
 refine ⟨s'.kept, r.sub, fun b hb => ?_, gr ++ gs, by simp [p1, r1], fun i g X hi hX => ?_, fun i g hi => ?_, fun i j g g2 hij hi hj => ?_⟩
 ·rcases fr b hb with e | e
  ·exact s.fresh b e
  ·exact .inr fun hk => by have := Nat.lt_of_lt_of_le (K.lt b hk) s.kept.size; omega
 ·rcases cut i g hi with ⟨hlt, hi'⟩ | ⟨hge, hi'⟩
  ·rw [List.getElem?_append_left (by omega)] at hX; exact r2 i g X hi' hX
  ·rw [List.getElem?_append_right (by omega)] at hX; rw [r1] at hi'; exact p2 _ g X hi' hX
 ·rcases cut i g hi with ⟨hlt, hi'⟩ | ⟨hge, hi'⟩
  ·refine ⟨(r3 i g hi').disj, (r3 i g hi').sub, fun b hb hk => ?_⟩
   have h1 := new i g b hi' hb
   have := Nat.lt_of_lt_of_le (K.lt b hk) s.kept.size; omega
  ·refine ⟨fun b => ?_, (p3 _ g hi').sub.ext r.below.block, (p3 _ g hi').free⟩
   cases e : g b with
   | none => exact .inr rfl
   | some o =>
    refine .inl ?_
    cases e1 : h1 b with
    | none => rfl
    | some o1 =>
     have hb := old _ g b hi' (by simp [e])
     rcases fr b (by simp [e1]) with x | x
     ·rcases (p3 _ g hi').disj b with y | y
      ·exact absurd y x
      ·rw [e] at y; cases y
     ·omega
 ·have key : ∀ (i j : Nat) (g g2 : FH), gr[i]? = some g → gs[j]? = some g2 → Disj g g2 := fun i j g g2 hi hj b => by
   cases e : g b with
   | none => exact .inl rfl
   | some o =>
    refine .inr ?_
    cases e2 : g2 b with
    | none => rfl
    | some o2 => have h1 := new i g b hi (by simp [e]); have h2 := old j g2 b hj (by simp [e2]); omega
  rcases cut i g hi with ⟨hlt, hi'⟩ | ⟨hge, hi'⟩
  ·rcases cut j g2 hj with ⟨hlt2, hj'⟩ | ⟨hge2, hj'⟩
   ·exact r4 i j g g2 hij hi' hj'
   ·exact key i _ g g2 hi' hj'
  ·rcases cut j g2 hj with ⟨hlt2, hj'⟩ | ⟨hge2, hj'⟩
   ·exact (key j _ g2 g hj' hi').symm
   ·exact p4 _ _ g g2 (by omega) hi' hj'
theorem SH.freeze {k : Nat} {X : Asrt} (s : SH K h w A) (hk : A[k]? = some X) : ∃ g, X g ∧ Disj h g ∧ SH K (h.join g) w (A.set k tru) := by
 obtain ⟨gs, p1, p2, p3, p4⟩ := s.parts
 have hkl : k < gs.length := by rw [p1]; exact (List.getElem?_eq_some_iff.1 hk).1
 have hg : gs[k]? = some gs[k] := List.getElem?_eq_getElem hkl
 have own := p3 k _ hg
 refine ⟨gs[k], p2 k _ X hg hk, own.disj, s.kept, s.sub.join own.sub, fun b hb => ?_, gs.set k (fun _ => none), by simp [p1], fun i g Y hi hY => ?_, fun i g hi => ?_, fun i j g g2 hij hi hj => ?_⟩
 ·cases e : h b with
  | some o => exact s.fresh b (by simp [e])
  | none => exact .inr (own.free b (by simpa [FH.join, e] using hb))
 ·rcases list_set_get hi with ⟨rfl, rfl, _⟩ | ⟨hne, hi'⟩
  ·rcases list_set_get hY with ⟨_, rfl, _⟩ | ⟨hne, _⟩
   ·trivial
   ·exact absurd rfl hne
  ·rcases list_set_get hY with ⟨rfl, _, _⟩ | ⟨_, hY'⟩
   ·exact absurd rfl hne
   ·exact p2 i g Y hi' hY'
 ·rcases list_set_get hi with ⟨rfl, rfl, _⟩ | ⟨hne, hi'⟩
  ·exact ⟨fun _ => .inr rfl, (fun _ _ e => by cases e), (fun _ e => absurd rfl e)⟩
  ·have o := p3 i g hi'
   refine ⟨fun b => ?_, o.sub, o.free⟩
   rcases o.disj b with e | e
   ·rcases p4 i k g _ hne hi' hg b with x | x
    ·exact .inr x
    ·exact .inl (by simp [FH.join, e, x])
   ·exact .inr e
 ·rcases list_set_get hi with ⟨rfl, rfl, _⟩ | ⟨hne, hi'⟩
  ·exact fun _ => .inl rfl
  ·rcases list_set_get hj with ⟨rfl, rfl, _⟩ | ⟨hne2, hj'⟩
   ·exact fun _ => .inr rfl
   ·exact p4 i j g g2 hij hi' hj'
theorem SH.drop {X : Asrt} (s : SH K h w (X :: A)) : SH K h w A := by
 obtain ⟨gs, p1, p2, p3, p4⟩ := s.parts
 cases gs with
 | nil => simp at p1
 | cons g gs =>
  refine ⟨s.kept, s.sub, s.fresh, gs, by simpa using p1, fun i g1 Y hi hY => p2 (i + 1) g1 Y (by simpa using hi) (by simpa using hY), fun i g1 hi => p3 (i + 1) g1 (by simpa using hi), fun i j g1 g2 hij hi hj => p4 (i + 1) (j + 1) g1 g2 (by omega) (by simpa using hi) (by simpa using hj)⟩
theorem SH.forget (s : SH K h w A) (k : Nat) : SH K h w (A.set k tru) := by
 obtain ⟨gs, p1, p2, p3, p4⟩ := s.parts
 refine ⟨s.kept, s.sub, s.fresh, gs, by simpa using p1, fun i g1 Y hi hY => ?_, p3, p4⟩
 rcases list_set_get hY with ⟨_, rfl, _⟩ | ⟨_, hY'⟩
 ·trivial
 ·exact p2 i g1 Y hi hY'
theorem SH.weaken {k : Nat} {X Y : Asrt} (s : SH K h w A) (hk : A[k]? = some X) (hxy : ∀ g, X g → Y g) : SH K h w (A.set k Y) := by
 obtain ⟨gs, p1, p2, p3, p4⟩ := s.parts
 refine ⟨s.kept, s.sub, s.fresh, gs, by simpa using p1, fun i g1 Z hi hZ => ?_, p3, p4⟩
 rcases list_set_get hZ with ⟨rfl, rfl, _⟩ | ⟨_, hZ'⟩
 ·exact hxy _ (p2 i g1 X hi hk)
 ·exact p2 i g1 Z hi hZ'
theorem SH.look {k : Nat} {X : Asrt} (s : SH K h w A) (hk : A[k]? = some X) : ∃ g, X g ∧ Disj h g ∧ Sub (h.join g) w := by
 obtain ⟨g, hx, own, _⟩ := s.upd hk
 exact ⟨g, hx, own.disj, s.sub.join own.sub⟩
end
abbrev St := List (Nat × Value)
def get : List (Nat × Value) → Nat → Option Value
 | [], _ => none
 | (k, v) :: r, t => bif Nat.beq k t then some v else get r t
structure Fr where
 sz : Nat
 ro : Option (Option Nat)
 dl : List Nat
def mark (D : Nat) : Deferred := { target := .collected D, args := #[] }
structure Holds (n : Fr) (s : St) (a : Act) : Prop where
 defers : a.defers = n.dl.map mark
 size : a.tmps.size = n.sz
 slots : ∀ t v, get s t = some v → a.tmps[t]? = some v
def ev (s : St) : Operand → Option Value
 | .tmp t => get s t
 | .const v => some v
 | .global g => some (.pointer (some ⟨g, 0, none⟩))
 | .func f => some (.func (.func f) #[] #[])
def evs (s : St) : List Operand → Option (List Value)
 | [] => some []
 | x :: r => match ev s x with
  | none => none
  | some v => match evs s r with
   | none => none
   | some vs => some (v :: vs)
section
variable {n : Fr} {s : St} {a : Act}
theorem Holds.getD (H : Holds n s a) {t : Nat} {v : Value} (e : get s t = some v) : a.tmps.getD t undef = v := by
 rw [Array.getD_eq_getD_getElem?, H.slots t v e]; rfl
theorem Holds.ev (H : Holds n s a) {x : Operand} {v : Value} (e : ev s x = some v) : a.eval x = v := by
 cases x with
 | tmp t => exact H.getD e
 | const u => exact Option.some.inj e
 | global g => exact Option.some.inj e
 | func f => exact Option.some.inj e
theorem Holds.evs (H : Holds n s a) {xs : List Operand} {vs : List Value} (e : evs s xs = some vs) : xs.map a.eval = vs := by
 induction xs generalizing vs with
 | nil => simpa [Pl.evs] using e
 | cons x r ih =>
  simp only [Pl.evs] at e
  split at e
  ·cases e
  ·rename_i v hv
   split at e
   ·cases e
   ·rename_i vs' hvs
    obtain rfl := Option.some.inj e
    simp [H.ev hv, ih hvs]
theorem Holds.put (H : Holds n s a) {d : Nat} (v : Value) (hd : Nat.blt d n.sz = true) : Holds n ((d, v) :: s) (a.put (some d) v) := by
 have hd' : d < n.sz := by simpa using hd
 refine ⟨H.defers, by simp [Act.put, H.size], fun t u e => ?_⟩
 simp only [get] at e
 cases hb : Nat.beq d t with
 | true =>
  have : d = t := Nat.eq_of_beq_eq_true hb
  subst this
  simp only [hb, cond_true] at e
  obtain rfl := Option.some.inj e
  simp [Act.put, H.size, hd']
 | false =>
  have hne : d ≠ t := fun e' => by subst e'; simp at hb
  simp only [hb, cond_false] at e
  simp only [Act.put]
  rw [Array.getElem?_setIfInBounds_ne hne]
  exact H.slots t u e
def SubSt : List (Nat × Value) → St → Prop
 | [], _ => True
 | (t, v) :: r, s => get s t = some v ∧ SubSt r s
theorem SubSt.get {s' s : St} (h : SubSt s' s) {t : Nat} {v : Value} (e : get s' t = some v) : Pl.get s t = some v := by
 induction s' with
 | nil => cases e
 | cons p r ih =>
  obtain ⟨t', v'⟩ := p
  simp only [Pl.get] at e
  cases hb : Nat.beq t' t with
  | true =>
   have := Nat.eq_of_beq_eq_true hb
   subst this
   simp only [hb, cond_true] at e
   obtain rfl := Option.some.inj e
   exact h.1
  | false => simp only [hb, cond_false] at e; exact ih h.2 e
theorem Holds.sub {s' : St} (H : Holds n s a) (h : SubSt s' s) : Holds n s' a := ⟨H.defers, H.size, fun t v e => H.slots t v (h.get e)⟩
end
abbrev FR (l : Option Nat) : Fence := { Fence.wide with round := l }
def WC (P : Program) (ro : Option (Option Nat)) (c : Code) (Q : Exit → Act → World → Prop) (a : Act) (w : World) : Prop :=
 match ro with
 | none => c.wp P Q a w
 | some l => c.wpIn (FR l) 0 P Q a w
def WL (P : Program) (ro : Option (Option Nat)) (ops : Array Oper) (Q : Exit → Act → World → Prop) (l : List Oper) (a : Act) (w : World) : Prop :=
 match ro with
 | none => wpList P ops Q l a w
 | some r => wpListIn (FR r) 0 P ops Q l a w
section
variable {P : Program} {K : Kp} {n : Fr}
def J (P : Program) (K : Kp) (n : Fr) (c : Code) (Q : Exit → Act → World → Prop) (s : St) (A : List Asrt) (h : FH) : Prop :=
 ∀ a w, Holds n s a → SH K h w A → WC P n.ro c Q a w
def JL (P : Program) (K : Kp) (n : Fr) (ops : Array Oper) (l : List Oper) (Q : Exit → Act → World → Prop) (s : St) (A : List Asrt) (h : FH) : Prop :=
 ∀ a w, Holds n s a → SH K h w A → WL P n.ro ops Q l a w
def E (K : Kp) (n : Fr) (Q : Exit → Act → World → Prop) (e : Exit) (s : St) (A : List Asrt) (h : FH) : Prop :=
 ∀ a w, Holds n s a → SH K h w A → Q e a w
variable {Q : Exit → Act → World → Prop} {s s' : St} {A : List Asrt} {h h' : FH}
theorem J.up (hl : FH.le h h') {c : Code} (j : J P K n c Q s A h) : J P K n c Q s A h' := fun a w H S => j a w H (S.anti hl)
theorem J.sub (hs : SubSt s' s) {c : Code} (j : J P K n c Q s' A h) : J P K n c Q s A h := fun a w H S => j a w (H.sub hs) S
theorem J.seq {x y : Code} (j : J P K n x (Exit.then (fun a w => WC P n.ro y Q a w) Q) s A h) : J P K n (.seq x y) Q s A h := by
 obtain ⟨m, ro, dl⟩ := n
 cases ro with
 | none => exact fun a w H S => wp_seq (j a w H S)
 | some l => exact fun a w H S => wpIn_seq (j a w H S)
theorem J.cond {c : Operand} {x y : Code} {b : Bool} (hc : ev s c = some (.bool b)) (ht : b = true → J P K n x Q s A h) (hf : b = false → J P K n y Q s A h) : J P K n (.cond c x y) Q s A h := by
 obtain ⟨m, ro, dl⟩ := n
 cases ro with
 | none => exact fun a w H S => wp_cond_split (H.ev hc) (fun e => ht e a w H S) (fun e => hf e a w H S)
 | some l => exact fun a w H S => wpIn_cond_split (H.ev hc) (fun e => ht e a w H S) (fun e => hf e a w H S)
theorem J.block {id : Nat} {c : Code} (j : J P K n c (Exit.inBlock id Q) s A h) : J P K n (.block id c) Q s A h := by
 obtain ⟨m, ro, dl⟩ := n
 cases ro with
 | none => exact fun a w H S => wp_block (j a w H S)
 | some l => exact fun a w H S => wpIn_block (j a w H S)
theorem J.region {id : Nat} {l : List Oper} (j : JL P K n l.toArray l Q s A h) : J P K n (.region id l.toArray false) Q s A h := by
 obtain ⟨m, ro, dl⟩ := n
 cases ro with
 | none => exact fun a w H S => wp_region_lit (j a w H S)
 | some l => exact fun a w H S => wpIn_region_lit (j a w H S)
theorem J.skip (j : E K n Q .normal s A h) : J P K n .skip Q s A h := by
 obtain ⟨m, ro, dl⟩ := n
 cases ro with
 | none => exact fun a w H S => wp_skip (j a w H S)
 | some l => exact fun a w H S => wpIn_skip (j a w H S)
theorem J.exit {id : Nat} (j : E K n Q (.exit id) s A h) : J P K n (.exit id) Q s A h := by
 obtain ⟨m, ro, dl⟩ := n
 cases ro with
 | none => exact fun a w H S => wp_exit (j a w H S)
 | some l => exact fun a w H S => wpIn_exit (j a w H S)
theorem J.ret (j : E K n Q .ret s A h) : J P K n .ret Q s A h := by
 obtain ⟨m, ro, dl⟩ := n
 cases ro with
 | none => exact fun a w H S => wp_ret (j a w H S)
 | some l => exact fun a w H S => wpIn_ret (j a w H S)
theorem JL.nil {ops : Array Oper} (j : E K n Q .normal s A h) : JL P K n ops [] Q s A h := by
 obtain ⟨m, ro, dl⟩ := n
 cases ro with
 | none => exact fun a w H S => wpList_nil (P := P) (ops := ops) (j a w H S)
 | some l => exact fun a w H S => wpListIn_nil (F := FR l) (n := 0) (P := P) (ops := ops) (j a w H S)
theorem E.seqN {y : Code} (j : J P K n y Q s A h) : E K n (Exit.then (fun a w => WC P n.ro y Q a w) Q) .normal s A h := j
theorem E.seqR {F : Act → World → Prop} (j : E K n Q .ret s A h) : E K n (Exit.then F Q) .ret s A h := j
theorem E.seqX {F : Act → World → Prop} {i : Nat} (j : E K n Q (.exit i) s A h) : E K n (Exit.then F Q) (.exit i) s A h := j
theorem E.blkN {id : Nat} (j : E K n Q .normal s A h) : E K n (Exit.inBlock id Q) .normal s A h := j
theorem E.blkR {id : Nat} (j : E K n Q .ret s A h) : E K n (Exit.inBlock id Q) .ret s A h := j
theorem E.blkX {id : Nat} (j : E K n Q .normal s A h) : E K n (Exit.inBlock id Q) (.exit id) s A h := fun a w H S => by
 simp only [Exit.inBlock, if_true]; exact j a w H S
theorem E.blkY {id i : Nat} (hne : Nat.beq i id = false) (j : E K n Q (.exit i) s A h) : E K n (Exit.inBlock id Q) (.exit i) s A h := fun a w H S => by
 have hn : i ≠ id := fun e => by subst e; simp at hne
 simp only [Exit.inBlock, hn, if_false]; exact j a w H S
theorem least {p : Nat → Prop} (h : ∃ k, p k) : ∃ k, p k ∧ ∀ j, p j → k ≤ j := by
 obtain ⟨k, hk⟩ := h
 induction k using Nat.strongRecOn with
 | _ k ih =>
  by_cases hx : ∃ j, j < k ∧ p j
  ·obtain ⟨j, hj, hp⟩ := hx; exact ih j hj hp
  ·exact ⟨k, hk, fun j hj => Nat.le_of_not_lt fun hlt => hx ⟨j, hlt, hj⟩⟩
open Classical in
noncomputable def leastOf (p : Nat → Prop) : Nat := if h : ∃ k, p k then Classical.choose (least h) else 0
theorem leastOf_spec {p : Nat → Prop} (h : ∃ k, p k) : p (leastOf p) ∧ ∀ j, p j → leastOf p ≤ j := by
 unfold leastOf
 rw [dif_pos h]
 exact Classical.choose_spec (least h)
theorem WC.loop {ro : Option (Option Nat)} {c : Code} {a : Act} {w : World} (I : Act → World → Prop) (μ : Act → World → Nat) (h0 : I a w)
  (round : ∀ a w, I a w → WC P ro c (fun e a' w' => match e with | .normal => I a' w' ∧ μ a' w' < μ a w | e => Q e a' w') a w) : WC P ro (.loop c) Q a w := by
 cases ro with
 | none =>
  refine wp_loop I μ h0 fun a w hi => Code.wp_mono (fun e a' w' q => ?_) (round a w hi)
  cases e <;> exact q
 | some l =>
  refine wpIn_loop I μ h0 fun a w hi => wpIn_mono (round a w hi) (fun e a' w' q => ?_)
  cases e <;> exact q
theorem WC.mono {ro : Option (Option Nat)} {c : Code} {a : Act} {w : World} {Q Q' : Exit → Act → World → Prop} (hq : ∀ e a w, Q e a w → Q' e a w) (hc : WC P ro c Q a w) : WC P ro c Q' a w := by
 cases ro with
 | none => exact Code.wp_mono (fun e a w => hq e a w) hc
 | some l => exact wpIn_mono hc hq
theorem J.loopN {σ : Type} (I : σ → Prop) (μ : σ → Nat) (N : σ → Fr) (S : σ → St) (M : σ → List Asrt) (F : σ → FH) {c : Code} (x0 : σ) (hI : I x0) (hn : ∀ x, (N x).ro = n.ro) (h0 : N x0 = n)
  (round : ∀ x, I x → J P K (N x) c (Exit.then (fun a w => ∃ y, I y ∧ μ y < μ x ∧ Holds (N y) (S y) a ∧ SH K (F y) w (M y)) Q) (S x) (M x) (F x)) :
  J P K n (.loop c) Q (S x0) (M x0) (F x0) := fun a w H Sh => by
 refine WC.loop (fun a w => ∃ x, I x ∧ Holds (N x) (S x) a ∧ SH K (F x) w (M x)) (fun a w => leastOf fun k => ∃ x, μ x = k ∧ I x ∧ Holds (N x) (S x) a ∧ SH K (F x) w (M x)) ⟨x0, hI, by rw [h0]; exact H, Sh⟩ ?_
 intro a w hx
 have he : ∃ k, ∃ x, μ x = k ∧ I x ∧ Holds (N x) (S x) a ∧ SH K (F x) w (M x) := by obtain ⟨x, h⟩ := hx; exact ⟨μ x, x, rfl, h⟩
 obtain ⟨⟨x, h0, h1, h2, h3⟩, _⟩ := leastOf_spec he
 have hr := round x h1 a w h2 h3
 rw [hn] at hr
 refine WC.mono (fun e a' w' q => ?_) hr
 cases e with
 | normal =>
  obtain ⟨y, y1, y2, y3, y4⟩ := q
  refine ⟨⟨y, y1, y3, y4⟩, ?_⟩
  have hl := (leastOf_spec (p := fun k => ∃ x, μ x = k ∧ I x ∧ Holds (N x) (S x) a' ∧ SH K (F x) w' (M x)) ⟨μ y, y, rfl, y1, y3, y4⟩).2 (μ y) ⟨y, rfl, y1, y3, y4⟩
  exact Nat.lt_of_le_of_lt hl (by rw [← h0]; exact y2)
 | exit id => exact q
 | goto l => exact q
 | ret => exact q
 | panic ch => exact q
 | outgrown => exact q
theorem J.loop {σ : Type} (I : σ → Prop) (μ : σ → Nat) (S : σ → St) (M : σ → List Asrt) (F : σ → FH) {c : Code} (x0 : σ) (hI : I x0)
  (round : ∀ x, I x → J P K n c (Exit.then (fun a w => ∃ y, I y ∧ μ y < μ x ∧ Holds n (S y) a ∧ SH K (F y) w (M y)) Q) (S x) (M x) (F x)) :
  J P K n (.loop c) Q (S x0) (M x0) (F x0) := J.loopN I μ (fun _ => n) S M F x0 hI (fun _ => rfl) rfl round
theorem E.round {σ : Type} {I : σ → Prop} {μ : σ → Nat} {S : σ → St} {M : σ → List Asrt} {F : σ → FH} {m : Nat} (y : σ) (hI : I y) (hμ : μ y < m) (hs : SubSt (S y) s) (hm : M y = A) (hf : FH.le (F y) h) :
  E K n (Exit.then (fun a w => ∃ y, I y ∧ μ y < m ∧ Holds n (S y) a ∧ SH K (F y) w (M y)) Q) .normal s A h :=
 fun a w H Sh => ⟨y, hI, hμ, H.sub hs, by rw [hm]; exact Sh.anti hf⟩
end
end Go.Proofs.YtimillpakjgnoaaGreat.Pl

namespace Go.Proofs.YtimillpakjgnoaaGreat.Pl
open Go Go.RowKit
def TOne (P : Program) (t : TypeId) : Prop := ∀ w, (isAgg t).run P w = .ok false w ∧ (sizeOf t).run P w = .ok 1 w
def TAgg (P : Program) (t : TypeId) (k : Nat) : Prop := ∀ w, (isAgg t).run P w = .ok true w ∧ (sizeOf t).run P w = .ok k w
def TZero (P : Program) (t : TypeId) (zs : List Value) : Prop := ∃ z : Value, z.cells.toList = zs ∧ ∀ w, (zeroValue t).run P w = .ok z w
def FldAt (P : Program) (t : TypeId) (f off : Nat) : Prop := ∀ a w, (Instr.fieldAt t (.pointer (some a)) f).run P w = .ok (.pointer (some (a.add off))) w
structure TSl (P : Program) (t e : TypeId) (sz bytes : Nat) (zs : List Value) : Prop where
 und : P.underlying t = some (.slice e)
 info : ∃ i z, P.info? e = some i ∧ i.zero = some z ∧ i.size = sz ∧ i.bytes = bytes ∧ z.cells.toList = zs
def TIsSl (P : Program) (t : TypeId) : Prop := ∃ e, P.underlying t = some (.slice e)
theorem TSl.is {P : Program} {t e : TypeId} {sz bytes : Nat} {zs : List Value} (h : TSl P t e sz bytes zs) : TIsSl P t := ⟨e, h.und⟩
structure TBld (P : Program) (t : TypeId) (zs : List Value) (pl : List (Nat × Nat)) : Prop where
 run : ∀ (parts : Array (Nat × Value)) w, (Instr.build t parts).run P w = (match Instr.fill (fun i => pl[i]?) zs.toArray parts.toList with
  | some cells => .ok (.agg cells) w
  | none => (stuck "build: no such field, or a part of the wrong size" : Sem Value).run P w)
section
variable {P : Program}
theorem tOne_mk {t : TypeId} {d : TypeDesc} (hu : P.underlying t = some d) (hd : (match d with | .struct _ | .array _ _ => true | _ => false) = false) (hs : P.cellsOf t = 1) : TOne P t := by
 intro w
 obtain ⟨i, hi, hsz⟩ : ∃ i, P.info? t = some i ∧ i.size = 1 := by
  unfold Program.cellsOf at hs
  cases hh : P.info? t with
  | none => rw [hh] at hs; simp at hs
  | some i => rw [hh] at hs; exact ⟨i, rfl, by simpa using hs⟩
 refine ⟨?_, by simp [sizeOf, typeInfo, hi, hsz]⟩
 unfold isAgg
 rw [Sem.run_bind, run_underlying hu]
 cases d <;> first | rfl | (simp at hd)
theorem tAgg_mk {t : TypeId} {d : TypeDesc} {k : Nat} (hu : P.underlying t = some d) (hd : (match d with | .struct _ | .array _ _ => true | _ => false) = true) (hs : (P.info? t).map (·.size) = some k) : TAgg P t k := by
 intro w
 obtain ⟨i, hi, hsz⟩ := Option.map_eq_some_iff.1 hs
 refine ⟨?_, by simp [sizeOf, typeInfo, hi, hsz]⟩
 unfold isAgg
 rw [Sem.run_bind, run_underlying hu]
 cases d <;> first | rfl | (simp at hd)
theorem tZero_mk {t : TypeId} {z : Value} {zs : List Value} (h : ((P.info? t).bind (·.zero)) = some z) (hz : z.cells.toList = zs) : TZero P t zs := by
 obtain ⟨i, hi, hzz⟩ := Option.bind_eq_some_iff.1 h
 exact ⟨z, hz, fun w => by simp [zeroValue, typeInfo, hi, hzz]⟩
theorem tSl_mk {t e : TypeId} {sz bytes : Nat} {z : Value} {zs : List Value} (hu : P.underlying t = some (.slice e)) (h : (P.info? e).map (fun i => (i.zero, i.size, i.bytes)) = some (some z, sz, bytes)) (hz : z.cells.toList = zs) : TSl P t e sz bytes zs := by
 obtain ⟨i, hi, hz0, hz1, hz2⟩ := info_parts h
 exact ⟨hu, i, z, hi, hz0, hz1, hz2, hz⟩
theorem fldAt_mk {t : TypeId} {f off : Nat} {fs : Array Field} (hu : P.underlying t = some (.struct fs)) (h : (fs[f]?).map (fun x => (x.offset, P.cellsOf x.type == 0)) = some (off, false)) : FldAt P t f off := by
 intro a w
 obtain ⟨x, hx, he⟩ := Option.map_eq_some_iff.1 h
 simp only [Prod.mk.injEq] at he
 obtain ⟨rfl, h0⟩ := he
 have hne : P.cellsOf x.type ≠ 0 := by simpa using h0
 obtain ⟨i, hi, hsz⟩ : ∃ i, P.info? x.type = some i ∧ i.size ≠ 0 := by
  unfold Program.cellsOf at hne
  cases hh : P.info? x.type with
  | none => rw [hh] at hne; simp at hne
  | some i => rw [hh] at hne; exact ⟨i, rfl, by simpa using hne⟩
 simp [Instr.fieldAt, run_underlying hu, hx, Instr.sureAddr, fieldPlace, sizeOf, typeInfo, hi, hsz]
theorem tBld_mk {t : TypeId} {zs : List Value} {pl : List (Nat × Nat)} {fs : Array Field} {z : Value} (hu : P.underlying t = some (.struct fs)) (hz : ((P.info? t).bind (·.zero)) = some z) (hzs : z.cells.toList = zs)
  (hp : fs.toList.map (fun f => (P.info? f.type).map (fun i => (f.offset, i.size))) = pl.map some) : TBld P t zs pl := by
 refine ⟨fun parts w => ?_⟩
 obtain ⟨i, hi, hzz⟩ := Option.bind_eq_some_iff.1 hz
 have key : ∀ (l : List Field) (pl : List (Nat × Nat)), l.map (fun f => (P.info? f.type).map (fun i => (f.offset, i.size))) = pl.map some → (l.mapM (fun f => do pure (f.offset, ← sizeOf f.type) : Field → Sem (Nat × Nat))).run P w = .ok pl w := by
  intro l
  induction l with
  | nil => intro pl h; cases pl with
   | nil => rfl
   | cons p r => simp at h
  | cons f r ih => intro pl h; cases pl with
   | nil => simp at h
   | cons p q =>
    simp only [List.map_cons, List.cons.injEq] at h
    obtain ⟨h1, h2⟩ := h
    obtain ⟨j, hj, hj2⟩ := Option.map_eq_some_iff.1 h1
    have e := ih q h2
    simp only [List.mapM_cons, Sem.run_bind, sizeOf, typeInfo, run_program, Result.andThen_ok, hj, Sem.run_pure, hj2] at e ⊢
    rw [e]
    rfl
 have e : (fs.mapM (fun f => do pure (f.offset, ← sizeOf f.type) : Field → Sem (Nat × Nat))).run P w = .ok pl.toArray w := by
  rw [← Array.toArray_toList (xs := fs), List.mapM_toArray, Sem.run_map, key _ _ hp]; rfl
 have hzc : z.cells = zs.toArray := by rw [← hzs]
 have e2 : (fun i : Nat => pl.toArray[i]?) = (fun i : Nat => pl[i]?) := by funext i; simp
 unfold Instr.build
 simp only [Sem.run_bind, zeroValue, typeInfo, run_program, hi, hzz, Sem.run_pure, Result.andThen_ok, run_underlying hu, e, hzc, e2]
 cases Instr.fill (fun i => pl[i]?) zs.toArray parts.toList <;> rfl
variable {K : Kp} {n : Fr} {ops : Array Oper} {Q : Exit → Act → World → Prop} {s : St} {A : List Asrt} {h : FH} {rest : List Oper}
def VF (P : Program) (K : Kp) (n : Fr) (s : St) (A : List Asrt) (h : FH) (o : Oper) (v : Value) : Prop := ∀ a w, Holds n s a → SH K h w A → (execOp a.eval o).run P w = .ok (.value v) w
def CF (P : Program) (K : Kp) (n : Fr) (s : St) (A : List Asrt) (h : FH) (o : Oper) (v : Value) : Prop := ∀ a w, Holds n s a → SH K h w A →
 ∃ f args, (execOp a.eval o).run P w = .ok (.enter f args) w ∧ Calls P f args w fun e w' => e = .returned v ∧ Below w.heap.size w w'
theorem calls_FR {l : Option Nat} {m : Nat} {f : FuncId} {args : Array Value} {w : World} {R : Ending → World → Prop} (h : Calls P f args w R) : CallsIn (FR l) m P f args w R := by
 have h1 : CallsIn Fence.wide m P f args w R := callsIn_wide.2 h
 cases l with
 | none => exact h1
 | some l => exact CallsIn.inRound l h1
theorem WL.val {ro : Option (Option Nat)} {o : Oper} {a : Act} {w w' : World} {v : Value} (hg : o.guard = none) (hr : (execOp a.eval o).run P w = .ok (.value v) w') (k : WL P ro ops Q rest (a.put o.dst v) w') : WL P ro ops Q (o :: rest) a w := by
 cases ro with
 | none =>
  refine wpList_plain hg fun Kc hK => ?_
  unfold Oper.wp
  rw [hr]
  exact hK _ _ k
 | some l =>
  refine wpListIn_plain hg fun Kc hK => ⟨fun _ _ => trivial, ?_⟩
  rw [Oper.semAt_eq _ _ _ (fun c e => by
   simp only [execOp, e, Sem.run_bind] at hr
   cases q : (resolve a.eval c o.type).run P w with
   | ok x y => rw [q] at hr; simp at hr
   | halt x y => rw [q] at hr; simp at hr), hr]
  exact hK _ _ k
theorem WL.skip {ro : Option (Option Nat)} {o : Oper} {a : Act} {w w' : World} (hg : o.guard = none) (hr : (execOp a.eval o).run P w = .ok .skip w') (k : WL P ro ops Q rest (a.put o.dst undef) w') : WL P ro ops Q (o :: rest) a w := by
 cases ro with
 | none =>
  refine wpList_plain hg fun Kc hK => ?_
  unfold Oper.wp
  rw [hr]
  exact hK _ _ k
 | some l =>
  refine wpListIn_plain hg fun Kc hK => ⟨fun _ _ => trivial, ?_⟩
  rw [Oper.semAt_eq _ _ _ (fun c e => by
   simp only [execOp, e, Sem.run_bind] at hr
   cases q : (resolve a.eval c o.type).run P w with
   | ok x y => rw [q] at hr; simp at hr
   | halt x y => rw [q] at hr; simp at hr), hr]
  exact hK _ _ k
theorem WL.enter {ro : Option (Option Nat)} {o : Oper} {a : Act} {w w' : World} {f : FuncId} {args : Array Value} (hg : o.guard = none) (hr : (execOp a.eval o).run P w = .ok (.enter f args) w') (hc : Calls P f args w' fun e w'' => ∃ v, e = .returned v ∧ WL P ro ops Q rest (a.put o.dst v) w'') : WL P ro ops Q (o :: rest) a w := by
 cases ro with
 | none =>
  refine wpList_plain hg fun Kc hK => ?_
  unfold Oper.wp
  rw [hr]
  refine hc.mono fun e w'' ⟨v, he, k⟩ => ?_
  subst he
  exact hK _ _ k
 | some l =>
  refine wpListIn_plain hg fun Kc hK => ⟨fun _ _ => trivial, ?_⟩
  rw [Oper.semAt_eq _ _ _ (fun c e => by
   simp only [execOp, e, Sem.run_bind] at hr
   cases q : (resolve a.eval c o.type).run P w with
   | ok x y => rw [q] at hr; simp at hr
   | halt x y => rw [q] at hr; simp at hr), hr]
  refine ⟨fun h => (by cases h), calls_FR (hc.mono fun e w'' ⟨v, he, k⟩ => ?_)⟩
  subst he
  exact hK _ _ k
theorem WL.want {ro : Option (Option Nat)} {o : Oper} {a : Act} {w : World} (hw : Region.wanted o (yielded ops a.tmps) = true) (k : WL P ro ops Q (⟨o.dst, o.op, o.type, o.pos, o.after, none⟩ :: rest) a w) : WL P ro ops Q (o :: rest) a w := by
 cases ro with
 | none =>
  unfold WL at k ⊢
  unfold wpList at k ⊢
  simp only [Region.wanted, if_true] at k
  rw [if_pos hw]
  exact k
 | some l =>
  unfold WL at k ⊢
  simp only [wpListIn] at k ⊢
  simp only [Region.wanted, if_true] at k
  rw [if_pos hw]
  exact k
theorem WL.pass {ro : Option (Option Nat)} {o : Oper} {a : Act} {w : World} (hw : Region.wanted o (yielded ops a.tmps) = false) (k : WL P ro ops Q rest (a.put o.dst undef) w) : WL P ro ops Q (o :: rest) a w := by
 cases ro with
 | none =>
  unfold WL at k ⊢
  unfold wpList
  rw [if_neg (by rw [hw]; decide)]
  exact k
 | some l =>
  unfold WL at k ⊢
  simp only [wpListIn]
  rw [if_neg (by rw [hw]; decide)]
  exact ⟨fun _ _ => trivial, k⟩
theorem JL.v {o : Oper} {d : Nat} {v : Value} (hx : VF P K n s A h o v) (hg : o.guard = none) (hd : o.dst = some d) (hn : Nat.blt d n.sz = true)
  (k : JL P K n ops rest Q ((d, v) :: s) A h) : JL P K n ops (o :: rest) Q s A h :=
 fun a w H S => WL.val hg (hx a w H S) (k _ w (by rw [hd]; exact H.put v hn) S)
theorem JL.c {o : Oper} {d : Nat} {v : Value} (hx : CF P K n s A h o v) (hg : o.guard = none) (hd : o.dst = some d) (hn : Nat.blt d n.sz = true)
  (k : JL P K n ops rest Q ((d, v) :: s) A h) : JL P K n ops (o :: rest) Q s A h :=
 fun a w H S => by
  obtain ⟨f, args, hr, hc⟩ := hx a w H S
  exact WL.enter hg hr (hc.mono fun e w' ⟨he, hb⟩ => ⟨v, he, k _ w' (by rw [hd]; exact H.put v hn) (S.ext hb)⟩)
theorem JL.valW {o : Oper} {d : Nat} (hg : o.guard = none) (hd : o.dst = some d) (hn : Nat.blt d n.sz = true)
  (hx : ∀ a w, Holds n s a → SH K h w A → ∃ v w' A' h', (execOp a.eval o).run P w = .ok (.value v) w' ∧ SH K h' w' A' ∧ JL P K n ops rest Q ((d, v) :: s) A' h') : JL P K n ops (o :: rest) Q s A h :=
 fun a w H S => by
  obtain ⟨v, w', A', h', hr, hs, k⟩ := hx a w H S
  exact WL.val hg hr (k _ w' (by rw [hd]; exact H.put v hn) hs)
theorem JL.skipW {o : Oper} (hg : o.guard = none) (hd : o.dst = none)
  (hx : ∀ a w, Holds n s a → SH K h w A → ∃ w' A' h', (execOp a.eval o).run P w = .ok .skip w' ∧ SH K h' w' A' ∧ JL P K n ops rest Q s A' h') : JL P K n ops (o :: rest) Q s A h :=
 fun a w H S => by
  obtain ⟨w', A', h', hr, hs, k⟩ := hx a w H S
  exact WL.skip hg hr (k _ w' (by rw [hd]; exact H) hs)
theorem JL.callW {o : Oper} {d : Nat} {f : FuncId} {args : Array Value} (hg : o.guard = none) (hd : o.dst = some d) (hn : Nat.blt d n.sz = true)
  (hx : ∀ a w, Holds n s a → SH K h w A → (execOp a.eval o).run P w = .ok (.enter f args) w)
  (hc : ∀ w, SH K h w A → Calls P f args w fun e w' => ∃ v A' h', e = .returned v ∧ SH K h' w' A' ∧ JL P K n ops rest Q ((d, v) :: s) A' h') : JL P K n ops (o :: rest) Q s A h :=
 fun a w H S => WL.enter hg (hx a w H S) ((hc w S).mono fun e w' ⟨v, A', h', he, hs, k⟩ => ⟨v, he, k _ w' (by rw [hd]; exact H.put v hn) hs⟩)
section ops
variable {dd : Option Tmp} {gd : Option (Nat × Bool)} {ty : TypeId} {pos : String} {af : Array Edge}
theorem mv {x : Operand} {v : Value} (hx : ev s x = some v) : VF P K n s A h ⟨dd, .move x, ty, pos, af, gd⟩ (v) :=
 (fun a w H _ => by simp [execOp, H.ev hx])
theorem asg {x : Operand} {v : Value} (hx : ev s x = some v) : VF P K n s A h ⟨dd, .assign x, ty, pos, af, gd⟩ (v) :=
 (fun a w H _ => by simp [execOp, H.ev hx])
theorem pkT {c x y : Operand} {b : Bool} {v : Value} (hc : ev s c = some (.bool b)) (hb : b = true) (hx : ev s x = some v) : VF P K n s A h ⟨dd, .pick c x y, ty, pos, af, gd⟩ (v) :=
 (fun a w H _ => by subst hb; simp [execOp, H.ev hc, H.ev hx, asBool])
theorem pkF {c x y : Operand} {b : Bool} {v : Value} (hc : ev s c = some (.bool b)) (hb : b = false) (hy : ev s y = some v) : VF P K n s A h ⟨dd, .pick c x y, ty, pos, af, gd⟩ (v) :=
 (fun a w H _ => by subst hb; simp [execOp, H.ev hc, H.ev hy, asBool])
def ibin (op : BinOp) (k : IntKind) (x y : Int) : Option Value :=
 match op with
 | .add => some (.int k (k.wrap (x + y)))
 | .sub => some (.int k (k.wrap (x - y)))
 | .mul => some (.int k (k.wrap (x * y)))
 | .eql => some (.bool (x == y))
 | .neq => some (.bool (x != y))
 | .lss => some (.bool (decide (x < y)))
 | .leq => some (.bool (decide (x ≤ y)))
 | .gtr => some (.bool (decide (y < x)))
 | .geq => some (.bool (decide (y ≤ x)))
 | .and => some (.int k (bits .and k x y))
 | .or => some (.int k (bits .or k x y))
 | .xor => some (.int k (bits .xor k x y))
 | .andNot => some (.int k (bits .andNot k x y))
 | _ => none
theorem run_ibin {op : BinOp} {ki : IntKind} {i j : Int} {v : Value} (hv : ibin op ki i j = some v) (x y : Operand) (t : TypeId) (w : World) :
  (eqGuard op t x y (.int ki i) (.int ki j)).run P w = .ok () w ∧ (binOp op t (.int ki i) (.int ki j)).run P w = .ok v w := by
 refine ⟨by rw [eqGuard_at_int]; rfl, ?_⟩
 cases op <;> simp only [ibin] at hv <;> first | (cases hv; done) | (obtain rfl := Option.some.inj hv; first | (rw [binOp_add]; rfl) | (rw [binOp_sub]; rfl) | (rw [binOp_mul]; rfl) | (rw [binOp_and]; rfl) | (rw [binOp_or]; rfl) | (rw [binOp_xor]; rfl) | (rw [binOp_andNot]; rfl) | (rw [binOp_eql]; rfl) | (rw [binOp_neq]; rfl) | (rw [binOp_lss]; rfl) | (rw [binOp_leq]; rfl) | (rw [binOp_gtr]; rfl) | (rw [binOp_geq]; rfl))
theorem bi {op : BinOp} {x y : Operand} {t t' : TypeId} {ki : IntKind} {i j : Int} {v : Value} (hx : ev s x = some (.int ki i)) (hy : ev s y = some (.int ki j)) (hv : ibin op ki i j = some v) : VF P K n s A h ⟨dd, .binOp op t x y t', ty, pos, af, gd⟩ (v) :=
 (fun a w H _ => by
  obtain ⟨e1, e2⟩ := run_ibin (P := P) hv x y t w
  simp [execOp, H.ev hx, H.ev hy, e1, e2])
theorem bq {x y : Operand} {t t' : TypeId} {ki : IntKind} {i j : Int} (hx : ev s x = some (.int ki i)) (hy : ev s y = some (.int ki j)) (h0 : j ≠ 0) : VF P K n s A h ⟨dd, .binOp .quo t x y t', ty, pos, af, gd⟩ (.int ki (ki.wrap (i.tdiv j))) :=
 (fun a w H _ => by simp [execOp, H.ev hx, H.ev hy, eqGuard_at_int, binOp_quo, Op.intDiv, h0])
def shiftV (op : BinOp) (k : IntKind) (x y : Int) : Option Value :=
 match op with
 | .shl => some (.int k (k.wrap (x * 2 ^ (min y.toNat k.bits))))
 | .shr => some (.int k (x.fdiv (2 ^ (min y.toNat k.bits))))
 | _ => none
theorem bsh {op : BinOp} {x y : Operand} {t t' : TypeId} {ki kj : IntKind} {i j : Int} {v : Value} (hx : ev s x = some (.int ki i)) (hy : ev s y = some (.int kj j)) (h0 : 0 ≤ j) (hv : shiftV op ki i j = some v) : VF P K n s A h ⟨dd, .binOp op t x y t', ty, pos, af, gd⟩ (v) :=
 (fun a w H _ => by
  have h0' : ¬ j < 0 := by omega
  cases op <;> simp only [shiftV] at hv <;> first | (cases hv; done) | (obtain rfl := Option.some.inj hv; simp [execOp, H.ev hx, H.ev hy, eqGuard_at_int, binOp_shl, binOp_shr, Op.shift, h0']))
theorem nt {x : Operand} {t : TypeId} {b : Bool} (hx : ev s x = some (.bool b)) : VF P K n s A h ⟨dd, .unOp .not t x, ty, pos, af, gd⟩ (.bool (!b)) :=
 (fun a w H _ => by simp [execOp, H.ev hx, Op.unary])
theorem JL.gR {o : Oper} {g t : Nat} {want b : Bool} (hg : o.guard = some (g, want)) (ht : (ops[g]?).bind (·.dst) = some t) (hv : get s t = some (.bool b)) (hb : b = want)
  (k : JL P K n ops (⟨o.dst, o.op, o.type, o.pos, o.after, none⟩ :: rest) Q s A h) : JL P K n ops (o :: rest) Q s A h := fun a w H S => by
 have hy : yielded ops a.tmps g = some b := by unfold yielded; rw [ht]; simp [H.slots t _ hv]
 exact WL.want (by simp [Region.wanted, hg, hy, hb]) (k a w H S)
theorem JL.gS {o : Oper} {g t d : Nat} {want b : Bool} (hg : o.guard = some (g, want)) (ht : (ops[g]?).bind (·.dst) = some t) (hv : get s t = some (.bool b)) (hb : b = !want) (hd : o.dst = some d) (hn : Nat.blt d n.sz = true)
  (k : JL P K n ops rest Q ((d, undef) :: s) A h) : JL P K n ops (o :: rest) Q s A h := fun a w H S => by
 have hy : yielded ops a.tmps g = some b := by unfold yielded; rw [ht]; simp [H.slots t _ hv]
 exact WL.pass (by simp [Region.wanted, hg, hy, hb]) (k _ w (by rw [hd]; exact H.put undef hn) S)
theorem JL.gU {o : Oper} {g t d : Nat} {want : Bool} (hg : o.guard = some (g, want)) (ht : (ops[g]?).bind (·.dst) = some t) (hv : get s t = some undef) (hd : o.dst = some d) (hn : Nat.blt d n.sz = true)
  (k : JL P K n ops rest Q ((d, undef) :: s) A h) : JL P K n ops (o :: rest) Q s A h := fun a w H S => by
 have hy : yielded ops a.tmps g = none := by unfold yielded; rw [ht]; simp [H.slots t _ hv, undef]
 exact WL.pass (by simp [Region.wanted, hg, hy]) (k _ w (by rw [hd]; exact H.put undef hn) S)
theorem JL.gv {o : Oper} {g t d : Nat} {want b : Bool} {v : Value} (hx : VF P K n s A h o v) (hg : o.guard = some (g, want)) (ht : (ops[g]?).bind (·.dst) = some t) (hv : get s t = some (.bool b)) (hb : b = want) (hd : o.dst = some d) (hn : Nat.blt d n.sz = true)
  (k : JL P K n ops rest Q ((d, v) :: s) A h) : JL P K n ops (o :: rest) Q s A h := .gR hg ht hv hb (.v (o := ⟨o.dst, o.op, o.type, o.pos, o.after, none⟩) hx rfl hd hn k)
theorem JL.gc {o : Oper} {g t d : Nat} {want b : Bool} {v : Value} (hx : CF P K n s A h o v) (hg : o.guard = some (g, want)) (ht : (ops[g]?).bind (·.dst) = some t) (hv : get s t = some (.bool b)) (hb : b = want) (hd : o.dst = some d) (hn : Nat.blt d n.sz = true)
  (k : JL P K n ops rest Q ((d, v) :: s) A h) : JL P K n ops (o :: rest) Q s A h := .gR hg ht hv hb (.c (o := ⟨o.dst, o.op, o.type, o.pos, o.after, none⟩) hx rfl hd hn k)
theorem fa {x : Operand} {t : TypeId} {f off : Nat} {p : Addr} (hx : ev s x = some (.pointer (some p))) (hf : FldAt P t f off) : VF P K n s A h ⟨dd, .fieldAddr t x f, ty, pos, af, gd⟩ (.pointer (some (p.add off))) :=
 (fun a w H _ => by simp [execOp, H.ev hx, hf p w])
theorem nck {x : Operand} {p : Addr} (hx : ev s x = some (.pointer (some p))) : VF P K n s A h ⟨dd, .nilCheck x, ty, pos, af, gd⟩ (.pointer (some p)) :=
 (fun a w H _ => by simp [execOp, H.ev hx])
def ead (a : Option Addr) (k : Nat) : Addr := match a with | some x => x.add k | none => default
theorem ix {x y : Operand} {t e : TypeId} {a : Option Addr} {len cap sz by_ : Nat} {zs : List Value} {ki : IntKind} {i : Int} (hx : ev s x = some (.slice a len cap)) (hy : ev s y = some (.int ki i)) (ht : TSl P t e sz by_ zs) (ha : a ≠ none) (hi : 0 ≤ i ∧ i < len) : VF P K n s A h ⟨dd, .indexAddr t x y, ty, pos, af, gd⟩ (.pointer (some (ead a (i.toNat * sz)))) :=
 (fun ac w H _ => by
  obtain ⟨ii, z, h1, h2, h3, h4, h5⟩ := ht.info
  cases a with
  | none => exact absurd rfl ha
  | some p => simp [execOp, H.ev hx, H.ev hy, Instr.indexAt, asIntOf, run_underlying ht.und, sizeOf, typeInfo, h1, h3, hi, ead])
theorem ln {x : Operand} {t : TypeId} {a : Option Addr} {len cap : Nat} (hx : ev s x = some (.slice a len cap)) (ht : TIsSl P t) : VF P K n s A h ⟨dd, .call { callee := .builtin .len, args := #[x], argTypes := #[t] }, ty, pos, af, gd⟩ (.int .i64 (len : Int)) :=
 (fun ac w H _ => by
  obtain ⟨e, he⟩ := ht
  simp [execOp, resolve, invoke, builtin, H.ev hx, Builtin.len_, run_underlying he, goInt])
theorem ext {x : Operand} {vs : Array Value} {i : Nat} {v : Value} (hx : ev s x = some (.tuple vs)) (hv : vs[i]? = some v) : VF P K n s A h ⟨dd, .extract x i, ty, pos, af, gd⟩ (v) :=
 (fun ac w H _ => by simp [execOp, H.ev hx, Instr.extract, hv])
theorem bld {t : TypeId} {parts : Array (Nat × Operand)} {zs : List Value} {pl : List (Nat × Nat)} {pv : List (Nat × Value)} {cs : Array Value} (ht : TBld P t zs pl) (hp : (parts.toList.map (fun p => (ev s p.2).map (fun v => (p.1, v)))) = pv.map some)
  (hf : Instr.fill (fun i => pl[i]?) zs.toArray pv = some cs) : VF P K n s A h ⟨dd, .build t parts, ty, pos, af, gd⟩ (.agg cs) :=
 (fun ac w H _ => by
  have key : ∀ (l : List (Nat × Operand)) (pv : List (Nat × Value)), (l.map (fun p => (ev s p.2).map (fun v => (p.1, v)))) = pv.map some → l.map (fun p => (p.1, ac.eval p.2)) = pv := by
   intro l
   induction l with
   | nil => intro pv hpv; cases pv with
    | nil => rfl
    | cons p r => simp at hpv
   | cons x r ih => intro pv hpv; cases pv with
    | nil => simp at hpv
    | cons p q =>
     simp only [List.map_cons, List.cons.injEq] at hpv
     obtain ⟨h1, h2⟩ := hpv
     obtain ⟨v, hv, hv2⟩ := Option.map_eq_some_iff.1 h1
     simp only [List.map_cons, ih q h2, H.ev hv, hv2]
  have e : (parts.map (fun x => (x.1, ac.eval x.2))).toList = pv := by rw [Array.toList_map]; exact key _ _ hp
  have e2 : (Instr.build t (parts.map (fun x => (x.1, ac.eval x.2)))).run P w = .ok (.agg cs) w := by rw [ht.run, e, hf]
  simp [execOp, e2])
theorem mkf {fn : Fn} {first cap : Array Operand} {vf vc : List Value} (h1 : evs s first.toList = some vf) (h2 : evs s cap.toList = some vc) : VF P K n s A h ⟨dd, .makeFunc fn first cap, ty, pos, af, gd⟩ (.func fn vf.toArray vc.toArray) :=
 (fun ac w H _ => by
  have e1 : first.map ac.eval = vf.toArray := by rw [← Array.toArray_toList (xs := first), List.map_toArray, H.evs h1]
  have e2 : cap.map ac.eval = vc.toArray := by rw [← Array.toArray_toList (xs := cap), List.map_toArray, H.evs h2]
  simp [execOp, Instr.makeFunc, e1, e2])
end ops
end
end Go.Proofs.YtimillpakjgnoaaGreat.Pl

namespace Go.Proofs.YtimillpakjgnoaaGreat.Pl
open Go Go.RowKit
def Box (p : Addr) (cs : List Value) : Asrt := fun g => ∃ b t, p = ⟨b, 0, none⟩ ∧ g = FH.one b (.cells cs.toArray t (0, 0))
def OwnSl (e : TypeId) (sz : Nat) (a : Option Addr) (n c : Nat) (cs : List Value) : Asrt := fun g =>
 cs.length = n * sz ∧ ((a = none ∧ n = 0 ∧ c = 0 ∧ g = fun _ => none) ∨
  ∃ b cur, a = some ⟨b, 0, none⟩ ∧ g = FH.one b (.cells cur e (0, 0)) ∧ n ≤ c ∧ c ≤ maxLen ∧ cur.size = c * sz ∧ cur.toList.take (n * sz) = cs)
def CellsAt (h : FH) (p : Addr) (cs : List Value) : Prop := ∀ j v, cs[j]? = some v → h.cell (p.add j) = some v
theorem CellsAt.mono {h h' : FH} (hl : FH.le h h') {p : Addr} {cs : List Value} (c : CellsAt h p cs) : CellsAt h' p cs := fun j v e => FH.cell_mono hl (c j v e)
def RawSl (h : FH) (a : Option Addr) (cs : List Value) : Prop := ∀ j v, cs[j]? = some v → a ≠ none ∧ h.cell (ead a j) = some v
theorem RawSl.mono {h h' : FH} (hl : FH.le h h') {a : Option Addr} {cs : List Value} (c : RawSl h a cs) : RawSl h' a cs := fun j v e => ⟨(c j v e).1, FH.cell_mono hl (c j v e).2⟩
theorem add_add (a : Addr) (i j : Nat) : (a.add i).add j = a.add (i + j) := by
 unfold Addr.add
 by_cases hi : i = 0 <;> by_cases hj : j = 0 <;> simp [hi, hj, Nat.add_assoc]
theorem add_zero (a : Addr) : a.add 0 = a := rfl
theorem ead_add {a : Option Addr} (ha : a ≠ none) (i j : Nat) : (ead a i).add j = ead a (i + j) := by
 cases a with
 | none => exact absurd rfl ha
 | some x => exact add_add x i j
theorem add_lit (b i : Nat) : (⟨b, 0, none⟩ : Addr).add i = ⟨b, i, none⟩ := by unfold Addr.add; split <;> simp_all
theorem one_cell (b : Nat) (cs : Array Value) (t : TypeId) (i : Nat) : (FH.one b (.cells cs t (0, 0))).cell ⟨b, i, none⟩ = cs[i]? := by simp [FH.cell, FH.one]
theorem Box.cells {p : Addr} {cs : List Value} {g : FH} (h : Box p cs g) : CellsAt g p cs := by
 obtain ⟨b, t, rfl, rfl⟩ := h
 intro j v e
 rw [add_lit, one_cell]
 simpa using e
theorem OwnSl.cells {e : TypeId} {sz : Nat} {a : Option Addr} {n c : Nat} {cs : List Value} {g : FH} (h : OwnSl e sz a n c cs g) : RawSl g a cs := by
 obtain ⟨hl, ⟨rfl, rfl, rfl, rfl⟩ | ⟨b, cur, rfl, rfl, h1, h2, h3, h4⟩⟩ := h
 ·intro j v e
  have : cs = [] := List.eq_nil_of_length_eq_zero (by simpa using hl)
  subst this
  simp at e
 ·intro j v e
  refine ⟨by simp, ?_⟩
  show (FH.one b _).cell ((⟨b, 0, none⟩ : Addr).add j) = _
  rw [add_lit, one_cell]
  rw [← h4, List.getElem?_take] at e
  split at e
  ·simpa using e
  ·cases e
section
variable {P : Program} {K : Kp} {n : Fr} {ops : Array Oper} {Q : Exit → Act → World → Prop} {s : St} {A : List Asrt} {h : FH} {rest : List Oper} {d : Nat} {dd : Option Tmp} {gd : Option (Nat × Bool)} {ty : TypeId} {pos : String} {af : Array Edge}
theorem ld1 {x : Operand} {t : TypeId} {p : Addr} {v : Value} (hx : ev s x = some (.pointer (some p))) (ht : TOne P t) (hc : ∀ w, SH K h w A → w.cell? p = some v) : VF P K n s A h ⟨dd, .load t x, ty, pos, af, gd⟩ (v) :=
 (fun ac w H S => by
  simp [execOp, H.ev hx, Instr.loadAt, Instr.sureAddr, loadVar, (ht w).1, run_load, hc w S])
theorem ldA {x : Operand} {t : TypeId} {p : Addr} {cs : List Value} {m : Nat} (hx : ev s x = some (.pointer (some p))) (ht : TAgg P t m) (hm : cs.length = m) (hc : ∀ w, SH K h w A → ∀ j v, cs[j]? = some v → w.cell? (p.add j) = some v) : VF P K n s A h ⟨dd, .load t x, ty, pos, af, gd⟩ (.agg cs.toArray) :=
 (fun ac w H S => by
  subst hm
  simp [execOp, H.ev hx, Instr.loadAt, Instr.sureAddr, loadVar, (ht w).1, (ht w).2, run_loadCells_list w p cs (hc w S)])
theorem cellB {k : Nat} {p : Addr} {cs : List Value} {off : Nat} {v : Value} (hk : A[k]? = some (Box p cs)) (hv : cs[off]? = some v) : ∀ w, SH K h w A → w.cell? (p.add off) = some v := fun w S => by
 obtain ⟨g, hx, own, _⟩ := S.upd hk
 exact own.sub.cell (hx.cells off v hv)
theorem cellsB {k : Nat} {p : Addr} {cs cs' : List Value} {off m : Nat} (hk : A[k]? = some (Box p cs)) (hv : (cs.drop off).take m = cs') : ∀ w, SH K h w A → ∀ j v, cs'[j]? = some v → w.cell? ((p.add off).add j) = some v := fun w S j v e => by
 rw [add_add]
 refine cellB hk ?_ w S
 rw [← hv, List.getElem?_take] at e
 split at e
 ·rw [List.getElem?_drop] at e; exact e
 ·cases e
theorem cellS {k : Nat} {e : TypeId} {sz m c : Nat} {a : Option Addr} {cs : List Value} {i : Nat} {v : Value} (hk : A[k]? = some (OwnSl e sz a m c cs)) (hv : cs[i]? = some v) : ∀ w, SH K h w A → w.cell? (ead a i) = some v := fun w S => by
 obtain ⟨g, hx, own, _⟩ := S.upd hk
 exact own.sub.cell (hx.cells i v hv).2
theorem OwnSl.ne {e : TypeId} {sz m c : Nat} {a : Option Addr} {cs : List Value} {g : FH} (hx : OwnSl e sz a m c cs g) (hm : 0 < m) : a ≠ none := by
 rcases hx.2 with ⟨_, rfl, _⟩ | ⟨b, cur, rfl, _⟩
 ·omega
 ·simp
theorem neS {k : Nat} {e : TypeId} {sz m c : Nat} {a : Option Addr} {cs : List Value} (hk : A[k]? = some (OwnSl e sz a m c cs)) (hm : 0 < m) {w : World} (S : SH K h w A) : a ≠ none := by
 obtain ⟨g, hx, _⟩ := S.upd hk
 exact hx.ne hm
theorem ixS {x y : Operand} {t e e' : TypeId} {a : Option Addr} {k len cap sz sz' by_ : Nat} {zs cs : List Value} {ki : IntKind} {i : Int} (hx : ev s x = some (.slice a len cap)) (hy : ev s y = some (.int ki i)) (ht : TSl P t e sz by_ zs) (hk : A[k]? = some (OwnSl e' sz' a len cap cs)) (hi : 0 ≤ i ∧ i < len) : VF P K n s A h ⟨dd, .indexAddr t x y, ty, pos, af, gd⟩ (.pointer (some (ead a (i.toNat * sz)))) :=
 fun ac w H S => by
  have hne := neS hk (by omega) S
  exact ix hx hy ht hne hi ac w H S
theorem J.fact {φ : Prop} {c : Code} (hf : ∀ w, SH K h w A → φ) (k : φ → J P K n c Q s A h) : J P K n c Q s A h := fun a w H S => k (hf w S) a w H S
theorem cellH {p : Addr} {v : Value} (hv : h.cell p = some v) : ∀ w, SH K h w A → w.cell? p = some v := fun _ S => S.sub.cell hv
theorem cellsH {p : Addr} {cs : List Value} (hv : CellsAt h p cs) : ∀ w, SH K h w A → ∀ j v, cs[j]? = some v → w.cell? (p.add j) = some v := fun _ S j v e => S.sub.cell (hv j v e)
def wrL (cs : List Value) (off : Nat) (vs : List Value) : List Value := cs.take off ++ vs ++ cs.drop (off + vs.length)
theorem one_sub {b : Nat} {o : Obj} {w : World} (s : Sub (FH.one b o) w) : w.heap[b]? = some o := s b o (FH.one_self b o)
theorem store_run {w : World} {t tt : TypeId} {b off m : Nat} {v : Value} {vs : List Value} {cur : Array Value} (ht : (sizeOf t).run P w = .ok m w) (hv : v.cells.toList = vs) (hm : vs.length = m) (h1 : ∀ u ∈ vs, u.oneCell' = true)
  (hb : w.heap[b]? = some (.cells cur tt (0, 0))) (hfit : off + vs.length ≤ cur.size) :
  (Instr.storeAt t (.pointer (some ⟨b, off, none⟩)) v).run P w = .ok () (w.setRow b (wrL cur.toList off vs).toArray) := by
 have hsz : v.cells.size = m := by rw [← Array.length_toList, hv, hm]
 have e : (storeCells ⟨b, off, none⟩ vs 0).run P w = _ := run_storeCells_at P b off tt vs 0 cur w hb (by simpa using hfit) h1
 simp only [Nat.add_zero] at e
 simp only [Instr.storeAt, Instr.sureAddr, Sem.run_bind, Sem.run_pure, Result.andThen_ok, storeVar, ht, hsz, ne_eq, not_true_eq_false, if_false, hv, e, wrL, List.append_assoc]
theorem SH.wr {w : World} {k b : Nat} {cs : Array Value} {t : TypeId}
  (up : ∀ (X' : Asrt) (g' : FH) (w' : World), X' g' → Sub g' w' → (∀ b', g' b' ≠ none → FH.one b (.cells cs t (0, 0)) b' ≠ none ∨ w.heap.size ≤ b') → (∀ b', b' < w.heap.size → FH.one b (.cells cs t (0, 0)) b' = none → w'.heap[b']? = w.heap[b']?) → w'.os = w.os → w'.tape = w.tape → w'.output = w.output → w.heap.size ≤ w'.heap.size → dr w ≤ dr w' → SH K h w' (A.set k X'))
  (hb : w.heap[b]? = some (.cells cs t (0, 0))) (new : Array Value) (X' : Asrt) (hX' : X' (FH.one b (.cells new t (0, 0)))) : SH K h (w.setRow b new) (A.set k X') := by
 refine up X' _ _ hX' (Sub.one (setRow_heap w b cs _ t _ hb)) (fun b' hb' => .inl ?_) (fun b' _ hn => ?_) rfl rfl rfl (by simp) (Nat.le_refl _)
 ·rw [FH.one_ne hb', FH.one_self]; simp
 ·refine setRow_other w b b' _ (fun e => ?_)
  rw [e, FH.one_self] at hn
  cases hn
theorem st {x y : Operand} {t : TypeId} {p : Addr} {off k m : Nat} {cs vs : List Value} {v : Value} (hx : ev s x = some (.pointer (some (p.add off)))) (hy : ev s y = some v) (hv : v.cells.toList = vs) (ht : ∀ w, (sizeOf t).run P w = .ok m w) (hm : vs.length = m) (h1 : (vs.all Value.oneCell') = true)
  (hk : A[k]? = some (Box p cs)) (hoff : Nat.ble (off + m) cs.length = true) (kk : JL P K n ops rest Q s (A.set k (Box p (wrL cs off vs))) h) : JL P K n ops (⟨none, .store t x y, ty, pos, af, none⟩ :: rest) Q s A h :=
 JL.skipW rfl rfl (fun ac w H S => by
  have ho : off + vs.length ≤ cs.length := by rw [hm]; simpa using hoff
  obtain ⟨g, hb, own, up⟩ := S.upd hk
  obtain ⟨b, tt, rfl, rfl⟩ := hb
  have hbk := one_sub own.sub
  have e := store_run (P := P) (ht w) hv hm (by simpa using h1) hbk (off := off) (by simpa using ho)
  rw [add_lit] at hx
  refine ⟨w.setRow b (wrL cs.toArray.toList off vs).toArray, _, h, by simp only [execOp, H.ev hx, H.ev hy, Sem.run_bind, e]; rfl, SH.wr up hbk _ (Box ⟨b, 0, none⟩ (wrL cs off vs)) ⟨b, tt, rfl, by simp⟩, kk⟩)
theorem stS {x y : Operand} {t e : TypeId} {a : Option Addr} {p : Addr} {nn c sz off k m : Nat} {cs cs' vs : List Value} {v : Value} (hx : ev s x = some (.pointer (some p))) (hp : a ≠ none → p = ead a off) (hy : ev s y = some v) (hv : v.cells.toList = vs) (ht : ∀ w, (sizeOf t).run P w = .ok m w) (hm : vs.length = m) (h1 : (vs.all Value.oneCell') = true)
  (hk : A[k]? = some (OwnSl e sz a nn c cs)) (hne : 0 < nn) (hoff : off + m ≤ cs.length) (hcs : wrL cs off vs = cs') (kk : JL P K n ops rest Q s (A.set k (OwnSl e sz a nn c cs')) h) : JL P K n ops (⟨none, .store t x y, ty, pos, af, none⟩ :: rest) Q s A h :=
 JL.skipW rfl rfl (fun ac w H S => by
  obtain ⟨g, hb, own, up⟩ := S.upd hk
  obtain ⟨hl, ⟨_, rfl, _⟩ | ⟨b, cur, rfl, rfl, q1, q2, q3, q4⟩⟩ := hb
  ·omega
  have hbk := one_sub own.sub
  have hlen : cs.length ≤ cur.size := by rw [← q4, List.length_take]; simp; omega
  have e := store_run (P := P) (ht w) hv hm (by simpa using h1) hbk (off := off) (by omega)
  obtain rfl := hp (by simp)
  have hpp : ead (some (⟨b, 0, none⟩ : Addr)) off = ⟨b, off, none⟩ := add_lit b off
  rw [hpp] at hx
  refine ⟨w.setRow b (wrL cur.toList off vs).toArray, _, h, by simp only [execOp, H.ev hx, H.ev hy, Sem.run_bind, e]; rfl, SH.wr up hbk _ (OwnSl _ sz _ nn c cs') ⟨?_, .inr ⟨b, _, rfl, rfl, q1, q2, ?_, ?_⟩⟩, kk⟩
  ·rw [← hcs, ← hl]; simp [wrL]; omega
  ·simp [wrL]; omega
  ·rw [← hcs, ← q4]
   have hc : off + vs.length ≤ nn * sz := by omega
   have hs : nn * sz ≤ cur.size := by rw [← q4, List.length_take] at hl; simp at hl; omega
   simp only [wrL, List.take_take, List.take_append, List.length_take, List.length_append, Array.length_toList, List.drop_take]
   have e1 : min (nn * sz) off = off := by omega
   have e2 : min off cur.size = off := by omega
   have e3 : vs.length ≤ nn * sz - off := by omega
   simp [e1, e2, List.take_of_length_le e3, Nat.min_comm off])
theorem below_alloc (w : World) (o : Obj) : Below w.heap.size w (w.alloc o) := (Below.refl _ _).alloc (Nat.le_refl _) o
theorem SH.new {w : World} {X : Asrt} {o : Obj} (S : SH K h w A) (hX : X (FH.one w.heap.size o)) : SH K h (w.alloc o) (X :: A) :=
 S.push (below_alloc w o) hX (Sub.one (heap_alloc_new w o)) (fun b hb => by rw [FH.one_ne hb]; exact Nat.le_refl _)
theorem al {t : TypeId} {zs : List Value} (ht : TZero P t zs) (hn : Nat.blt d n.sz = true)
  (k : ∀ p, JL P K n ops rest Q ((d, .pointer (some p)) :: s) (Box p zs :: A) h) : JL P K n ops (⟨some d, .alloc t, ty, pos, af, none⟩ :: rest) Q s A h :=
 JL.valW rfl rfl hn (fun ac w H S => by
  obtain ⟨z, hz, hrun⟩ := ht
  refine ⟨_, w.alloc (.cells z.cells t), _, h, ?_, S.new (X := Box ⟨w.heap.size, 0, none⟩ zs) ⟨_, t, rfl, by rw [← hz]⟩, k _⟩
  simp [execOp, Instr.alloc, hrun w, newVar, newRow])
theorem bx {t : TypeId} {x : Operand} {v : Value} {vs : List Value} (hx : ev s x = some v) (hv : v.cells.toList = vs) (hn : Nat.blt d n.sz = true)
  (k : ∀ p, JL P K n ops rest Q ((d, .pointer (some p)) :: s) (Box p vs :: A) h) : JL P K n ops (⟨some d, .box t x, ty, pos, af, none⟩ :: rest) Q s A h :=
 JL.valW rfl rfl hn (fun ac w H S => by
  refine ⟨_, w.alloc (.cells v.cells t), _, h, ?_, S.new (X := Box ⟨w.heap.size, 0, none⟩ vs) ⟨_, t, rfl, by rw [← hv]⟩, k _⟩
  simp [execOp, Instr.box, H.ev hx, newVar, newRow])
theorem bs {t e : TypeId} {len sz by_ : Nat} {zs : List Value} {parts : Array (Nat × Operand)} {pv : List (Nat × Value)} {cs : Array Value} (ht : TSl P t e sz by_ zs)
  (hp : (parts.toList.map (fun p => (ev s p.2).map (fun v => (p.1, v)))) = pv.map some) (hlen : len * sz ≤ 1000) (hml : len ≤ 1000)
  (hf : Instr.fill (fun i => some (i * sz, sz)) ((Array.range (len * sz)).map (zs.toArray[· % zs.toArray.size]!)) pv = some cs) (hc : cs.size = len * sz) (hn : Nat.blt d n.sz = true)
  (k : ∀ a, a ≠ none → JL P K n ops rest Q ((d, .slice a len len) :: s) (OwnSl e sz a len len cs.toList :: A) h) : JL P K n ops (⟨some d, .buildSlice t len parts, ty, pos, af, none⟩ :: rest) Q s A h :=
 JL.valW rfl rfl hn (fun ac w H S => by
  obtain ⟨i, z, h1, h2, h3, h4, h5⟩ := ht.info
  have key : ∀ (l : List (Nat × Operand)) (pv : List (Nat × Value)), (l.map (fun p => (ev s p.2).map (fun v => (p.1, v)))) = pv.map some → l.map (fun p => (p.1, ac.eval p.2)) = pv := by
   intro l
   induction l with
   | nil => intro pv hpv; cases pv with
    | nil => rfl
    | cons p r => simp at hpv
   | cons x r ih => intro pv hpv; cases pv with
    | nil => simp at hpv
    | cons p q =>
     simp only [List.map_cons, List.cons.injEq] at hpv
     obtain ⟨h1, h2⟩ := hpv
     obtain ⟨v, hv, hv2⟩ := Option.map_eq_some_iff.1 h1
     simp only [List.map_cons, ih q h2, H.ev hv, hv2]
  have ee : (parts.map (fun x => (x.1, ac.eval x.2))).toList = pv := by rw [Array.toList_map]; exact key _ _ hp
  have hzc : z.cells = zs.toArray := by rw [← h5]
  have erun : (Instr.buildSlice t len (parts.map (fun x => (x.1, ac.eval x.2)))).run P w = .ok (.slice (some ⟨w.heap.size, 0, none⟩) len len) (w.alloc (.cells cs e)) := by
   subst h3
   have hbig : ¬ len * i.size > 2 ^ 24 := by omega
   unfold Instr.buildSlice
   rw [Sem.run_bind, run_underlying ht.und]
   simp only [Result.andThen_ok, Sem.run_bind, sizeOf, typeInfo, run_program, h1, Sem.run_pure, if_neg hbig, ee]
   by_cases h0 : len * i.size = 0
   ·have e0 : (Array.range (len * i.size)).map ((#[] : Array Value)[· % (#[] : Array Value).size]!) = (Array.range (len * i.size)).map (zs.toArray[· % zs.toArray.size]!) := by rw [h0]; simp
    rw [if_pos h0]
    simp only [Sem.run_bind, Sem.run_pure, Result.andThen_ok, e0, hf]
    rfl
   ·rw [if_neg h0]
    simp only [Sem.run_bind, zeroValue, typeInfo, run_program, h1, h2, hzc, Sem.run_pure, Result.andThen_ok, hf]
    rfl
  exact ⟨_, _, _, h, by simp only [execOp, Sem.run_bind, erun]; rfl, S.new (X := OwnSl e sz (some ⟨w.heap.size, 0, none⟩) len len cs.toList) ⟨by simp [hc], .inr ⟨_, cs, rfl, rfl, Nat.le_refl _, by simp only [maxLen]; omega, hc, by rw [List.take_of_length_le]; simp [hc]⟩⟩, k _ (by simp)⟩)
theorem mk {t e : TypeId} {x y : Operand} {m by_ : Nat} {z : Value} {cs' : List Value} {i : Int} (ht : TSl P t e 1 by_ [z]) (hx : ev s x = some (.int .i64 i)) (hy : ev s y = some (.int .i64 i)) (hi : i = (m : Int)) (hb : m * by_ ≤ 281474976710656) (hm : m ≤ maxLen) (hcs : List.replicate m z = cs') (hn : Nat.blt d n.sz = true)
  (k : ∀ a c, JL P K n ops rest Q ((d, .slice a m c) :: s) (OwnSl e 1 a m c cs' :: A) h) : JL P K n ops (⟨some d, .makeSlice t x y, ty, pos, af, none⟩ :: rest) Q s A h :=
 JL.valW rfl rfl hn (fun ac w H S => by
  obtain ⟨ii, zz, h1, h2, h3, h4, h5⟩ := ht.info
  subst hi; subst hcs
  have hzc : zz.cells = #[z] := by apply Array.toList_inj.1; rw [h5]
  have hbb : (by_ : Int) * (m : Int) ≤ 281474976710656 := by
   have : ((by_ * m : Nat) : Int) ≤ 281474976710656 := by rw [Nat.mul_comm]; omega
   rwa [Int.natCast_mul] at this
  have hr := run_make (P := P) w t e ii zz ht.und h1 h2 .i64 .i64 (m : Int) (m : Int) (by omega) (Int.le_refl _) (by rw [h4]; exact hbb) (by simp only [maxLen] at hm; omega)
  rw [h3, hzc] at hr
  simp only [Int.toNat_natCast, Nat.mul_one] at hr
  refine ⟨_, _, _, h, by simp only [execOp, H.ev hx, H.ev hy, Sem.run_bind, hr]; rfl, S.new (X := OwnSl e 1 (some ⟨w.heap.size, 0, none⟩) m m (List.replicate m z)) ⟨by simp, .inr ⟨_, _, rfl, rfl, Nat.le_refl _, hm, by simp [size_madeCells], ?_⟩⟩, k _ m⟩
  rw [toList_madeCells_one, List.take_of_length_le (by simp)])
theorem OwnSl.row {e : TypeId} {sz nn c : Nat} {a : Option Addr} {cs : List Value} {g : FH} {w : World} (h : OwnSl e sz a nn c cs g) (s : Sub g w) : w.ownsRow 0 e sz (.slice a nn c) nn cs := by
 obtain ⟨hl, ⟨rfl, rfl, rfl, rfl⟩ | ⟨b, cur, rfl, rfl, h1, h2, h3, h4⟩⟩ := h
 ·exact ⟨hl, .inl ⟨rfl, rfl⟩⟩
 ·exact ⟨hl, .inr ⟨b, c, cur, rfl, Nat.zero_le _, one_sub s, h1, h2, h3, h4⟩⟩
theorem append_step {w : World} {t e : TypeId} {k sz by_ nn c m c2 : Nat} {a a2 : Option Addr} {zs cs news : List Value} (S : SH K h w A) (ht : TSl P t e sz by_ zs) (hsz : zs.length = sz) (hpos : 0 < sz) (hk : A[k]? = some (OwnSl e sz a nn c cs))
  (hl : news.length = m * sz) (hne : 0 < m → a2 ≠ none) (hnews : ∀ j u, news[j]? = some u → w.cell? (ead a2 j) = some u) (h1 : ∀ u ∈ news, u.oneCell' = true) (h63 : nn + m ≤ maxLen) (hb : (nn + m) * by_ ≤ 140737488355328) (ty : TypeId) :
  ∃ a' c' w', (Builtin.append_ #[t, t] ty #[.slice a nn c, .slice a2 m c2]).run P w = .ok (.slice a' (nn + m) c') w' ∧ SH K h w' (A.set k (OwnSl e sz a' (nn + m) c' (cs ++ news))) := by
 obtain ⟨i, z, i1, i2, i3, i4, i5⟩ := ht.info
 obtain ⟨g, hX, own, up⟩ := S.upd hk
 have hown := hX.row own.sub
 have hzs : z.cells.size = sz := by rw [← Array.length_toList, i5, hsz]
 rcases a2 with _ | ad
 ·have hm : m = 0 := by
   rcases Nat.eq_zero_or_pos m with h0 | h0
   ·exact h0
   ·exact absurd rfl (hne h0)
  subst hm
  have hn : news = [] := List.eq_nil_of_length_eq_zero (by simpa using hl)
  subst hn
  refine ⟨a, c, w, ?_, ?_⟩
  ·rcases hown.2 with ⟨e1, rfl⟩ | ⟨g', cap, cur, e1, _, _, hnc, _⟩
   ·injection e1 with e1 e2 e3; subst e1; subst e3
    simp [Builtin.append_, run_underlying ht.und, sizeOf, typeInfo, i1, Builtin.lenOf, Builtin.firstCells]
   ·injection e1 with e1 e2 e3; subst e1; subst e3
    simp [Builtin.append_, run_underlying ht.und, sizeOf, typeInfo, i1, Builtin.lenOf, Builtin.firstCells, hnc, storeCells]
  ·simp only [Nat.add_zero, List.append_nil]
   exact up _ g w hX own.sub (fun b hb => .inl hb) (fun _ _ _ => rfl) rfl rfl rfl (Nat.le_refl _) (Nat.le_refl _)
 ·obtain ⟨v', w', hr, h2, h3, _, h5⟩ := run_append_own_at (P := P) w 0 t ty e i z sz by_ ht.und i1 i2 i3 i4 hzs hpos (.slice a nn c) nn cs hown ad m c2 news hl hnews h1 h63 hb (Nat.zero_le _)
  have hgr : ∀ b, some b ≠ (Value.slice a nn c).ownBlock → b < w.heap.size → w'.heap[b]? = w.heap[b]? := fun b hb hlt => h3.block b hlt hb
  have hin : ∀ b, (Value.slice a nn c).ownBlock = some b → g b ≠ none := fun b hb => by
   rcases hX.2 with ⟨rfl, _⟩ | ⟨b', cur, rfl, rfl, _⟩
   ·simp [Value.ownBlock] at hb
   ·simp [Value.ownBlock] at hb; subst hb; rw [FH.one_self]; simp
  rcases h2.2 with ⟨rfl, h0⟩ | ⟨g', cap, cur, rfl, _, hg', q1, q2, q3, q4⟩
  ·refine ⟨none, 0, w', by rw [hr]; congr 1; simp [h0], ?_⟩
   have hnil : cs ++ news = [] := List.eq_nil_of_length_eq_zero (by rw [List.length_append, hX.1, hl, ← Nat.add_mul, h0]; simp)
   rw [hnil, h0]
   exact up _ (fun _ => none) w' ⟨by simp, .inl ⟨rfl, rfl, rfl, rfl⟩⟩ (fun _ _ x => by cases x) (fun _ x => absurd rfl x) (fun b hb hg => hgr b (fun x => hin b x.symm hg) hb) h3.os h3.tape h3.output h3.size (run_dr _ _ _ _ hr)
  ·refine ⟨some ⟨g', 0, none⟩, cap, w', hr, ?_⟩
   refine up _ (FH.one g' (.cells cur e (0, 0))) w' ⟨h2.1, .inr ⟨g', cur, rfl, rfl, q1, q2, q3, q4⟩⟩ (Sub.one hg') (fun b hb => ?_) (fun b hb hg => hgr b (fun x => hin b x.symm hg) hb) h3.os h3.tape h3.output h3.size (run_dr _ _ _ _ hr)
   rw [FH.one_ne hb]
   rcases h5 with h5 | h5
   ·exact .inl (hin g' h5.symm)
   ·have : g' = w.heap.size := by simpa [Value.ownBlock] using h5
    exact .inr (by omega)
theorem app {t e : TypeId} {x y : Operand} {k sz by_ nn c m c2 nm : Nat} {a a2 : Option Addr} {zs cs news cs' : List Value} (ht : TSl P t e sz by_ zs) (hsz : zs.length = sz) (hpos : 0 < sz) (hx : ev s x = some (.slice a nn c)) (hy : ev s y = some (.slice a2 m c2)) (hk : A[k]? = some (OwnSl e sz a nn c cs))
  (hl : news.length = m * sz) (hnews : ∀ w, SH K h w A → (0 < m → a2 ≠ none) ∧ ∀ j u, news[j]? = some u → w.cell? (ead a2 j) = some u) (h1 : ∀ u ∈ news, u.oneCell' = true) (h63 : nn + m ≤ maxLen) (hb : (nn + m) * by_ ≤ 140737488355328) (hnm : nn + m = nm) (hcs : cs ++ news = cs') (hn : Nat.blt d n.sz = true)
  (kk : ∀ a' c', JL P K n ops rest Q ((d, .slice a' nm c') :: s) (A.set k (OwnSl e sz a' nm c' cs')) h) : JL P K n ops (⟨some d, .call { callee := .builtin .append, args := #[x, y], argTypes := #[t, t] }, ty, pos, af, none⟩ :: rest) Q s A h :=
 JL.valW rfl rfl hn (fun ac w H S => by
  subst hnm; subst hcs
  obtain ⟨a', c', w', hr, hs⟩ := append_step (c2 := c2) S ht hsz hpos hk hl (hnews w S).1 (hnews w S).2 h1 h63 hb ty
  refine ⟨_, w', _, h, ?_, hs, kk a' c'⟩
  simp only [execOp, resolve, invoke, builtin, Sem.run_bind, Sem.run_pure, Result.andThen_ok, List.map_toArray, List.map_cons, List.map_nil, H.ev hx, H.ev hy, hr])
theorem JL.nilSl (e : TypeId) (sz : Nat) {l : List Oper} (k : JL P K n ops l Q s (OwnSl e sz none 0 0 [] :: A) h) : JL P K n ops l Q s A h := fun a w H S =>
 k a w H (S.push (Below.refl _ _) (g := fun _ => none) ⟨by simp, .inl ⟨rfl, rfl, rfl, rfl⟩⟩ (fun _ _ x => by cases x) (fun _ x => absurd rfl x))
theorem J.nilSl (e : TypeId) (sz : Nat) {c : Code} (k : J P K n c Q s (OwnSl e sz none 0 0 [] :: A) h) : J P K n c Q s A h := fun a w H S =>
 k a w H (S.push (Below.refl _ _) (g := fun _ => none) ⟨by simp, .inl ⟨rfl, rfl, rfl, rfl⟩⟩ (fun _ _ x => by cases x) (fun _ x => absurd rfl x))
theorem srcS {k : Nat} {e : TypeId} {sz m c : Nat} {a : Option Addr} {cs : List Value} (hk : A[k]? = some (OwnSl e sz a m c cs)) : ∀ w, SH K h w A → (0 < m → a ≠ none) ∧ ∀ j u, cs[j]? = some u → w.cell? (ead a j) = some u := fun w S => by
 obtain ⟨g, hx, own, _⟩ := S.upd hk
 exact ⟨hx.ne, fun j u e => own.sub.cell (hx.cells j u e).2⟩
theorem srcH {m : Nat} {a : Option Addr} {cs : List Value} (ha : 0 < m → a ≠ none) (hr : RawSl h a cs) : ∀ w, SH K h w A → (0 < m → a ≠ none) ∧ ∀ j u, cs[j]? = some u → w.cell? (ead a j) = some u := fun _ S => ⟨ha, fun j u e => S.sub.cell (hr j u e).2⟩
theorem look {k : Nat} {e : TypeId} {sz m c : Nat} {a : Option Addr} {cs : List Value} {w : World} (S : SH K h w A) (hk : A[k]? = some (OwnSl e sz a m c cs)) : ∃ h', FH.le h h' ∧ Sub h' w ∧ (0 < m → a ≠ none) ∧ RawSl h' a cs := by
 obtain ⟨g, hx, hd, S'⟩ := S.look hk
 exact ⟨_, FH.le_join_left h g, S', hx.ne, hx.cells.mono (FH.le_join_right hd)⟩
theorem sl_run {t e : TypeId} {sz by_ : Nat} {zs : List Value} (ht : TSl P t e sz by_ zs) (w : World) : P.underlying t = some (.slice (P.elem t)) ∧ (sizeOf (P.elem t)).run P w = .ok sz w := by
 obtain ⟨ii, z, h1, h2, h3, h4, h5⟩ := ht.info
 have hel : P.elem t = e := by unfold Program.elem; rw [ht.und]
 exact ⟨by rw [hel]; exact ht.und, by rw [hel]; simp [sizeOf, typeInfo, h1, h3]⟩
theorem slH {t e : TypeId} {x y : Operand} {sz by_ len cap u : Nat} {a : Option Addr} {zs : List Value} {ki : IntKind} {i : Int} (ht : TSl P t e sz by_ zs) (hx : ev s x = some (.slice a len cap)) (hy : ev s y = some (.int ki i)) (h0 : 0 ≤ i) (hu : i.toNat = u) (huc : u ≤ cap) : VF P K n s A h ⟨dd, .slice t x none (some y) none, ty, pos, af, gd⟩ (.slice a u cap) :=
 (fun ac w H _ => by
  obtain ⟨e1, e2⟩ := sl_run ht w
  have hr := run_slice_h (P := P) w t a len cap e1 ki i h0 (by omega)
  have em : a.map (fun x => x.add (0 * sz)) = a := by cases a <;> simp [Addr.add]
  simp only [execOp, Option.map_none, Option.map_some, H.ev hx, H.ev hy, Sem.run_bind, run_sliceAt_slice w t _ _ _ _ e1, hr, e2, Result.andThen_ok, sliced, hu, em]
  simp)
theorem call_exec {f : FuncId} {x : Operand} {xs : Array Operand} {ts : Array TypeId} {first cap : Array Value} {vs : List Value} {a : Act} {w : World} (H : Holds n s a) (hf : ∀ args w, (callFunc f args).run P w = .ok (.enter f args) w)
  (hx : ev s x = some (.func (.func f) first cap)) (hv : evs s xs.toList = some vs) {o : Oper} (ho : o.op = .call { callee := .value x, args := xs, argTypes := ts }) :
  (execOp a.eval o).run P w = .ok (.enter f (first.toList ++ vs ++ cap.toList).toArray) w := by
 have e1 : xs.map a.eval = vs.toArray := by rw [← Array.toArray_toList (xs := xs), List.map_toArray, H.evs hv]
 have e2 : first ++ vs.toArray ++ cap = (first.toList ++ vs ++ cap.toList).toArray := by apply Array.toList_inj.1; simp
 simp only [execOp, ho, resolve, H.ev hx, Deferred.ofValue, Sem.run_bind, Sem.run_pure, Result.andThen_ok, invoke, e1, hf, e2]
theorem cl {f : FuncId} {x : Operand} {xs : Array Operand} {ts : Array TypeId} {first cap : Array Value} {vs : List Value} {v : Value} (hf : ∀ args w, (callFunc f args).run P w = .ok (.enter f args) w)
  (hx : ev s x = some (.func (.func f) first cap)) (hv : evs s xs.toList = some vs) (hc : ∀ w, SH K h w A → Calls P f (first.toList ++ vs ++ cap.toList).toArray w fun e w' => e = .returned v ∧ Below w.heap.size w w') : CF P K n s A h ⟨dd, .call { callee := .value x, args := xs, argTypes := ts }, ty, pos, af, gd⟩ v :=
 fun _ w H S => ⟨f, _, call_exec H hf hx hv rfl, hc w S⟩
theorem clO {α : Type} {V : α → Value} {Ψ : α → Prop} {B : α → List Asrt} {f : FuncId} {x : Operand} {xs : Array Operand} {ts : Array TypeId} {first cap : Array Value} {vs : List Value} (hf : ∀ args w, (callFunc f args).run P w = .ok (.enter f args) w)
  (hx : ev s x = some (.func (.func f) first cap)) (hv : evs s xs.toList = some vs) (hc : ∀ w, SH K h w A → Calls P f (first.toList ++ vs ++ cap.toList).toArray w fun e w' => ∃ (r : α) (h0 h1 : FH), e = .returned (V r) ∧ Ψ r ∧ FH.le h h1 ∧ SH (Kp.all w h0) h1 w' (B r)) (hn : Nat.blt d n.sz = true)
  (k : ∀ r, Ψ r → JL P K n ops rest Q ((d, V r) :: s) (B r ++ A) h) : JL P K n ops (⟨some d, .call { callee := .value x, args := xs, argTypes := ts }, ty, pos, af, none⟩ :: rest) Q s A h :=
 JL.callW rfl rfl hn (fun _ _ H _ => call_exec H hf hx hv rfl) (fun w S => (hc w S).mono fun _ _ ⟨r, _, _, he, hψ, hl, sr⟩ => ⟨V r, B r ++ A, h, he, S.merge (sr.anti hl) (fun _ hb => .inl hb), k r hψ⟩)
theorem clR {α : Type} {V : α → Value} {Φ : FH → α → Prop} {B : α → List Asrt} {f : FuncId} {x : Operand} {xs : Array Operand} {ts : Array TypeId} {first cap : Array Value} {vs : List Value} (hf : ∀ args w, (callFunc f args).run P w = .ok (.enter f args) w)
  (hx : ev s x = some (.func (.func f) first cap)) (hv : evs s xs.toList = some vs) (hc : ∀ w, SH K h w A → Calls P f (first.toList ++ vs ++ cap.toList).toArray w fun e w' => ∃ (r : α) (h1 : FH), e = .returned (V r) ∧ FH.le h h1 ∧ Φ h1 r ∧ SH (Kp.all w h) h1 w' (B r)) (hn : Nat.blt d n.sz = true)
  (k : ∀ r h1, FH.le h h1 → Φ h1 r → JL P K n ops rest Q ((d, V r) :: s) (B r ++ A) h1) : JL P K n ops (⟨some d, .call { callee := .value x, args := xs, argTypes := ts }, ty, pos, af, none⟩ :: rest) Q s A h :=
 JL.callW rfl rfl hn (fun _ _ H _ => call_exec H hf hx hv rfl) (fun w S => (hc w S).mono fun _ _ ⟨r, h1, he, hl, hφ, sr⟩ => ⟨V r, B r ++ A, h1, he, S.merge sr (fun b hb => by
  rcases sr.fresh b hb with q | q
  ·exact .inl q
  ·exact .inr (Nat.le_of_not_lt q)), k r h1 hl hφ⟩)
end
section
variable {P : Program} {K : Kp} {n : Fr} {s : St} {A : List Asrt} {h : FH} {fn : Func} {R : Ending → World → Prop}
def resOne (tmps : Array Value) (r : ResultVar) : Sem Value := match r with | .tmp t => pure (tmps.getD t undef) | .cell x t => do loadVar t (← asAddr (tmps.getD x undef))
theorem results_eq (tmps : Array Value) : results fn tmps = (do let vs ← fn.results.mapM (resOne tmps); pure (if h : vs.size = 1 then vs[0] else .tuple vs)) := by
 unfold results
 congr 1
def RV (P : Program) (K : Kp) (n : Fr) (s : St) (A : List Asrt) (h : FH) (r : ResultVar) (v : Value) : Prop := ∀ a w, Holds n s a → SH K h w A →
 (resOne a.tmps r).run P w = .ok v w
theorem rvT {t : Nat} {v : Value} (hv : get s t = some v) : RV P K n s A h (.tmp t) v := fun a w H _ => by simp only [resOne, H.getD hv]; rfl
theorem rvC {x t k m : Nat} {p : Addr} {cs : List Value} (hx : get s x = some (.pointer (some p))) (ht : TAgg P t m) (hk : A[k]? = some (Box p cs)) (hm : cs.length = m) : RV P K n s A h (.cell x t) (.agg cs.toArray) := fun a w H S => by
 subst hm
 have hc := cellsB (K := K) (h := h) (off := 0) (m := cs.length) hk (cs' := cs) (by simp) w S
 simp [resOne, H.getD hx, asAddr, loadVar, (ht w).1, (ht w).2, run_loadCells_list w p cs hc]
theorem rvC1 {x t k : Nat} {p : Addr} {v : Value} (hx : get s x = some (.pointer (some p))) (ht : TOne P t) (hk : A[k]? = some (Box p [v])) : RV P K n s A h (.cell x t) v := fun a w H S => by
 have hc := cellB (K := K) (h := h) (off := 0) hk (v := v) rfl w S
 rw [add_zero] at hc
 simp [resOne, H.getD hx, asAddr, loadVar, (ht w).1, run_load, hc]
theorem E.res0 {m_ : Nat} {ro_ : Option (Option Nat)} {e : Exit} (he : e = .ret ∨ e = .normal) (hr : fn.results = #[]) (k : ∀ w, SH K h w A → R (.returned (.tuple #[])) w) : E K ⟨m_, ro_, []⟩ (bodyPost P fn R) e s A h := fun a w H S => by
 rcases he with rfl | rfl <;> exact ⟨H.defers, _, results_none hr _ _ _, k w S⟩
theorem E.res1 {m_ : Nat} {ro_ : Option (Option Nat)} {r : ResultVar} {v : Value} (hr : fn.results = #[r]) (h1 : RV P K ⟨m_, ro_, []⟩ s A h r v) (k : ∀ w, SH K h w A → R (.returned v) w) : E K ⟨m_, ro_, []⟩ (bodyPost P fn R) .ret s A h := fun a w H S => by
 refine ⟨H.defers, v, ?_, k w S⟩
 have e1 := h1 a w H S
 simp only [results_eq, hr, Sem.run_bind, List.mapM_toArray, List.mapM_cons, List.mapM_nil, e1, Sem.run_map, Result.andThen_ok, Sem.run_pure]
 rfl
theorem E.res2 {m_ : Nat} {ro_ : Option (Option Nat)} {r1 r2 : ResultVar} {v1 v2 : Value} (hr : fn.results = #[r1, r2]) (h1 : RV P K ⟨m_, ro_, []⟩ s A h r1 v1) (h2 : RV P K ⟨m_, ro_, []⟩ s A h r2 v2) (k : ∀ w, SH K h w A → R (.returned (.tuple #[v1, v2])) w) : E K ⟨m_, ro_, []⟩ (bodyPost P fn R) .ret s A h := fun a w H S => by
 refine ⟨H.defers, _, ?_, k w S⟩
 have e1 := h1 a w H S
 have e2 := h2 a w H S
 simp only [results_eq, hr, Sem.run_bind, List.mapM_toArray, List.mapM_cons, List.mapM_nil, e1, e2, Sem.run_map, Result.andThen_ok, Sem.run_pure]
 rfl
theorem E.res3 {m_ : Nat} {ro_ : Option (Option Nat)} {r1 r2 r3 : ResultVar} {v1 v2 v3 : Value} (hr : fn.results = #[r1, r2, r3]) (h1 : RV P K ⟨m_, ro_, []⟩ s A h r1 v1) (h2 : RV P K ⟨m_, ro_, []⟩ s A h r2 v2) (h3 : RV P K ⟨m_, ro_, []⟩ s A h r3 v3) (k : ∀ w, SH K h w A → R (.returned (.tuple #[v1, v2, v3])) w) : E K ⟨m_, ro_, []⟩ (bodyPost P fn R) .ret s A h := fun a w H S => by
 refine ⟨H.defers, _, ?_, k w S⟩
 have e1 := h1 a w H S
 have e2 := h2 a w H S
 have e3 := h3 a w H S
 simp only [results_eq, hr, Sem.run_bind, List.mapM_toArray, List.mapM_cons, List.mapM_nil, e1, e2, e3, Sem.run_map, Result.andThen_ok, Sem.run_pure]
 rfl
def start : Nat → List Value → St
 | _, [] => []
 | i, v :: r => (i, v) :: start (i + 1) r
theorem get_start (i : Nat) (vs : List Value) (t : Nat) (v : Value) (h : get (start i vs) t = some v) : i ≤ t ∧ vs[t - i]? = some v := by
 induction vs generalizing i with
 | nil => cases h
 | cons u r ih =>
  simp only [start, get] at h
  cases hb : Nat.beq i t with
  | true =>
   have := Nat.eq_of_beq_eq_true hb
   subst this
   simp only [hb, cond_true] at h
   simp [h]
  | false =>
   simp only [hb, cond_false] at h
   obtain ⟨h1, h2⟩ := ih (i + 1) h
   refine ⟨by omega, ?_⟩
   have : t - i = (t - (i + 1)) + 1 := by omega
   rw [this]; simpa using h2
theorem enter {f : FuncId} {c : Code} {args : List Value} {w : World} (hf : P.funcs[f]? = some fn) (hb : fn.body = some c) {n : Nat} (hn : fn.ntmps = n) (hle : Nat.ble args.length n = true) (hs : Sub h w)
  (j : J P (Kp.all w h) ⟨n, none, []⟩ c (bodyPost P fn R) (start 0 args) [] h) : Calls P f args.toArray w R := by
 have hl : args.length ≤ n := by simpa using hle
 refine calls_of_wp hf hb (j _ w ⟨rfl, ?_, fun t v e => ?_⟩ (SH.start w h hs))
 ·simp [hn]; omega
 ·obtain ⟨_, h2⟩ := get_start 0 args t v e
  simp only [Nat.sub_zero] at h2
  have hlt : t < args.length := (List.getElem?_eq_some_iff.1 h2).1
  rw [Array.getElem?_append_left (by simpa using hlt)]
  simpa using h2
end
end Go.Proofs.YtimillpakjgnoaaGreat.Pl

namespace Go.Proofs.YtimillpakjgnoaaGreat.Pl
open Go Go.RowKit
section
variable {P : Program} {K : Kp} {n : Fr} {ops : Array Oper} {Q : Exit → Act → World → Prop} {s : St} {A : List Asrt} {h : FH}
theorem J.loopN' {σ : Type} (I : σ → Prop) (μ : σ → Nat) (N : σ → Fr) (S : σ → St) (M : σ → List Asrt) (F : σ → FH) {c : Code} (x0 : σ) (hI : I x0) (hn : ∀ x, (N x).ro = n.ro) (h0 : N x0 = n) (hs : SubSt (S x0) s) (hm : M x0 = A) (hf : FH.le (F x0) h)
  (round : ∀ x, I x → J P K (N x) c (Exit.then (fun a w => ∃ y, I y ∧ μ y < μ x ∧ Holds (N y) (S y) a ∧ SH K (F y) w (M y)) Q) (S x) (M x) (F x)) :
  J P K n (.loop c) Q s A h := by
 subst hm
 exact .up hf (.sub hs (.loopN I μ N S M F x0 hI hn h0 round))
theorem J.loop' {σ : Type} (I : σ → Prop) (μ : σ → Nat) (S : σ → St) (M : σ → List Asrt) (F : σ → FH) {c : Code} (x0 : σ) (hI : I x0) (hs : SubSt (S x0) s) (hm : M x0 = A) (hf : FH.le (F x0) h)
  (round : ∀ x, I x → J P K n c (Exit.then (fun a w => ∃ y, I y ∧ μ y < μ x ∧ Holds n (S y) a ∧ SH K (F y) w (M y)) Q) (S x) (M x) (F x)) :
  J P K n (.loop c) Q s A h := by
 subst hm
 exact .up hf (.sub hs (.loop I μ S M F x0 hI round))
end
section
variable {P : Program} {K : Kp} {n : Fr} {ops : Array Oper} {Q : Exit → Act → World → Prop} {s : St} {A : List Asrt} {h : FH} {rest : List Oper} {R : Act → Prop}
def QL (P : Program) (K : Kp) (n : Fr) (ops : Array Oper) (l : List Oper) (R : Act → Prop) (s : St) (A : List Asrt) (h : FH) : Prop := ∀ a, Holds n s a → wpQuiet P ops (fun w => SH K h w A) R l a
theorem QL.nil (hr : ∀ a, Holds n s a → R a) : QL P K n ops [] R s A h := fun a H => wpQuiet_nil (hr a H)
theorem QL.v {o : Oper} {d : Nat} {v : Value} (hx : VF P K n s A h o v) (hg : o.guard = none) (hd : o.dst = some d) (hn : Nat.blt d n.sz = true) (k : QL P K n ops rest R ((d, v) :: s) A h) : QL P K n ops (o :: rest) R s A h :=
 fun a H => wpQuiet_step fun Kc hK => by
  rw [if_pos (by simp [Region.wanted, hg])]
  refine ⟨v, fun w hw => ?_, hK _ (k _ ?_)⟩
  ·unfold Oper.quietAt; rw [hx a w H hw]; exact ⟨rfl, rfl⟩
  ·rw [hd]; exact H.put v hn
theorem QL.c {o : Oper} {d : Nat} {v : Value} (hx : CF P K n s A h o v) (hg : o.guard = none) (hd : o.dst = some d) (hn : Nat.blt d n.sz = true) (k : QL P K n ops rest R ((d, v) :: s) A h) : QL P K n ops (o :: rest) R s A h :=
 fun a H => wpQuiet_step fun Kc hK => by
  rw [if_pos (by simp [Region.wanted, hg])]
  refine ⟨v, fun w hw => ?_, hK _ (k _ ?_)⟩
  ·obtain ⟨f, args, hr, hc⟩ := hx a w H hw
   unfold Oper.quietAt; rw [hr]
   exact ⟨rfl, hc.mono fun e w' ⟨he, hb⟩ => ⟨he, SH.ext hw hb⟩⟩
  ·rw [hd]; exact H.put v hn
theorem QL.gv {o : Oper} {g t d : Nat} {want b : Bool} {v : Value} (hx : VF P K n s A h o v) (hg : o.guard = some (g, want)) (ht : (ops[g]?).bind (·.dst) = some t) (hv : get s t = some (.bool b)) (hb : b = want) (hd : o.dst = some d) (hn : Nat.blt d n.sz = true)
  (k : QL P K n ops rest R ((d, v) :: s) A h) : QL P K n ops (o :: rest) R s A h :=
 fun a H => wpQuiet_step fun Kc hK => by
  have hy : yielded ops a.tmps g = some b := by unfold yielded; rw [ht]; simp [H.slots t _ hv]
  rw [if_pos (by simp [Region.wanted, hg, hy, hb])]
  refine ⟨v, fun w hw => ?_, hK _ (k _ ?_)⟩
  ·unfold Oper.quietAt; rw [hx a w H hw]; exact ⟨rfl, rfl⟩
  ·rw [hd]; exact H.put v hn
theorem QL.gc {o : Oper} {g t d : Nat} {want b : Bool} {v : Value} (hx : CF P K n s A h o v) (hg : o.guard = some (g, want)) (ht : (ops[g]?).bind (·.dst) = some t) (hv : get s t = some (.bool b)) (hb : b = want) (hd : o.dst = some d) (hn : Nat.blt d n.sz = true)
  (k : QL P K n ops rest R ((d, v) :: s) A h) : QL P K n ops (o :: rest) R s A h :=
 fun a H => wpQuiet_step fun Kc hK => by
  have hy : yielded ops a.tmps g = some b := by unfold yielded; rw [ht]; simp [H.slots t _ hv]
  rw [if_pos (by simp [Region.wanted, hg, hy, hb])]
  refine ⟨v, fun w hw => ?_, hK _ (k _ ?_)⟩
  ·obtain ⟨f, args, hr, hc⟩ := hx a w H hw
   unfold Oper.quietAt; rw [hr]
   exact ⟨rfl, hc.mono fun e w' ⟨he, hb⟩ => ⟨he, SH.ext hw hb⟩⟩
  ·rw [hd]; exact H.put v hn
theorem QL.gS {o : Oper} {g t d : Nat} {want b : Bool} (hg : o.guard = some (g, want)) (ht : (ops[g]?).bind (·.dst) = some t) (hv : get s t = some (.bool b)) (hb : b = !want) (hd : o.dst = some d) (hn : Nat.blt d n.sz = true)
  (k : QL P K n ops rest R ((d, undef) :: s) A h) : QL P K n ops (o :: rest) R s A h :=
 fun a H => wpQuiet_step fun Kc hK => by
  have hy : yielded ops a.tmps g = some b := by unfold yielded; rw [ht]; simp [H.slots t _ hv]
  rw [if_neg (by simp [Region.wanted, hg, hy, hb])]
  refine hK _ (k _ ?_)
  rw [hd]; exact H.put undef hn
theorem QL.gU {o : Oper} {g t d : Nat} {want : Bool} (hg : o.guard = some (g, want)) (ht : (ops[g]?).bind (·.dst) = some t) (hv : get s t = some undef) (hd : o.dst = some d) (hn : Nat.blt d n.sz = true)
  (k : QL P K n ops rest R ((d, undef) :: s) A h) : QL P K n ops (o :: rest) R s A h :=
 fun a H => wpQuiet_step fun Kc hK => by
  have hy : yielded ops a.tmps g = none := by unfold yielded; rw [ht]; simp [H.slots t _ hv, undef]
  rw [if_neg (by simp [Region.wanted, hg, hy])]
  refine hK _ (k _ ?_)
  rw [hd]; exact H.put undef hn
theorem SH.drew {w : World} (S : SH K h w A) : SH K h { w with drawn := w.drawn + 1 } A := S.ext ((Below.refl _ _).drew)
theorem J.open_ {m_ : Nat} {dl_ : List Nat} {id : Nat} {l : List Oper} (hm : P.follows .mixedOrders = true) (hB : Region.lexB .any l.toArray = true) (j : QL P K ⟨m_, none, dl_⟩ l.toArray l (fun a => ∀ w, SH K h w A → Q .normal a w) s A h) : J P K ⟨m_, none, dl_⟩ (.region id l.toArray true) Q s A h := fun a w H S =>
 wp_region_quiet (C := fun w => SH K h w A) hm hB S.drew (by simpa using j a H)
theorem QL.fin (j : E K n Q .normal s A h) : QL P K n ops [] (fun a => ∀ w, SH K h w A → Q .normal a w) s A h := QL.nil fun a H w S => j a w H S
def tailB (H : Array Oper) (o : Oper) : Bool :=
 ((List.range H.size).all fun i => o.after.any fun e => Region.binds .any e && e.on == i) && (o.after.all fun e => !Region.binds .any e || decide (e.on < H.size)) && o.guard.isNone &&
 (List.range H.size).all fun i => match H[i]? with
  | some x => (x.after.all fun e => !Region.binds .any e || decide (e.on < i)) && (match x.guard with | some (j, _) => decide (j < H.size) | none => true)
  | none => false
theorem getD_push {l : Array Bool} {i : Nat} {b d : Bool} (hi : i < l.size) : (l.push b).getD i d = l.getD i d := by simp [Array.getD_eq_getD_getElem?, Array.getElem?_push, show i ≠ l.size by omega]
theorem set_push {l : Array Bool} {i : Nat} (hi : i < l.size) : (l.push false).setIfInBounds i true = (l.setIfInBounds i true).push false := by
 apply Array.ext_getElem?
 intro j
 simp only [Array.getElem?_setIfInBounds, Array.getElem?_push, Array.size_push, Array.size_setIfInBounds]
 by_cases h1 : i = j
 ·subst h1
  have h2 : i ≠ l.size := by omega
  have h3 : i < l.size + 1 := by omega
  simp [h2, h3, hi]
 ·simp [h1]
section tail
variable {H : Array Oper} {o : Oper}
theorem tail_ready {l : Array Bool} (hT : tailB H o = true) (hl : l.size = H.size) (j : Nat) (hj : j < H.size) : j ∈ Region.ready .any (H.push o) (l.push false) ↔ j ∈ Region.ready .any H l := by
 rw [mem_ready, mem_ready]
 have e0 : (H.push o)[j]? = H[j]? := by rw [Array.getElem?_push]; simp [show j ≠ H.size by omega]
 rw [e0, getD_push (by omega)]
 have hB : ∀ x, H[j]? = some x → ∀ e ∈ x.after, Region.binds .any e = true → e.on < j := fun x hx e he hb => by
  simp only [tailB, Bool.and_eq_true, List.all_eq_true, List.mem_range] at hT
  have h1 := hT.2 j hj
  rw [hx] at h1
  simp only [Bool.and_eq_true, Array.all_eq_true_iff_forall_mem, Bool.or_eq_true, Bool.not_eq_true', decide_eq_true_eq] at h1
  rcases h1.1 e he with q | q
  ·rw [hb] at q; cases q
  ·exact q
 constructor
 ·rintro ⟨h0, x, hx, ha⟩
  refine ⟨h0, x, hx, fun e he hb => ?_⟩
  have := ha e he hb
  rwa [getD_push (by have := hB x hx e he hb; omega)] at this
 ·rintro ⟨h0, x, hx, ha⟩
  refine ⟨h0, x, hx, fun e he hb => ?_⟩
  rw [getD_push (by have := hB x hx e he hb; omega)]
  exact ha e he hb
theorem tail_last {l : Array Bool} (hT : tailB H o = true) (hl : l.size = H.size) : H.size ∈ Region.ready .any (H.push o) (l.push false) ↔ ∀ i, i < H.size → l.getD i false = true := by
 rw [mem_ready]
 have e0 : (H.push o)[H.size]? = some o := by simp
 have e1 : (l.push false).getD H.size true = false := by rw [← hl]; simp
 simp only [e0, e1, true_and, Option.some.injEq, exists_eq_left']
 simp only [tailB, Bool.and_eq_true, List.all_eq_true, List.mem_range, Array.all_eq_true_iff_forall_mem, Bool.or_eq_true, Bool.not_eq_true', decide_eq_true_eq] at hT
 obtain ⟨⟨⟨h1, h2⟩, _⟩, _⟩ := hT
 constructor
 ·intro ha i hi
  obtain ⟨e, he, hb⟩ := Array.any_eq_true'.1 (h1 i hi)
  simp only [Bool.and_eq_true, beq_iff_eq] at hb
  have := ha e he hb.1
  rwa [hb.2, getD_push (by omega)] at this
 ·intro ha e he hb
  rcases h2 e he with q | q
  ·rw [hb] at q; cases q
  ·rw [getD_push (by omega)]; exact ha _ q
theorem tail_stuck {l : Array Bool} (hT : tailB H o = true) (hl : l.size = H.size) (hr : Region.ready .any H l = []) : ∀ i, i < H.size → l.getD i false = true := by
 intro i
 induction i using Nat.strongRecOn with
 | _ i ih =>
  intro hi
  cases e : l.getD i false with
  | true => rfl
  | false =>
   exfalso
   have hx : i ∈ Region.ready .any H l := by
    rw [mem_ready]
    refine ⟨by have hi' : i < l.size := by omega
               simp [hi'] at e ⊢; exact e, H[i], by simp [hi], fun e' he hb => ?_⟩
    simp only [tailB, Bool.and_eq_true, List.all_eq_true, List.mem_range] at hT
    have h1 := hT.2 i hi
    rw [show H[i]? = some H[i] from by simp [hi]] at h1
    simp only [Bool.and_eq_true, Array.all_eq_true_iff_forall_mem, Bool.or_eq_true, Bool.not_eq_true', decide_eq_true_eq] at h1
    rcases h1.1 e' he with q | q
    ·rw [hb] at q; cases q
    ·exact ih _ q (by omega)
   rw [hr] at hx; cases hx
theorem tail_any {C : World → Prop} (hT : tailB H o = true) (hQ : ∀ a w, C w → R a → wpList P (H.push o) Q [o] a w) : ∀ (fuel : Nat) (l : Array Bool) (a : Act) (w : World), l.size = H.size → C w → wpAnyQ P .any H C R fuel l a → wpAny P .any (H.push o) Q (fuel + 1) (l.push false) a w := by
 have hgo : o.guard = none := by
  simp only [tailB, Bool.and_eq_true] at hT
  exact Option.isNone_iff_eq_none.1 hT.1.2
 have fin : ∀ (fuel : Nat) (l : Array Bool) (a : Act) (w : World), l.size = H.size → C w → R a → (∀ i, i < H.size → l.getD i false = true) → wpAny P .any (H.push o) Q (fuel + 1) (l.push false) a w := by
  intro fuel l a w hl hw hR hall
  have hm := (tail_last hT hl).2 hall
  have done : ∀ l' : Array Bool, l' = (l.push false).setIfInBounds H.size true → Region.ready .any (H.push o) l' = [] := by
   intro l' e
   cases hr : Region.ready .any (H.push o) l' with
   | nil => rfl
   | cons x xs =>
    exfalso
    have hx : x ∈ Region.ready .any (H.push o) l' := by rw [hr]; simp
    obtain ⟨h0, ox, hox, _⟩ := mem_ready.1 hx
    have hxs : x < H.size + 1 := by have := (Array.getElem?_eq_some_iff.1 hox).1; simpa using this
    by_cases hxe : x = H.size
    ·subst hxe; rw [e] at h0; simp [← hl] at h0
    ·rw [e, getD_set_ne true (Ne.symm hxe), getD_push (by omega)] at h0
     have := hall x (by omega)
     have hx' : x < l.size := by omega
     simp [hx'] at h0 this
     rw [h0] at this; cases this
  refine ⟨fun h0 => (by rw [h0] at hm; cases hm), fun i hi => ?_⟩
  have hie : i = H.size := by
   rcases Nat.lt_or_ge i H.size with hlt | hge
   ·have h1 := (tail_ready hT hl i hlt).1 hi
    obtain ⟨h0, _⟩ := mem_ready.1 h1
    have := hall i hlt
    have hx' : i < l.size := by omega
    simp [hx'] at h0 this
    rw [h0] at this; cases this
   ·obtain ⟨_, ox, hox, _⟩ := mem_ready.1 hi
    have := (Array.getElem?_eq_some_iff.1 hox).1
    simp at this; omega
  subst hie
  have hwp := hQ a w hw hR
  unfold wpList at hwp
  have hwant : Region.wanted o (yielded (H.push o) a.tmps) = true := by simp [Region.wanted, hgo]
  rw [if_pos hwant] at hwp
  unfold wpOp
  simp only [show (H.push o)[H.size]? = some o from by simp, if_pos hwant]
  refine hwp.imp (fun q => Oper.wp_mono (fun a' w' q' => ?_) q) id
  have hn : Q .normal a' w' := q'
  cases fuel with
  | zero => exact ⟨done _ rfl, hn⟩
  | succ f => exact ⟨fun _ => hn, fun j hj => (by rw [done _ rfl] at hj; cases hj)⟩
 intro fuel
 induction fuel with
 | zero => intro l a w hl hw hh; exact fin 0 l a w hl hw hh.2 (tail_stuck hT hl hh.1)
 | succ fuel ih =>
  intro l a w hl hw hh
  by_cases hr : Region.ready .any H l = []
  ·exact fin _ l a w hl hw (hh.1 hr) (tail_stuck hT hl hr)
  ·have notall : ¬ ∀ i, i < H.size → l.getD i false = true := fun hall => by
    cases hr2 : Region.ready .any H l with
    | nil => exact hr hr2
    | cons x xs =>
     have hx : x ∈ Region.ready .any H l := by rw [hr2]; simp
     obtain ⟨h0, ox, hox, _⟩ := mem_ready.1 hx
     have hlt := (Array.getElem?_eq_some_iff.1 hox).1
     have := hall x hlt
     have hx' : x < l.size := by omega
     simp [hx'] at h0 this
     rw [h0] at this; cases this
   refine ⟨fun h0 => ?_, fun i hi => ?_⟩
   ·cases hr2 : Region.ready .any H l with
    | nil => exact absurd hr2 hr
    | cons x xs =>
     have hx : x ∈ Region.ready .any H l := by rw [hr2]; simp
     obtain ⟨_, ox, hox, _⟩ := mem_ready.1 hx
     have := (tail_ready hT hl x (Array.getElem?_eq_some_iff.1 hox).1).2 hx
     rw [h0] at this; cases this
   ·have hlt : i < H.size := by
     rcases Nat.lt_or_ge i H.size with q | q
     ·exact q
     ·exfalso
      obtain ⟨_, ox, hox, _⟩ := mem_ready.1 hi
      have h1 := (Array.getElem?_eq_some_iff.1 hox).1
      have : i = H.size := by simp at h1; omega
      subst this
      exact notall ((tail_last hT hl).1 hi)
    have hi' := (tail_ready hT hl i hlt).1 hi
    have h1 := hh.2 i hi'
    rw [set_push (by omega)]
    have step : ∀ a' w', C w' → wpAnyQ P .any H C R fuel (l.setIfInBounds i true) a' → wpAny P .any (H.push o) Q (fuel + 1) ((l.setIfInBounds i true).push false) a' w' := fun a' w' hw' q => ih _ a' w' (by simp [hl]) hw' q
    unfold qOp at h1
    unfold wpOp
    have e0 : (H.push o)[i]? = H[i]? := by rw [Array.getElem?_push]; simp [show i ≠ H.size by omega]
    rw [e0]
    have e1 : H[i]? = some H[i] := by simp [hlt]
    simp only [e1] at h1 ⊢
    have hy : Region.wanted H[i] (yielded (H.push o) a.tmps) = Region.wanted H[i] (yielded H a.tmps) := by
     unfold Region.wanted
     cases hg : H[i].guard with
     | none => rfl
     | some jw =>
      obtain ⟨j, want⟩ := jw
      simp only [tailB, Bool.and_eq_true, List.all_eq_true, List.mem_range] at hT
      have h2 := hT.2 i hlt
      rw [e1] at h2
      simp only [Bool.and_eq_true, hg, decide_eq_true_eq] at h2
      have e2 : (H.push o)[j]? = H[j]? := by rw [Array.getElem?_push]; simp [show j ≠ H.size by omega]
      simp only [yielded, e2]
    rw [hy]
    split
    ·rename_i hw1; rw [if_pos hw1] at h1; exact .inl (Oper.wp_of_quiet hw step h1)
    ·rename_i hw1; rw [if_neg hw1] at h1; exact step _ _ hw h1
end tail
theorem toArray_push (l : List Oper) (o : Oper) : (l ++ [o]).toArray = l.toArray.push o := by simp
theorem J.openT {m_ : Nat} {dl_ : List Nat} {id : Nat} {l : List Oper} (lh : List Oper) (o : Oper) (hl : lh ++ [o] = l) (hm : P.follows .mixedOrders = true) (hB : Region.lexB .any lh.toArray = true) (hT : tailB lh.toArray o = true)
  (j : QL P K ⟨m_, none, dl_⟩ lh.toArray lh (fun a => ∀ w, SH K h w A → wpList P l.toArray Q [o] a w) s A h) : J P K ⟨m_, none, dl_⟩ (.region id l.toArray true) Q s A h := fun a w H S => by
 subst hl
 rw [toArray_push]
 refine wp_region_any hm ?_
 have hB' := hB
 simp only [Region.lexB, Bool.and_eq_true] at hB'
 have hq := wpAnyQ_lex (C := fun w => SH K h w A) (md := .any) hB'.1 lh 0 (Array.replicate lh.toArray.size false) a (by simp) (by simpa using hB'.2) (j a H)
 have ht := tail_any (C := fun w => SH K h w A) hT (fun a w hw hR => by rw [← toArray_push]; exact hR w hw) _ (Array.replicate lh.toArray.size false) a _ (by simp) S.drew hq
 have e1 : (lh.toArray.push o).size = lh.length + 1 := by simp
 have e2 : Array.replicate (lh.length + 1) false = (Array.replicate lh.toArray.size false).push false := by simp [Array.replicate_succ]
 rw [e1, e2]
 exact ht
theorem QL.tail {m_ : Nat} {dl_ : List Nat} {o : Oper} {ops' : Array Oper} (j : JL P K ⟨m_, none, dl_⟩ ops' [o] Q s A h) : QL P K ⟨m_, none, dl_⟩ ops [] (fun a => ∀ w, SH K h w A → wpList P ops' Q [o] a w) s A h := QL.nil fun a H w S => j a w H S
end
end Go.Proofs.YtimillpakjgnoaaGreat.Pl

namespace Go.Proofs.YtimillpakjgnoaaGreat.Pl
open Go Go.RowKit
class Rep (α : Type) where
 sz : Nat
 rep : FH → α → List Value → Prop
 len : ∀ {h x cs}, rep h x cs → cs.length = sz
 mono : ∀ {h h' x cs}, FH.le h h' → rep h x cs → rep h' x cs
 one : ∀ {h x cs}, rep h x cs → ∀ v ∈ cs, v.oneCell' = true
class Flat (α : Type) where
 sz : Nat
 fl : α → List Value
 len : ∀ x, (fl x).length = sz
 one : ∀ x, ∀ v ∈ fl x, v.oneCell' = true
instance {α : Type} [F : Flat α] : Rep α := ⟨F.sz, fun _ x cs => cs = F.fl x, fun e => by rw [e]; exact F.len _, fun _ e => e, fun e => by rw [e]; exact F.one _⟩
instance : Flat Int := ⟨1, fun x => [.int .i64 x], fun _ => rfl, fun x v hv => by simp at hv; subst hv; rfl⟩
instance : Flat Bool := ⟨1, fun x => [.bool x], fun _ => rfl, fun x v hv => by simp at hv; subst hv; rfl⟩
def flL {α : Type} [Flat α] : List α → List Value
 | [] => []
 | x :: r => Flat.fl x ++ flL r
def RepL {α : Type} [Rep α] (h : FH) : List α → List Value → Prop
 | [], cs => cs = []
 | x :: r, cs => ∃ c cs', cs = c ++ cs' ∧ Rep.rep h x c ∧ RepL h r cs'
def RSl {α : Type} [Rep α] (h : FH) (a : Option Addr) (xs : List α) : Prop := ∃ cs, RepL h xs cs ∧ RawSl h a cs
def gt {α : Type} [Inhabited α] (xs : List α) (i : Int) : α := xs.getD i.toNat default
def inb {α : Type} (xs : List α) (i : Int) : Prop := 0 ≤ i ∧ i < xs.length
instance {α : Type} (xs : List α) (i : Int) : Decidable (inb xs i) := by unfold inb; infer_instance
section
variable {α : Type}
theorem flL_len [Flat α] (xs : List α) : (flL xs).length = xs.length * Flat.sz α := by
 induction xs with
 | nil => simp [flL]
 | cons x r ih => simp only [flL, List.length_append, Flat.len, ih, List.length_cons, Nat.add_mul]; omega
theorem flL_append [Flat α] (xs ys : List α) : flL (xs ++ ys) = flL xs ++ flL ys := by
 induction xs with
 | nil => rfl
 | cons x r ih => simp [flL, ih]
theorem flL_one [Flat α] (xs : List α) : ∀ v ∈ flL xs, v.oneCell' = true := by
 induction xs with
 | nil => intro v hv; cases hv
 | cons x r ih =>
  intro v hv
  rcases List.mem_append.1 hv with h | h
  ·exact Flat.one x v h
  ·exact ih v h
theorem flL_rep [Flat α] {h : FH} {xs : List α} {cs : List Value} : RepL h xs cs ↔ cs = flL xs := by
 induction xs generalizing cs with
 | nil => rfl
 | cons x r ih =>
  constructor
  ·rintro ⟨c, cs', rfl, hc, hr⟩
   rw [ih.1 hr]
   show c ++ _ = _
   rw [show c = Flat.fl x from hc]; rfl
  ·intro e
   exact ⟨Flat.fl x, flL r, e, rfl, ih.2 rfl⟩
theorem RepL.len [Rep α] {h : FH} {xs : List α} {cs : List Value} (r : RepL h xs cs) : cs.length = xs.length * Rep.sz α := by
 induction xs generalizing cs with
 | nil => rw [show cs = [] from r]; simp
 | cons x rr ih =>
  obtain ⟨c, cs', rfl, hc, hr⟩ := r
  rw [List.length_append, Rep.len hc, ih hr, List.length_cons, Nat.add_mul]; omega
theorem RepL.mono [Rep α] {h h' : FH} {xs : List α} {cs : List Value} (hl : FH.le h h') (r : RepL h xs cs) : RepL h' xs cs := by
 induction xs generalizing cs with
 | nil => exact r
 | cons x rr ih =>
  obtain ⟨c, cs', rfl, hc, hr⟩ := r
  exact ⟨c, cs', rfl, Rep.mono hl hc, ih hr⟩
theorem RepL.one [Rep α] {h : FH} {xs : List α} {cs : List Value} (r : RepL h xs cs) : ∀ v ∈ cs, v.oneCell' = true := by
 induction xs generalizing cs with
 | nil => rw [show cs = [] from r]; intro v hv; cases hv
 | cons x rr ih =>
  obtain ⟨c, cs', rfl, hc, hr⟩ := r
  intro v hv
  rcases List.mem_append.1 hv with q | q
  ·exact Rep.one hc v q
  ·exact ih hr v q
theorem RepL.append [Rep α] {h : FH} {xs ys : List α} {cs ds : List Value} (r : RepL h xs cs) (q : RepL h ys ds) : RepL h (xs ++ ys) (cs ++ ds) := by
 induction xs generalizing cs with
 | nil => rw [show cs = [] from r]; exact q
 | cons x rr ih =>
  obtain ⟨c, cs', rfl, hc, hr⟩ := r
  exact ⟨c, cs' ++ ds, by simp, hc, ih hr⟩
theorem RepL.get [Rep α] {h : FH} {xs : List α} {cs : List Value} (r : RepL h xs cs) {i : Nat} {x : α} (hi : xs[i]? = some x) : ∃ c, Rep.rep h x c ∧ ∀ j v, c[j]? = some v → cs[i * Rep.sz α + j]? = some v := by
 induction xs generalizing cs i with
 | nil => simp at hi
 | cons y rr ih =>
  obtain ⟨c, cs', rfl, hc, hr⟩ := r
  cases i with
  | zero =>
   simp at hi; subst hi
   refine ⟨c, hc, fun j v e => ?_⟩
   have hj := (List.getElem?_eq_some_iff.1 e).1
   rw [Nat.zero_mul, Nat.zero_add, List.getElem?_append_left hj]; exact e
  | succ i =>
   simp at hi
   obtain ⟨c', h1, h2⟩ := ih hr hi
   refine ⟨c', h1, fun j v e => ?_⟩
   have hl := Rep.len hc
   rw [List.getElem?_append_right (by rw [hl, Nat.add_mul]; omega)]
   have : (i + 1) * Rep.sz α + j - c.length = i * Rep.sz α + j := by rw [hl, Nat.add_mul]; omega
   rw [this]; exact h2 j v e
theorem RepL.set [Rep α] {h : FH} {xs : List α} {cs : List Value} (r : RepL h xs cs) {i : Nat} (hi : i < xs.length) {y : α} {c : List Value} (hc : Rep.rep h y c) : RepL h (xs.set i y) (wrL cs (i * Rep.sz α) c) := by
 induction xs generalizing cs i with
 | nil => simp at hi
 | cons z rr ih =>
  obtain ⟨c0, cs', rfl, hc0, hr⟩ := r
  have hl := Rep.len hc
  have hl0 := Rep.len hc0
  cases i with
  | zero =>
   refine ⟨c, cs', ?_, hc, hr⟩
   simp [wrL, hl, ← hl0]
  | succ i =>
   refine ⟨c0, _, ?_, hc0, ih hr (by simpa using hi)⟩
   have e1 : (i + 1) * Rep.sz α = c0.length + i * Rep.sz α := by rw [hl0, Nat.add_mul]; omega
   simp only [wrL, e1, List.take_append, List.drop_append]
   simp [List.take_of_length_le, Nat.add_assoc]
theorem gt_get [Inhabited α] {xs : List α} {i : Int} (hi : inb xs i) : xs[i.toNat]? = some (gt xs i) := by
 have : i.toNat < xs.length := by have := hi.1; have := hi.2; omega
 simp [gt, this]
theorem inb_lt {xs : List α} {i : Int} (hi : inb xs i) : i.toNat < xs.length := by have := hi.1; have := hi.2; omega
theorem inb_pos {xs : List α} {i : Int} (hi : inb xs i) : 0 < xs.length := by have := inb_lt hi; omega
theorem RSl.mono [Rep α] {h h' : FH} {a : Option Addr} {xs : List α} (hl : FH.le h h') (r : RSl h a xs) : RSl h' a xs := by
 obtain ⟨cs, h1, h2⟩ := r
 exact ⟨cs, h1.mono hl, h2.mono hl⟩
theorem RSl.ne [Rep α] {h : FH} {a : Option Addr} {xs : List α} (r : RSl h a xs) (hz : 0 < Rep.sz α) (hx : 0 < xs.length) : a ≠ none := by
 obtain ⟨cs, h1, h2⟩ := r
 have hl : 0 < cs.length := by rw [h1.len]; exact Nat.mul_pos hx hz
 exact (h2 0 cs[0] (List.getElem?_eq_getElem hl)).1
theorem RSl.elem [Rep α] [Inhabited α] {h : FH} {a : Option Addr} {xs : List α} (r : RSl h a xs) {i : Int} (hi : inb xs i) : ∃ c, Rep.rep h (gt xs i) c ∧ (0 < Rep.sz α → CellsAt h (ead a (i.toNat * Rep.sz α)) c) := by
 obtain ⟨cs, h1, h2⟩ := r
 obtain ⟨c, hc, hj⟩ := h1.get (gt_get hi)
 refine ⟨c, hc, fun hz j v e => ?_⟩
 have hne : a ≠ none := by
  have hl : 0 < cs.length := by rw [h1.len]; exact Nat.mul_pos (inb_pos hi) hz
  exact (h2 0 cs[0] (List.getElem?_eq_getElem hl)).1
 rw [ead_add hne]
 exact (h2 _ v (hj j v e)).2
theorem RSl.elemF [Flat α] [Inhabited α] {h : FH} {a : Option Addr} {xs : List α} (r : RSl h a xs) {i : Int} (hi : inb xs i) (hz : 0 < Flat.sz α) : CellsAt h (ead a (i.toNat * Flat.sz α)) (Flat.fl (gt xs i)) := by
 obtain ⟨c, hc, hh⟩ := r.elem hi
 have := hh hz
 rwa [show c = Flat.fl (gt xs i) from hc] at this
theorem RSl.raw [Flat α] {h : FH} {a : Option Addr} {xs : List α} (r : RSl h a xs) : RawSl h a (flL xs) := by
 obtain ⟨cs, h1, h2⟩ := r
 rwa [flL_rep.1 h1] at h2
theorem RSl.of [Flat α] {h : FH} {a : Option Addr} {xs : List α} (r : RawSl h a (flL xs)) : RSl h a xs := ⟨_, flL_rep.2 rfl, r⟩
theorem RSl.nil_ [Rep α] {h : FH} {a : Option Addr} : RSl h a ([] : List α) := ⟨[], rfl, fun j v e => by simp at e⟩
theorem flL_get [Flat α] [Inhabited α] {xs : List α} {i : Int} (hi : inb xs i) {j : Nat} {v : Value} (hv : (Flat.fl (gt xs i))[j]? = some v) : (flL xs)[i.toNat * Flat.sz α + j]? = some v := by
 obtain ⟨c, hc, hj⟩ := (flL_rep (h := fun _ => none) (xs := xs)).2 rfl |>.get (gt_get hi)
 rw [show c = Flat.fl (gt xs i) from hc] at hj
 exact hj j v hv
theorem flL_set [Flat α] {xs : List α} {i : Int} (hi : inb xs i) (y : α) : wrL (flL xs) (i.toNat * Flat.sz α) (Flat.fl y) = flL (xs.set i.toNat y) :=
 flL_rep.1 ((flL_rep (h := fun _ => none) (xs := xs)).2 rfl |>.set (inb_lt hi) (show Rep.rep _ y (Flat.fl y) from rfl))
theorem OwnSl.len {e : TypeId} {sz m c : Nat} {a : Option Addr} {cs : List Value} {g : FH} (hx : OwnSl e sz a m c cs g) : m ≤ c := by
 rcases hx.2 with ⟨_, rfl, _⟩ | ⟨b, cur, rfl, _, h1, _⟩
 ·exact Nat.zero_le _
 ·exact h1
instance [Rep α] : Rep (List α) := ⟨1, fun h xs cs => ∃ a c, cs = [.slice a xs.length c] ∧ xs.length ≤ c ∧ RSl h a xs, fun ⟨_, _, e, _⟩ => by rw [e]; rfl, fun hl ⟨a, c, e, l, r⟩ => ⟨a, c, e, l, r.mono hl⟩, fun ⟨_, _, e, _⟩ v hv => by rw [e] at hv; simp at hv; subst hv; rfl⟩
end
section
variable {P : Program} {K : Kp} {n : Fr} {ops : Array Oper} {Q : Exit → Act → World → Prop} {s : St} {A A' : List Asrt} {h : FH} {l : List Oper} {c : Code} {ex : Exit}
theorem JL.cast (hA : A = A') (j : JL P K n ops l Q s A' h) : JL P K n ops l Q s A h := by subst hA; exact j
theorem J.cast (hA : A = A') (j : J P K n c Q s A' h) : J P K n c Q s A h := by subst hA; exact j
theorem E.cast (hA : A = A') (j : E K n Q ex s A' h) : E K n Q ex s A h := by subst hA; exact j
theorem SH.perm {w : World} {X Y : List Asrt} (S : SH K h w (X ++ Y)) : SH K h w (Y ++ X) := by
 obtain ⟨gs, p1, p2, p3, p4⟩ := S.parts
 have hX : (gs.take X.length).length = X.length := by simp [p1]
 have hY : (gs.drop X.length).length = Y.length := by simp [p1]
 have cut : ∀ (i : Nat) (g : FH), (gs.drop X.length ++ gs.take X.length)[i]? = some g → (i < Y.length ∧ gs[X.length + i]? = some g) ∨ (Y.length ≤ i ∧ i - Y.length < X.length ∧ gs[i - Y.length]? = some g) := fun i g hi => by
  by_cases hlt : i < Y.length
  ·rw [List.getElem?_append_left (by omega), List.getElem?_drop] at hi; exact .inl ⟨hlt, hi⟩
  ·rw [List.getElem?_append_right (by omega), hY, List.getElem?_take] at hi
   split at hi
   ·rename_i h1; exact .inr ⟨by omega, h1, hi⟩
   ·cases hi
 refine ⟨S.kept, S.sub, S.fresh, gs.drop X.length ++ gs.take X.length, by simp [p1], fun i g Z hi hZ => ?_, fun i g hi => ?_, fun i j g g2 hij hi hj => ?_⟩
 ·rcases cut i g hi with ⟨h1, h2⟩ | ⟨h1, h2, h3⟩
  ·rw [List.getElem?_append_left h1] at hZ
   exact p2 _ g Z h2 (by rw [List.getElem?_append_right (by omega)]; simpa using hZ)
  ·rw [List.getElem?_append_right h1] at hZ
   exact p2 _ g Z h3 (by rw [List.getElem?_append_left h2]; exact hZ)
 ·rcases cut i g hi with ⟨h1, h2⟩ | ⟨h1, h2, h3⟩
  ·exact p3 _ g h2
  ·exact p3 _ g h3
 ·rcases cut i g hi with ⟨h1, h2⟩ | ⟨h1, h2, h3⟩ <;> rcases cut j g2 hj with ⟨k1, k2⟩ | ⟨k1, k2, k3⟩
  ·exact p4 _ _ g g2 (by omega) h2 k2
  ·exact p4 _ _ g g2 (by omega) h2 k3
  ·exact p4 _ _ g g2 (by omega) h3 k2
  ·exact p4 _ _ g g2 (by omega) h3 k3
theorem SH.move {w : World} {X : Asrt} (S : SH K h w (X :: A)) (k : Nat) : SH K h w (A.set k X) := by
 obtain ⟨gs, p1, p2, p3, p4⟩ := S.parts
 cases gs with
 | nil => simp at p1
 | cons g0 gs =>
  have hl : gs.length = A.length := by simpa using p1
  refine ⟨S.kept, S.sub, S.fresh, gs.set k g0, by simp [hl], fun i g Y hi hY => ?_, fun i g hi => ?_, fun i j g g2 hij hi hj => ?_⟩
  ·rcases list_set_get hi with ⟨rfl, rfl, _⟩ | ⟨hne, hi'⟩
   ·rcases list_set_get hY with ⟨_, rfl, _⟩ | ⟨hne, _⟩
    ·exact p2 0 g Y rfl rfl
    ·exact absurd rfl hne
   ·rcases list_set_get hY with ⟨rfl, _, _⟩ | ⟨_, hY'⟩
    ·exact absurd rfl hne
    ·exact p2 (i + 1) g Y (by simpa using hi') (by simpa using hY')
  ·rcases list_set_get hi with ⟨rfl, rfl, _⟩ | ⟨hne, hi'⟩
   ·exact p3 0 g rfl
   ·exact p3 (i + 1) g (by simpa using hi')
  ·rcases list_set_get hi with ⟨rfl, rfl, _⟩ | ⟨hne, hi'⟩
   ·rcases list_set_get hj with ⟨rfl, rfl, _⟩ | ⟨hne2, hj'⟩
    ·exact absurd rfl hij
    ·exact p4 0 (j + 1) g g2 (by omega) rfl (by simpa using hj')
   ·rcases list_set_get hj with ⟨rfl, rfl, _⟩ | ⟨hne2, hj'⟩
    ·exact p4 (i + 1) 0 g g2 (by omega) (by simpa using hi') rfl
    ·exact p4 (i + 1) (j + 1) g g2 (by omega) (by simpa using hi') (by simpa using hj')
theorem JL.move {X : Asrt} (k : Nat) (j : JL P K n ops l Q s (A.set k X) h) : JL P K n ops l Q s (X :: A) h := fun a w H S => j a w H (S.move k)
theorem fl_room {α : Type} [Flat α] {xs : List α} {i : Int} (hi : inb xs i) : i.toNat * Flat.sz α + Flat.sz α ≤ (flL xs).length := by
 rw [flL_len]
 have h1 := inb_lt hi
 have : (i.toNat + 1) * Flat.sz α ≤ xs.length * Flat.sz α := Nat.mul_le_mul_right _ h1
 rw [Nat.add_mul] at this; omega
theorem flL_rep1 {α : Type} [Flat α] {x : α} {z : Value} (hz : Flat.fl x = [z]) (m : Nat) : List.replicate m z = flL (List.replicate m x) := by
 induction m with
 | zero => rfl
 | succ m ih => rw [List.replicate_succ, List.replicate_succ, ih]; simp [flL, hz]
theorem cellF {k off i : Nat} {e : TypeId} {sz m c : Nat} {a : Option Addr} {cs : List Value} {v : Value} (hk : A[k]? = some (OwnSl e sz a m c cs)) (hv : cs[i + off]? = some v) : ∀ w, SH K h w A → w.cell? ((ead a i).add off) = some v := fun w S => by
 obtain ⟨g, hx, own, _⟩ := S.upd hk
 obtain ⟨h1, h2⟩ := hx.cells _ v hv
 rw [ead_add h1]
 exact own.sub.cell h2
theorem SH.moveAt {w : World} {X : Asrt} (S : SH K h w A) (q k : Nat) (hq : A[q]? = some X) : SH K h w ((A.set k X).set q tru) := by
 obtain ⟨gs, p1, p2, p3, p4⟩ := S.parts
 have hql : q < gs.length := by rw [p1]; exact (List.getElem?_eq_some_iff.1 hq).1
 have hg : gs[q]? = some gs[q] := List.getElem?_eq_getElem hql
 have look : ∀ (i : Nat) (g : FH), ((gs.set k gs[q]).set q (fun _ => none))[i]? = some g → (i = q ∧ g = fun _ => none) ∨ (i ≠ q ∧ i = k ∧ g = gs[q]) ∨ (i ≠ q ∧ i ≠ k ∧ gs[i]? = some g) := fun i g hi => by
  rcases list_set_get hi with ⟨h1, h2, _⟩ | ⟨h1, h2⟩
  ·exact .inl ⟨h1, h2⟩
  ·rcases list_set_get h2 with ⟨h3, h4, _⟩ | ⟨h3, h4⟩
   ·exact .inr (.inl ⟨h1, h3, h4⟩)
   ·exact .inr (.inr ⟨h1, h3, h4⟩)
 refine ⟨S.kept, S.sub, S.fresh, (gs.set k gs[q]).set q (fun _ => none), by simp [p1], fun i g Y hi hY => ?_, fun i g hi => ?_, fun i j g g2 hij hi hj => ?_⟩
 ·rcases list_set_get hY with ⟨h1, h2, _⟩ | ⟨h1, h2⟩
  ·rw [h2]; trivial
  ·rcases list_set_get h2 with ⟨h3, h4, _⟩ | ⟨h3, h4⟩
   ·rcases look i g hi with ⟨q1, _⟩ | ⟨_, _, q3⟩ | ⟨_, q2, _⟩
    ·exact absurd q1 h1
    ·rw [q3, h4]; exact p2 q _ X hg hq
    ·exact absurd h3 q2
   ·rcases look i g hi with ⟨q1, _⟩ | ⟨_, q2, _⟩ | ⟨_, _, q3⟩
    ·exact absurd q1 h1
    ·exact absurd q2 h3
    ·exact p2 i g Y q3 h4
 ·rcases look i g hi with ⟨_, q2⟩ | ⟨_, _, q3⟩ | ⟨_, _, q3⟩
  ·rw [q2]; exact ⟨fun _ => .inr rfl, (fun _ _ e => by cases e), (fun _ e => absurd rfl e)⟩
  ·rw [q3]; exact p3 q _ hg
  ·exact p3 i g q3
 ·rcases look i g hi with ⟨_, q2⟩ | ⟨a1, a2, a3⟩ | ⟨a1, a2, a3⟩
  ·rw [q2]; exact fun _ => .inl rfl
  ·rcases look j g2 hj with ⟨_, r2⟩ | ⟨b1, b2, b3⟩ | ⟨b1, b2, b3⟩
   ·rw [r2]; exact fun _ => .inr rfl
   ·exact absurd (a2.trans b2.symm) hij
   ·rw [a3]; exact p4 q j _ g2 (fun e => b1 e.symm) hg b3
  ·rcases look j g2 hj with ⟨_, r2⟩ | ⟨b1, b2, b3⟩ | ⟨b1, b2, b3⟩
   ·rw [r2]; exact fun _ => .inr rfl
   ·rw [b3]; exact p4 i q g _ a1 a3 hg
   ·exact p4 i j g g2 hij a3 b3
theorem SH.pick {w : World} {k : Nat} {X : Asrt} (S : SH K h w A) (hk : A[k]? = some X) : SH K h w [X] := by
 have : ∀ (B : List Asrt), SH K h w (X :: B) → SH K h w [X] := fun B SB => by
  have := SH.perm (X := [X]) (Y := B) SB
  clear SB
  induction B with
  | nil => exact this
  | cons y r ih => exact ih (SH.drop this)
 have hkl := (List.getElem?_eq_some_iff.1 hk).1
 have S2 := SH.perm (X := A.take k) (Y := A.drop k) (by rw [List.take_append_drop]; exact S)
 rw [List.drop_eq_getElem_cons hkl, (List.getElem?_eq_some_iff.1 hk).2] at S2
 exact this _ S2
def room (m by_ : Nat) : Prop := m ≤ maxLen ∧ m * by_ ≤ 140737488355328
def mkok (i : Int) (by_ : Nat) : Prop := 0 ≤ i ∧ i.toNat * by_ ≤ 281474976710656 ∧ i.toNat ≤ maxLen
end
section
variable {P : Program} {K : Kp} {n : Fr} {s : St} {A : List Asrt} {h : FH} {dd : Option Tmp} {gd : Option (Nat × Bool)} {ty : TypeId} {pos : String} {af : Array Edge}
structure TEq2 (P : Program) (t : TypeId) : Prop where
 guard : P.eqGuardType P.depth t = false
 run : ∀ d a b c e w, (Op.equalIn (d + 2) t (.agg #[.int .i64 a, .int .i64 b]) (.agg #[.int .i64 c, .int .i64 e])).run P w = .ok (a == c && b == e) w
theorem eq2 {x y : Operand} {t t' : TypeId} {a b c e : Int} (ht : TEq2 P t) (hx : ev s x = some (.agg #[.int .i64 a, .int .i64 b])) (hy : ev s y = some (.agg #[.int .i64 c, .int .i64 e])) : VF P K n s A h ⟨dd, .binOp .eql t x y t', ty, pos, af, gd⟩ (.bool (a == c && b == e)) := fun ac w H _ => by
 simp only [execOp, H.ev hx, H.ev hy, Sem.run_bind, run_eqGuard_agg w .eql t x y _ _ ht.guard, Result.andThen_ok, run_eql_struct, ht.run 9998]
 rfl
theorem ne2 {x y : Operand} {t t' : TypeId} {a b c e : Int} (ht : TEq2 P t) (hx : ev s x = some (.agg #[.int .i64 a, .int .i64 b])) (hy : ev s y = some (.agg #[.int .i64 c, .int .i64 e])) : VF P K n s A h ⟨dd, .binOp .neq t x y t', ty, pos, af, gd⟩ (.bool (!(a == c && b == e))) := fun ac w H _ => by
 simp only [execOp, H.ev hx, H.ev hy, Sem.run_bind, run_eqGuard_agg w .neq t x y _ _ ht.guard, Result.andThen_ok, run_neq_struct, ht.run 9998]
 rfl
end
end Go.Proofs.YtimillpakjgnoaaGreat.Pl

namespace Go.Proofs.YtimillpakjgnoaaGreat.Pl
open Go Go.RowKit
section
variable {P : Program} {K : Kp} {n : Fr} {ops : Array Oper} {Q : Exit → Act → World → Prop} {s : St} {A A' : List Asrt} {h : FH} {rest : List Oper}
theorem SubSt.nil {s : St} : SubSt [] s := trivial
theorem SubSt.cons {s r : St} {t : Nat} {v : Value} (e : Pl.get s t = some v) (h : SubSt r s) : SubSt ((t, v) :: r) s := ⟨e, h⟩
theorem J.share {σ : Type} (G : σ → Prop) (S : σ → St) (M : σ → List Asrt) (F : σ → FH) {x r : Code} (hr : ∀ z, G z → J P K n r Q (S z) (M z) (F z))
  (hx : (∀ z, G z → J P K n r Q (S z) (M z) (F z)) → J P K n x (Exit.then (fun a w => WC P n.ro r Q a w) Q) s A h) : J P K n (.seq x r) Q s A h := .seq (hx hr)
theorem J.shareT {σ : Type} (G : σ → Prop) (S : σ → St) (M : σ → List Asrt) (F : σ → FH) {x r : Code} (hr : ∀ z, G z → J P K n r Q (S z) (M z) (F z))
  (hx : (∀ z, G z → J P K n r Q (S z) (M z) (F z)) → J P K n x (Exit.then (fun a w => WC P n.ro r Q a w) Q) s A h) : J P K n x (Exit.then (fun a w => WC P n.ro r Q a w) Q) s A h := hx hr
theorem E.use {σ : Type} {G : σ → Prop} {S : σ → St} {M : σ → List Asrt} {F : σ → FH} {r : Code} (hj : ∀ z, G z → J P K n r Q (S z) (M z) (F z)) (z : σ) (hz : G z) (hs : SubSt (S z) s) (hm : M z = A) (hf : FH.le (F z) h) :
  E K n (Exit.then (fun a w => WC P n.ro r Q a w) Q) .normal s A h := by
 subst hm
 exact .seqN (.up hf (.sub hs (hj z hz)))
section ops
variable {dd : Option Tmp} {gd : Option (Nat × Bool)} {ty : TypeId} {pos : String} {af : Array Edge}
theorem cellsO {k i : Nat} {e : TypeId} {sz m c : Nat} {a : Option Addr} {cs cs' : List Value} (hk : A[k]? = some (OwnSl e sz a m c cs)) (hv : ∀ j v, cs'[j]? = some v → cs[i + j]? = some v) : ∀ w, SH K h w A → ∀ j v, cs'[j]? = some v → w.cell? ((ead a i).add j) = some v :=
 fun w S j v e => cellF (off := j) hk (hv j v e) w S
end ops
theorem J.openL {m_ : Nat} {dl_ : List Nat} {id : Nat} {l : List Oper} (hm : P.follows .mixedOrders = true) (hl : l.dropLast ++ [l.getLastD default] = l) (hB : Region.lexB .any l.dropLast.toArray = true) (hT : tailB l.dropLast.toArray (l.getLastD default) = true)
  (j : QL P K ⟨m_, none, dl_⟩ l.dropLast.toArray l.dropLast (fun a => ∀ w, SH K h w A → wpList P l.toArray Q [l.getLastD default] a w) s A h) : J P K ⟨m_, none, dl_⟩ (.region id l.toArray true) Q s A h :=
 J.openT l.dropLast (l.getLastD default) hl hm hB hT j
theorem SH.none {w : World} (S : SH K h w A) : SH K h w [] := by
 induction A with
 | nil => exact S
 | cons x r ih => exact ih S.drop
theorem SH.sel {w : World} {L L' R : List Asrt} (is : List Nat) (hn : is.Nodup) (hL : is.map (fun i => L[i]?) = L'.map some) (S : SH K h w (L ++ R)) : SH K h w (L' ++ R) := by
 obtain ⟨gs, p1, p2, p3, p4⟩ := S.parts
 have hlen : gs.length = L.length + R.length := by simpa using p1
 have hl : is.length = L'.length := by simpa using congrArg List.length hL
 have hin : ∀ (j i : Nat), is[j]? = some i → i < L.length ∧ L'[j]? = L[i]? := fun j i hj => by
  have h1 : (is.map (fun i => L[i]?))[j]? = some (L[i]?) := by simp [hj]
  rw [hL] at h1
  rw [List.getElem?_map] at h1
  cases h2 : L'[j]? with
  | none => rw [h2] at h1; cases h1
  | some x =>
   rw [h2] at h1
   have h3 : L[i]? = some x := (Option.some.inj h1).symm
   exact ⟨(List.getElem?_eq_some_iff.1 h3).1, h3.symm⟩
 have cut : ∀ (j : Nat) (g : FH), (is.map (fun i => gs.getD i (fun _ => Option.none)) ++ gs.drop L.length)[j]? = some g → ∃ k, k < gs.length ∧ gs[k]? = some g ∧ (L' ++ R)[j]? = (L ++ R)[k]? ∧ ((j < is.length ∧ is[j]? = some k) ∨ (is.length ≤ j ∧ k = L.length + (j - is.length))) := fun j g hj => by
  by_cases hlt : j < is.length
  ·rw [List.getElem?_append_left (by simpa using hlt)] at hj
   have hi : is[j]? = some is[j] := List.getElem?_eq_getElem hlt
   obtain ⟨q1, q2⟩ := hin j _ hi
   have hk : is[j] < gs.length := by omega
   refine ⟨is[j], hk, ?_, ?_, .inl ⟨hlt, hi⟩⟩
   ·simp only [List.getElem?_map, hi, Option.map_some] at hj
    rw [← hj]; simp [hk]
   ·rw [List.getElem?_append_left (by omega), List.getElem?_append_left q1, q2]
  ·rw [List.getElem?_append_right (by simp; omega)] at hj
   simp only [List.length_map, List.getElem?_drop] at hj
   refine ⟨L.length + (j - is.length), (List.getElem?_eq_some_iff.1 hj).1, hj, ?_, .inr ⟨by omega, rfl⟩⟩
   rw [List.getElem?_append_right (by omega), List.getElem?_append_right (by omega)]
   congr 1; omega
 refine ⟨S.kept, S.sub, S.fresh, is.map (fun i => gs.getD i (fun _ => Option.none)) ++ gs.drop L.length, by simp [hl, hlen], fun j g Y hj hY => ?_, fun j g hj => ?_, fun i j g g2 hij hi hj => ?_⟩
 ·obtain ⟨k, _, k2, k3, _⟩ := cut j g hj
  exact p2 k g Y k2 (by rw [← k3]; exact hY)
 ·obtain ⟨k, _, k2, _⟩ := cut j g hj
  exact p3 k g k2
 ·obtain ⟨k, _, k2, _, k4⟩ := cut i g hi
  obtain ⟨m, _, m2, _, m4⟩ := cut j g2 hj
  refine p4 k m g g2 (fun e => hij ?_) k2 m2
  rcases k4 with ⟨a1, a2⟩ | ⟨a1, a2⟩ <;> rcases m4 with ⟨b1, b2⟩ | ⟨b1, b2⟩
  ·rw [e] at a2
   have e1 := (List.getElem?_eq_some_iff.1 a2).2
   have e2 := (List.getElem?_eq_some_iff.1 b2).2
   exact (List.getElem_inj hn).1 (e1.trans e2.symm)
  ·have := (hin i k a2).1; omega
  ·have := (hin j m b2).1; omega
  ·omega
theorem sel_map {L : List Asrt} {is : List Nat} (hL : is.map (fun i => L[i]?) = (is.map (fun i => L.getD i tru)).map some) {w : World} {R : List Asrt} (hn : is.Nodup) (S : SH K h w (L ++ R)) : SH K h w (is.map (fun i => L.getD i tru) ++ R) := S.sel is hn hL
theorem J.sel0 (is : List Nat) {c : Code} (hn : is.Nodup) (hL : is.map (fun i => A[i]?) = (is.map (fun i => A.getD i tru)).map some) (j : J P K n c Q s (is.map (fun i => A.getD i tru)) h) : J P K n c Q s A h := fun a w H S => j a w H (by
 have := sel_map (R := []) hL hn (by rwa [List.append_nil])
 rwa [List.append_nil] at this)
theorem E.sel0 (is : List Nat) {ex : Exit} (hn : is.Nodup) (hL : is.map (fun i => A[i]?) = (is.map (fun i => A.getD i tru)).map some) (j : E K n Q ex s (is.map (fun i => A.getD i tru)) h) : E K n Q ex s A h := fun a w H S => j a w H (by
 have := sel_map (R := []) hL hn (by rwa [List.append_nil])
 rwa [List.append_nil] at this)
theorem inb_n {β : Type} {xs : List β} {i : Int} {m : Nat} (hi : inb xs i) (hl : xs.length = m) : 0 ≤ i ∧ i < m := by subst hl; exact hi
theorem room_of {m m' by_ : Nat} (e : m = m') (r : room m' by_) : m ≤ maxLen ∧ m * by_ ≤ 140737488355328 := by subst e; exact r
theorem len_app {β : Type} {xs ys : List β} {m k : Nat} (h1 : xs.length = m) (h2 : ys.length = k) : m + k = (xs ++ ys).length := by subst h1; subst h2; exact List.length_append.symm
theorem zfill (zs : List Value) (len : Nat) : (Array.range (len * zs.length)).map (fun i => zs.toArray[i % zs.toArray.size]!) = (List.replicate len zs).flatten.toArray := by
 apply Array.toList_inj.1
 simp only [Array.toList_map, Array.toList_range, List.size_toArray]
 induction len with
 | zero => simp
 | succ m ih =>
  rw [List.replicate_succ', List.flatten_append, ← ih, Nat.add_mul, Nat.one_mul, List.range_add, List.map_append]
  congr 1
  apply List.ext_getElem?
  intro j
  simp only [List.map_map, List.getElem?_map, List.flatten_singleton]
  by_cases hj : j < zs.length
  ·simp [hj, Nat.mod_eq_of_lt hj]
  ·simp [hj]
theorem bs2 {d : Nat} {ty : TypeId} {pos : String} {af : Array Edge} {t e : TypeId} {len sz by_ : Nat} {zs : List Value} {parts : Array (Nat × Operand)} {pv : List (Nat × Value)} {cs : Array Value} (ht : TSl P t e sz by_ zs)
  (hp : (parts.toList.map (fun p => (ev s p.2).map (fun v => (p.1, v)))) = pv.map some) (hz : zs.length = sz) (hlen : len * sz ≤ 1000) (hml : len ≤ 1000)
  (hf : Instr.fill (fun i => some (i * sz, sz)) (List.replicate len zs).flatten.toArray pv = some cs) (hc : cs.size = len * sz) (hn : Nat.blt d n.sz = true)
  (k : ∀ a, a ≠ none → JL P K n ops rest Q ((d, .slice a len len) :: s) (OwnSl e sz a len len cs.toList :: A) h) : JL P K n ops (⟨some d, .buildSlice t len parts, ty, pos, af, none⟩ :: rest) Q s A h :=
 bs ht hp hlen hml (by subst hz; rw [zfill]; exact hf) hc hn k
section
variable {dd : Option Tmp} {gd : Option (Nat × Bool)} {ty : TypeId} {pos : String} {af : Array Edge}
end
theorem lookB {k : Nat} {p : Addr} {cs : List Value} {w : World} (S : SH K h w A) (hk : A[k]? = some (Box p cs)) : ∃ h', FH.le h h' ∧ Sub h' w ∧ CellsAt h' p cs := by
 obtain ⟨g, hx, hd, S'⟩ := S.look hk
 exact ⟨_, FH.le_join_left h g, S', hx.cells.mono (FH.le_join_right hd)⟩
theorem freezeB {k : Nat} {p : Addr} {cs : List Value} {w : World} (S : SH K h w A) (hk : A[k]? = some (Box p cs)) : ∃ h', FH.le h h' ∧ SH K h' w (A.set k tru) ∧ CellsAt h' p cs := by
 obtain ⟨g, hx, hd, S'⟩ := S.freeze hk
 exact ⟨_, FH.le_join_left h g, S', hx.cells.mono (FH.le_join_right hd)⟩
section
variable {α : Type} [Rep α] {a : Option Addr} {xs : List α} {c : Nat} {i : Int}
theorem RepL.take_ {h : FH} {xs : List α} {cs : List Value} (r : RepL h xs cs) (m : Nat) : RepL h (xs.take m) (cs.take (m * Rep.sz α)) := by
 induction xs generalizing cs m with
 | nil => rw [show cs = [] from r]; simp [RepL]
 | cons x rr ih =>
  obtain ⟨c, cs', rfl, hc, hr⟩ := r
  cases m with
  | zero => simp [RepL]
  | succ m =>
   have hl := Rep.len hc
   refine ⟨c, cs'.take (m * Rep.sz α), ?_, hc, ih hr m⟩
   have e : (m + 1) * Rep.sz α = c.length + m * Rep.sz α := by rw [hl, Nat.add_mul]; omega
   rw [e, List.take_append, List.take_of_length_le (by omega), Nat.add_sub_cancel_left]
end
theorem RSl.nil_of {α : Type} [Rep α] {h : FH} {a : Option Addr} {xs : List α} (r : RSl h a xs) (hz : 0 < Rep.sz α) (ha : a.isNone = true) : xs = [] := by
 cases xs with
 | nil => rfl
 | cons x rr => exact absurd (by simpa using ha) (r.ne hz (by simp))
theorem eqnil {dd : Option Tmp} {gd : Option (Nat × Bool)} {ty : TypeId} {pos : String} {af : Array Edge} {x y : Operand} {t t' : TypeId} {a : Option Addr} {m c : Nat} (ht : TIsSl P t) (hx : ev s x = some (.slice a m c)) (hy : ev s y = some (.slice none 0 0)) : VF P K n s A h ⟨dd, .binOp .eql t x y t', ty, pos, af, gd⟩ (.bool a.isNone) := fun ac w H _ => by
 obtain ⟨e, he⟩ := ht
 have hg : (eqGuard .eql t x y (.slice a m c) (.slice none 0 0)).run P w = .ok () w := by simp [eqGuard]
 cases a with
 | none =>
  simp only [execOp, H.ev hx, H.ev hy, Sem.run_bind, hg, Result.andThen_ok, Lib.run_eql_slice_nil_nil w m c he]
  rfl
 | some b =>
  simp only [execOp, H.ev hx, H.ev hy, Sem.run_bind, hg, Result.andThen_ok, Lib.run_eql_slice_some_nil w b m c he]
  rfl
theorem cv {dd : Option Tmp} {gd : Option (Nat × Bool)} {ty : TypeId} {pos : String} {af : Array Edge} {x : Operand} {ts td : TypeId} {ki kj kk : IntKind} {i : Int} (hs : P.underlying ts = some (.int kk)) (hd : P.underlying td = some (.int kj)) (hx : ev s x = some (.int ki i)) : VF P K n s A h ⟨dd, .convert ts td x, ty, pos, af, gd⟩ (.int kj (kj.wrap i)) := fun ac w H _ => by
 simp [execOp, H.ev hx, convert, run_underlying hs, run_underlying hd, Conv.intToInt]
theorem flL_take {α : Type} [Flat α] (xs : List α) (m : Nat) (h1 : Flat.sz α = 1) : (flL xs).take m = flL (xs.take m) := by
 have := (flL_rep (h := fun _ => none) (xs := xs)).2 rfl |>.take_ m
 rw [show Rep.sz α = Flat.sz α from rfl, h1, Nat.mul_one] at this
 exact flL_rep.1 this
theorem look_len {k : Nat} {e : TypeId} {sz m c : Nat} {a : Option Addr} {cs : List Value} {w : World} (S : SH K h w A) (hk : A[k]? = some (OwnSl e sz a m c cs)) : m ≤ c := by
 obtain ⟨g, hx, _⟩ := S.upd hk
 exact hx.len
theorem JL.freezeBx {k : Nat} {p : Addr} {cs : List Value} {l : List Oper} (hk : A[k]? = some (Box p cs)) (kk : ∀ h', FH.le h h' → CellsAt h' p cs → JL P K n ops l Q s (A.set k tru) h') : JL P K n ops l Q s A h := fun ac w H S => by
 obtain ⟨h', h1, h2, h3⟩ := freezeB S hk
 exact kk h' h1 h3 ac w H h2
theorem J.freezeL {k : Nat} {e : TypeId} {sz m c : Nat} {a : Option Addr} {cs : List Value} {l : Code} (hk : A[k]? = some (OwnSl e sz a m c cs)) (kk : ∀ h', FH.le h h' → m ≤ c → RawSl h' a cs → J P K n l Q s (A.set k tru) h') : J P K n l Q s A h := fun ac w H S => by
 have hlen := look_len S hk
 obtain ⟨g, hx, hd, S'⟩ := S.freeze hk
 exact kk _ (FH.le_join_left h g) hlen (hx.cells.mono (FH.le_join_right hd)) ac w H S'
theorem JL.freezeL {k : Nat} {e : TypeId} {sz m c : Nat} {a : Option Addr} {cs : List Value} {l : List Oper} (hk : A[k]? = some (OwnSl e sz a m c cs)) (kk : ∀ h', FH.le h h' → m ≤ c → RawSl h' a cs → JL P K n ops l Q s (A.set k tru) h') : JL P K n ops l Q s A h := fun ac w H S => by
 have hlen := look_len S hk
 obtain ⟨g, hx, hd, S'⟩ := S.freeze hk
 exact kk _ (FH.le_join_left h g) hlen (hx.cells.mono (FH.le_join_right hd)) ac w H S'
end
end Go.Proofs.YtimillpakjgnoaaGreat.Pl

namespace Go.Proofs.YtimillpakjgnoaaGreat.Pl
open Go Go.RowKit
section
variable {P : Program} {K : Kp} {m_ : Nat} {ro_ : Option (Option Nat)} {dl_ : List Nat} {ops : Array Oper} {Q : Exit → Act → World → Prop} {s : St} {A : List Asrt} {h : FH}
def depsOf (o : Oper) : List Nat := (o.after.toList.filter (Region.binds .any)).map (·.on)
def dl (ops : Array Oper) (val : St) (o : Oper) : St := (depsOf o).filterMap fun j => match (ops[j]?).bind (·.dst), get val j with
 | some d, some v => some (d, v)
 | _, _ => none
def dstOk (ops : Array Oper) (keys X : List Nat) : Bool :=
 ((List.range ops.size).all fun i => (List.range ops.size).all fun j => i == j || (match (ops[i]?).bind (·.dst), (ops[j]?).bind (·.dst) with | some x, some y => !(Nat.beq x y) | _, _ => true)) &&
 ((List.range ops.size).all fun i => X.contains i || match (ops[i]?).bind (·.dst) with | some x => keys.all fun p => !(Nat.beq p x) | none => true) &&
 (List.range ops.size).all fun i => match ops[i]? with | some o => (depsOf o).all fun j => decide (j < i) | none => true
def enOk (ops : Array Oper) (D C H : List Nat) : Bool :=
 (List.range ops.size).all fun i => D.contains i || C.contains i || H.contains i || (match ops[i]? with | some o => !((depsOf o).all fun j => D.contains j || C.contains j) | none => true)
def lst (l : Array Bool) (i : Nat) : Prop := l.getD i false = true
structure Known (ops : Array Oper) (D C : List Nat) (val s0 : St) (listed : Array Bool) (sL : St) : Prop where
 size : listed.size = ops.size
 done : ∀ i ∈ D, lst listed i
 only : ∀ i, lst listed i → i ∈ D ∨ i ∈ C
 base : ∀ t v, get s0 t = some v → get sL t = some v
 vals : ∀ i o d v, lst listed i → ops[i]? = some o → o.dst = some d → get val i = some v → get sL d = some v
 closed : ∀ i o, lst listed i → ops[i]? = some o → ∀ j ∈ depsOf o, lst listed j
def ancOk (ops : Array Oper) : List Nat → List Nat → Bool
 | _, [] => true
 | acc, j :: r => (acc.any fun k => match ops[k]? with | some o => (depsOf o).contains j | none => false) && ancOk ops (j :: acc) r
theorem anc_done {listed : Array Bool} : ∀ (M acc : List Nat), (∀ k ∈ acc, ∀ o, ops[k]? = some o → ∀ j ∈ depsOf o, lst listed j) → (∀ i o, lst listed i → ops[i]? = some o → ∀ j ∈ depsOf o, lst listed j) → ancOk ops acc M = true → ∀ j ∈ M, lst listed j
 | [], _, _, _, _ => fun j hj => by cases hj
 | m :: r, acc, ha, hc, hok => fun j hj => by
  simp only [ancOk, Bool.and_eq_true, List.any_eq_true] at hok
  obtain ⟨⟨k, hk, hk2⟩, hr⟩ := hok
  have hm : lst listed m := by
   cases hok2 : ops[k]? with
   | none => rw [hok2] at hk2; cases hk2
   | some o => rw [hok2] at hk2; exact ha k hk o hok2 m (by simpa using hk2)
  rcases List.mem_cons.1 hj with rfl | hj
  ·exact hm
  ·refine anc_done r (m :: acc) (fun k' hk' o ho => ?_) hc hr j hj
   rcases List.mem_cons.1 hk' with rfl | hk'
   ·exact hc _ o hm ho
   ·exact ha k' hk' o ho
def WO (P : Program) (ro : Option (Option Nat)) (ops : Array Oper) (Q : Exit → Act → World → Prop) (i : Nat) (X : Act → World → Prop) (a : Act) (w : World) : Prop :=
 match ro with
 | none => wpOp P ops Q i X a w
 | some l => wpOpIn (FR l) 0 P ops Q i X a w
def WA (P : Program) (ro : Option (Option Nat)) (ops : Array Oper) (Q : Exit → Act → World → Prop) : Nat → Array Bool → Act → World → Prop
 | 0, listed, a, w => Region.ready .any ops listed = [] ∧ Q .normal a w
 | fuel + 1, listed, a, w => (Region.ready .any ops listed = [] → Q .normal a w) ∧ ∀ i ∈ Region.ready .any ops listed, WO P ro ops Q i (WA P ro ops Q fuel (listed.setIfInBounds i true)) a w
theorem WA_none : ∀ fuel : Nat, WA P none ops Q fuel = wpAny P .any ops Q fuel := fun fuel => by
 induction fuel with
 | zero => rfl
 | succ k ih => funext listed a w; simp only [WA, wpAny, WO, ih]
theorem WA_some {l : Option Nat} : ∀ fuel : Nat, WA P (some l) ops Q fuel = wpAnyIn (FR l) 0 P .any ops Q fuel := fun fuel => by
 induction fuel with
 | zero => rfl
 | succ k ih => funext listed a w; simp only [WA, wpAnyIn, WO, ih]
theorem nodefer {o : Oper} {a : Act} {w w' : World} {x : Next} (hr : (execOp a.eval o).run P w = .ok x w') (hx : (∃ v, x = .value v) ∨ ∃ f args, x = .enter f args) : ∀ c, o.op ≠ .defer c := fun c e => by
 simp only [execOp, e, Sem.run_bind] at hr
 cases q : (resolve a.eval c o.type).run P w with
 | ok x y => rw [q] at hr; rcases hx with ⟨v, rfl⟩ | ⟨f, args, rfl⟩ <;> simp at hr
 | halt x y => rw [q] at hr; simp at hr
theorem WO.val {i : Nat} {o : Oper} {X : Act → World → Prop} {a : Act} {w w' : World} {v : Value} (ho : ops[i]? = some o) (hw : Region.wanted o (yielded ops a.tmps) = true) (hr : (execOp a.eval o).run P w = .ok (.value v) w') (k : X (a.put o.dst v) w') : WO P ro_ ops Q i X a w := by
 cases ro_ with
 | none =>
  unfold WO wpOp
  rw [ho]
  simp only [if_pos hw]
  refine .inl ?_
  unfold Oper.wp
  rw [hr]
  exact k
 | some l =>
  unfold WO wpOpIn
  rw [ho]
  simp only [if_pos hw]
  refine ⟨fun _ _ => trivial, ?_⟩
  rw [Oper.semAt_eq _ _ _ (nodefer hr (.inl ⟨v, rfl⟩)), hr]
  exact k
theorem WO.enter {i : Nat} {o : Oper} {X : Act → World → Prop} {a : Act} {w w' : World} {f : FuncId} {args : Array Value} (ho : ops[i]? = some o) (hw : Region.wanted o (yielded ops a.tmps) = true) (hr : (execOp a.eval o).run P w = .ok (.enter f args) w') (hc : Calls P f args w' fun e w'' => ∃ v, e = .returned v ∧ X (a.put o.dst v) w'') : WO P ro_ ops Q i X a w := by
 cases ro_ with
 | none =>
  unfold WO wpOp
  rw [ho]
  simp only [if_pos hw]
  refine .inl ?_
  unfold Oper.wp
  rw [hr]
  refine hc.mono fun e w'' ⟨v, he, k⟩ => ?_
  subst he
  exact k
 | some l =>
  unfold WO wpOpIn
  rw [ho]
  simp only [if_pos hw]
  refine ⟨fun _ _ => trivial, ?_⟩
  rw [Oper.semAt_eq _ _ _ (nodefer hr (.inr ⟨f, args, rfl⟩)), hr]
  refine ⟨fun h => (by cases h), calls_FR (hc.mono fun e w'' ⟨v, he, k⟩ => ?_)⟩
  subst he
  exact k
theorem WO.skip {i : Nat} {o : Oper} {X : Act → World → Prop} {a : Act} {w : World} (ho : ops[i]? = some o) (hw : ¬ Region.wanted o (yielded ops a.tmps) = true) (k : X (a.put o.dst undef) w) : WO P ro_ ops Q i X a w := by
 cases ro_ with
 | none =>
  unfold WO wpOp
  rw [ho]
  simp only [if_neg hw]
  exact k
 | some l =>
  unfold WO wpOpIn
  rw [ho]
  simp only [if_neg hw]
  exact ⟨fun _ _ => trivial, k⟩
def JA (P : Program) (K : Kp) (n : Fr) (ops : Array Oper) (Q : Exit → Act → World → Prop) (X D C : List Nat) (val s0 : St) (A : List Asrt) (h : FH) : Prop :=
 dstOk ops (s0.map (·.1)) X = true → ∀ (fuel : Nat) (listed : Array Bool) (a : Act) (w : World) (sL : St), Known ops D C val s0 listed sL → listed.toList.count false ≤ fuel → Holds n sL a → SH K h w A → WA P n.ro ops Q fuel listed a w
def gdT (ops : Array Oper) (si : St) (o : Oper) : Prop := match o.guard with | none => True | some (g, w) => ∃ t, (ops[g]?).bind (·.dst) = some t ∧ get si t = some (.bool w)
def gdF (ops : Array Oper) (si : St) (o : Oper) : Prop := match o.guard with | none => False | some (g, w) => ∃ t v, (ops[g]?).bind (·.dst) = some t ∧ get si t = some v ∧ (v = .bool (!w) ∨ v = undef)
def QA (P : Program) (K : Kp) (n : Fr) (ops : Array Oper) (val s0 : St) (A : List Asrt) (h : FH) (C : List Nat) : Prop :=
 ∀ i ∈ C, ∃ o d v si, ops[i]? = some o ∧ o.dst = some d ∧ Nat.blt d n.sz = true ∧ get val i = some v ∧ dl ops val o = si ∧ ((gdT ops si o ∧ ((∀ sL, VF P K n (si ++ (s0 ++ sL)) A h o v) ∨ (∀ sL, CF P K n (si ++ (s0 ++ sL)) A h o v))) ∨ (gdF ops si o ∧ v = undef))
section
variable {val s0 : St} {i d g t : Nat} {C : List Nat} {o : Oper} {u : Value} {want b : Bool}
theorem QA.nil : QA P K ⟨m_, ro_, dl_⟩ ops val s0 A h [] := fun i hi => by cases hi
theorem QA.cons (si : St) (ho : ops[i]? = some o) (hd : o.dst = some d) (hn : Nat.blt d m_ = true) (hv : get val i = some u) (hs : dl ops val o = si) (hx : (gdT ops si o ∧ ((∀ sL, VF P K ⟨m_, ro_, dl_⟩ (si ++ (s0 ++ sL)) A h o u) ∨ (∀ sL, CF P K ⟨m_, ro_, dl_⟩ (si ++ (s0 ++ sL)) A h o u))) ∨ (gdF ops si o ∧ u = undef)) (r : QA P K ⟨m_, ro_, dl_⟩ ops val s0 A h C) : QA P K ⟨m_, ro_, dl_⟩ ops val s0 A h (i :: C) := fun j hj => by
 rcases List.mem_cons.1 hj with rfl | hj
 ·exact ⟨o, d, u, si, ho, hd, hn, hv, hs, hx⟩
 ·exact r j hj
theorem gdT_none {si : St} (hg : o.guard = none) : gdT ops si o := by unfold gdT; rw [hg]; trivial
theorem QA.v (si : St) (ho : ops[i]? = some o) (hg : o.guard = none) (hd : o.dst = some d) (hn : Nat.blt d m_ = true) (hv : get val i = some u) (hs : dl ops val o = si) (hx : ∀ sL, VF P K ⟨m_, ro_, dl_⟩ (si ++ (s0 ++ sL)) A h o u) (r : QA P K ⟨m_, ro_, dl_⟩ ops val s0 A h C) : QA P K ⟨m_, ro_, dl_⟩ ops val s0 A h (i :: C) :=
 .cons si ho hd hn hv hs (.inl ⟨gdT_none hg, .inl hx⟩) r
theorem QA.c (si : St) (ho : ops[i]? = some o) (hg : o.guard = none) (hd : o.dst = some d) (hn : Nat.blt d m_ = true) (hv : get val i = some u) (hs : dl ops val o = si) (hx : ∀ sL, CF P K ⟨m_, ro_, dl_⟩ (si ++ (s0 ++ sL)) A h o u) (r : QA P K ⟨m_, ro_, dl_⟩ ops val s0 A h C) : QA P K ⟨m_, ro_, dl_⟩ ops val s0 A h (i :: C) :=
 .cons si ho hd hn hv hs (.inl ⟨gdT_none hg, .inr hx⟩) r
theorem gdT_some {si : St} (hg : o.guard = some (g, want)) (ht : (ops[g]?).bind (·.dst) = some t) (hv : get si t = some (.bool b)) (hb : b = want) : gdT ops si o := by unfold gdT; rw [hg]; subst hb; exact ⟨t, ht, hv⟩
theorem QA.gv (si : St) (ho : ops[i]? = some o) (hg : o.guard = some (g, want)) (ht : (ops[g]?).bind (·.dst) = some t) (hgv : get si t = some (.bool b)) (hb : b = want) (hd : o.dst = some d) (hn : Nat.blt d m_ = true) (hv : get val i = some u) (hs : dl ops val o = si) (hx : ∀ sL, VF P K ⟨m_, ro_, dl_⟩ (si ++ (s0 ++ sL)) A h o u) (r : QA P K ⟨m_, ro_, dl_⟩ ops val s0 A h C) : QA P K ⟨m_, ro_, dl_⟩ ops val s0 A h (i :: C) :=
 .cons si ho hd hn hv hs (.inl ⟨gdT_some hg ht hgv hb, .inl hx⟩) r
theorem QA.gS (si : St) (ho : ops[i]? = some o) (hg : o.guard = some (g, want)) (ht : (ops[g]?).bind (·.dst) = some t) (hgv : get si t = some (.bool b)) (hb : b = !want) (hd : o.dst = some d) (hn : Nat.blt d m_ = true) (hv : get val i = some undef) (hs : dl ops val o = si) (r : QA P K ⟨m_, ro_, dl_⟩ ops val s0 A h C) : QA P K ⟨m_, ro_, dl_⟩ ops val s0 A h (i :: C) :=
 .cons si ho hd hn hv hs (.inr ⟨by unfold gdF; rw [hg]; exact ⟨t, _, ht, hgv, .inl (by rw [hb])⟩, rfl⟩) r
theorem QA.gU (si : St) (ho : ops[i]? = some o) (hg : o.guard = some (g, want)) (ht : (ops[g]?).bind (·.dst) = some t) (hgv : get si t = some undef) (hd : o.dst = some d) (hn : Nat.blt d m_ = true) (hv : get val i = some undef) (hs : dl ops val o = si) (r : QA P K ⟨m_, ro_, dl_⟩ ops val s0 A h C) : QA P K ⟨m_, ro_, dl_⟩ ops val s0 A h (i :: C) :=
 .cons si ho hd hn hv hs (.inr ⟨by unfold gdF; rw [hg]; exact ⟨t, _, ht, hgv, .inr rfl⟩, rfl⟩) r
end
def After (P : Program) (K : Kp) (n : Fr) (ops : Array Oper) (Q : Exit → Act → World → Prop) (X D C : List Nat) (val s0 : St) (i : Nat) (o : Oper) (sL : St) : Act → World → Prop := fun a w =>
 ∃ (M C' : List Nat) (pre s1 : St) (A' : List Asrt) (h' : FH), ((∀ t v, get s1 t = some v → get s0 t = some v) ∧ (∀ d, o.dst = some d → ∀ p ∈ s1, Nat.beq p.1 d = false) ∧ dstOk ops (s1.map (·.1)) X = true) ∧ ancOk ops [i] M = true ∧ (∀ j ∈ C, j ∈ M ∨ j ∈ C') ∧ (∀ j, j ∈ D ∨ j ∈ C → get (pre ++ val) j = get val j) ∧
  (match o.dst with | some d => ∃ v, get (pre ++ val) i = some v ∧ Holds n ((d, v) :: sL) a | none => Holds n sL a) ∧ SH K h' w A' ∧ JA P K n ops Q X (i :: (M ++ D)) C' (pre ++ val) s1 A' h'
def HA (P : Program) (K : Kp) (n : Fr) (ops : Array Oper) (Q : Exit → Act → World → Prop) (X D C : List Nat) (val s0 : St) (A : List Asrt) (h : FH) (H : List Nat) : Prop :=
 ∀ i ∈ H, ∃ o si, ops[i]? = some o ∧ dl ops val o = si ∧ ∀ sL, (∀ t v, get (si ++ s0) t = some v → get sL t = some v) → JL P K n ops [o] (Exit.then (After P K n ops Q X D C val s0 i o sL) Q) (si ++ (s0 ++ sL)) A h
theorem HA.nil {X D C : List Nat} {val s0 : St} : HA P K ⟨m_, ro_, dl_⟩ ops Q X D C val s0 A h [] := fun i hi => by cases hi
theorem HA.cons {X D C H : List Nat} {val s0 : St} {i : Nat} {o : Oper} (si : St) (ho : ops[i]? = some o) (hs : dl ops val o = si) (hx : ∀ sL, (∀ t v, get (si ++ s0) t = some v → get sL t = some v) → JL P K ⟨m_, ro_, dl_⟩ ops [o] (Exit.then (After P K ⟨m_, ro_, dl_⟩ ops Q X D C val s0 i o sL) Q) (si ++ (s0 ++ sL)) A h) (r : HA P K ⟨m_, ro_, dl_⟩ ops Q X D C val s0 A h H) : HA P K ⟨m_, ro_, dl_⟩ ops Q X D C val s0 A h (i :: H) := fun j hj => by
 rcases List.mem_cons.1 hj with rfl | hj
 ·exact ⟨o, si, ho, hs, hx⟩
 ·exact r j hj
theorem get_append {x y : St} {t : Nat} {v : Value} : get (x ++ y) t = some v ↔ get x t = some v ∨ (get x t = none ∧ get y t = some v) := by
 induction x with
 | nil => simp [Pl.get]
 | cons p r ih =>
  obtain ⟨k, u⟩ := p
  simp only [List.cons_append, Pl.get]
  cases Nat.beq k t with
  | true => simp
  | false => simpa using ih
theorem Holds.join {x sL : St} {a : Act} (H : Holds ⟨m_, ro_, dl_⟩ sL a) (hx : ∀ t v, get x t = some v → get sL t = some v) : Holds ⟨m_, ro_, dl_⟩ (x ++ sL) a := ⟨H.defers, H.size, fun t v e => by
 rcases get_append.1 e with q | ⟨_, q⟩
 ·exact H.slots t v (hx t v q)
 ·exact H.slots t v q⟩
theorem preOk {D C : List Nat} {pre val : St} (hp : (pre.all fun p => !(D.contains p.1) && !(C.contains p.1)) = true) : ∀ j, j ∈ D ∨ j ∈ C → get (pre ++ val) j = get val j := fun j hj => by
 induction pre with
 | nil => rfl
 | cons p r ih =>
  obtain ⟨k, u⟩ := p
  simp only [List.all_cons, Bool.and_eq_true, Bool.not_eq_true', List.contains_eq_mem, decide_eq_false_iff_not] at hp
  have hk : Nat.beq k j = false := by
   cases hb : Nat.beq k j with
   | false => rfl
   | true =>
    have := Nat.eq_of_beq_eq_true hb
    subst this
    rcases hj with q | q
    ·exact absurd q hp.1.1
    ·exact absurd q hp.1.2
  simp only [List.cons_append, Pl.get, hk, cond_false]
  refine ih ?_
  simpa only [List.all_eq_true, Bool.and_eq_true, Bool.not_eq_true', List.contains_eq_mem, decide_eq_false_iff_not] using hp.2
theorem E.ja {X D C C' M : List Nat} {val s0 si sL pre : St} {i d : Nat} {o : Oper} {v : Value} {A' : List Asrt} {h' : FH} (s1 : St) (keys : List Nat) (hL : ∀ t v, get (si ++ s0) t = some v → get sL t = some v) (hd : o.dst = some d) (hM : ancOk ops [i] M = true) (hC : (C.all fun j => M.contains j || C'.contains j) = true) (hp : (pre.all fun p => !(D.contains p.1) && !(C.contains p.1)) = true) (hv : get (pre ++ val) i = some v)
  (h1 : SubSt s1 s0) (hk : s1.map (·.1) = keys) (hkd : (keys.all fun p => !(Nat.beq p d)) = true) (hok : dstOk ops keys X = true) (j : JA P K ⟨m_, ro_, dl_⟩ ops Q X (i :: (M ++ D)) C' (pre ++ val) s1 A' h') : E K ⟨m_, ro_, dl_⟩ (Exit.then (After P K ⟨m_, ro_, dl_⟩ ops Q X D C val s0 i o sL) Q) .normal ((d, v) :: (si ++ (s0 ++ sL))) A' h' := fun a w H S => by
 subst hk
 refine ⟨M, C', pre, s1, A', h', ⟨fun t v e => h1.get e, fun d' hd' p hp' => ?_, hok⟩, hM, by simpa using hC, preOk hp, ?_, S, j⟩
 ·rw [hd] at hd'; cases hd'
  simp only [List.all_map, List.all_eq_true, Function.comp, Bool.not_eq_true'] at hkd
  exact hkd p hp'
 rw [hd]
 refine ⟨v, hv, H.defers, H.size, fun t u e => H.slots t u ?_⟩
 simp only [Pl.get] at e ⊢
 cases hb : Nat.beq d t with
 | true => rw [hb] at e; exact e
 | false =>
  rw [hb] at e
  simp only [cond_false] at e ⊢
  rw [← List.append_assoc]
  cases hq : get (si ++ s0) t with
  | none => exact get_append.2 (.inr ⟨hq, e⟩)
  | some u' =>
   have := hL t u' hq
   rw [e] at this
   rw [Option.some.inj this]
   exact get_append.2 (.inl hq)
theorem E.jaN {X D C C' M : List Nat} {val s0 si sL pre : St} {i : Nat} {o : Oper} {A' : List Asrt} {h' : FH} (keys : List Nat) (hL : ∀ t v, get (si ++ s0) t = some v → get sL t = some v) (hd : o.dst = none) (hM : ancOk ops [i] M = true) (hC : (C.all fun j => M.contains j || C'.contains j) = true) (hp : (pre.all fun p => !(D.contains p.1) && !(C.contains p.1)) = true)
  (hk : s0.map (·.1) = keys) (hok : dstOk ops keys X = true) (j : JA P K ⟨m_, ro_, dl_⟩ ops Q X (i :: (M ++ D)) C' (pre ++ val) s0 A' h') : E K ⟨m_, ro_, dl_⟩ (Exit.then (After P K ⟨m_, ro_, dl_⟩ ops Q X D C val s0 i o sL) Q) .normal (si ++ (s0 ++ sL)) A' h' := fun a w H S => by
 subst hk
 refine ⟨M, C', pre, s0, A', h', ⟨fun t v e => e, fun d' hd' => (by rw [hd] at hd'; cases hd'), hok⟩, hM, by simpa using hC, preOk hp, ?_, S, j⟩
 rw [hd]
 refine ⟨H.defers, H.size, fun t u e => H.slots t u ?_⟩
 rw [← List.append_assoc]
 cases hq : get (si ++ s0) t with
 | none => exact get_append.2 (.inr ⟨hq, e⟩)
 | some u' =>
  have := hL t u' hq
  rw [e] at this
  rw [Option.some.inj this]
  exact get_append.2 (.inl hq)
theorem op_of_list {i : Nat} {o : Oper} {X K' : Act → World → Prop} {a : Act} {w : World} (ho : ops[i]? = some o) (hk : ∀ a w, X a w → K' a w) (hl : WL P ro_ ops (Exit.then X Q) [o] a w) : WO P ro_ ops Q i K' a w := by
 cases ro_ with
 | some l =>
  unfold WO wpOpIn
  rw [ho]
  unfold WL at hl
  simp only [wpListIn] at hl
  simp only
  split
  ·rename_i hw
   rw [if_pos hw] at hl
   refine ⟨fun _ _ => trivial, ?_⟩
   have hh := hl.2
   generalize (o.semAt (FR l).round a.eval).run P w = r' at hh ⊢
   cases r' with
   | ok nx w' =>
    cases nx <;> simp only [Oper.uponIn] at hh ⊢ <;>
     first
      | exact hk _ _ hh
      | exact ⟨hh.1, CallsIn.mono hh.2 (fun e w'' he => by
        cases e with
        | returned v => exact hk _ _ he
        | panicked c => exact he
        | outgrown => obtain ⟨a1, w1, q⟩ := he; exact ⟨a1, w1, q⟩)⟩
      | exact ⟨hh.1, RowsIn.mono hh.2 (fun _ _ he => hk _ _ he)⟩
      | exact ⟨hh.1, RoundIn.mono hh.2 (fun e w'' he => by
        cases e with
        | returned v => exact hk _ _ he
        | panicked c => exact he
        | outgrown => obtain ⟨a1, w1, q⟩ := he; exact ⟨a1, w1, q⟩)⟩
   | halt x w' => cases x <;> simp only [Oper.uponIn] at hh ⊢ <;> exact hh
  ·rename_i hw
   rw [if_neg hw] at hl
   exact ⟨fun _ _ => trivial, hk _ _ hl.2⟩
 | none =>
 unfold WO wpOp
 rw [ho]
 unfold WL at hl
 unfold wpList at hl
 simp only
 split
 ·rename_i hw
  rw [if_pos hw] at hl
  rcases hl with hh | ⟨hh, a', w', hx⟩
  ·refine .inl ?_
   unfold Oper.wp at hh ⊢
   generalize (execOp a.eval o).run P w = r' at hh ⊢
   cases r' with
   | ok nx w' =>
    cases nx <;> simp only [Oper.upon] at hh ⊢ <;>
     first
      | exact hk _ _ hh
      | exact Calls.mono hh (fun e w'' he => by
        cases e with
        | returned v => exact hk _ _ he
        | panicked c => exact he
        | outgrown => obtain ⟨a1, w1, q⟩ := he; exact ⟨a1, w1, q⟩)
      | exact Rows.mono hh (fun _ _ he => hk _ _ he)
   | halt x w' => cases x <;> simp only [Oper.upon] at hh ⊢ <;> exact hh
  ·exact .inr ⟨hh, a', w', hx⟩
 ·rename_i hw
  rw [if_neg hw] at hl
  exact hk _ _ hl
theorem lst_set {l : Array Bool} {i j : Nat} (hi : i < l.size) : lst (l.setIfInBounds i true) j ↔ j = i ∨ lst l j := by
 unfold lst
 by_cases e : i = j
 ·subst e; simp [hi]
 ·rw [getD_set_ne false e]
  constructor
  ·exact .inr
  ·rintro (q | q)
   ·exact absurd q.symm e
   ·exact q
theorem count_set {l : List Bool} {i : Nat} (hi : l[i]? = some false) : (l.set i true).count false + 1 = l.count false := by
 induction l generalizing i with
 | nil => simp at hi
 | cons b r ih =>
  cases i with
  | zero => simp at hi; subst hi; simp
  | succ i =>
   simp at hi
   have := ih hi
   simp only [List.set_cons_succ, List.count_cons]
   omega
theorem all_of_stuck {X : List Nat} {s0 : St} {listed : Array Bool} (hok : dstOk ops (s0.map (·.1)) X = true) (hs : listed.size = ops.size) (hr : Region.ready .any ops listed = []) : ∀ i, i < ops.size → lst listed i := by
 intro i
 induction i using Nat.strongRecOn with
 | _ i ih =>
  intro hi
  cases e : listed.getD i false with
  | true => exact e
  | false =>
   exfalso
   have hx : i ∈ Region.ready .any ops listed := by
    rw [mem_ready]
    refine ⟨by have hi' : i < listed.size := by omega
               simp [hi'] at e ⊢; exact e, ops[i], by simp [hi], fun e' he hb => ?_⟩
    simp only [dstOk, Bool.and_eq_true, List.all_eq_true, List.mem_range] at hok
    have h1 := hok.2 i hi
    rw [show ops[i]? = some ops[i] from by simp [hi]] at h1
    simp only [List.all_eq_true, decide_eq_true_eq] at h1
    have hlt := h1 e'.on (by
     unfold depsOf
     exact List.mem_map.2 ⟨e', List.mem_filter.2 ⟨by simpa using he, hb⟩, rfl⟩)
    exact ih _ hlt (by omega)
   rw [hr] at hx; cases hx
theorem Known.put {X D C : List Nat} {val s0 sL : St} {listed : Array Bool} {i d : Nat} {o : Oper} {v : Value} (hok : dstOk ops (s0.map (·.1)) X = true) (k : Known ops D C val s0 listed sL) (ho : ops[i]? = some o) (hd : o.dst = some d) (hv : get val i = some v) (hiC : i ∈ C) (hiX : i ∉ X) (hdn : ∀ e ∈ depsOf o, lst listed e) : Known ops D C val s0 (listed.setIfInBounds i true) ((d, v) :: sL) := by
 have hi : i < ops.size := (Array.getElem?_eq_some_iff.1 ho).1
 have hil : i < listed.size := by rw [k.size]; exact hi
 simp only [dstOk, Bool.and_eq_true, List.all_eq_true, List.mem_range] at hok
 refine ⟨by simpa using k.size, fun j hj => (lst_set hil).2 (.inr (k.done j hj)), fun j hj => ?_, fun t u e => ?_, fun j oj dj u hj hoj hdj hu => ?_, fun j oj hj hoj e he => ?_⟩
 ·rcases (lst_set hil).1 hj with rfl | hj
  ·exact .inr hiC
  ·exact k.only j hj
 ·have h2 := hok.1.2 i hi
  rw [ho] at h2
  simp only [List.contains_eq_mem, hiX, decide_false, Bool.false_or, Option.bind_some, hd, List.all_eq_true, Bool.not_eq_true', List.mem_map, forall_exists_index, and_imp, forall_apply_eq_imp_iff₂] at h2
  simp only [Pl.get]
  cases hb : Nat.beq d t with
  | false => simpa using k.base t u e
  | true =>
   exfalso
   have ht := Nat.eq_of_beq_eq_true hb
   subst ht
   have : ∀ (l : St), get l d = some u → ∃ p ∈ l, Nat.beq p.1 d = true := by
    intro l
    induction l with
    | nil => intro h; cases h
    | cons p r ih =>
     intro h
     obtain ⟨k', u'⟩ := p
     simp only [Pl.get] at h
     cases hb : Nat.beq k' d with
     | true => exact ⟨_, List.mem_cons_self, hb⟩
     | false =>
      rw [hb] at h
      obtain ⟨p, hp, hq⟩ := ih h
      exact ⟨p, List.mem_cons_of_mem _ hp, hq⟩
   obtain ⟨p, hp, hq⟩ := this s0 e
   rw [h2 p hp] at hq; cases hq
 ·simp only [Pl.get]
  rcases (lst_set hil).1 hj with rfl | hj
  ·rw [ho] at hoj; cases hoj
   rw [hd] at hdj; cases hdj
   rw [hv] at hu; cases hu
   simp
  ·by_cases hij : j = i
   ·subst hij
    rw [ho] at hoj; cases hoj
    rw [hd] at hdj; cases hdj
    rw [hv] at hu; cases hu
    simp
   ·have hjl : j < ops.size := (Array.getElem?_eq_some_iff.1 hoj).1
    have h3 := hok.1.1 i hi j hjl
    rw [ho, hoj] at h3
    simp only [Option.bind_some, hd, hdj, Bool.or_eq_true, beq_iff_eq, Bool.not_eq_true'] at h3
    rcases h3 with q | q
    ·exact absurd q.symm hij
    ·rw [q]; simpa using k.vals j oj dj u hj hoj hdj hu
 ·refine (lst_set hil).2 (.inr ?_)
  rcases (lst_set hil).1 hj with rfl | hj2
  ·rw [ho] at hoj; cases hoj
   exact hdn e he
  ·exact k.closed j oj hj2 hoj e he
theorem JA.core {X D C H : List Nat} {val s0 : St} (hX : (C.all fun j => !(X.contains j)) = true) (hen : enOk ops D C H = true) (hq : QA P K ⟨m_, ro_, dl_⟩ ops val s0 A h C) (hh : HA P K ⟨m_, ro_, dl_⟩ ops Q X D C val s0 A h H)
  (he : ∀ listed a w sL, Known ops D C val s0 listed sL → (∀ i, i < ops.size → lst listed i) → Holds ⟨m_, ro_, dl_⟩ sL a → SH K h w A → Q .normal a w) : JA P K ⟨m_, ro_, dl_⟩ ops Q X D C val s0 A h := by
 intro hok fuel
 induction fuel with
 | zero =>
  intro listed a w sL k hc Hd S
  have hall : ∀ i, i < ops.size → lst listed i := fun i hi => by
   have hi' : i < listed.size := by rw [k.size]; exact hi
   cases e : listed[i] with
   | true => unfold lst; simp [hi', e]
   | false =>
    exfalso
    have : 0 < listed.toList.count false := List.count_pos_iff.2 (by rw [← e]; simp)
    omega
  refine ⟨?_, he listed a w sL k hall Hd S⟩
  cases hr : Region.ready .any ops listed with
  | nil => rfl
  | cons x xs =>
   exfalso
   have hx : x ∈ Region.ready .any ops listed := by rw [hr]; simp
   obtain ⟨h0, ox, hox, _⟩ := mem_ready.1 hx
   have hlt := (Array.getElem?_eq_some_iff.1 hox).1
   have h1 := hall x hlt
   have hx' : x < listed.size := by rw [k.size]; exact hlt
   unfold lst at h1
   simp [hx'] at h0 h1
   rw [h0] at h1; cases h1
 | succ fuel ih =>
  intro listed a w sL k hc Hd S
  refine ⟨fun hr => he listed a w sL k (all_of_stuck (s0 := s0) hok k.size hr) Hd S, fun i hi => ?_⟩
  obtain ⟨h0, o, ho, hdeps⟩ := mem_ready.1 hi
  have hlt := (Array.getElem?_eq_some_iff.1 ho).1
  have hil : i < listed.size := by rw [k.size]; exact hlt
  have hf : listed.toList[i]? = some false := by simp [hil] at h0 ⊢; exact h0
  have hcnt : (listed.setIfInBounds i true).toList.count false ≤ fuel := by
   have := count_set hf
   rw [Array.toList_setIfInBounds]; omega
  have hnot : ¬ lst listed i := by
   unfold lst; simp [hil] at h0 ⊢; exact h0
  have hdone : ∀ j ∈ depsOf o, lst listed j := fun j hj => by
   unfold depsOf at hj
   obtain ⟨e, he', rfl⟩ := List.mem_map.1 hj
   obtain ⟨h1, h2⟩ := List.mem_filter.1 he'
   exact hdeps e (by simpa using h1) h2
  have hdl : ∀ t v, get (dl ops val o) t = some v → get sL t = some v := by
   have key : ∀ (l : List Nat), (∀ j ∈ l, lst listed j) → ∀ t v, get (l.filterMap fun j => match (ops[j]?).bind (·.dst), get val j with | some d, some v => some (d, v) | _, _ => none) t = some v → get sL t = some v := by
    intro l
    induction l with
    | nil => intro _ t v e; cases e
    | cons j r ihl =>
     intro hl t v e
     cases hd : (ops[j]?).bind (·.dst) with
     | none => simp only [List.filterMap_cons, hd] at e; exact ihl (fun j hj => hl j (List.mem_cons_of_mem _ hj)) t v e
     | some d =>
      cases hv : get val j with
      | none => simp only [List.filterMap_cons, hd, hv] at e; exact ihl (fun j hj => hl j (List.mem_cons_of_mem _ hj)) t v e
      | some u =>
       simp only [List.filterMap_cons, hd, hv, Pl.get] at e
       obtain ⟨oj, hoj, hdj⟩ := Option.bind_eq_some_iff.1 hd
       cases hb : Nat.beq d t with
       | false => rw [hb] at e; exact ihl (fun j hj => hl j (List.mem_cons_of_mem _ hj)) t v e
       | true =>
        rw [hb] at e
        have ht := Nat.eq_of_beq_eq_true hb
        subst ht
        simp only [cond_true] at e
        rw [← e]
        exact k.vals j oj d u (hl j List.mem_cons_self) hoj hdj hv
   exact key _ hdone
  have hcons : ∀ t v, get (dl ops val o ++ s0) t = some v → get sL t = some v := fun t v e => by
   rcases get_append.1 e with q | ⟨_, q⟩
   ·exact hdl t v q
   ·exact k.base t v q
  have Hd' : Holds ⟨m_, ro_, dl_⟩ (dl ops val o ++ (s0 ++ sL)) a := by
   rw [← List.append_assoc]; exact Hd.join hcons
  by_cases hiC : i ∈ C
  ·obtain ⟨o', d, v, si, ho', hd, hn, hv, hs, hx⟩ := hq i hiC
   rw [ho] at ho'; cases ho'
   subst hs
   have k' := k.put (o := o) hok ho hd hv hiC (by
    simp only [List.all_eq_true, Bool.not_eq_true', List.contains_eq_mem, decide_eq_false_iff_not] at hX
    exact hX i hiC) hdone
   have hyd : ∀ t v, get (dl ops val o) t = some v → a.tmps[t]? = some v := fun t v e => Hd.slots t v (hdl t v e)
   rcases hx with ⟨hgt, hx⟩ | ⟨hgf, rfl⟩
   ·have hw : Region.wanted o (yielded ops a.tmps) = true := by
     unfold gdT at hgt
     unfold Region.wanted
     cases hgd : o.guard with
     | none => rfl
     | some gw =>
      rw [hgd] at hgt
      obtain ⟨t, h1, h2⟩ := hgt
      have : yielded ops a.tmps gw.1 = some gw.2 := by unfold yielded; rw [h1]; simp [hyd _ _ h2]
      simp [this]
    rcases hx with hx | hx
    ·refine WO.val ho hw (hx sL a w Hd' S) (ih _ _ w _ k' hcnt ?_ S)
     rw [hd]; exact Hd.put v hn
    ·obtain ⟨f, args, hr, hcall⟩ := hx sL a w Hd' S
     refine WO.enter ho hw hr (hcall.mono fun e w' ⟨he', hb⟩ => ⟨v, he', ih _ _ w' _ k' hcnt ?_ (S.ext hb)⟩)
     rw [hd]; exact Hd.put v hn
   ·have hw : ¬ Region.wanted o (yielded ops a.tmps) = true := by
     unfold gdF at hgf
     unfold Region.wanted
     cases hgd : o.guard with
     | none => rw [hgd] at hgf; exact hgf.elim
     | some gw =>
      rw [hgd] at hgf
      obtain ⟨t, u, h1, h2, h3⟩ := hgf
      have hy : yielded ops a.tmps gw.1 ≠ some gw.2 := by
       unfold yielded; rw [h1]
       rcases h3 with rfl | rfl
       ·simp [hyd _ _ h2]
       ·simp [hyd _ _ h2, undef]
      simpa using hy
    refine WO.skip ho hw (ih _ _ w _ k' hcnt ?_ S)
    rw [hd]; exact Hd.put undef hn
  ·have hiH : i ∈ H := by
    simp only [enOk, List.all_eq_true, List.mem_range] at hen
    have h1 := hen i hlt
    rw [ho] at h1
    simp only [List.contains_eq_mem, Bool.or_eq_true, decide_eq_true_eq, Bool.not_eq_true'] at h1
    rcases h1 with ((q | q) | q) | q
    ·exact absurd (k.done i q) hnot
    ·exact absurd q hiC
    ·exact q
    ·exfalso
     have : ((depsOf o).all fun j => decide (j ∈ D) || decide (j ∈ C)) = true := by
      rw [List.all_eq_true]
      intro j hj
      rcases k.only j (hdone j hj) with q' | q' <;> simp [q']
     rw [this] at q; cases q
   obtain ⟨o', si, ho', hs, hx⟩ := hh i hiH
   rw [ho] at ho'; cases ho'
   subst hs
   refine op_of_list ho (fun a' w' hA => ?_) (hx sL hcons a w Hd' S)
   obtain ⟨M, C', pre, s1, A', h', ⟨hs1, hsd, hok1⟩, hM, hC, hp, hd, S', j⟩ := hA
   have hMd : ∀ j ∈ M, lst listed j := anc_done M [i] (fun k' hk' o' ho' => by
    rw [List.mem_singleton] at hk'; subst hk'
    rw [ho] at ho'; cases ho'
    exact hdone) k.closed hM
   have hclosed : ∀ j oj, lst (listed.setIfInBounds i true) j → ops[j]? = some oj → ∀ e ∈ depsOf oj, lst (listed.setIfInBounds i true) e := fun j oj hj hoj e he => by
    refine (lst_set hil).2 (.inr ?_)
    rcases (lst_set hil).1 hj with rfl | hj2
    ·rw [ho] at hoj; cases hoj
     exact hdone e he
    ·exact k.closed j oj hj2 hoj e he
   have hval : ∀ j, lst listed j → get (pre ++ val) j = get val j := fun j hj => hp j (k.only j hj)
   have hdone' : ∀ j ∈ i :: (M ++ D), lst (listed.setIfInBounds i true) j := fun j hj => by
    rcases List.mem_cons.1 hj with rfl | hj
    ·exact (lst_set hil).2 (.inl rfl)
    ·rcases List.mem_append.1 hj with hj | hj
     ·exact (lst_set hil).2 (.inr (hMd j hj))
     ·exact (lst_set hil).2 (.inr (k.done j hj))
   have honly' : ∀ j, lst (listed.setIfInBounds i true) j → j ∈ i :: (M ++ D) ∨ j ∈ C' := fun j hj => by
    rcases (lst_set hil).1 hj with rfl | hj
    ·exact .inl List.mem_cons_self
    ·rcases k.only j hj with q | q
     ·exact .inl (List.mem_cons_of_mem _ (List.mem_append.2 (.inr q)))
     ·rcases hC j q with q' | q'
      ·exact .inl (List.mem_cons_of_mem _ (List.mem_append.2 (.inl q')))
      ·exact .inr q'
   cases hdo : o.dst with
   | none =>
    rw [hdo] at hd
    refine j hok1 fuel _ a' w' sL ⟨by simpa using k.size, hdone', honly', fun t v e => k.base t v (hs1 t v e), fun j oj dj u hj hoj hdj hu => ?_, hclosed⟩ hcnt hd S'
    rcases (lst_set hil).1 hj with rfl | hj
    ·rw [ho] at hoj; cases hoj
     rw [hdo] at hdj; cases hdj
    ·exact k.vals j oj dj u hj hoj hdj (by rw [← hval j hj]; exact hu)
   | some d =>
    rw [hdo] at hd
    obtain ⟨v, hv, hH⟩ := hd
    refine j hok1 fuel _ a' w' _ ⟨by simpa using k.size, hdone', honly', fun t u e => ?_, fun j oj dj u hj hoj hdj hu => ?_, hclosed⟩ hcnt hH S'
    ·have hin : ∀ (l : St), get l t = some u → (∀ p ∈ l, Nat.beq p.1 d = false) → Nat.beq d t = false := by
      intro l
      induction l with
      | nil => intro h; cases h
      | cons p r ih =>
       intro h hall
       obtain ⟨k', u'⟩ := p
       simp only [Pl.get] at h
       cases hb : Nat.beq k' t with
       | true =>
        have := Nat.eq_of_beq_eq_true hb
        subst this
        have h2 := hall (k', u') List.mem_cons_self
        cases hc : Nat.beq d k' with
        | false => rfl
        | true =>
         have := Nat.eq_of_beq_eq_true hc
         subst this
         simp at h2
       | false =>
        rw [hb] at h
        exact ih h (fun p hp => hall p (List.mem_cons_of_mem _ hp))
     have hne := hin s1 e (hsd d hdo)
     simp only [Pl.get, hne, cond_false]
     exact k.base t u (hs1 t u e)
    ·simp only [Pl.get]
     rcases (lst_set hil).1 hj with rfl | hj2
     ·rw [ho] at hoj; cases hoj
      rw [hdo] at hdj; cases hdj
      rw [hv] at hu; cases hu
      simp
     ·by_cases hij : j = i
      ·exact absurd (hij ▸ hj2) hnot
      ·have hjl : j < ops.size := (Array.getElem?_eq_some_iff.1 hoj).1
       have hok2 := hok
       simp only [dstOk, Bool.and_eq_true, List.all_eq_true, List.mem_range] at hok2
       have h3 := hok2.1.1 i hlt j hjl
       rw [ho, hoj] at h3
       simp only [Option.bind_some, hdo, hdj, Bool.or_eq_true, beq_iff_eq, Bool.not_eq_true'] at h3
       rcases h3 with q | q
       ·exact absurd q.symm hij
       ·rw [q]; simpa using k.vals j oj dj u hj2 hoj hdj (by rw [← hval j hj2]; exact hu)
theorem JA.step {X D C : List Nat} {val s0 : St} (H : List Nat) (m : Nat) (hX : (C.all fun j => !(X.contains j)) = true) (hen : enOk ops D C H = true) (hm : (decide (m < ops.size) && !(D.contains m) && !(C.contains m)) = true) (hq : QA P K ⟨m_, ro_, dl_⟩ ops val s0 A h C) (hh : HA P K ⟨m_, ro_, dl_⟩ ops Q X D C val s0 A h H) : JA P K ⟨m_, ro_, dl_⟩ ops Q X D C val s0 A h :=
 JA.core hX hen hq hh fun listed a w sL k hall _ _ => by
  exfalso
  simp only [Bool.and_eq_true, decide_eq_true_eq, Bool.not_eq_true', List.contains_eq_mem, decide_eq_false_iff_not] at hm
  rcases k.only m (hall m hm.1.1) with q | q
  ·exact hm.1.2 q
  ·exact hm.2 q
def outl (ops : Array Oper) (val : St) : St := (List.range ops.size).filterMap fun j => match (ops[j]?).bind (·.dst), get val j with
 | some d, some v => some (d, v)
 | _, _ => none
theorem JA.last {X D C : List Nat} {val s0 : St} (so : St) (hX : (C.all fun j => !(X.contains j)) = true) (hen : enOk ops D C [] = true) (hq : QA P K ⟨m_, ro_, dl_⟩ ops val s0 A h C) (ho : outl ops val = so) (he : E K ⟨m_, ro_, dl_⟩ Q .normal (so ++ s0) A h) : JA P K ⟨m_, ro_, dl_⟩ ops Q X D C val s0 A h :=
 JA.core hX hen hq HA.nil fun listed a w sL k hall Hd S => by
  refine he a w ⟨Hd.defers, Hd.size, fun t v e => Hd.slots t v ?_⟩ S
  rcases get_append.1 e with q | ⟨_, q⟩
  ·subst ho
   have key : ∀ (l : List Nat), (∀ j ∈ l, lst listed j) → get (l.filterMap fun j => match (ops[j]?).bind (·.dst), get val j with | some d, some v => some (d, v) | _, _ => none) t = some v → get sL t = some v := by
    intro l
    induction l with
    | nil => intro _ e; cases e
    | cons j r ihl =>
     intro hl e
     cases hd : (ops[j]?).bind (·.dst) with
     | none => simp only [List.filterMap_cons, hd] at e; exact ihl (fun j hj => hl j (List.mem_cons_of_mem _ hj)) e
     | some d =>
      cases hv : get val j with
      | none => simp only [List.filterMap_cons, hd, hv] at e; exact ihl (fun j hj => hl j (List.mem_cons_of_mem _ hj)) e
      | some u =>
       simp only [List.filterMap_cons, hd, hv, Pl.get] at e
       obtain ⟨oj, hoj, hdj⟩ := Option.bind_eq_some_iff.1 hd
       cases hb : Nat.beq d t with
       | false => rw [hb] at e; exact ihl (fun j hj => hl j (List.mem_cons_of_mem _ hj)) e
       | true =>
        rw [hb] at e
        have ht := Nat.eq_of_beq_eq_true hb
        subst ht
        simp only [cond_true] at e
        rw [← e]
        exact k.vals j oj d u (hl j List.mem_cons_self) hoj hdj hv
   exact key _ (fun j hj => hall j (List.mem_range.1 hj)) q
  ·exact k.base t v q
theorem J.openA {id : Nat} {l : List Oper} {s0 : St} (C : List Nat) (val : St) (hm : P.follows .mixedOrders = true) (hs : SubSt s0 s) (keys X : List Nat) (hk : s0.map (·.1) = keys) (hok : dstOk l.toArray keys X = true) (j : JA P K ⟨m_, ro_, dl_⟩ l.toArray Q X [] C val s0 A h) : J P K ⟨m_, ro_, dl_⟩ (.region id l.toArray true) Q s A h := fun a w H S => by
 subst hk
 have key := fun fuel hf => j hok fuel (Array.replicate l.toArray.size false) a { w with drawn := w.drawn + 1 } s ⟨by simp, fun i hi => (by cases hi), fun i hi => by
  unfold lst at hi
  simp only [Array.getD_eq_getD_getElem?, Array.getElem?_replicate] at hi
  split at hi <;> simp at hi, fun t v e => hs.get e, fun i o d v hi => by
  unfold lst at hi
  simp only [Array.getD_eq_getD_getElem?, Array.getElem?_replicate] at hi
  split at hi <;> simp at hi, fun i o hi => by
  unfold lst at hi
  simp only [Array.getD_eq_getD_getElem?, Array.getElem?_replicate] at hi
  split at hi <;> simp at hi⟩  hf H S.drew
 cases ro_ with
 | none => exact wp_region_any hm (by have := key l.toArray.size (by simp); rw [show (⟨m_, none, dl_⟩ : Fr).ro = none from rfl, WA_none] at this; exact this)
 | some lr => exact wpIn_region_any hm (by have := key l.toArray.size (by simp); rw [show (⟨m_, some lr, dl_⟩ : Fr).ro = some lr from rfl, WA_some] at this; exact this)
end
section
variable {P : Program} {K : Kp} {n : Fr} {ops : Array Oper} {Q : Exit → Act → World → Prop} {s : St} {A : List Asrt} {h : FH} {rest : List Oper} {fn : Func} {R : Ending → World → Prop}
def Kp.ex (w : World) (h g : FH) : Kp := ⟨w, h, fun b => b < w.heap.size ∧ g b = none, fun _ h => h.1⟩
theorem SH.startX {X : Asrt} {w : World} {g : FH} (hs : Sub h w) (sg : Sub g w) (hd : Disj h g) (hx : X g) : SH (Kp.ex w h g) h w [X] := by
 refine ⟨⟨rfl, rfl, rfl, Nat.le_refl _, fun _ _ => rfl, Nat.le_refl _⟩, hs, fun b hb => .inl hb, [g], rfl, fun i g' Y hi hY => ?_, fun i g' hi => ?_, fun i j g1 g2 hij hi hj => ?_⟩
 ·cases i with
  | zero => simp at hi hY; subst hi; subst hY; exact hx
  | succ i => simp at hi
 ·cases i with
  | zero => simp at hi; subst hi; exact ⟨hd, sg, fun b hb hk => hb hk.2⟩
  | succ i => simp at hi
 ·cases i with
  | zero => cases j with
   | zero => exact absurd rfl hij
   | succ j => simp at hj
  | succ i => simp at hi
theorem enterX {X : Asrt} {g : FH} {f : FuncId} {c : Code} {args : List Value} {w : World} (hf : P.funcs[f]? = some fn) (hb : fn.body = some c) {n : Nat} (hn : fn.ntmps = n) (hle : Nat.ble args.length n = true) (hs : Sub h w) (sg : Sub g w) (hd : Disj h g) (hx : X g)
  (j : J P (Kp.ex w h g) ⟨n, none, []⟩ c (bodyPost P fn R) (start 0 args) [X] h) : Calls P f args.toArray w R := by
 have hl : args.length ≤ n := by simpa using hle
 refine calls_of_wp hf hb (j _ w ⟨rfl, ?_, fun t v e => ?_⟩ (SH.startX hs sg hd hx))
 ·simp [hn]; omega
 ·obtain ⟨_, h2⟩ := get_start 0 args t v e
  simp only [Nat.sub_zero] at h2
  have hlt : t < args.length := (List.getElem?_eq_some_iff.1 h2).1
  rw [Array.getElem?_append_left (by simpa using hlt)]
  simpa using h2
theorem backX {k : Nat} {X' : Asrt} {w w' : World} {g h1 : FH} (up : ∀ (X' : Asrt) (g' : FH) (w' : World), X' g' → Sub g' w' → (∀ b, g' b ≠ none → g b ≠ none ∨ w.heap.size ≤ b) →
   (∀ b, b < w.heap.size → g b = none → w'.heap[b]? = w.heap[b]?) → w'.os = w.os → w'.tape = w.tape → w'.output = w.output → w.heap.size ≤ w'.heap.size → dr w ≤ dr w' → SH K h w' (A.set k X')) (S : SH (Kp.ex w h1 g) h1 w' [X']) : SH K h w' (A.set k X') := by
 obtain ⟨gs, p1, p2, p3, _⟩ := S.parts
 obtain ⟨g', rfl⟩ : ∃ g', gs = [g'] := by
  match gs, p1 with
  | [g'], _ => exact ⟨g', rfl⟩
 have own := p3 0 g' rfl
 refine up X' g' w' (p2 0 g' X' rfl rfl) own.sub (fun b hb => ?_) (fun b hb hn => S.kept.block b ⟨hb, hn⟩) S.kept.os S.kept.tape S.kept.output S.kept.size S.kept.drawn
 have := own.free b hb
 by_cases c : g b = none
 ·exact .inr (Nat.le_of_not_lt fun q => this ⟨q, c⟩)
 ·exact .inl c
theorem callX {d : Nat} {ty : TypeId} {pos : String} {af : Array Edge} {k : Nat} {X X' : Asrt} {f : FuncId} {x : Operand} {xs : Array Operand} {ts : Array TypeId} {first cap : Array Value} {vs : List Value} {v : Value} (hk : A[k]? = some X) (hf : ∀ args w, (callFunc f args).run P w = .ok (.enter f args) w)
  (hx : ev s x = some (.func (.func f) first cap)) (hv : evs s xs.toList = some vs) (hc : ∀ w g, X g → Sub g w → Disj h g → Sub h w → Calls P f (first.toList ++ vs ++ cap.toList).toArray w fun e w' => e = .returned v ∧ SH (Kp.ex w h g) h w' [X']) (hn : Nat.blt d n.sz = true)
  (kk : JL P K n ops rest Q ((d, v) :: s) (A.set k X') h) : JL P K n ops (⟨some d, .call { callee := .value x, args := xs, argTypes := ts }, ty, pos, af, none⟩ :: rest) Q s A h :=
 JL.callW rfl rfl hn (fun _ _ H _ => call_exec H hf hx hv rfl) (fun w S => by
  obtain ⟨g, hX, own, up⟩ := S.upd hk
  exact (hc w g hX own.sub own.disj S.sub).mono fun _ _ ⟨he, sr⟩ => ⟨v, A.set k X', h, he, backX up sr, kk⟩)
theorem own_n {e : TypeId} {sz m m' c : Nat} {a : Option Addr} {cs : List Value} {g : FH} (hm : m = m') (hx : OwnSl e sz a m c cs g) : OwnSl e sz a m' c cs g := by subst hm; exact hx
end
end Go.Proofs.YtimillpakjgnoaaGreat.Pl

namespace Go.Proofs.YtimillpakjgnoaaGreat.Pl
open Go Go.RowKit
def MkA (dl : List Nat) : Asrt := fun g => dl.Nodup ∧ ∀ D ∈ dl, g D = some (.deferred (some []))
def LA0 (l : Nat) (ps : Array Tmp) (assign body : Code) (m : Nat) (s : St) (st : LoopState) (pd : Option Code) : Asrt := fun g =>
 ∃ r : Loop, g = FH.one l (.loop r) ∧ r.state = st ∧ r.pending = pd ∧ r.params = ps ∧ r.assign = assign ∧ r.body = body ∧ r.tmps.size = m ∧ ∀ t v, get s t = some v → r.tmps[t]? = some v
section
variable {P : Program} {K : Kp} {n : Fr} {ops : Array Oper} {Q : Exit → Act → World → Prop} {s : St} {A : List Asrt} {h : FH} {rest : List Oper}
theorem putObj_heap (w : World) (l : Nat) (o : Obj) (b : Nat) : (w.putObj l o).heap[b]? = if l = b ∧ b < w.heap.size then some o else w.heap[b]? := by
 unfold World.putObj
 simp only [Array.getElem?_setIfInBounds]
 by_cases h : l = b
 ·subst h
  by_cases h2 : l < w.heap.size
  ·simp [h2]
  ·simp [h2]
 ·simp [h]
theorem putObj_size (w : World) (l : Nat) (o : Obj) : (w.putObj l o).heap.size = w.heap.size := by simp [World.putObj]
theorem SH.loopO {w : World} {k l : Nat} {X : Asrt} (S : SH K h w A) (hk : A[k]? = some X) (hX : ∀ g, X g → ∃ r : Loop, g = FH.one l (.loop r)) :
  ∃ r : Loop, X (FH.one l (.loop r)) ∧ w.heap[l]? = some (.loop r) ∧ ∀ (X' : Asrt) (r' : Loop), X' (FH.one l (.loop r')) → SH K h (w.putObj l (.loop r')) (A.set k X') := by
 obtain ⟨g, hg, own, up⟩ := S.upd hk
 obtain ⟨r, rfl⟩ := hX g hg
 have hl : w.heap[l]? = some (.loop r) := own.sub l _ (FH.one_self _ _)
 have hlt : l < w.heap.size := (Array.getElem?_eq_some_iff.1 hl).1
 refine ⟨r, hg, hl, fun X' r' hx' => up X' _ _ hx' (Sub.one (by rw [putObj_heap, if_pos ⟨rfl, hlt⟩])) (fun b hb => .inl ?_) (fun b hb hn => ?_) rfl rfl rfl (by rw [putObj_size]; exact Nat.le_refl _) (Nat.le_refl _)⟩
 ·rw [FH.one_ne hb, FH.one_self]; simp
 ·rw [putObj_heap, if_neg fun e => ?_]
  rw [← e.1, FH.one_self] at hn
  cases hn
theorem LA0.loop {l : Nat} {ps : Array Tmp} {assign body : Code} {m : Nat} {st : LoopState} {pd : Option Code} : ∀ g, LA0 l ps assign body m s st pd g → ∃ r : Loop, g = FH.one l (.loop r) := fun _ ⟨r, hr, _⟩ => ⟨r, hr⟩
theorem LA0.turn {l : Nat} {ps : Array Tmp} {assign body : Code} {m : Nat} {st st' : LoopState} {pd pd' : Option Code} {r : Loop} (hr : LA0 l ps assign body m s st pd (FH.one l (.loop r))) : LA0 l ps assign body m s st' pd' (FH.one l (.loop { r with state := st', pending := pd' })) := by
 obtain ⟨r0, e, _, _, h3, h4, h5, h6, h7⟩ := hr
 have e2 := congrFun e l
 rw [FH.one_self, FH.one_self] at e2
 injection e2 with e2
 injection e2 with e2
 subst e2
 exact ⟨_, rfl, rfl, rfl, h3, h4, h5, h6, h7⟩
theorem LA0.rec {l : Nat} {ps : Array Tmp} {assign body : Code} {m : Nat} {st : LoopState} {pd : Option Code} {r : Loop} (hr : LA0 l ps assign body m s st pd (FH.one l (.loop r))) : r.state = st ∧ r.pending = pd ∧ r.params = ps ∧ r.assign = assign ∧ r.body = body ∧ r.tmps.size = m ∧ ∀ t v, get s t = some v → r.tmps[t]? = some v := by
 obtain ⟨r0, e, h1⟩ := hr
 have e2 := congrFun e l
 rw [FH.one_self, FH.one_self] at e2
 injection e2 with e2
 injection e2 with e2
 subst e2
 exact h1
theorem E.roundN {σ : Type} {I : σ → Prop} {μ : σ → Nat} {N : σ → Fr} {S : σ → St} {M : σ → List Asrt} {F : σ → FH} {m : Nat} (y : σ) (hI : I y) (hμ : μ y < m) (hn : N y = n) (hs : SubSt (S y) s) (hm : M y = A) (hf : FH.le (F y) h) :
  E K n (Exit.then (fun a w => ∃ y, I y ∧ μ y < m ∧ Holds (N y) (S y) a ∧ SH K (F y) w (M y)) Q) .normal s A h :=
 fun a w H Sh => ⟨y, hI, hμ, by rw [hn]; exact H.sub hs, by rw [hm]; exact Sh.anti hf⟩
def RP (P : Program) (l : Nat) (Q : Exit → Act → World → Prop) (a' : Act) : Ending → World → Prop := rangePost Fence.wide 0 P l Q a'
theorem J.mk0 {m : Nat} {ro : Option (Option Nat)} {c : Code} (j : J P K ⟨m, ro, []⟩ c Q s (MkA [] :: A) h) : J P K ⟨m, ro, []⟩ c Q s A h := fun a w H S =>
 j a w H (S.push (Below.refl _ _) (g := fun _ => none) ⟨List.nodup_nil, fun _ hD => by cases hD⟩ (fun _ _ x => by cases x) (fun _ x => absurd rfl x))
theorem J.rangeF {m : Nat} {dl : List Nat} {g : Operand} {ps : Array Tmp} {assign body : Code} {gf : FuncId} {fnG : Func} {cG : Code} {mG k : Nat} {caps : List Value}
  (hg : ev s g = some (.func (.func gf) #[] caps.toArray)) (hk : A[k]? = some (MkA dl)) (hf : P.funcs[gf]? = some fnG) (hb : fnG.body = some cG) (hn : fnG.ntmps = mG) (hle : Nat.ble (1 + caps.length) mG = true) (eg : ∀ args w, (callFunc gf args).run P w = .ok (.enter gf args) w)
  (kk : ∀ (l D : Nat) (LA : LoopState → Option Code → Asrt) (a' : Act), LA = LA0 l ps assign body m s → Holds ⟨m, none, D :: dl⟩ s a' →
   J P K ⟨mG, some none, []⟩ cG (bodyPost P fnG (RP P l Q a')) (start 0 ((.func (.yield l) #[] #[]) :: caps)) (LA .ready none :: A.set k (MkA (D :: dl))) h) :
  J P K ⟨m, none, dl⟩ (.rangeFunc g ps assign body) Q s A h := fun a w H S => by
 refine (wpIn_wide (n := 0)).1 (wpIn_rangeFunc fun fn _ => ?_)
 have S1 : SH K h (w.alloc (.deferred (some []))) (A.set k (MkA (w.heap.size :: dl))) := by
  obtain ⟨g0, hg0, own, up⟩ := S.upd hk
  refine up _ (g0.join (FH.one w.heap.size (.deferred (some [])))) _ ⟨List.nodup_cons.2 ⟨fun hD => ?_, hg0.1⟩, fun D hD => ?_⟩ (Sub.join (own.sub.ext (below_alloc w _).block) (Sub.one (heap_alloc_new w _))) (fun b hb => ?_) (fun b hb _ => (below_alloc w _).block b hb) rfl rfl rfl (below_alloc w _).size (Nat.le_refl _)
  ·have := own.sub.lt (hg0.2 _ hD); omega
  ·rcases List.mem_cons.1 hD with e | hD
   ·subst e
    unfold FH.join
    cases e2 : g0 w.heap.size with
    | none => simp only; exact FH.one_self _ _
    | some o => have := own.sub.lt e2; omega
   ·exact FH.le_join_left _ _ _ _ (hg0.2 D hD)
  ·unfold FH.join at hb
   cases e2 : g0 b with
   | none =>
    rw [e2] at hb
    exact .inr (by rw [FH.one_ne hb]; exact Nat.le_refl _)
   | some o => exact .inl (by simp)
 have hsz : (w.alloc (.deferred (some []))).heap.size = w.heap.size + 1 := by simp
 have S2 : SH K h ((w.alloc (.deferred (some []))).alloc (.loop { state := .ready, pending := none, fn, tmps := a.tmps, params := ps, assign, body, defers := w.heap.size })) (LA0 (w.heap.size + 1) ps assign body m s .ready none :: A.set k (MkA (w.heap.size :: dl))) := by
  exact S1.new ⟨{ state := .ready, pending := none, fn, tmps := a.tmps, params := ps, assign, body, defers := w.heap.size }, by rw [hsz], rfl, rfl, rfl, rfl, rfl, H.size, H.slots⟩
 have hE := run_enterLoop_outer (P := P) (w := w) fn a.tmps ps assign body
 generalize ((w.alloc (.deferred (some []))).alloc (.loop { state := .ready, pending := none, fn, tmps := a.tmps, params := ps, assign, body, defers := w.heap.size })) = W2 at hE S2
 refine ⟨w.heap.size + 1, [mark w.heap.size], W2, { target := .fn (.func gf) caps.toArray, args := #[.func (.yield (w.heap.size + 1)) #[] #[]] }, W2, gf, #[.func (.yield (w.heap.size + 1)) #[] #[]] ++ caps.toArray, W2, hE, ?_, fun _ _ => trivial, ?_, fun x => (by cases x), ?_⟩
 ·simp only [resolve, H.ev hg]
  simp [go_sem]
 ·simp [invoke, go_sem, eg]
 ·refine callsIn_wide.2 (calls_of_wp hf hb ((wpIn_wide (n := 0)).1 ?_))
  refine kk (w.heap.size + 1) w.heap.size _ { tmps := a.tmps, defers := [mark w.heap.size] ++ a.defers } rfl ⟨?_, H.size, H.slots⟩ { tmps := (#[.func (.yield (w.heap.size + 1)) #[] #[]] ++ caps.toArray) ++ Array.replicate (fnG.ntmps - (#[Value.func (.yield (w.heap.size + 1)) #[] #[]] ++ caps.toArray).size) undef, defers := [] } W2 ⟨rfl, ?_, fun t v e => ?_⟩ S2
  ·show [mark w.heap.size] ++ a.defers = _
   rw [H.defers]; rfl
  ·have hle' : 1 + caps.length ≤ mG := by simpa using hle
   simp [hn]; omega
  ·have hle' : 1 + caps.length ≤ mG := by simpa using hle
   obtain ⟨_, h2⟩ := get_start 0 ((.func (.yield (w.heap.size + 1)) #[] #[]) :: caps) t v e
   simp only [Nat.sub_zero] at h2
   have hlt : t < ((Value.func (.yield (w.heap.size + 1)) #[] #[]) :: caps).length := (List.getElem?_eq_some_iff.1 h2).1
   rw [Array.getElem?_append_left (by simpa using hlt)]
   simpa using h2
theorem range_done {m l k : Nat} {dl : List Nat} {ps : Array Tmp} {assign body : Code} {LA : LoopState → Option Code → Asrt} {a' : Act} {v : Value} (hLA : LA = LA0 l ps assign body m s) (hk : A[k]? = some (LA .ready none)) (Ha : Holds ⟨m, none, dl⟩ s a')
  (j : E K ⟨m, none, dl⟩ Q .normal s (A.set k tru) h) : ∀ w, SH K h w A → RP P l Q a' (.returned v) w := fun w S => by
 subst hLA
 obtain ⟨r, hr, hl, up⟩ := S.loopO hk LA0.loop
 obtain ⟨h1, h2, _⟩ := LA0.rec hr
 exact ⟨_, _, run_endLoop hl (by rw [h1]; decide), by rw [h2]; exact j a' _ Ha (up tru _ trivial)⟩
theorem range_jump {m l k : Nat} {dl : List Nat} {ps : Array Tmp} {assign body c : Code} {LA : LoopState → Option Code → Asrt} {a' : Act} {v : Value} (hLA : LA = LA0 l ps assign body m s) (hk : A[k]? = some (LA .done (some c))) (Ha : Holds ⟨m, none, dl⟩ s a')
  (j : J P K ⟨m, none, dl⟩ c Q s (A.set k tru) h) : ∀ w, SH K h w A → RP P l Q a' (.returned v) w := fun w S => by
 subst hLA
 obtain ⟨r, hr, hl, up⟩ := S.loopO hk LA0.loop
 obtain ⟨h1, h2, _⟩ := LA0.rec hr
 exact ⟨_, _, run_endLoop hl (by rw [h1]; decide), by rw [h2]; exact (wpIn_wide (n := 0)).2 (j a' _ Ha (up tru _ trivial))⟩
def binds : List (Tmp × Value) → St → St
 | [], s => s
 | (p, v) :: r, s => binds r ((p, v) :: s)
theorem binds_get : ∀ (l : List (Tmp × Value)) (s : St) (ts : Array Value), (∀ p ∈ l, p.1 < ts.size) → (∀ t v, get s t = some v → ts[t]? = some v) → (l.foldl (fun (t : Array Value) (p : Tmp × Value) => t.setIfInBounds p.1 p.2) ts).size = ts.size ∧ ∀ t v, get (binds l s) t = some v → (l.foldl (fun (t : Array Value) (p : Tmp × Value) => t.setIfInBounds p.1 p.2) ts)[t]? = some v
 | [], s, ts, _, h => ⟨rfl, h⟩
 | (p, u) :: r, s, ts, hp, h => by
  have hlt := hp (p, u) List.mem_cons_self
  obtain ⟨h1, h2⟩ := binds_get r ((p, u) :: s) (ts.setIfInBounds p u) (fun q hq => by rw [Array.size_setIfInBounds]; exact hp q (List.mem_cons_of_mem _ hq)) (fun t v e => by
   simp only [get] at e
   cases hb : Nat.beq p t with
   | true =>
    have := Nat.eq_of_beq_eq_true hb
    subst this
    simp only [hb, cond_true] at e
    obtain rfl := Option.some.inj e
    simp only [] at hlt
    simp [hlt]
   | false =>
    simp only [hb, cond_false] at e
    rw [Array.getElem?_setIfInBounds_ne (fun e' => by subst e'; simp at hb)]
    exact h t v e)
  exact ⟨by rw [List.foldl_cons, h1, Array.size_setIfInBounds], h2⟩
def QY (P : Program) (ro : Option (Option Nat)) (ops : Array Oper) (rest : List Oper) (Q : Exit → Act → World → Prop) (aG : Act) (d : Nat) : Ending → World → Prop
 | .returned v, w => WL P ro ops Q rest (aG.put (some d) v) w
 | _, _ => False
def RA (P : Program) (body : Code) (l : Nat) (QB : Exit → Act → World → Prop) : Exit → Act → World → Prop :=
 Exit.then (fun a₁ w₁ => ∃ w₂, (Instr.beginRound l).run P w₁ = .ok () w₂ ∧ WC P (some (some l)) body QB a₁ w₂) (fun _ _ _ => False)
def QB (P : Program) (l : Nat) (R : Ending → World → Prop) : Exit → Act → World → Prop := roundPost P l R
theorem JL.yld {d m l k : Nat} {x0 : Option Nat} {ty : TypeId} {pos : String} {af : Array Edge} {x : Operand} {xs : Array Operand} {ts : Array TypeId} {vs : List Value} {ps : Array Tmp} {assign body : Code} {LA : LoopState → Option Code → Asrt} {s0 : St} {mG : Nat} {dG : List Nat}
  (hLA : LA = LA0 l ps assign body m s0) (hk : A[k]? = some (LA .ready none)) (hx : ev s x = some (.func (.yield l) #[] #[])) (hv : evs s xs.toList = some vs) (hp : vs.length = ps.size) (hps : ps.toList.all (fun p => Nat.blt p m) = true)
  (kk : ∀ aG, Holds ⟨mG, some x0, dG⟩ s aG → J P K ⟨m, some (some l), []⟩ assign (RA P body l (QB P l (QY P (some x0) ops rest Q aG d))) (binds (ps.toList.zip vs) s0) A h) :
  JL P K ⟨mG, some x0, dG⟩ ops (⟨some d, .call { callee := .value x, args := xs, argTypes := ts }, ty, pos, af, none⟩ :: rest) Q s A h := fun a w H S => by
 subst hLA
 obtain ⟨r, hr, hl, _⟩ := S.loopO hk LA0.loop
 obtain ⟨h1, h2, h3, h4, h5, h6, h7⟩ := LA0.rec hr
 refine wpListIn_plain rfl fun Kc hK => ⟨fun _ _ => trivial, ?_⟩
 have hsem : (Oper.semAt x0 a.eval ⟨some d, .call { callee := .value x, args := xs, argTypes := ts }, ty, pos, af, none⟩).run P w = .ok (.round l r.fn ((r.params.zip vs.toArray).foldl (fun tmps (t, a) => tmps.setIfInBounds t a) r.tmps) r.assign r.body) w := by
  rw [Oper.semAt_eq _ _ _ (fun c e => by cases e)]
  have hy := run_yield (P := P) (args := vs.toArray) hl (by rw [h3]; simpa using hp)
  have hxs : xs.map a.eval = vs.toArray := by rw [← Array.toArray_toList (xs := xs), List.map_toArray, H.evs hv]
  simp only [execOp, resolve, H.ev hx, Deferred.ofValue, Sem.run_bind, Sem.run_pure, Result.andThen_ok, invoke, hxs, Array.empty_append, hy]
 show Oper.uponIn (FR x0) 0 P _ a _ Q ((Oper.semAt x0 a.eval _).run P w)
 rw [hsem]
 refine ⟨fun h => (by cases h), ?_⟩
 have hz : (r.params.zip vs.toArray).foldl (fun tmps (p : Tmp × Value) => tmps.setIfInBounds p.1 p.2) r.tmps = (ps.toList.zip vs).foldl (fun (t : Array Value) (p : Tmp × Value) => t.setIfInBounds p.1 p.2) r.tmps := by
  rw [h3, ← Array.foldl_toList, Array.toList_zip]
 have hb := binds_get (ps.toList.zip vs) s0 r.tmps (fun p hp => by
  have := List.all_eq_true.1 hps p.1 (List.of_mem_zip hp).1
  rw [h6]; simpa using this) h7
 have hj := kk a H { tmps := (r.params.zip vs.toArray).foldl (fun tmps (p : Tmp × Value) => tmps.setIfInBounds p.1 p.2) r.tmps, defers := [] } w ⟨rfl, by rw [hz, hb.1, h6], fun t v e => by rw [hz]; exact hb.2 t v e⟩ S
 refine RoundIn.mono (roundIn_of_wpIn (n := 0) trivial ?_) (R := QY P (some x0) ops rest Q a d) (fun e w' he => ?_)
 ·rw [h4, h5]
  exact hj
 ·cases e with
  | returned v => exact hK _ _ he
  | panicked c => exact he.elim
  | outgrown => exact he.elim
theorem E.begin_ {m l k : Nat} {ps : Array Tmp} {assign body : Code} {LA : LoopState → Option Code → Asrt} {s0 : St} {R : Ending → World → Prop} (hLA : LA = LA0 l ps assign body m s0) (hk : A[k]? = some (LA .ready none))
  (j : J P K ⟨m, some (some l), []⟩ body (QB P l R) s (A.set k (LA .busy none)) h) : E K ⟨m, some (some l), []⟩ (RA P body l (QB P l R)) .normal s A h := fun a w H S => by
 subst hLA
 obtain ⟨r, hr, hl, up⟩ := S.loopO hk LA0.loop
 obtain ⟨h1, h2, _⟩ := LA0.rec hr
 have hp : ({ r with state := .busy, pending := none } : Loop) = { r with state := .busy } := by rw [← h2]
 exact ⟨_, run_beginRound hl h1, j a _ H (up _ _ (by rw [← hp]; exact LA0.turn hr))⟩
theorem round_end {m l k mG d : Nat} {x0 : Option Nat} {dG : List Nat} {ps : Array Tmp} {assign body : Code} {LA : LoopState → Option Code → Asrt} {s0 sG : St} {aG : Act} {QG : Exit → Act → World → Prop} {ops : Array Oper} {rest : List Oper} (jump : Option Code)
  (hLA : LA = LA0 l ps assign body m s0) (hk : A[k]? = some (LA .busy none)) (HG : Holds ⟨mG, some x0, dG⟩ sG aG) (hd : Nat.blt d mG = true)
  (j : JL P K ⟨mG, some x0, dG⟩ ops rest QG ((d, .bool jump.isNone) :: sG) (A.set k (LA (if jump.isNone then .ready else .done) jump)) h) :
  ∀ w, SH K h w A → ∃ v w', (Instr.endRound l jump).run P w = .ok v w' ∧ QY P (some x0) ops rest QG aG d (.returned v) w' := fun w S => by
 subst hLA
 obtain ⟨r, hr, hl, up⟩ := S.loopO hk LA0.loop
 exact ⟨_, _, run_endRound jump hl, j _ _ (HG.put (.bool jump.isNone) hd) (up _ _ (LA0.turn hr))⟩
theorem E.rdN {m l k mG d : Nat} {x0 : Option Nat} {dG : List Nat} {ps : Array Tmp} {assign body : Code} {LA : LoopState → Option Code → Asrt} {s0 sG : St} {aG : Act} {QG : Exit → Act → World → Prop} {ops : Array Oper} {rest : List Oper}
  (hLA : LA = LA0 l ps assign body m s0) (hk : A[k]? = some (LA .busy none)) (HG : Holds ⟨mG, some x0, dG⟩ sG aG) (hd : Nat.blt d mG = true)
  (j : JL P K ⟨mG, some x0, dG⟩ ops rest QG ((d, .bool true) :: sG) (A.set k (LA .ready none)) h) : E K n (QB P l (QY P (some x0) ops rest QG aG d)) .normal s A h := fun _ w _ S =>
 round_end none hLA hk HG hd j w S
theorem E.rdR {m l k mG d : Nat} {x0 : Option Nat} {dG : List Nat} {ps : Array Tmp} {assign body : Code} {LA : LoopState → Option Code → Asrt} {s0 sG : St} {aG : Act} {QG : Exit → Act → World → Prop} {ops : Array Oper} {rest : List Oper}
  (hLA : LA = LA0 l ps assign body m s0) (hk : A[k]? = some (LA .busy none)) (HG : Holds ⟨mG, some x0, dG⟩ sG aG) (hd : Nat.blt d mG = true)
  (j : JL P K ⟨mG, some x0, dG⟩ ops rest QG ((d, .bool false) :: sG) (A.set k (LA .done (some .ret))) h) : E K n (QB P l (QY P (some x0) ops rest QG aG d)) .ret s A h := fun _ w _ S =>
 round_end (some .ret) hLA hk HG hd j w S
theorem enterM {fn : Func} {R : Ending → World → Prop} {f : FuncId} {c : Code} {args : List Value} {w : World} {m : Nat} (hf : P.funcs[f]? = some fn) (hb : fn.body = some c) (hn : fn.ntmps = m) (hle : Nat.ble args.length m = true) (hs : Sub h w)
  (j : J P (Kp.all w h) ⟨m, none, []⟩ c (bodyPostM Fence.wide 0 P fn R) (start 0 args) [MkA []] h) : Calls P f args.toArray w R := by
 have hl : args.length ≤ m := by simpa using hle
 refine callsIn_wide.1 (callsIn_of_wp_marks (n := 0) hf hb trivial ((wpIn_wide (n := 0)).2 (J.mk0 j _ w ⟨rfl, ?_, fun t v e => ?_⟩ (SH.start w h hs))))
 ·simp [hn]; omega
 ·obtain ⟨_, h2⟩ := get_start 0 args t v e
  simp only [Nat.sub_zero] at h2
  have hlt : t < args.length := (List.getElem?_eq_some_iff.1 h2).1
  rw [Array.getElem?_append_left (by simpa using hlt)]
  simpa using h2
theorem leaves_marks {fn : Func} {R : Ending → World → Prop} {m k : Nat} : ∀ (dl : List Nat) (A : List Asrt) (a : Act) (w : World), A[k]? = some (MkA dl) → Holds ⟨m, none, []⟩ s { tmps := a.tmps, defers := [] } → SH K h w A → E K ⟨m, none, []⟩ (bodyPost P fn R) .ret s (A.set k tru) h →
  LeavesInM Fence.wide 0 P fn a.tmps R (dl.map mark) .returning w
 | [], A, a, w, hk, H, S, j => (j _ w H (S.forget k)).2
 | D :: dl, A, a, w, hk, H, S, j => by
  obtain ⟨g, ⟨hd, hg⟩, own, up⟩ := S.upd hk
  have hD := hg D List.mem_cons_self
  have hw := own.sub D _ hD
  have hlt : D < w.heap.size := (Array.getElem?_eq_some_iff.1 hw).1
  obtain ⟨hn1, hn2⟩ := List.nodup_cons.1 hd
  refine ⟨fun e => (by cases e), .inl ⟨D, w.putObj D (.deferred none), rfl, run_takeDeferred hw, ?_⟩⟩
  have S' := up (MkA dl) (fun b => if b = D then some (.deferred none) else g b) (w.putObj D (.deferred none)) ⟨hn2, fun D' hD' => by
   have : D' ≠ D := fun e => hn1 (e ▸ hD')
   simp only [this, if_false]
   exact hg D' (List.mem_cons_of_mem _ hD')⟩ (fun b o hb => by
   by_cases e : b = D
   ·subst e
    simp only [if_true] at hb
    rw [putObj_heap, if_pos ⟨rfl, hlt⟩]; exact hb
   ·simp only [e, if_false] at hb
    rw [putObj_heap, if_neg (fun q => e q.1.symm)]
    exact own.sub b o hb) (fun b hb => by
   by_cases e : b = D
   ·subst e; exact .inl (by rw [hD]; simp)
   ·simp only [e, if_false] at hb; exact .inl hb) (fun b hb hn => by
   rw [putObj_heap, if_neg fun q => ?_]
   rw [← q.1, hD] at hn; cases hn) rfl rfl rfl (by rw [putObj_size]; exact Nat.le_refl _) (Nat.le_refl _)
  have hk' : (A.set k (MkA dl))[k]? = some (MkA dl) := by
   rw [List.getElem?_set_self (List.getElem?_eq_some_iff.1 hk).1]
  exact leaves_marks dl _ a _ hk' H S' (by rw [List.set_set]; exact j)
theorem E.resM {fn : Func} {R : Ending → World → Prop} {m k : Nat} {dl : List Nat} (hk : A[k]? = some (MkA dl)) (j : E K ⟨m, none, []⟩ (bodyPost P fn R) .ret s (A.set k tru) h) : E K ⟨m, none, dl⟩ (bodyPostM Fence.wide 0 P fn R) .ret s A h := fun a w H S => by
 show LeavesInM Fence.wide 0 P fn a.tmps R a.defers .returning w
 rw [H.defers]
 exact leaves_marks dl A a w hk ⟨rfl, H.size, H.slots⟩ S j
end
end Go.Proofs.YtimillpakjgnoaaGreat.Pl

namespace Go.Proofs.YtimillpakjgnoaaGreat.Pl
open Go Go.RowKit Go.MapKept
abbrev strV (k : List UInt8) : Value := .string ⟨k.toArray⟩
def upd (m : List UInt8 → Int) (k : List UInt8) (v : Int) : List UInt8 → Int := fun x => if x = k then v else m x
inductive MapIs : List MapEntry → (List UInt8 → Int) → Prop
 | nil : MapIs [] fun _ => 0
 | cons {k : List UInt8} {v : Int} {born : Nat} {es : List MapEntry} {m : List UInt8 → Int} : MapIs es m → MapIs (⟨strV k, .int .i64 v, born⟩ :: es) (upd m k v)
def OwnMap (b : Nat) (m : List UInt8 → Int) : Asrt := fun g => ∃ es clock, g = FH.one b (.map es clock) ∧ MapIs es.toList m
section
variable {P : Program} {K : Kp} {n : Fr} {ops : Array Oper} {Q : Exit → Act → World → Prop} {s : St} {A : List Asrt} {h : FH} {rest : List Oper} {d : Nat} {dd : Option Tmp} {gd : Option (Nat × Bool)} {ty : TypeId} {pos : String} {af : Array Edge}
theorem mm {t : TypeId} (hn : Nat.blt d n.sz = true)
  (k : ∀ b, JL P K n ops rest Q ((d, .map (some b)) :: s) (OwnMap b (fun _ => 0) :: A) h) : JL P K n ops (⟨some d, .makeMap t none, ty, pos, af, none⟩ :: rest) Q s A h :=
 JL.valW rfl rfl hn (fun ac w H S => by
  refine ⟨_, w.alloc (.map #[] 0), _, h, ?_, S.new (X := OwnMap w.heap.size fun _ => 0) ⟨#[], 0, rfl, .nil⟩, k _⟩
  have e : (Instr.makeMap t none).run P w = .ok (.map (some w.heap.size)) (w.alloc (.map #[] 0)) := rfl
  simp only [execOp, Option.map_none, Sem.run_bind, e]; rfl)
end
end Go.Proofs.YtimillpakjgnoaaGreat.Pl

namespace Go.Proofs.YtimillpakjgnoaaGreat.Pl
open Go Go.RowKit Go.Shelf
instance : Flat UInt8 := ⟨1, fun x => [.int .u8 (x.toNat : Int)], fun _ => rfl, fun x v hv => by simp at hv; subst hv; rfl⟩
section
variable {P : Program} {K : Kp} {n : Fr} {s : St} {A : List Asrt} {h : FH} {dd : Option Tmp} {gd : Option (Nat × Bool)} {ty : TypeId} {pos : String} {af : Array Edge}
end
section
variable {P : Program} {n : Fr} {ops : Array Oper} {Q : Exit → Act → World → Prop} {s : St} {h : FH} {rest : List Oper} {d : Nat} {dd : Option Tmp} {gd : Option (Nat × Bool)} {ty : TypeId} {pos : String} {af : Array Edge}
end
end Go.Proofs.YtimillpakjgnoaaGreat.Pl

namespace Go.Proofs.YtimillpakjgnoaaGreat.Pl
open Go Go.RowKit
section
variable {P : Program} {K : Kp} {n : Fr} {ops : Array Oper} {Q : Exit → Act → World → Prop} {s : St} {A : List Asrt} {h : FH} {rest : List Oper} {d : Nat} {dd : Option Tmp} {gd : Option (Nat × Bool)} {ty : TypeId} {pos : String} {af : Array Edge}
theorem JL.valN {o : Oper} (hg : o.guard = none) (hd : o.dst = none)
  (hx : ∀ a w, Holds n s a → SH K h w A → ∃ v w' A' h', (execOp a.eval o).run P w = .ok (.value v) w' ∧ SH K h' w' A' ∧ JL P K n ops rest Q s A' h') : JL P K n ops (o :: rest) Q s A h :=
 fun a w H S => by
  obtain ⟨v, w', A', h', hr, hs, k⟩ := hx a w H S
  exact WL.val hg hr (k _ w' (by rw [hd]; exact H) hs)
theorem OwnSl.take_ {e : TypeId} {sz m m' c : Nat} {a : Option Addr} {cs : List Value} {g : FH} (hx : OwnSl e sz a m c cs g) (h : m' ≤ m) : OwnSl e sz a m' c (cs.take (m' * sz)) g := by
 have hmul : m' * sz ≤ m * sz := Nat.mul_le_mul_right sz h
 obtain ⟨hl, ⟨rfl, rfl, rfl, rfl⟩ | ⟨b, cur, rfl, rfl, q1, q2, q3, q4⟩⟩ := hx
 ·have : m' = 0 := by omega
  subst this
  exact ⟨by simp, .inl ⟨rfl, rfl, rfl, rfl⟩⟩
 ·refine ⟨by rw [List.length_take, hl]; omega, .inr ⟨b, cur, rfl, rfl, by omega, q2, q3, ?_⟩⟩
  rw [← q4, List.take_take, Nat.min_eq_left hmul]
theorem len_take {α : Type} {xs : List α} {k m : Nat} (h : xs.length = m) (hl : k ≤ m) : (xs.take k).length = k := by
 rw [List.length_take]; omega
end
end Go.Proofs.YtimillpakjgnoaaGreat.Pl

namespace Go.Proofs.YtimillpakjgnoaaGreat.Pl
open Go Go.RowKit
section
variable {P : Program} {K : Kp} {n : Fr} {ops : Array Oper} {Q : Exit → Act → World → Prop} {s : St} {A : List Asrt} {h : FH} {rest : List Oper}
variable {dd : Option Tmp} {gd : Option (Nat × Bool)} {ty : TypeId} {pos : String} {af : Array Edge}
def Star (X Y : Asrt) : Asrt := fun g => ∃ g1 g2, g = FH.join g1 g2 ∧ Disj g1 g2 ∧ X g1 ∧ Y g2
def noFH : FH := fun _ => none
theorem own_no {w : World} : Own K h w noFH := ⟨fun _ => .inr rfl, fun _ _ e => (by cases e), fun _ e => absurd rfl e⟩
theorem disj_no (g : FH) : Disj noFH g := fun _ => .inl rfl
theorem set2_get {α : Type} {l : List α} {i j k : Nat} {x y : α} (e : ((l.set i x).set j x)[k]? = some y) : (y = x ∧ (k = i ∨ k = j)) ∨ (k ≠ i ∧ k ≠ j ∧ l[k]? = some y) := by
 rcases list_set_get e with ⟨rfl, rfl, _⟩ | ⟨h1, h2⟩
 ·exact .inl ⟨rfl, .inr rfl⟩
 ·rcases list_set_get h2 with ⟨rfl, rfl, _⟩ | ⟨h3, h4⟩
  ·exact .inl ⟨rfl, .inl rfl⟩
  ·exact .inr ⟨h3, h1, h4⟩
theorem join_ne {g1 g2 : FH} {b : Nat} (e : FH.join g1 g2 b ≠ none) : g1 b ≠ none ∨ g2 b ≠ none := by
 unfold FH.join at e
 cases e1 : g1 b with
 | none => rw [e1] at e; exact .inr e
 | some o => exact .inl (by simp)
theorem join_none {g1 g2 : FH} {b : Nat} (e1 : g1 b = none) (e2 : g2 b = none) : FH.join g1 g2 b = none := by
 unfold FH.join
 rw [e1]; exact e2
theorem disj_join {g g1 g2 : FH} (d1 : Disj g g1) (d2 : Disj g g2) : Disj g (FH.join g1 g2) := fun b => by
 rcases d1 b with e | e
 ·exact .inl e
 ·rcases d2 b with e' | e'
  ·exact .inl e'
  ·exact .inr (join_none e e')
theorem Own.join {w : World} {g1 g2 : FH} (o1 : Own K h w g1) (o2 : Own K h w g2) : Own K h w (FH.join g1 g2) :=
 ⟨disj_join o1.disj o2.disj, Sub.join o1.sub o2.sub, fun b e => (join_ne e).elim (o1.free b) (o2.free b)⟩
theorem SH.joinS {w : World} {i j : Nat} {X Y : Asrt} (S : SH K h w A) (hij : i ≠ j) (hi : A[i]? = some X) (hj : A[j]? = some Y) : SH K h w (Star X Y :: (A.set i tru).set j tru) := by
 obtain ⟨gs, p1, p2, p3, p4⟩ := S.parts
 have hil : i < gs.length := by rw [p1]; exact (List.getElem?_eq_some_iff.1 hi).1
 have hjl : j < gs.length := by rw [p1]; exact (List.getElem?_eq_some_iff.1 hj).1
 have gi : gs[i]? = some gs[i] := List.getElem?_eq_getElem hil
 have gj : gs[j]? = some gs[j] := List.getElem?_eq_getElem hjl
 refine ⟨S.kept, S.sub, S.fresh, FH.join gs[i] gs[j] :: (gs.set i noFH).set j noFH, by simp [p1], fun k g Z hk hZ => ?_, fun k g hk => ?_, fun k l g g' hkl hk hl => ?_⟩
 ·cases k with
  | zero =>
   simp at hk hZ
   subst hk; subst hZ
   exact ⟨_, _, rfl, p4 i j _ _ hij gi gj, p2 i _ X gi hi, p2 j _ Y gj hj⟩
  | succ k =>
   simp only [List.getElem?_cons_succ] at hk hZ
   rcases set2_get hZ with ⟨rfl, _⟩ | ⟨h1, h2, h3⟩
   ·trivial
   ·rcases set2_get hk with ⟨rfl, q⟩ | ⟨_, _, h4⟩
    ·rcases q with q | q
     ·exact absurd q h1
     ·exact absurd q h2
    ·exact p2 k g Z h4 h3
 ·cases k with
  | zero => simp at hk; subst hk; exact (p3 i _ gi).join (p3 j _ gj)
  | succ k =>
   simp only [List.getElem?_cons_succ] at hk
   rcases set2_get hk with ⟨rfl, _⟩ | ⟨_, _, h4⟩
   ·exact own_no
   ·exact p3 k g h4
 ·have key : ∀ (k : Nat) (g : FH), ((gs.set i noFH).set j noFH)[k]? = some g → Disj (FH.join gs[i] gs[j]) g := fun k g hk => by
   rcases set2_get hk with ⟨rfl, _⟩ | ⟨h1, h2, h4⟩
   ·exact fun _ => .inr rfl
   ·exact (disj_join (p4 k i g _ h1 h4 gi) (p4 k j g _ h2 h4 gj)).symm
  cases k with
  | zero =>
   cases l with
   | zero => exact absurd rfl hkl
   | succ l =>
    simp only [List.getElem?_cons_zero, List.getElem?_cons_succ, Option.some.injEq] at hk hl
    subst hk
    exact key l g' hl
  | succ k =>
   cases l with
   | zero =>
    simp only [List.getElem?_cons_zero, List.getElem?_cons_succ, Option.some.injEq] at hk hl
    subst hl
    exact (key k g hk).symm
   | succ l =>
    simp only [List.getElem?_cons_succ] at hk hl
    rcases set2_get hk with ⟨rfl, _⟩ | ⟨_, _, h4⟩
    ·exact disj_no _
    ·rcases set2_get hl with ⟨rfl, _⟩ | ⟨_, _, h5⟩
     ·exact fun _ => .inr rfl
     ·exact p4 k l g g' (by omega) h4 h5
theorem SH.splitS {w : World} {k : Nat} {X Y : Asrt} (S : SH K h w A) (hk : A[k]? = some (Star X Y)) : SH K h w (X :: Y :: A.set k tru) := by
 obtain ⟨gs, p1, p2, p3, p4⟩ := S.parts
 have hkl : k < gs.length := by rw [p1]; exact (List.getElem?_eq_some_iff.1 hk).1
 have gk : gs[k]? = some gs[k] := List.getElem?_eq_getElem hkl
 obtain ⟨g1, g2, he, hd, hx, hy⟩ := p2 k _ _ gk hk
 have own := p3 k _ gk
 have d1 : ∀ b, g1 b ≠ Option.none → gs[k] b ≠ Option.none := fun b hb => by
  rw [he]; unfold FH.join
  cases e : g1 b with
  | none => exact absurd e hb
  | some o => simp
 have d2 : ∀ b, g2 b ≠ Option.none → gs[k] b ≠ Option.none := fun b hb => by
  rw [he]; unfold FH.join
  cases e : g1 b with
  | none => simpa using hb
  | some o => simp
 have sub1 : ∀ (g : FH), Disj gs[k] g → Disj g1 g := fun g d b => by
  cases e : g1 b with
  | none => exact .inl rfl
  | some o => exact .inr ((d b).resolve_left (d1 b (by simp [e])))
 have sub2 : ∀ (g : FH), Disj gs[k] g → Disj g2 g := fun g d b => by
  cases e : g2 b with
  | none => exact .inl rfl
  | some o => exact .inr ((d b).resolve_left (d2 b (by simp [e])))
 have sg := own.sub
 rw [he] at sg
 have o1 : Own K h w g1 := ⟨(sub1 h own.disj.symm).symm, sg.anti (FH.le_join_left _ _), fun b hb => own.free b (d1 b hb)⟩
 have o2 : Own K h w g2 := ⟨(sub2 h own.disj.symm).symm, sg.anti (FH.le_join_right hd), fun b hb => own.free b (d2 b hb)⟩
 have key : ∀ (l : Nat) (g : FH), (gs.set k noFH)[l]? = some g → Disj gs[k] g := fun l g hl => by
  rcases list_set_get hl with ⟨_, rfl, _⟩ | ⟨h1, h2⟩
  ·exact fun _ => .inr rfl
  ·exact p4 k l _ g (Ne.symm h1) gk h2
 refine ⟨S.kept, S.sub, S.fresh, g1 :: g2 :: gs.set k noFH, by simp [p1], fun l g Z hl hZ => ?_, fun l g hl => ?_, fun l m g g' hlm hl hm => ?_⟩
 ·match l with
  | 0 => simp at hl hZ; subst hl; subst hZ; exact hx
  | 1 => simp at hl hZ; subst hl; subst hZ; exact hy
  | l + 2 =>
   simp only [List.getElem?_cons_succ] at hl hZ
   rcases list_set_get hZ with ⟨_, rfl, _⟩ | ⟨h1, h2⟩
   ·trivial
   ·rcases list_set_get hl with ⟨q, _, _⟩ | ⟨_, h3⟩
    ·exact absurd q h1
    ·exact p2 l g Z h3 h2
 ·match l with
  | 0 => simp at hl; subst hl; exact o1
  | 1 => simp at hl; subst hl; exact o2
  | l + 2 =>
   simp only [List.getElem?_cons_succ] at hl
   rcases list_set_get hl with ⟨_, rfl, _⟩ | ⟨_, h3⟩
   ·exact own_no
   ·exact p3 l g h3
 ·match l, m with
  | 0, 0 => exact absurd rfl hlm
  | 1, 1 => exact absurd rfl hlm
  | 0, 1 => simp at hl hm; subst hl; subst hm; exact hd
  | 1, 0 => simp at hl hm; subst hl; subst hm; exact hd.symm
  | 0, m + 2 =>
   simp only [List.getElem?_cons_zero, List.getElem?_cons_succ, Option.some.injEq] at hl hm
   subst hl; exact sub1 _ (key m g' hm)
  | 1, m + 2 =>
   simp only [List.getElem?_cons_zero, List.getElem?_cons_succ, Option.some.injEq] at hl hm
   subst hl; exact sub2 _ (key m g' hm)
  | l + 2, 0 =>
   simp only [List.getElem?_cons_zero, List.getElem?_cons_succ, Option.some.injEq] at hl hm
   subst hm; exact (sub1 _ (key l g hl)).symm
  | l + 2, 1 =>
   simp only [List.getElem?_cons_zero, List.getElem?_cons_succ, Option.some.injEq] at hl hm
   subst hm; exact (sub2 _ (key l g hl)).symm
  | l + 2, m + 2 =>
   simp only [List.getElem?_cons_succ] at hl hm
   rcases list_set_get hl with ⟨_, rfl, _⟩ | ⟨_, h3⟩
   ·exact disj_no _
   ·rcases list_set_get hm with ⟨_, rfl, _⟩ | ⟨_, h4⟩
    ·exact fun _ => .inr rfl
    ·exact p4 l m g g' (by omega) h3 h4
variable {α : Type} [Flat α] {inv : (List UInt8 → Int) → Prop} {p : Addr} {pre cells : List Value} {b c : Nat} {e : TypeId} {a : Option Addr} {xs : List α} {m : List UInt8 → Int}
end
end Go.Proofs.YtimillpakjgnoaaGreat.Pl

namespace Go.Proofs.YtimillpakjgnoaaGreat.Pl
open Go Go.RowKit
abbrev iV (x : Int) : Value := .int .i64 x
abbrev vSl {α : Type} (a : Option Addr) (l : List α) (c : Nat) : Value := .slice a l.length c
abbrev vP (p : Addr) : Value := .pointer (some p)
abbrev nM {α : Type} (l : List α) : Int := IntKind.i64.wrap ((l.length : Int) - 1)
abbrev wr (x : Int) : Int := IntKind.i64.wrap x
theorem sb {S s : St} (h : SubSt S s := by ((repeat refine .cons rfl ?_); exact .nil)) : SubSt S s := h
abbrev oL {α : Type} [Flat α] (e : TypeId) (sz : Nat) (a : Option Addr) (l : List α) (c : Nat) : Asrt := OwnSl e sz a l.length c (flL l)
section
variable {P : Program} {K : Kp} {n : Fr} {ops : Array Oper} {Q : Exit → Act → World → Prop} {s : St} {A : List Asrt} {h : FH} {rest : List Oper} {o : Oper} {d g t : Nat} {v : Value} {want b c : Bool} {R : Act → Prop}
theorem J.KA (A' : List Asrt) {cd : Code} (j : J P K n cd Q s A' h) (hA : A = A' := by exact rfl) : J P K n cd Q s A h := .cast hA j
theorem E.KA (A' : List Asrt) {ex : Exit} (j : E K n Q ex s A' h) (hA : A = A' := by exact rfl) : E K n Q ex s A h := .cast hA j
theorem JL.KA (A' : List Asrt) {l : List Oper} (j : JL P K n ops l Q s A' h) (hA : A = A' := by exact rfl) : JL P K n ops l Q s A h := .cast hA j
theorem JL.V (hx : VF P K n s A h o v) (k : JL P K n ops rest Q ((d, v) :: s) A h) (hg : o.guard = none := by exact rfl) (hd : o.dst = some d := by exact rfl) (hn : Nat.blt d n.sz = true := by exact rfl) : JL P K n ops (o :: rest) Q s A h := .v hx hg hd hn k
theorem QL.V (hx : VF P K n s A h o v) (k : QL P K n ops rest R ((d, v) :: s) A h) (hg : o.guard = none := by exact rfl) (hd : o.dst = some d := by exact rfl) (hn : Nat.blt d n.sz = true := by exact rfl) : QL P K n ops (o :: rest) R s A h := .v hx hg hd hn k
theorem JL.C (hx : CF P K n s A h o v) (k : JL P K n ops rest Q ((d, v) :: s) A h) (hg : o.guard = none := by exact rfl) (hd : o.dst = some d := by exact rfl) (hn : Nat.blt d n.sz = true := by exact rfl) : JL P K n ops (o :: rest) Q s A h := .c hx hg hd hn k
theorem QL.C (hx : CF P K n s A h o v) (k : QL P K n ops rest R ((d, v) :: s) A h) (hg : o.guard = none := by exact rfl) (hd : o.dst = some d := by exact rfl) (hn : Nat.blt d n.sz = true := by exact rfl) : QL P K n ops (o :: rest) R s A h := .c hx hg hd hn k
theorem JL.GU (k : JL P K n ops rest Q ((d, undef) :: s) A h) (hg : o.guard = some (g, want) := by exact rfl) (ht : (ops[g]?).bind (·.dst) = some t := by exact rfl) (hv : get s t = some undef := by exact rfl) (hd : o.dst = some d := by exact rfl) (hn : Nat.blt d n.sz = true := by exact rfl) : JL P K n ops (o :: rest) Q s A h := .gU hg ht hv hd hn k
theorem QL.GU (k : QL P K n ops rest R ((d, undef) :: s) A h) (hg : o.guard = some (g, want) := by exact rfl) (ht : (ops[g]?).bind (·.dst) = some t := by exact rfl) (hv : get s t = some undef := by exact rfl) (hd : o.dst = some d := by exact rfl) (hn : Nat.blt d n.sz = true := by exact rfl) : QL P K n ops (o :: rest) R s A h := .gU hg ht hv hd hn k
theorem JL.GS (hb : b = c) (k : JL P K n ops rest Q ((d, undef) :: s) A h) (hg : o.guard = some (g, want) := by exact rfl) (ht : (ops[g]?).bind (·.dst) = some t := by exact rfl) (hv : get s t = some (.bool b) := by exact rfl) (hc : c = !want := by exact rfl) (hd : o.dst = some d := by exact rfl) (hn : Nat.blt d n.sz = true := by exact rfl) : JL P K n ops (o :: rest) Q s A h := .gS hg ht hv (hb.trans hc) hd hn k
theorem QL.GS (hb : b = c) (k : QL P K n ops rest R ((d, undef) :: s) A h) (hg : o.guard = some (g, want) := by exact rfl) (ht : (ops[g]?).bind (·.dst) = some t := by exact rfl) (hv : get s t = some (.bool b) := by exact rfl) (hc : c = !want := by exact rfl) (hd : o.dst = some d := by exact rfl) (hn : Nat.blt d n.sz = true := by exact rfl) : QL P K n ops (o :: rest) R s A h := .gS hg ht hv (hb.trans hc) hd hn k
theorem JL.GV (hx : VF P K n s A h o v) (hb : b = c) (k : JL P K n ops rest Q ((d, v) :: s) A h) (hg : o.guard = some (g, want) := by exact rfl) (ht : (ops[g]?).bind (·.dst) = some t := by exact rfl) (hv : get s t = some (.bool b) := by exact rfl) (hc : c = want := by exact rfl) (hd : o.dst = some d := by exact rfl) (hn : Nat.blt d n.sz = true := by exact rfl) : JL P K n ops (o :: rest) Q s A h := .gv hx hg ht hv (hb.trans hc) hd hn k
theorem QL.GV (hx : VF P K n s A h o v) (hb : b = c) (k : QL P K n ops rest R ((d, v) :: s) A h) (hg : o.guard = some (g, want) := by exact rfl) (ht : (ops[g]?).bind (·.dst) = some t := by exact rfl) (hv : get s t = some (.bool b) := by exact rfl) (hc : c = want := by exact rfl) (hd : o.dst = some d := by exact rfl) (hn : Nat.blt d n.sz = true := by exact rfl) : QL P K n ops (o :: rest) R s A h := .gv hx hg ht hv (hb.trans hc) hd hn k
theorem E.RO {σ : Type} {I : σ → Prop} {μ : σ → Nat} {S : σ → St} {M : σ → List Asrt} {F : σ → FH} {m : Nat} (y : σ) (hI : I y) (hμ : μ y < m) (hs : SubSt (S y) s := by ((repeat refine .cons rfl ?_); exact .nil)) (hm : M y = A := by exact rfl) (hf : FH.le (F y) h := by exact FH.le_refl _) :
  E K n (Exit.then (fun a w => ∃ y, I y ∧ μ y < m ∧ Holds n (S y) a ∧ SH K (F y) w (M y)) Q) .normal s A h := .round y hI hμ hs hm hf
theorem E.US {σ : Type} {G : σ → Prop} {S : σ → St} {M : σ → List Asrt} {F : σ → FH} {r : Code} (hj : ∀ z, G z → J P K n r Q (S z) (M z) (F z)) (z : σ) (hz : G z) (hs : SubSt (S z) s := by ((repeat refine .cons rfl ?_); exact .nil)) (hm : M z = A := by exact rfl) (hf : FH.le (F z) h := by exact FH.le_refl _) :
  E K n (Exit.then (fun a w => WC P n.ro r Q a w) Q) .normal s A h := .use hj z hz hs hm hf
theorem JL.GT (k : JL P K n ops rest Q ((d, undef) :: s) A h) (hg : o.guard = some (g, want) := by exact rfl) (ht : (ops[g]?).bind (·.dst) = some t := by exact rfl) (hv : get s t = some (.bool b) := by exact rfl) (hc : b = !want := by exact rfl) (hd : o.dst = some d := by exact rfl) (hn : Nat.blt d n.sz = true := by exact rfl) : JL P K n ops (o :: rest) Q s A h := .gS hg ht hv hc hd hn k
theorem QL.GT (k : QL P K n ops rest R ((d, undef) :: s) A h) (hg : o.guard = some (g, want) := by exact rfl) (ht : (ops[g]?).bind (·.dst) = some t := by exact rfl) (hv : get s t = some (.bool b) := by exact rfl) (hc : b = !want := by exact rfl) (hd : o.dst = some d := by exact rfl) (hn : Nat.blt d n.sz = true := by exact rfl) : QL P K n ops (o :: rest) R s A h := .gS hg ht hv hc hd hn k
theorem J.OA {id : Nat} {l : List Oper} {s0 : St} (C : List Nat) (val : St) (keys X : List Nat) (j : JA P K n l.toArray Q X [] C val s0 A h) (hm : P.follows .mixedOrders = true := by kernel_rfl) (hs : SubSt s0 s := by ((repeat refine .cons rfl ?_); exact .nil)) (hk : s0.map (·.1) = keys := by exact rfl) (hok : dstOk l.toArray keys X = true := by kernel_rfl) : J P K n (.region id l.toArray true) Q s A h := .openA C val hm hs keys X hk hok j
variable {dd : Option Tmp} {gd : Option (Nat × Bool)} {ty : TypeId} {pos : String} {af : Array Edge}
theorem mv0 {x : Operand} {v : Value} (hx : ev s x = some v := by exact rfl) : VF P K n s A h ⟨dd, .move x, ty, pos, af, gd⟩ v := mv hx
theorem ag0 {x : Operand} {v : Value} (hx : ev s x = some v := by exact rfl) : VF P K n s A h ⟨dd, .assign x, ty, pos, af, gd⟩ v := asg hx
theorem bi0 {op : BinOp} {x y : Operand} {t t' : TypeId} {ki : IntKind} {i j : Int} {v : Value} (hx : ev s x = some (.int ki i) := by exact rfl) (hy : ev s y = some (.int ki j) := by exact rfl) (hv : ibin op ki i j = some v := by exact rfl) : VF P K n s A h ⟨dd, .binOp op t x y t', ty, pos, af, gd⟩ v := bi hx hy hv
theorem lB (off k : Nat) {x : Operand} {t : TypeId} {p : Addr} {cs : List Value} {v : Value} (ht : TOne P t) (hk : A[k]? = some (Box p cs) := by exact rfl) (hv : cs[off]? = some v := by exact rfl) (hx : ev s x = some (.pointer (some (p.add off))) := by exact rfl) : VF P K n s A h ⟨dd, .load t x, ty, pos, af, gd⟩ v := ld1 hx ht (cellB hk hv)
end
section
variable {P : Program} {K : Kp} {m_ : Nat} {ro_ : Option (Option Nat)} {dl_ : List Nat} {ops : Array Oper} {Q : Exit → Act → World → Prop} {A : List Asrt} {h : FH} {val s0 : St} {X D C : List Nat} {i : Nat} {o : Oper} {u : Value}
theorem QA.w (si : St) (hh : (ops[i]?, o.guard, o.dst.map (fun d => Nat.blt d m_), get val i, dl ops val o) = (some o, none, some true, some u, si)) (hx : ∀ {sL : St}, VF P K ⟨m_, ro_, dl_⟩ (si ++ (s0 ++ sL)) A h o u) (r : QA P K ⟨m_, ro_, dl_⟩ ops val s0 A h C) : QA P K ⟨m_, ro_, dl_⟩ ops val s0 A h (i :: C) := by
 simp only [Prod.mk.injEq] at hh
 obtain ⟨h1, h2, h3, h4, h5⟩ := hh
 cases hd : o.dst with
 | none => rw [hd] at h3; cases h3
 | some d => rw [hd] at h3; exact .v si h1 h2 hd (Option.some.inj h3) h4 h5 (fun _ => hx) r
theorem JA.ST (H : List Nat) (m : Nat) (hq : QA P K ⟨m_, ro_, dl_⟩ ops val s0 A h C) (hh : HA P K ⟨m_, ro_, dl_⟩ ops Q X D C val s0 A h H) (hX : (C.all fun j => !(X.contains j)) = true := by exact rfl) (hen : enOk ops D C H = true := by kernel_rfl) (hm : (decide (m < ops.size) && !(D.contains m) && !(C.contains m)) = true := by kernel_rfl) : JA P K ⟨m_, ro_, dl_⟩ ops Q X D C val s0 A h := .step H m hX hen hm hq hh
theorem JA.LA (so : St) (hq : QA P K ⟨m_, ro_, dl_⟩ ops val s0 A h C) (he : E K ⟨m_, ro_, dl_⟩ Q .normal (so ++ s0) A h) (hX : (C.all fun j => !(X.contains j)) = true := by exact rfl) (hen : enOk ops D C [] = true := by kernel_rfl) (ho : outl ops val = so := by exact rfl) : JA P K ⟨m_, ro_, dl_⟩ ops Q X D C val s0 A h := .last so hX hen hq ho he
end
end Go.Proofs.YtimillpakjgnoaaGreat.Pl

namespace Go.Proofs.YtimillpakjgnoaaGreat.Pl
open Go Go.RowKit Go.MapKept
section
variable {β : Type}
def getA : List (Int × β) → Int → Option β
 | [], _ => none
 | p :: r, k => if p.1 = k then some p.2 else getA r k
def setA : List (Int × β) → Int → β → List (Int × β)
 | [], k, v => [(k, v)]
 | p :: r, k, v => if p.1 = k then (k, v) :: r else p :: setA r k v
def delA : List (Int × β) → Int → List (Int × β)
 | [], _ => []
 | p :: r, k => if p.1 = k then r else p :: delA r k
theorem getA_setA (l : List (Int × β)) (k : Int) (v : β) (x : Int) : getA (setA l k v) x = if k = x then some v else getA l x := by
 induction l with
 | nil => rfl
 | cons p r ih =>
  simp only [setA]
  by_cases h : p.1 = k
  ·rw [if_pos h]
   simp only [getA]
   by_cases e : k = x
   ·rw [if_pos e, if_pos e]
   ·rw [if_neg e, if_neg e, if_neg (fun q => e (h ▸ q))]
  ·rw [if_neg h]
   simp only [getA, ih]
   by_cases e : k = x
   ·rw [if_pos e, if_neg (fun q => h (q.trans e.symm)), if_pos e]
   ·rw [if_neg e, if_neg e]
theorem getA_none {l : List (Int × β)} {k : Int} : getA l k = none ↔ k ∉ l.map (·.1) := by
 induction l with
 | nil => simp [getA]
 | cons p r ih =>
  simp only [getA, List.map_cons, List.mem_cons, not_or]
  by_cases h : p.1 = k
  ·rw [if_pos h]
   exact ⟨fun q => (by cases q), fun q => absurd h.symm q.1⟩
  ·rw [if_neg h, ih]
   exact ⟨fun q => ⟨fun e => h e.symm, q⟩, fun q => q.2⟩
theorem getA_some {l : List (Int × β)} {k : Int} : (getA l k).isSome = true ↔ k ∈ l.map (·.1) := by
 cases h : getA l k with
 | none => exact ⟨fun q => (by cases q), fun q => absurd q (getA_none.1 h)⟩
 | some v =>
  refine ⟨fun _ => Classical.byContradiction fun q => ?_, fun _ => rfl⟩
  rw [getA_none.2 q] at h
  cases h
theorem setA_new {l : List (Int × β)} {k : Int} {v : β} (h : getA l k = none) : setA l k v = l ++ [(k, v)] := by
 induction l with
 | nil => rfl
 | cons p r ih =>
  simp only [getA] at h
  split at h
  ·cases h
  ·rename_i hp
   simp only [setA, if_neg hp, ih h, List.cons_append]
theorem setA_keys {l : List (Int × β)} {k : Int} {v : β} (h : getA l k ≠ none) : (setA l k v).map (·.1) = l.map (·.1) := by
 induction l with
 | nil => exact absurd rfl h
 | cons p r ih =>
  simp only [getA] at h
  simp only [setA]
  by_cases hp : p.1 = k
  ·rw [if_pos hp]; simp [hp]
  ·rw [if_neg hp] at h ⊢
   simp [ih h]
end
inductive EntL {β : Type} (kk : IntKind) (enc : β → Value) : List MapEntry → List (Int × β) → Prop
 | nil : EntL kk enc [] []
 | cons {k : Int} {v : β} {born : Nat} {es : List MapEntry} {l : List (Int × β)} : EntL kk enc es l → getA l k = none → EntL kk enc (⟨.int kk k, enc v, born⟩ :: es) ((k, v) :: l)
section
variable {β : Type} {kk : IntKind} {enc : β → Value}
theorem EntL.len {es : List MapEntry} {l : List (Int × β)} (h : EntL kk enc es l) : es.length = l.length := by
 induction h with
 | nil => rfl
 | cons _ _ ih => simp [ih]
theorem EntL.find {es : List MapEntry} {l : List (Int × β)} (h : EntL kk enc es l) (k : Int) : ∀ i : Nat,
  (Instr.findNow (.int kk) (.int kk k) es i = some none ∧ getA l k = none ∧ delA l k = l ∧ ∀ (v : β) (born : Nat), EntL kk enc (es ++ [⟨.int kk k, enc v, born⟩]) (setA l k v)) ∨
  ∃ (j born : Nat) (v0 : β), Instr.findNow (.int kk) (.int kk k) es i = some (some (i + j, enc v0)) ∧ getA l k = some v0 ∧ es[j]? = some ⟨.int kk k, enc v0, born⟩ ∧ (∀ v : β, EntL kk enc (es.modify j fun e => { e with key := .int kk k, val := enc v }) (setA l k v)) ∧ EntL kk enc (es.eraseIdx j) (delA l k) ∧ ∀ x, getA l x = none → getA (delA l k) x = none := by
 induction h with
 | nil => exact fun i => .inl ⟨rfl, rfl, rfl, fun v born => .cons .nil rfl⟩
 | @cons k1 v1 b1 es l hm hn ih =>
  intro i
  by_cases e : k1 = k
  ·subst e
   refine .inr ⟨0, b1, v1, ?_, by simp [getA], rfl, fun v => ?_, ?_, fun x hx => ?_⟩
   ·simp [Instr.findNow, Instr.sameNow]
   ·simp only [setA, if_true]; exact .cons hm hn
   ·simp only [delA, if_true]; exact hm
   ·simp only [getA] at hx
    simp only [delA, if_true]
    split at hx
    ·cases hx
    ·exact hx
  ·have e' : ¬ k = k1 := fun q => e q.symm
   have hb : (k == k1) = false := by simpa using e'
   rcases ih (i + 1) with ⟨h1, h2, h3, h4⟩ | ⟨j, born, v0, h1, h2, h3, h4, h5, h6⟩
   ·refine .inl ⟨by simp only [Instr.findNow, Instr.sameNow, if_true, hb, h1], by simp [getA, e, h2], by simp [delA, e, h3], fun v born => ?_⟩
    simp only [setA, e, if_false]
    exact .cons (h4 v born) (by rw [getA_setA, if_neg e']; exact hn)
   ·refine .inr ⟨j + 1, born, v0, ?_, by simp [getA, e, h2], by simpa using h3, fun v => ?_, ?_, fun x hx => ?_⟩
    ·simp only [Instr.findNow, Instr.sameNow, if_true, hb, h1, Nat.add_comm j 1, Nat.add_assoc]
    ·simp only [setA, e, if_false]
     exact .cons (h4 v) (by rw [getA_setA, if_neg e']; exact hn)
    ·simp only [delA, e, if_false]
     exact .cons h5 (h6 k1 hn)
    ·simp only [getA] at hx
     simp only [delA, e, if_false, getA]
     split at hx
     ·cases hx
     ·rename_i hk
      rw [if_neg hk]; exact h6 x hx
end
def OwnMapI {β : Type} (b : Nat) (kk : IntKind) (enc : β → Value) (l : List (Int × β)) : Asrt := fun g => ∃ es clock, g = FH.one b (.map es clock) ∧ EntL kk enc es.toList l
def TMapI (P : Program) (t : TypeId) (kk : IntKind) (z : Value) : Prop := ∃ k e, P.underlying t = some (.map k e) ∧ P.underlying k = some (.int kk) ∧ ∀ w, (zeroValue e).run P w = .ok z w
theorem tMapI_mk {P : Program} {t k e : TypeId} {kk : IntKind} {z : Value} (h1 : P.underlying t = some (.map k e)) (h2 : P.underlying k = some (.int kk)) (h3 : ((P.info? e).bind (·.zero)) = some z) : TMapI P t kk z := by
 obtain ⟨i, hi, hz⟩ := Option.bind_eq_some_iff.1 h3
 exact ⟨k, e, h1, h2, fun w => by simp [zeroValue, typeInfo, hi, hz]⟩
section
variable {P : Program} {K : Kp} {n : Fr} {ops : Array Oper} {Q : Exit → Act → World → Prop} {s : St} {A : List Asrt} {h : FH} {rest : List Oper} {d : Nat} {dd : Option Tmp} {gd : Option (Nat × Bool)} {ty : TypeId} {pos : String} {af : Array Edge}
variable {β : Type} {enc : β → Value} {kk : IntKind} {m : List (Int × β)}
theorem mmI {t : TypeId} (kk : IntKind) (enc : β → Value) (hn : Nat.blt d n.sz = true)
  (k : ∀ b, JL P K n ops rest Q ((d, .map (some b)) :: s) (OwnMapI b kk enc [] :: A) h) : JL P K n ops (⟨some d, .makeMap t none, ty, pos, af, none⟩ :: rest) Q s A h :=
 JL.valW rfl rfl hn (fun ac w H S => by
  refine ⟨_, w.alloc (.map #[] 0), _, h, ?_, S.new (X := OwnMapI w.heap.size kk enc []) ⟨#[], 0, rfl, .nil⟩, k _⟩
  have e : (Instr.makeMap t none).run P w = .ok (.map (some w.heap.size)) (w.alloc (.map #[] 0)) := rfl
  simp only [execOp, Option.map_none, Sem.run_bind, e]; rfl)
theorem lookupI_run {t : TypeId} {b : Nat} {k : Int} {z : β} {w : World} {es : Array MapEntry} {clock : Nat} (ht : TMapI P t kk (enc z)) (hb : w.heap[b]? = some (.map es clock)) (hm : EntL kk enc es.toList m) (ok : Bool) :
  (Instr.lookup t (.map (some b)) (.int kk k) ok).run P w = .ok (if ok then .tuple #[enc ((getA m k).getD z), .bool (getA m k).isSome] else enc ((getA m k).getD z)) w := by
 obtain ⟨kt, et, h1, h2, h3⟩ := ht
 have hkey : IsKey (.int kk) (.int kk k) := rfl
 unfold Instr.lookup
 rcases hm.find k 0 with ⟨f1, f2, _⟩ | ⟨j, born, v0, f1, f2, _⟩
 ·simp only [Sem.run_bind, run_underlying h1, Result.andThen_ok, MapKept.run_getObj_map hb, Sem.run_pure, MapKept.run_checkKey h2 hkey _ 9999, MapKept.run_findKey h2 f1, h3 w, f2]
  cases ok <;> rfl
 ·simp only [Sem.run_bind, run_underlying h1, Result.andThen_ok, MapKept.run_getObj_map hb, Sem.run_pure, MapKept.run_checkKey h2 hkey _ 9999, MapKept.run_findKey h2 f1, f2]
  cases ok <;> rfl
theorem lkI {t : TypeId} {x y : Operand} {b q : Nat} {k : Int} (z : β) (ht : TMapI P t kk (enc z)) (hx : ev s x = some (.map (some b))) (hy : ev s y = some (.int kk k)) (hk : A[q]? = some (OwnMapI b kk enc m)) :
  VF P K n s A h ⟨dd, .lookup t x y false, ty, pos, af, gd⟩ (enc ((getA m k).getD z)) := fun ac w H S => by
 obtain ⟨g, ⟨es, clock, rfl, hm⟩, own, _⟩ := S.upd hk
 simp only [execOp, H.ev hx, H.ev hy, Sem.run_bind, lookupI_run (k := k) ht (one_sub own.sub) hm false]; rfl
theorem lkI2 {t : TypeId} {x y : Operand} {b q : Nat} {k : Int} (z : β) (ht : TMapI P t kk (enc z)) (hx : ev s x = some (.map (some b))) (hy : ev s y = some (.int kk k)) (hk : A[q]? = some (OwnMapI b kk enc m)) :
  VF P K n s A h ⟨dd, .lookup t x y true, ty, pos, af, gd⟩ (.tuple #[enc ((getA m k).getD z), .bool (getA m k).isSome]) := fun ac w H S => by
 obtain ⟨g, ⟨es, clock, rfl, hm⟩, own, _⟩ := S.upd hk
 simp only [execOp, H.ev hx, H.ev hy, Sem.run_bind, lookupI_run (k := k) ht (one_sub own.sub) hm true]; rfl
theorem lnI {t : TypeId} {x : Operand} {b q : Nat} {z : Value} (ht : TMapI P t kk z) (hx : ev s x = some (.map (some b))) (hk : A[q]? = some (OwnMapI b kk enc m)) : VF P K n s A h ⟨dd, .call { callee := .builtin .len, args := #[x], argTypes := #[t] }, ty, pos, af, gd⟩ (.int .i64 (m.length : Int)) := fun ac w H S => by
 obtain ⟨g, ⟨es, clock, rfl, hm⟩, own, _⟩ := S.upd hk
 have hb := one_sub own.sub
 obtain ⟨kt, et, h1, _⟩ := ht
 have hl : es.size = m.length := by have := hm.len; simpa using this
 simp [execOp, resolve, invoke, builtin, H.ev hx, Builtin.len_, run_underlying h1, MapKept.run_getObj_map hb, goInt, hl]
theorem mapUpdateI_run {t : TypeId} {b : Nat} {k : Int} {z : Value} {v : β} {es : Array MapEntry} {clock : Nat} {w : World} (ht : TMapI P t kk z) (hb : w.heap[b]? = some (.map es clock)) (hm : EntL kk enc es.toList m) :
  ∃ es' clock', (Instr.mapUpdate t (.map (some b)) (.int kk k) (enc v)).run P w = .ok () (w.putObj b (.map es' clock')) ∧ EntL kk enc es'.toList (setA m k v) := by
 obtain ⟨kt, et, h1, h2, _⟩ := ht
 have hkey : IsKey (.int kk) (.int kk k) := rfl
 rcases hm.find k 0 with ⟨f1, _, _, f3⟩ | ⟨j, born, v0, f1, _, f2, f3, _⟩
 ·refine ⟨es.push ⟨.int kk k, enc v, clock⟩, clock + 1, ?_, by simpa using f3 v clock⟩
  unfold Instr.mapUpdate
  simp [run_underlying h1, MapKept.run_getObj_map hb, MapKept.run_checkKey h2 hkey _ 9999, MapKept.run_findKey h2 f1, Result.andThen, MapKept.run_setObj_map _ hb, World.putObj]
 ·refine ⟨es.modify j fun e => { e with key := .int kk k, val := enc v }, clock, ?_, by simpa using f3 v⟩
  have g2 : es[j]? = some ⟨.int kk k, enc v0, born⟩ := by simpa using f2
  have st : (Instr.keyThatStays (.int kk k) (.int kk k)).run P w = .ok (.int kk k) w := by
   simp [Instr.keyThatStays, Instr.sameBits]
  rw [Nat.zero_add] at f1
  unfold Instr.mapUpdate
  simp [run_underlying h1, MapKept.run_getObj_map hb, MapKept.run_checkKey h2 hkey _ 9999, MapKept.run_findKey h2 f1, Result.andThen, g2, st, MapKept.run_setObj_map _ hb, World.putObj]
theorem SH.wrMI {w : World} {q b : Nat} {m' : List (Int × β)} {es' : Array MapEntry} {clock' : Nat} (S : SH K h w A) (hk : A[q]? = some (OwnMapI b kk enc m)) (hm' : EntL kk enc es'.toList m') : SH K h (w.putObj b (.map es' clock')) (A.set q (OwnMapI b kk enc m')) := by
 obtain ⟨g, ⟨es, clock, rfl, hm⟩, own, up⟩ := S.upd hk
 have hb := one_sub own.sub
 have hlt : b < w.heap.size := (Array.getElem?_eq_some_iff.1 hb).1
 refine up (OwnMapI b kk enc m') (FH.one b (.map es' clock')) _ ⟨es', clock', rfl, hm'⟩ (Sub.one (by rw [putObj_heap, if_pos ⟨rfl, hlt⟩])) (fun b' hb' => .inl ?_) (fun b' _ hn => ?_) rfl rfl rfl (by rw [putObj_size]; exact Nat.le_refl _) (Nat.le_refl _)
 ·rw [FH.one_ne hb', FH.one_self]; simp
 ·rw [putObj_heap, if_neg fun q => ?_]
  rw [← q.1, FH.one_self] at hn; cases hn
theorem mapWI {t : TypeId} {b q : Nat} {k : Int} {z : Value} {v : β} {w : World} (ht : TMapI P t kk z) (hk : A[q]? = some (OwnMapI b kk enc m)) (S : SH K h w A) :
  ∃ w', (Instr.mapUpdate t (.map (some b)) (.int kk k) (enc v)).run P w = .ok () w' ∧ SH K h w' (A.set q (OwnMapI b kk enc (setA m k v))) := by
 obtain ⟨g, ⟨es, clock, rfl, hm⟩, own, _⟩ := S.upd hk
 obtain ⟨es', clock', hr, hm'⟩ := mapUpdateI_run (k := k) (v := v) ht (one_sub own.sub) hm
 exact ⟨_, hr, S.wrMI hk hm'⟩
theorem muI {t : TypeId} {x y u : Operand} {b q : Nat} {k : Int} {z : Value} (v : β) (ht : TMapI P t kk z) (hx : ev s x = some (.map (some b))) (hy : ev s y = some (.int kk k)) (hz : ev s u = some (enc v)) (hk : A[q]? = some (OwnMapI b kk enc m))
  (kk' : JL P K n ops rest Q s (A.set q (OwnMapI b kk enc (setA m k v))) h) : JL P K n ops (⟨none, .mapUpdate t x y u, ty, pos, af, none⟩ :: rest) Q s A h :=
 JL.skipW rfl rfl (fun ac w H S => by
  obtain ⟨w', hr, S'⟩ := mapWI (k := k) (v := v) ht hk S
  exact ⟨w', _, h, by simp only [execOp, H.ev hx, H.ev hy, H.ev hz, Sem.run_bind, hr]; rfl, S', kk'⟩)
theorem miI {t : TypeId} {x y u : Operand} {b q : Nat} {k : Int} {z : Value} (v : β) (ht : TMapI P t kk z) (hx : ev s x = some (.map (some b))) (hy : ev s y = some (.int kk k)) (hz : ev s u = some (enc v)) (hk : A[q]? = some (OwnMapI b kk enc m))
  (kk' : JL P K n ops rest Q s (A.set q (OwnMapI b kk enc (setA m k v))) h) : JL P K n ops (⟨none, .insert t x y u, ty, pos, af, none⟩ :: rest) Q s A h :=
 JL.skipW rfl rfl (fun ac w H S => by
  obtain ⟨w', hr, S'⟩ := mapWI (k := k) (v := v) ht hk S
  exact ⟨w', _, h, by simp only [execOp, H.ev hx, H.ev hy, H.ev hz, Sem.run_bind, hr]; rfl, S', kk'⟩)
theorem dlI {t : TypeId} {x y : Operand} {b q : Nat} {k : Int} {z : Value} (ht : TMapI P t kk z) (hx : ev s x = some (.map (some b))) (hy : ev s y = some (.int kk k)) (hk : A[q]? = some (OwnMapI b kk enc m)) {ts : Array TypeId} (hts : ts[0]? = some t)
  (kk' : JL P K n ops rest Q s (A.set q (OwnMapI b kk enc (delA m k))) h) : JL P K n ops (⟨none, .call { callee := .builtin .delete, args := #[x, y], argTypes := ts }, ty, pos, af, none⟩ :: rest) Q s A h :=
 JL.valN rfl rfl (fun ac w H S => by
  obtain ⟨g, ⟨es, clock, rfl, hm⟩, own, _⟩ := S.upd hk
  have hb := one_sub own.sub
  obtain ⟨kt, et, h1, h2, _⟩ := ht
  have hkey : IsKey (.int kk) (.int kk k) := rfl
  have key : ∃ es', (Builtin.delete_ ts ty #[.map (some b), .int kk k]).run P w = .ok (.tuple #[]) (w.putObj b (.map es' clock)) ∧ EntL kk enc es'.toList (delA m k) := by
   unfold Builtin.delete_
   rcases hm.find k 0 with ⟨f1, _, f2, _⟩ | ⟨j, born, v0, f1, _, f2, _, f5, _⟩
   ·refine ⟨es, ?_, by rw [f2]; exact hm⟩
    simp [hts, run_underlying h1, MapKept.run_getObj_map hb, MapKept.run_checkKey h2 hkey _ 9999, MapKept.run_findKey h2 f1, Result.andThen, MapKept.run_setObj_map _ hb, World.putObj]
   ·refine ⟨es.eraseIdxIfInBounds j, ?_, ?_⟩
    ·simp [hts, run_underlying h1, MapKept.run_getObj_map hb, MapKept.run_checkKey h2 hkey _ 9999, MapKept.run_findKey h2 f1, Result.andThen, MapKept.run_setObj_map _ hb, World.putObj]
    ·have hj : j < es.size := by
      have := (List.getElem?_eq_some_iff.1 f2).1
      simpa using this
     have e9 : (es.eraseIdxIfInBounds j).toList = es.toList.eraseIdx j := by
      unfold Array.eraseIdxIfInBounds
      rw [dif_pos hj, Array.toList_eraseIdx]
     rw [e9]; exact f5
  obtain ⟨es', hr, hm'⟩ := key
  refine ⟨.tuple #[], w.putObj b (.map es' clock), _, h, ?_, S.wrMI hk hm', kk'⟩
  simp only [execOp, resolve, invoke, builtin, Sem.run_bind, Sem.run_pure, Result.andThen_ok, List.map_toArray, List.map_cons, List.map_nil, H.ev hx, H.ev hy, hr])
def TCon (P : Program) (t : TypeId) : Prop := ∃ d, P.underlying t = some d ∧ (match d with | .interface _ => true | _ => false) = false
theorem mkI {t : TypeId} {x : Operand} {v : Value} (ht : TCon P t) (hx : ev s x = some v) : VF P K n s A h ⟨dd, .makeInterface t x, ty, pos, af, gd⟩ (.iface t v) := fun ac w H _ => by
 obtain ⟨u, hu, hc⟩ := ht
 simp only [execOp, H.ev hx, Sem.run_bind, Instr.makeInterface, run_underlying hu, Result.andThen_ok]
 cases u <;> first | rfl | (simp at hc)
theorem tas {t st : TypeId} {x : Operand} {v : Value} (ht : TCon P t) (hx : ev s x = some (.iface t v)) : VF P K n s A h ⟨dd, .typeAssert x st t false, ty, pos, af, gd⟩ v := fun ac w H _ => by
 obtain ⟨u, hu, hc⟩ := ht
 simp only [execOp, H.ev hx, Sem.run_bind, Instr.typeAssert, run_underlying hu, Result.andThen_ok]
 cases u <;> first | (simp; done) | (simp at hc)
def TMeth (P : Program) (t : TypeId) (name : String) (f : FuncId) : Prop := ∀ v w, (method (P.types.size + Made.depth) t v name).run P w = .ok (f, v) w
theorem tMeth_mk {t e : TypeId} {name : String} {f : FuncId} (hu : P.underlying t = some (.pointer e)) (hm : ((P.info? t).bind fun i => (i.methods.find? (·.name == name)).map fun m => (m.path.isEmpty, m.func)) = some (true, some (f, true))) : TMeth P t name f := fun v w => by
 obtain ⟨i, hi, h2⟩ := Option.bind_eq_some_iff.1 hm
 obtain ⟨m, hm, h3⟩ := Option.map_eq_some_iff.1 h2
 simp only [Prod.mk.injEq] at h3
 obtain ⟨h4, h5⟩ := h3
 have hp : m.path.toList = [] := by simpa using h4
 rw [show P.types.size + Made.depth = (P.types.size + (Made.depth - 1)) + 1 from rfl]
 simp only [method, Sem.run_bind, typeInfo, run_program, Result.andThen_ok, hi, Sem.run_pure, hm, hp, follow, h5, receiverAt, run_underlying hu, Place.get]
theorem inv_exec {o : Oper} {recv : Operand} {name : String} {xs : Array Operand} {ts : Array TypeId} {t : TypeId} {v : Value} {vs : List Value} {f : FuncId} {a : Act} {w : World} (H : Holds n s a) (hm : TMeth P t name f) (hf : ∀ args w, (callFunc f args).run P w = .ok (.enter f args) w)
  (hx : ev s recv = some (.iface t v)) (hv : evs s xs.toList = some vs) (ho : o.op = .call { callee := .invoke recv name, args := xs, argTypes := ts }) : (execOp a.eval o).run P w = .ok (.enter f (v :: vs).toArray) w := by
 have hxs : xs.map a.eval = vs.toArray := by rw [← Array.toArray_toList (xs := xs), List.map_toArray, H.evs hv]
 have e1 : (#[Value.iface t v] ++ vs.toArray)[0]? = some (.iface t v) := by simp
 have e2 : (#[Value.iface t v] ++ vs.toArray).extract 1 (#[Value.iface t v] ++ vs.toArray).size = vs.toArray := by
  apply Array.toList_inj.1
  simp
 have e3 : #[v] ++ vs.toArray = (v :: vs).toArray := by simp
 simp only [execOp, ho, resolve, H.ev hx, hxs, Sem.run_bind, Sem.run_pure, Result.andThen_ok, invoke, e1, callMethod, run_program, hm v w, e2, e3, hf]
def TMethV (P : Program) (t : TypeId) (name : String) (f : FuncId) : Prop := ∀ p v w, w.cell? p = some v → (method (P.types.size + Made.depth) t (.pointer (some p)) name).run P w = .ok (f, v) w
theorem tMethV_mk {t e : TypeId} {name : String} {f : FuncId} (hu : P.underlying t = some (.pointer e)) (ho : TOne P e) (hm : ((P.info? t).bind fun i => (i.methods.find? (·.name == name)).map fun m => (m.path.isEmpty, m.func)) = some (true, some (f, false))) : TMethV P t name f := fun p v w hc => by
 obtain ⟨i, hi, h2⟩ := Option.bind_eq_some_iff.1 hm
 obtain ⟨m, hm, h3⟩ := Option.map_eq_some_iff.1 h2
 simp only [Prod.mk.injEq] at h3
 obtain ⟨h4, h5⟩ := h3
 have hp : m.path.toList = [] := by simpa using h4
 rw [show P.types.size + Made.depth = (P.types.size + (Made.depth - 1)) + 1 from rfl]
 have e9 : ∀ a b : String, (Builtin.ssaWrapNilChk_ #[t] t #[.pointer (some p), strVal a, strVal b]).run P w = .ok (.pointer (some p)) w := fun _ _ => rfl
 simp only [method, Sem.run_bind, typeInfo, run_program, Result.andThen_ok, hi, Sem.run_pure, hm, hp, follow, h5, receiverAt, run_underlying hu, Place.get, h4, if_true, e9, asAddr, loadVar, (ho w).1]
 simp [hc]
theorem invV_exec {o : Oper} {recv : Operand} {name : String} {xs : Array Operand} {ts : Array TypeId} {t : TypeId} {p : Addr} {v : Value} {vs : List Value} {f : FuncId} {a : Act} {w : World} (H : Holds n s a) (hm : TMethV P t name f) (hf : ∀ args w, (callFunc f args).run P w = .ok (.enter f args) w)
  (hx : ev s recv = some (.iface t (.pointer (some p)))) (hc : w.cell? p = some v) (hv : evs s xs.toList = some vs) (ho : o.op = .call { callee := .invoke recv name, args := xs, argTypes := ts }) : (execOp a.eval o).run P w = .ok (.enter f (v :: vs).toArray) w := by
 have hxs : xs.map a.eval = vs.toArray := by rw [← Array.toArray_toList (xs := xs), List.map_toArray, H.evs hv]
 have e1 : (#[Value.iface t (.pointer (some p))] ++ vs.toArray)[0]? = some (.iface t (.pointer (some p))) := by simp
 have e2 : (#[Value.iface t (.pointer (some p))] ++ vs.toArray).extract 1 (#[Value.iface t (.pointer (some p))] ++ vs.toArray).size = vs.toArray := by
  apply Array.toList_inj.1
  simp
 have e3 : #[v] ++ vs.toArray = (v :: vs).toArray := by simp
 simp only [execOp, ho, resolve, H.ev hx, hxs, Sem.run_bind, Sem.run_pure, Result.andThen_ok, invoke, e1, callMethod, run_program, hm p v w hc, e2, e3, hf]
end
end Go.Proofs.YtimillpakjgnoaaGreat.Pl

namespace Go.Proofs.YtimillpakjgnoaaGreat.Pl
open Go Go.RowKit
def RC (P : Program) (ro : Option (Option Nat)) (c : Code) (Q : Exit → Act → World → Prop) : Nat → Act → World → Prop
 | 0, _, _ => False
 | m + 1, a, w => WC P ro c (Exit.then (RC P ro c Q m) Q) a w
theorem RC.none {P : Program} {c : Code} {Q : Exit → Act → World → Prop} : ∀ m, RC P none c Q m = Code.rounds P c Q m
 | 0 => rfl
 | m + 1 => by
  funext a w
  show c.wp P (Exit.then (RC P Option.none c Q m) Q) a w = _
  rw [RC.none m]; rfl
theorem RC.some {P : Program} {l : Option Nat} {c : Code} {Q : Exit → Act → World → Prop} : ∀ m, RC P (some l) c Q m = Code.roundsIn (FR l) 0 P c Q m
 | 0 => rfl
 | m + 1 => by
  funext a w
  show c.wpIn (FR l) 0 P (Exit.then (RC P (Option.some l) c Q m) Q) a w = _
  rw [RC.some m]; rfl
section
variable {P : Program} {K : Kp} {n : Fr} {ops : Array Oper} {Q : Exit → Act → World → Prop} {s : St} {A : List Asrt} {h : FH} {rest : List Oper} {d : Nat} {dd : Option Tmp} {gd : Option (Nat × Bool)} {ty : TypeId} {pos : String} {af : Array Edge}
theorem J.rounds {c : Code} (m : Nat) (j : J P K n c (Exit.then (RC P n.ro c Q m) Q) s A h) : J P K n (.loop c) Q s A h := by
 obtain ⟨mm, ro, dl⟩ := n
 cases ro with
 | none => exact fun a w H S => wp_loop_rounds (m + 1) (by have := j a w H S; rw [show (⟨mm, none, dl⟩ : Fr).ro = none from rfl, RC.none m] at this; exact this)
 | some l => exact fun a w H S => wpIn_loop_rounds (m + 1) (by have := j a w H S; rw [show (⟨mm, some l, dl⟩ : Fr).ro = some l from rfl, RC.some m] at this; exact this)
theorem E.more {c : Code} {m : Nat} (j : J P K n c (Exit.then (RC P n.ro c Q m) Q) s A h) : E K n (Exit.then (RC P n.ro c Q (m + 1)) Q) .normal s A h := j
def QI (P : Program) (ro : Option (Option Nat)) (ops : Array Oper) (rest : List Oper) (Q : Exit → Act → World → Prop) (a : Act) (d : Option Tmp) : Ending → World → Prop
 | .returned v, w => WL P ro ops Q rest (a.put d v) w
 | _, _ => False
theorem inl_ {f : FuncId} {fn : Func} {c : Code} {m : Nat} {o : Oper} {args : List Value} (hg : o.guard = none) (hf : P.funcs[f]? = some fn) (hb : fn.body = some c) (hn : fn.ntmps = m) (hle : Nat.ble args.length m = true)
  (hx : ∀ a w, Holds n s a → SH K h w A → (execOp a.eval o).run P w = .ok (.enter f args.toArray) w)
  (kk : ∀ a', Holds n s a' → J P K ⟨m, none, []⟩ c (bodyPost P fn (QI P n.ro ops rest Q a' o.dst)) (start 0 args) A h) : JL P K n ops (o :: rest) Q s A h := fun a w H S => by
 have hl : args.length ≤ m := by simpa using hle
 have hst : Holds ⟨m, none, []⟩ (start 0 args) { tmps := args.toArray ++ Array.replicate (fn.ntmps - args.toArray.size) undef, defers := [] } := by
  refine ⟨rfl, by simp [hn]; omega, fun t v e => ?_⟩
  obtain ⟨_, h2⟩ := get_start 0 args t v e
  simp only [Nat.sub_zero] at h2
  have hlt : t < args.length := (List.getElem?_eq_some_iff.1 h2).1
  rw [Array.getElem?_append_left (by simpa using hlt)]
  simpa using h2
 refine WL.enter hg (hx a w H S) ((calls_of_wp hf hb (kk a H _ w hst S)).mono fun e w' he => ?_)
 cases e with
 | returned v => exact ⟨v, rfl, he⟩
 | panicked ch => exact he.elim
 | outgrown => exact he.elim
theorem JL.inl {f : FuncId} {fn : Func} {c : Code} {m : Nat} {dst : Option Tmp} {x : Operand} {xs : Array Operand} {ts : Array TypeId} {first cap : Array Value} {vs : List Value} {args : List Value} (hf : P.funcs[f]? = some fn) (hb : fn.body = some c) (hn : fn.ntmps = m) (hc : ∀ args w, (callFunc f args).run P w = .ok (.enter f args) w)
  (hx : ev s x = some (.func (.func f) first cap)) (hv : evs s xs.toList = some vs) (ha : first.toList ++ vs ++ cap.toList = args) (hle : Nat.ble args.length m = true)
  (kk : ∀ a', Holds n s a' → J P K ⟨m, none, []⟩ c (bodyPost P fn (QI P n.ro ops rest Q a' dst)) (start 0 args) A h) : JL P K n ops (⟨dst, .call { callee := .value x, args := xs, argTypes := ts }, ty, pos, af, none⟩ :: rest) Q s A h :=
 inl_ (args := args) rfl hf hb hn hle (fun _ _ H _ => by rw [← ha]; exact call_exec H hc hx hv rfl) kk
theorem JL.inlI {f : FuncId} {fn : Func} {c : Code} {m : Nat} {dst : Option Tmp} {x : Operand} {name : String} {xs : Array Operand} {ts : Array TypeId} {t : TypeId} {v : Value} {vs : List Value} (hf : P.funcs[f]? = some fn) (hb : fn.body = some c) (hn : fn.ntmps = m) (hc : ∀ args w, (callFunc f args).run P w = .ok (.enter f args) w)
  (hm : TMeth P t name f) (hx : ev s x = some (.iface t v)) (hv : evs s xs.toList = some vs) (hle : Nat.ble (v :: vs).length m = true)
  (kk : ∀ a', Holds n s a' → J P K ⟨m, none, []⟩ c (bodyPost P fn (QI P n.ro ops rest Q a' dst)) (start 0 (v :: vs)) A h) : JL P K n ops (⟨dst, .call { callee := .invoke x name, args := xs, argTypes := ts }, ty, pos, af, none⟩ :: rest) Q s A h :=
 inl_ (args := v :: vs) rfl hf hb hn hle (fun _ _ H _ => inv_exec H hm hc hx hv rfl) kk
theorem JL.inlV {f : FuncId} {fn : Func} {c : Code} {m : Nat} {dst : Option Tmp} {x : Operand} {name : String} {xs : Array Operand} {ts : Array TypeId} {t : TypeId} {p : Addr} {v : Value} {vs : List Value} (hf : P.funcs[f]? = some fn) (hb : fn.body = some c) (hn : fn.ntmps = m) (hc : ∀ args w, (callFunc f args).run P w = .ok (.enter f args) w)
  (hm : TMethV P t name f) (hx : ev s x = some (.iface t (.pointer (some p)))) (hcell : ∀ w, SH K h w A → w.cell? p = some v) (hv : evs s xs.toList = some vs) (hle : Nat.ble (v :: vs).length m = true)
  (kk : ∀ a', Holds n s a' → J P K ⟨m, none, []⟩ c (bodyPost P fn (QI P n.ro ops rest Q a' dst)) (start 0 (v :: vs)) A h) : JL P K n ops (⟨dst, .call { callee := .invoke x name, args := xs, argTypes := ts }, ty, pos, af, none⟩ :: rest) Q s A h :=
 inl_ (args := v :: vs) rfl hf hb hn hle (fun _ w H S => invV_exec H hm hc hx (hcell w S) hv rfl) kk
theorem inlM_ {f : FuncId} {fn : Func} {c : Code} {m : Nat} {o : Oper} {args : List Value} (hg : o.guard = none) (hf : P.funcs[f]? = some fn) (hb : fn.body = some c) (hn : fn.ntmps = m) (hle : Nat.ble args.length m = true)
  (hx : ∀ a w, Holds n s a → SH K h w A → (execOp a.eval o).run P w = .ok (.enter f args.toArray) w)
  (kk : ∀ a', Holds n s a' → J P K ⟨m, none, []⟩ c (bodyPostM Fence.wide 0 P fn (QI P n.ro ops rest Q a' o.dst)) (start 0 args) A h) : JL P K n ops (o :: rest) Q s A h := fun a w H S => by
 have hl : args.length ≤ m := by simpa using hle
 have hst : Holds ⟨m, none, []⟩ (start 0 args) { tmps := args.toArray ++ Array.replicate (fn.ntmps - args.toArray.size) undef, defers := [] } := by
  refine ⟨rfl, by simp [hn]; omega, fun t v e => ?_⟩
  obtain ⟨_, h2⟩ := get_start 0 args t v e
  simp only [Nat.sub_zero] at h2
  have hlt : t < args.length := (List.getElem?_eq_some_iff.1 h2).1
  rw [Array.getElem?_append_left (by simpa using hlt)]
  simpa using h2
 refine WL.enter hg (hx a w H S) ((callsIn_wide.1 (callsIn_of_wp_marks (n := 0) hf hb trivial ((wpIn_wide (n := 0)).2 (kk a H _ w hst S)))).mono fun e w' he => ?_)
 cases e with
 | returned v => exact ⟨v, rfl, he⟩
 | panicked ch => exact he.elim
 | outgrown => exact he.elim
theorem JL.inlM {f : FuncId} {fn : Func} {c : Code} {m : Nat} {dst : Option Tmp} {x : Operand} {xs : Array Operand} {ts : Array TypeId} {first cap : Array Value} {vs : List Value} {args : List Value} (hf : P.funcs[f]? = some fn) (hb : fn.body = some c) (hn : fn.ntmps = m) (hc : ∀ args w, (callFunc f args).run P w = .ok (.enter f args) w)
  (hx : ev s x = some (.func (.func f) first cap)) (hv : evs s xs.toList = some vs) (ha : first.toList ++ vs ++ cap.toList = args) (hle : Nat.ble args.length m = true)
  (kk : ∀ a', Holds n s a' → J P K ⟨m, none, []⟩ c (bodyPostM Fence.wide 0 P fn (QI P n.ro ops rest Q a' dst)) (start 0 args) A h) : JL P K n ops (⟨dst, .call { callee := .value x, args := xs, argTypes := ts }, ty, pos, af, none⟩ :: rest) Q s A h :=
 inlM_ (args := args) rfl hf hb hn hle (fun _ _ H _ => by rw [← ha]; exact call_exec H hc hx hv rfl) kk
theorem inl_back {dst : Nat} {n0 : Fr} {s0 : St} {a' : Act} {v : Value} (H : Holds n0 s0 a') (hd : Nat.blt dst n0.sz = true) (j : JL P K n0 ops rest Q ((dst, v) :: s0) A h) : ∀ w, SH K h w A → QI P n0.ro ops rest Q a' (some dst) (.returned v) w := fun w S => j _ w (H.put v hd) S
theorem JL.shrink {l : List Oper} {k m m' c sz : Nat} {e : TypeId} {a : Option Addr} {cs cs' : List Value} (hk : A[k]? = some (OwnSl e sz a m c cs)) (hm : m' ≤ m) (hc : cs.take (m' * sz) = cs') (j : JL P K n ops l Q s (A.set k (OwnSl e sz a m' c cs')) h) : JL P K n ops l Q s A h := fun ac w H S => by
 subst hc
 exact j ac w H (S.weaken hk fun g hx => hx.take_ hm)
end
end Go.Proofs.YtimillpakjgnoaaGreat.Pl

namespace Go.Proofs.YtimillpakjgnoaaGreat.Pl
open Go Go.RowKit
def W32 := Int
instance : Inhabited W32 := inferInstanceAs (Inhabited Int)
instance : Flat W32 := ⟨1, fun x => [.int .u32 x], fun _ => rfl, fun x v hv => by simp at hv; subst hv; rfl⟩
theorem freezeSl {K : Kp} {h : FH} {w : World} {A : List Asrt} {k : Nat} {e : TypeId} {sz m c : Nat} {a : Option Addr} {cs : List Value} (S : SH K h w A) (hk : A[k]? = some (OwnSl e sz a m c cs)) : ∃ h', FH.le h h' ∧ SH K h' w (A.set k tru) ∧ RawSl h' a cs ∧ m ≤ c := by
 have hlen := look_len S hk
 obtain ⟨g, hx, hd, S'⟩ := S.freeze hk
 exact ⟨_, FH.le_join_left h g, S', hx.cells.mono (FH.le_join_right hd), hlen⟩
theorem rawE {cs ce : List Value} {i : Nat} (h : (cs.drop i).take ce.length = ce) : ∀ (j : Nat) (v : Value), ce[j]? = some v → cs[i + j]? = some v := fun j v e => by
 have hj : j < ce.length := (List.getElem?_eq_some_iff.1 e).1
 rw [← h, List.getElem?_take, if_pos hj, List.getElem?_drop] at e
 exact e
theorem oneAll {l : List Value} (h : l.all Value.oneCell' = true) : ∀ u ∈ l, u.oneCell' = true := List.all_eq_true.1 h
section
variable {P : Program} {K : Kp} {n : Fr} {ops : Array Oper} {Q : Exit → Act → World → Prop} {s : St} {A : List Asrt} {h : FH} {rest : List Oper} {d : Nat} {dd : Option Tmp} {gd : Option (Nat × Bool)} {ty : TypeId} {pos : String} {af : Array Edge}
end
end Go.Proofs.YtimillpakjgnoaaGreat.Pl

namespace Go.Proofs.YtimillpakjgnoaaGreat.Pl
open Go Go.RowKit
instance : Flat (Option Addr) := ⟨1, fun p => [.pointer p], fun _ => rfl, fun x v hv => by simp at hv; subst hv; rfl⟩
def Arn {α : Type} [Flat α] (m : Addr → Option α) : Asrt := fun g => ∀ p e, m p = some e → ∃ b t, p = ⟨b, 0, none⟩ ∧ g b = some (.cells (Flat.fl e).toArray t (0, 0))
def inA {α : Type} (m : Addr → Option α) (x : Option Addr) : Prop := ∃ p e, x = some p ∧ m p = some e
def arv {α : Type} [Inhabited α] (m : Addr → Option α) (x : Option Addr) : α := (x.bind m).getD default
def setP {α : Type} (m : Addr → Option α) (x : Option Addr) (e : α) : Addr → Option α := fun q => if x = some q then some e else m q
def pA (x : Option Addr) : Addr := x.getD default
theorem inA.eq {α : Type} {m : Addr → Option α} {x : Option Addr} (h : inA m x) : x = some (pA x) := by
 obtain ⟨p, e, rfl, _⟩ := h
 rfl
theorem inA.ev {α : Type} {m : Addr → Option α} {x : Option Addr} (h : inA m x) : some (Value.pointer x) = some (.pointer (some (pA x))) := congrArg (fun z => some (Value.pointer z)) h.eq
theorem inA.at_ {α : Type} [Inhabited α] {m : Addr → Option α} {x : Option Addr} (h : inA m x) : m (pA x) = some (arv m x) := by
 obtain ⟨p, e, rfl, he⟩ := h
 show m p = _
 simp [arv, he]
theorem inA.get {α : Type} [Inhabited α] {m : Addr → Option α} {x : Option Addr} (h : inA m x) : ∃ p, x = some p ∧ m p = some (arv m x) := by
 obtain ⟨p, e, rfl, he⟩ := h
 exact ⟨p, rfl, by simp [arv, he]⟩
section
variable {P : Program} {K : Kp} {n : Fr} {ops : Array Oper} {Q : Exit → Act → World → Prop} {s : St} {A : List Asrt} {h : FH} {rest : List Oper} {d : Nat} {dd : Option Tmp} {gd : Option (Nat × Bool)} {ty : TypeId} {pos : String} {af : Array Edge}
variable {α : Type} [Flat α]
theorem cellR {k : Nat} {m : Addr → Option α} {p : Addr} {e : α} {off : Nat} {v : Value} (hk : A[k]? = some (Arn m)) (hp : m p = some e) (hv : (Flat.fl e)[off]? = some v) : ∀ w, SH K h w A → w.cell? (p.add off) = some v := fun w S => by
 obtain ⟨g, hx, own, _⟩ := S.upd hk
 obtain ⟨b, t, rfl, hb⟩ := hx p e hp
 refine own.sub.cell ?_
 rw [add_lit]
 simp [FH.cell, hb, hv]
theorem stR {x y : Operand} {t : TypeId} {p : Addr} {off k m1 : Nat} {m : Addr → Option α} {e e' : α} {xx : Option Addr} {vs : List Value} {v : Value} (hx : ev s x = some (.pointer (some (p.add off)))) (hy : ev s y = some v) (hv : v.cells.toList = vs) (ht : ∀ w, (sizeOf t).run P w = .ok m1 w) (hm : vs.length = m1) (h1 : (vs.all Value.oneCell') = true)
  (hk : A[k]? = some (Arn m)) (hxx : xx = some p) (hp : m p = some e) (hoff : off + m1 ≤ (Flat.fl e).length) (hcs : wrL (Flat.fl e) off vs = Flat.fl e')
  (kk : JL P K n ops rest Q s (A.set k (Arn (setP m xx e'))) h) : JL P K n ops (⟨none, .store t x y, ty, pos, af, none⟩ :: rest) Q s A h :=
 JL.skipW rfl rfl (fun ac w H S => by
  obtain ⟨g, hg, own, up⟩ := S.upd hk
  obtain ⟨b, tt, rfl, hb⟩ := hg p e hp
  have hbk : w.heap[b]? = some (.cells (Flat.fl e).toArray tt (0, 0)) := own.sub b _ hb
  have hl : b < w.heap.size := (Array.getElem?_eq_some_iff.1 hbk).1
  have er := store_run (P := P) (ht w) hv hm (by simpa using h1) hbk (off := off) (by simp; omega)
  rw [add_lit] at hx
  have hnew : (wrL (Flat.fl e).toArray.toList off vs).toArray = (Flat.fl e').toArray := by rw [← hcs]
  rw [hnew] at er
  refine ⟨w.setRow b (Flat.fl e').toArray, _, h, by simp only [execOp, H.ev hx, H.ev hy, Sem.run_bind, er]; rfl, up (Arn (setP m xx e')) (fun b' => if b' = b then some (.cells (Flat.fl e').toArray tt (0, 0)) else g b') _ ?_ ?_ ?_ ?_ rfl rfl rfl (by simp) (Nat.le_refl _), kk⟩
  ·intro q f hq
   unfold setP at hq
   split at hq
   ·rename_i hxq
    obtain rfl := Option.some.inj hq
    obtain rfl := Option.some.inj (hxx.symm.trans hxq)
    exact ⟨b, tt, rfl, by simp⟩
   ·rename_i hxq
    obtain ⟨b2, t2, rfl, hb2⟩ := hg q f hq
    have hne : b2 ≠ b := fun q => hxq (by rw [hxx, q])
    exact ⟨b2, t2, rfl, by simp [hne, hb2]⟩
  ·intro b' o ho
   have ho2 : (if b' = b then some (Obj.cells (Flat.fl e').toArray tt (0, 0)) else g b') = some o := ho
   clear ho
   split at ho2
   ·rename_i hbb
    subst hbb
    rw [setRow_heap w b' _ _ tt _ hbk]; exact ho2
   ·rename_i hbb
    rw [setRow_other w b b' _ hbb]; exact own.sub b' o ho2
  ·intro b' hb'
   refine .inl ?_
   have hb' : (if b' = b then some (Obj.cells (Flat.fl e').toArray tt (0, 0)) else g b') ≠ none := hb'
   split at hb'
   ·rename_i hbb; rw [hbb, hb]; simp
   ·exact hb'
  ·intro b' _ hn
   refine setRow_other w b b' _ (fun hbb => ?_)
   rw [hbb, hb] at hn; cases hn)
theorem SH.toHead {w : World} {X : Asrt} {B : List Asrt} {k : Nat} (S : SH K h w (X :: B)) : SH K h w (B.set k X) := by
 have S1 := S.moveAt 0 (k + 1) rfl
 exact S1.drop
theorem SH.putR {w : World} {i k : Nat} {p : Addr} {cs : List Value} {m : Addr → Option α} {e : α} (S : SH K h w A) (hik : Nat.beq i k = false) (hi : A[i]? = some (Box p cs)) (hk : A[k]? = some (Arn m)) (hc : cs = Flat.fl e) : m p = Option.none ∧ SH K h w ((A.set i tru).set k (Arn (setP m (some p) e))) := by
 subst hc
 have nik : i ≠ k := fun q => by rw [q] at hik; simp at hik
 have S1 := S.joinS nik hi hk
 obtain ⟨g, ⟨g1, g2, rfl, hd, ⟨b, t, rfl, rfl⟩, h2⟩, own, up⟩ := S1.upd (k := 0) rfl
 have hnone : m ⟨b, 0, Option.none⟩ = Option.none := by
  cases e2 : m ⟨b, 0, Option.none⟩ with
  | none => rfl
  | some f =>
   obtain ⟨b2, t2, hq, hb2⟩ := h2 _ f e2
   have : b = b2 := by injection hq
   subst this
   rcases hd b with q | q
   ·rw [FH.one_self] at q; cases q
   ·rw [hb2] at q; cases q
 refine ⟨hnone, ?_⟩
 have S2 := up (Arn (setP m (some ⟨b, 0, Option.none⟩) e)) _ w (fun q f hq => ?_) own.sub (fun _ hb => .inl hb) (fun _ _ _ => rfl) rfl rfl rfl (Nat.le_refl _) (Nat.le_refl _)
 ·have S3 : SH K h w (Arn (setP m (some ⟨b, 0, Option.none⟩) e) :: (A.set i tru).set k tru) := S2
  have S4 := S3.toHead (k := k)
  rwa [List.set_set] at S4
 ·unfold setP at hq
  split at hq
  ·rename_i hxq
   obtain rfl := Option.some.inj hq
   obtain rfl := Option.some.inj hxq
   exact ⟨b, t, rfl, FH.le_join_left _ _ b _ (FH.one_self b _)⟩
  ·obtain ⟨b2, t2, rfl, hb2⟩ := h2 q f hq
   exact ⟨b2, t2, rfl, FH.le_join_right hd b2 _ hb2⟩
theorem JL.putR {l : List Oper} {i k : Nat} {p : Addr} {cs : List Value} {m : Addr → Option α} (e : α) (hik : Nat.beq i k = false) (hi : A[i]? = some (Box p cs)) (hk : A[k]? = some (Arn m)) (hc : cs = Flat.fl e) (kk : m p = none → JL P K n ops l Q s ((A.set i tru).set k (Arn (setP m (some p) e))) h) : JL P K n ops l Q s A h := fun a w H S => by
 obtain ⟨h1, h2⟩ := S.putR hik hi hk hc
 exact kk h1 a w H h2
theorem callZ {σ : Type} {d : Nat} {k : Nat} {X : Asrt} {X' : σ → Asrt} {V : σ → Value} {R : σ → Prop} {f : FuncId} {x : Operand} {xs : Array Operand} {ts : Array TypeId} {first cap : Array Value} {vs : List Value} (hk : A[k]? = some X)
  (hf : ∀ args w, (callFunc f args).run P w = .ok (.enter f args) w) (hx : ev s x = some (.func (.func f) first cap)) (hv : evs s xs.toList = some vs)
  (hcall : ∀ w g, X g → Sub g w → Disj h g → Sub h w → Calls P f (first.toList ++ vs ++ cap.toList).toArray w fun e' w' => ∃ z, R z ∧ e' = .returned (V z) ∧ SH (Kp.ex w h g) h w' [X' z]) (hn : Nat.blt d n.sz = true)
  (kk : ∀ z, R z → JL P K n ops rest Q ((d, V z) :: s) (A.set k (X' z)) h) : JL P K n ops (⟨some d, .call { callee := .value x, args := xs, argTypes := ts }, ty, pos, af, none⟩ :: rest) Q s A h :=
 JL.callW rfl rfl hn (fun _ _ H _ => call_exec H hf hx hv rfl) (fun w S => by
  obtain ⟨g, hX, own, up⟩ := S.upd hk
  exact (hcall w g hX own.sub own.disj S.sub).mono fun _ w' ⟨z, hz, he, sr⟩ => ⟨_, _, h, he, backX up sr, kk z hz⟩)
def QueX (α : Type) [Flat α] (e : TypeId) (kk : IntKind) (inv : List (Option Addr) → List (Int × Option Addr) → (Addr → Option α) → Prop) (p : Addr) : Asrt := fun g =>
 ∃ (hp : List (Option Addr)) (a : Option Addr) (c b : Nat) (f : List (Int × Option Addr)) (tm : Int) (ar : Addr → Option α), inv hp f ar ∧
  Star (Box p [.slice a hp.length c, .map (some b), .int .i64 tm]) (Star (OwnSl e 1 a hp.length c (flL hp)) (Star (OwnMapI b kk (fun x : Option Addr => .pointer x) f) (Arn ar))) g
variable {inv : List (Option Addr) → List (Int × Option Addr) → (Addr → Option α) → Prop} {e : TypeId} {kk : IntKind} {p : Addr}
theorem SH.openQ {w : World} (S : SH K h w [QueX α e kk inv p]) : ∃ (hp : List (Option Addr)) (f : List (Int × Option Addr)) (ar : Addr → Option α) (a : Option Addr) (c b : Nat) (tm : Int), inv hp f ar ∧
  SH K h w [Box p [.slice a hp.length c, .map (some b), .int .i64 tm], OwnSl e 1 a hp.length c (flL hp), OwnMapI b kk (fun x : Option Addr => .pointer x) f, Arn ar] := by
 obtain ⟨g, ⟨hp, a, c, b, f, tm, ar, hi, hg⟩, own, up⟩ := S.upd (k := 0) rfl
 have S0 := up (Star (Box p [.slice a hp.length c, .map (some b), .int .i64 tm]) (Star (OwnSl e 1 a hp.length c (flL hp)) (Star (OwnMapI b kk (fun x : Option Addr => .pointer x) f) (Arn ar)))) g w hg own.sub (fun _ hb => .inl hb) (fun _ _ _ => rfl) rfl rfl rfl (Nat.le_refl _) (Nat.le_refl _)
 have S1 := S0.splitS (k := 0) rfl
 have S2 := S1.splitS (k := 1) rfl
 have S3 := S2.splitS (k := 1) rfl
 refine ⟨hp, f, ar, a, c, b, tm, hi, ?_⟩
 have S4 : SH K h w ([OwnMapI b kk (fun x : Option Addr => .pointer x) f, Arn ar, OwnSl e 1 a hp.length c (flL hp), tru, Box p [.slice a hp.length c, .map (some b), .int .i64 tm], tru, tru] ++ []) := S3
 exact SH.sel (L' := [Box p [.slice a hp.length c, .map (some b), .int .i64 tm], OwnSl e 1 a hp.length c (flL hp), OwnMapI b kk (fun x : Option Addr => .pointer x) f, Arn ar]) [4, 2, 0, 1] (by decide) rfl S4
theorem J.openQ {cd : Code} (k : ∀ (hp : List (Option Addr)) (f : List (Int × Option Addr)) (ar : Addr → Option α) (a : Option Addr) (c b : Nat) (tm : Int), inv hp f ar → J P K n cd Q s [Box p [.slice a hp.length c, .map (some b), .int .i64 tm], OwnSl e 1 a hp.length c (flL hp), OwnMapI b kk (fun x : Option Addr => .pointer x) f, Arn ar] h) : J P K n cd Q s [QueX α e kk inv p] h := fun ac w H S => by
 obtain ⟨hp, f, ar, a, c, b, tm, hi, S2⟩ := S.openQ
 exact k hp f ar a c b tm hi ac w H S2
theorem SH.closeQ {w : World} {hp : List (Option Addr)} {f : List (Int × Option Addr)} {ar : Addr → Option α} {a : Option Addr} {c b : Nat} {tm : Int} {B : List Asrt} (hi : inv hp f ar) (S : SH K h w (Box p [.slice a hp.length c, .map (some b), .int .i64 tm] :: OwnSl e 1 a hp.length c (flL hp) :: OwnMapI b kk (fun x : Option Addr => .pointer x) f :: Arn ar :: B)) : SH K h w (QueX α e kk inv p :: B) := by
 have S1 := S.joinS (i := 2) (j := 3) (by decide) rfl rfl
 have S2 := S1.joinS (i := 2) (j := 0) (by decide) rfl rfl
 have S3 := S2.joinS (i := 2) (j := 0) (by decide) rfl rfl
 have S4 := S3.weaken (k := 0) rfl (Y := QueX α e kk inv p) fun g hg => ⟨hp, a, c, b, f, tm, ar, hi, hg⟩
 have S5 : SH K h w ([QueX α e kk inv p, tru, tru, tru, tru, tru, tru] ++ B) := S4
 exact SH.sel (L' := [QueX α e kk inv p]) [0] (by decide) rfl S5
theorem E.closeQ {ex : Exit} {hp : List (Option Addr)} {f : List (Int × Option Addr)} {ar : Addr → Option α} {a : Option Addr} {c b : Nat} {tm : Int} {B : List Asrt} (hi : inv hp f ar) (k : E K n Q ex s (QueX α e kk inv p :: B) h) : E K n Q ex s (Box p [.slice a hp.length c, .map (some b), .int .i64 tm] :: OwnSl e 1 a hp.length c (flL hp) :: OwnMapI b kk (fun x : Option Addr => .pointer x) f :: Arn ar :: B) h := fun ac w H S => k ac w H (S.closeQ hi)
theorem JL.mkQ (α : Type) [Flat α] (e : TypeId) {kk : IntKind} {inv : List (Option Addr) → List (Int × Option Addr) → (Addr → Option α) → Prop} {l : List Oper} {i j b : Nat} {p : Addr} (hij : Nat.beq i j = false) (hi : A[i]? = some (Box p [.slice none 0 0, .map (some b), .int .i64 0])) (hj : A[j]? = some (OwnMapI b kk (fun x : Option Addr => .pointer x) [])) (h0 : inv [] [] (fun _ => none))
  (k : JL P K n ops l Q s ((A.set j tru).set i (QueX α e kk inv p)) h) : JL P K n ops l Q s A h := fun a w H S => by
 have nij : i ≠ j := fun q => by rw [q] at hij; simp at hij
 have S1 := S.joinS nij hi hj
 have S2 := S1.splitS (k := 0) rfl
 have S3 : SH K h w (Arn (fun _ => (none : Option α)) :: Box p [.slice none 0 0, .map (some b), .int .i64 0] :: OwnMapI b kk (fun x : Option Addr => .pointer x) [] :: tru :: (A.set i tru).set j tru) := S2.push (Below.refl _ _) (g := fun _ => none) (fun _ _ e => by cases e) (fun _ _ x => by cases x) (fun _ x => absurd rfl x)
 have S4 : SH K h w (OwnSl e 1 none 0 0 [] :: Arn (fun _ => (none : Option α)) :: Box p [.slice none 0 0, .map (some b), .int .i64 0] :: OwnMapI b kk (fun x : Option Addr => .pointer x) [] :: tru :: (A.set i tru).set j tru) := S3.push (Below.refl _ _) (g := fun _ => none) ⟨by simp, .inl ⟨rfl, rfl, rfl, rfl⟩⟩ (fun _ _ x => by cases x) (fun _ x => absurd rfl x)
 have S5 : SH K h w (Box p [.slice none ([] : List (Option Addr)).length 0, .map (some b), .int .i64 0] :: OwnSl e 1 none ([] : List (Option Addr)).length 0 (flL ([] : List (Option Addr))) :: OwnMapI b kk (fun x : Option Addr => .pointer x) [] :: Arn (fun _ => (none : Option α)) :: (A.set i tru).set j tru) :=
  SH.sel (L := [OwnSl e 1 none 0 0 [], Arn (fun _ => (none : Option α)), Box p [.slice none 0 0, .map (some b), .int .i64 0], OwnMapI b kk (fun x : Option Addr => .pointer x) [], tru]) (L' := [Box p [.slice none 0 0, .map (some b), .int .i64 0], OwnSl e 1 none 0 0 [], OwnMapI b kk (fun x : Option Addr => .pointer x) [], Arn (fun _ => (none : Option α))]) [2, 0, 3, 1] (by decide) rfl S4
 have S6 := (S5.closeQ h0).toHead (k := i)
 rw [List.set_comm _ _ nij, List.set_set] at S6
 exact k a w H S6
end
def RowsS {α : Type} [Flat α] (e : TypeId) : List (Int × (Option Addr × Nat) × List α) → Asrt
 | [] => fun _ => True
 | r :: rs => Star (OwnSl e (Flat.sz α) r.2.1.1 r.2.2.length r.2.1.2 (flL r.2.2)) (RowsS e rs)
def rowH {α : Type} (r : (Option Addr × Nat) × List α) : Value := .slice r.1.1 r.2.length r.1.2
def OwnMapS {α : Type} [Flat α] (b : Nat) (kk : IntKind) (e : TypeId) (m : List (Int × List α)) : Asrt := fun g =>
 ∃ (hd : List (Int × Value)) (rs : List (Int × (Option Addr × Nat) × List α)), (∀ k, getA hd k = (getA rs k).map rowH) ∧ rs.map (fun r => (r.1, r.2.2)) = m ∧ Star (OwnMapI b kk (fun v : Value => v) hd) (RowsS e rs) g
def OwnMapX {α : Type} [Flat α] (b : Nat) (kk : IntKind) (e : TypeId) (m : List (Int × List α)) (k : Int) (v : Value) : Asrt := fun g =>
 ∃ (hd : List (Int × Value)) (rs : List (Int × (Option Addr × Nat) × List α)), (∀ k', k ≠ k' → getA hd k' = (getA rs k').map rowH) ∧ (getA hd k).getD (.slice none 0 0) = v ∧ rs.map (fun r => (r.1, r.2.2)) = delA m k ∧ Star (OwnMapI b kk (fun v : Value => v) hd) (RowsS e rs) g
theorem getA_delA {β : Type} {l : List (Int × β)} {k x : Int} (hne : k ≠ x) : getA (delA l k) x = getA l x := by
 induction l with
 | nil => rfl
 | cons p r ih =>
  simp only [delA]
  by_cases hp : p.1 = k
  ·rw [if_pos hp]
   simp only [getA]
   rw [if_neg (fun q => hne (hp ▸ q))]
  ·rw [if_neg hp]
   simp only [getA, ih]
theorem getA_map {β γ : Type} (f : β → γ) (l : List (Int × β)) (k : Int) : getA (l.map fun r => (r.1, f r.2)) k = (getA l k).map f := by
 induction l with
 | nil => rfl
 | cons p r ih =>
  simp only [List.map_cons, getA]
  split
  ·rfl
  ·exact ih
theorem delA_map {β γ : Type} (f : β → γ) (l : List (Int × β)) (k : Int) : delA (l.map fun r => (r.1, f r.2)) k = (delA l k).map fun r => (r.1, f r.2) := by
 induction l with
 | nil => rfl
 | cons p r ih =>
  simp only [List.map_cons, delA]
  split
  ·rfl
  ·rw [List.map_cons, ih]
theorem Star.comm {X Y : Asrt} {g : FH} (s : Star X Y g) : Star Y X g := by
 obtain ⟨g1, g2, rfl, hd, h1, h2⟩ := s
 refine ⟨g2, g1, ?_, hd.symm, h2, h1⟩
 funext b
 unfold FH.join
 rcases hd b with e | e
 ·rw [e]; cases g2 b <;> rfl
 ·rw [e]; cases g1 b <;> rfl
theorem Star.assoc {X Y Z : Asrt} {g : FH} (s : Star X (Star Y Z) g) : Star (Star X Y) Z g := by
 obtain ⟨g1, _, rfl, hd, h1, g2, g3, rfl, hd2, h2, h3⟩ := s
 have d1 : ∀ b, g1 b = none ∨ (g2 b = none ∧ g3 b = none) := fun b => by
  rcases hd b with e | e
  ·exact .inl e
  ·unfold FH.join at e
   cases e2 : g2 b with
   | none => rw [e2] at e; exact .inr ⟨rfl, e⟩
   | some o => rw [e2] at e; cases e
 refine ⟨FH.join g1 g2, g3, ?_, fun b => ?_, ⟨g1, g2, rfl, fun b => ?_, h1, h2⟩, h3⟩
 ·funext b
  unfold FH.join
  cases g1 b <;> rfl
 ·rcases d1 b with e | e
  ·rcases hd2 b with e2 | e2
   ·exact .inl (join_none e e2)
   ·exact .inr e2
  ·exact .inr e.2
 ·rcases d1 b with e | e
  ·exact .inl e
  ·exact .inr e.1
theorem Star.imp {X Y X' Y' : Asrt} {g : FH} (s : Star X Y g) (hx : ∀ g, X g → X' g) (hy : ∀ g, Y g → Y' g) : Star X' Y' g := by
 obtain ⟨g1, g2, e, hd, h1, h2⟩ := s
 exact ⟨g1, g2, e, hd, hx _ h1, hy _ h2⟩
theorem Star.swap {X Y Z : Asrt} {g : FH} (s : Star X (Star Y Z) g) : Star Y (Star X Z) g := by
 have s1 : Star Z (Star Y X) g := ((s.assoc).imp (fun _ x => x.comm) (fun _ x => x)).comm
 exact (((s1.assoc).comm).assoc).imp (fun _ x => x) (fun _ x => x) |> fun s2 : Star (Star X Z) Y g => s2.comm
section
variable {P : Program} {K : Kp} {n : Fr} {ops : Array Oper} {Q : Exit → Act → World → Prop} {s : St} {A : List Asrt} {h : FH} {rest : List Oper} {d : Nat} {dd : Option Tmp} {gd : Option (Nat × Bool)} {ty : TypeId} {pos : String} {af : Array Edge}
variable {α : Type} [Flat α]
theorem rows_take {e : TypeId} {k : Int} {r : (Option Addr × Nat) × List α} : ∀ {rs : List (Int × (Option Addr × Nat) × List α)} {g : FH}, RowsS e rs g → getA rs k = some r → Star (OwnSl e (Flat.sz α) r.1.1 r.2.length r.1.2 (flL r.2)) (RowsS e (delA rs k)) g
 | [], _, _, hk => by cases hk
 | p :: rs, g, hg, hk => by
  simp only [getA] at hk
  simp only [delA]
  split at hk
  ·rename_i hp
   rw [if_pos hp]
   obtain rfl := Option.some.inj hk
   exact hg
  ·rename_i hp
   rw [if_neg hp]
   have hg' : Star (OwnSl e (Flat.sz α) p.2.1.1 p.2.2.length p.2.1.2 (flL p.2.2)) (RowsS e rs) g := hg
   exact (hg'.imp (fun _ x => x) (fun _ x => rows_take x hk)).swap
theorem SH.openRow {w : World} {q b : Nat} {kk : IntKind} {e : TypeId} {m : List (Int × List α)} (S : SH K h w A) (hq : A[q]? = some (OwnMapS b kk e m)) (k : Int) :
  ∃ a c, SH K h w (OwnSl e (Flat.sz α) a ((getA m k).getD []).length c (flL ((getA m k).getD [])) :: A.set q (OwnMapX b kk e m k (.slice a ((getA m k).getD []).length c))) := by
 obtain ⟨g, ⟨hd, rs, hh, rfl, hg⟩, own, up⟩ := S.upd hq
 rw [getA_map (fun r : (Option Addr × Nat) × List α => r.2)]
 cases hk : getA rs k with
 | none =>
  refine ⟨Option.none, 0, ?_⟩
  have S1 := up (OwnMapX b kk e (rs.map fun r => (r.1, r.2.2)) k (.slice Option.none 0 0)) g w ⟨hd, delA rs k, fun k' hne => ?_, ?_, ?_, ?_⟩ own.sub (fun _ hb => .inl hb) (fun _ _ _ => rfl) rfl rfl rfl (Nat.le_refl _) (Nat.le_refl _)
  ·exact S1.push (Below.refl _ _) (g := fun _ => Option.none) ⟨by simp [flL], .inl ⟨rfl, rfl, rfl, rfl⟩⟩ (fun _ _ x => by cases x) (fun _ x => absurd rfl x)
  ·rw [getA_delA hne]; exact hh k'
  ·rw [hh k, hk]; rfl
  ·exact (delA_map (fun r : (Option Addr × Nat) × List α => r.2) rs k).symm
  ·have : ∀ {l : List (Int × (Option Addr × Nat) × List α)}, getA l k = Option.none → delA l k = l := fun {l} => by
    induction l with
    | nil => exact fun _ => rfl
    | cons p r ih =>
     intro hn
     simp only [getA] at hn
     simp only [delA]
     split at hn
     ·cases hn
     ·rename_i hp; rw [if_neg hp, ih hn]
   rw [this hk]; exact hg
 | some r =>
  refine ⟨r.1.1, r.1.2, ?_⟩
  have hg2 : Star (OwnSl e (Flat.sz α) r.1.1 r.2.length r.1.2 (flL r.2)) (Star (OwnMapI b kk (fun v : Value => v) hd) (RowsS e (delA rs k))) g := (hg.imp (fun _ x => x) (fun _ x => rows_take x hk)).swap
  have S1 := up (Star (OwnSl e (Flat.sz α) r.1.1 r.2.length r.1.2 (flL r.2)) (Star (OwnMapI b kk (fun v : Value => v) hd) (RowsS e (delA rs k)))) g w hg2 own.sub (fun _ hb => .inl hb) (fun _ _ _ => rfl) rfl rfl rfl (Nat.le_refl _) (Nat.le_refl _)
  have hql : q < A.length := (List.getElem?_eq_some_iff.1 hq).1
  have S2 := S1.splitS (k := q) (by rw [List.getElem?_set_self hql])
  rw [List.set_set] at S2
  have S3 := S2.weaken (k := 1) rfl (Y := OwnMapX b kk e (rs.map fun r => (r.1, r.2.2)) k (.slice r.1.1 r.2.length r.1.2)) fun g hg => ⟨hd, delA rs k, fun k' hne => by rw [getA_delA hne]; exact hh k', by rw [hh k, hk]; rfl, (delA_map (fun r : (Option Addr × Nat) × List α => r.2) rs k).symm, hg⟩
  have S4 := S3.moveAt 1 (q + 2) rfl
  have S5 : SH K h w ([OwnSl e (Flat.sz α) r.1.1 r.2.length r.1.2 (flL r.2), tru] ++ (A.set q tru).set q (OwnMapX b kk e (rs.map fun r => (r.1, r.2.2)) k (.slice r.1.1 r.2.length r.1.2))) := S4
  rw [List.set_set] at S5
  exact SH.sel (L' := [OwnSl e (Flat.sz α) r.1.1 r.2.length r.1.2 (flL r.2)]) [0] (by decide) rfl S5
theorem J.openRow {cd : Code} {q b sz : Nat} {kk : IntKind} {e : TypeId} {m : List (Int × List α)} (hq : A[q]? = some (OwnMapS b kk e m)) (hz : Flat.sz α = sz) (k : Int)
  (j : ∀ a c, J P K n cd Q s (OwnSl e sz a ((getA m k).getD []).length c (flL ((getA m k).getD [])) :: A.set q (OwnMapX b kk e m k (.slice a ((getA m k).getD []).length c))) h) : J P K n cd Q s A h := fun ac w H S => by
 subst hz
 obtain ⟨a, c, S1⟩ := S.openRow hq k
 exact j a c ac w H S1
theorem lkX {t : TypeId} {x y : Operand} {b q : Nat} {kk : IntKind} {e : TypeId} {m : List (Int × List α)} {k : Int} {v : Value} (ht : TMapI P t kk (.slice none 0 0)) (hx : ev s x = some (.map (some b))) (hy : ev s y = some (.int kk k)) (hk : A[q]? = some (OwnMapX b kk e m k v)) :
  VF P K n s A h ⟨dd, .lookup t x y false, ty, pos, af, gd⟩ v := fun ac w H S => by
 obtain ⟨g, ⟨hd, rs, _, rfl, _, g1, g2, rfl, hd2, ⟨es, clock, rfl, hm⟩, _⟩, own, _⟩ := S.upd hk
 have hb : w.heap[b]? = some (.map es clock) := own.sub b _ (FH.le_join_left _ _ b _ (FH.one_self b _))
 simp only [execOp, H.ev hx, H.ev hy, Sem.run_bind, lookupI_run (enc := fun v : Value => v) (z := .slice none 0 0) (k := k) ht hb hm false]; rfl
theorem muX {t : TypeId} {x y u : Operand} {b q i c' sz : Nat} {kk : IntKind} {e : TypeId} {m : List (Int × List α)} {k : Int} {v : Value} {a' : Option Addr} {xs : List α} (ht : TMapI P t kk (.slice none 0 0)) (hx : ev s x = some (.map (some b))) (hy : ev s y = some (.int kk k)) (hz : ev s u = some (.slice a' xs.length c')) (hiq : Nat.beq i q = false) (hk : A[q]? = some (OwnMapX b kk e m k v)) (hi : A[i]? = some (OwnSl e sz a' xs.length c' (flL xs))) (hsz : Flat.sz α = sz)
  (kk' : JL P K n ops rest Q s ((A.set i tru).set q (OwnMapS b kk e ((k, xs) :: delA m k))) h) : JL P K n ops (⟨none, .mapUpdate t x y u, ty, pos, af, none⟩ :: rest) Q s A h :=
 JL.skipW rfl rfl (fun ac w H S => by
  subst hsz
  have niq : i ≠ q := fun q => by rw [q] at hiq; simp at hiq
  obtain ⟨g, ⟨hd, rs, hh, _, hm, hg⟩, own, up⟩ := S.upd hk
  have hql : q < A.length := (List.getElem?_eq_some_iff.1 hk).1
  have S1 := up (Star (OwnMapI b kk (fun v : Value => v) hd) (RowsS e rs)) g w hg own.sub (fun _ hb => .inl hb) (fun _ _ _ => rfl) rfl rfl rfl (Nat.le_refl _) (Nat.le_refl _)
  have S2 := S1.splitS (k := q) (by rw [List.getElem?_set_self hql])
  rw [List.set_set] at S2
  obtain ⟨w', hr, S3⟩ := mapWI (q := 0) (k := k) (v := Value.slice a' xs.length c') ht rfl S2
  refine ⟨w', _, h, by simp only [execOp, H.ev hx, H.ev hy, H.ev hz, Sem.run_bind, hr]; rfl, ?_, kk'⟩
  have S4 : SH K h w' (OwnMapI b kk (fun v : Value => v) (setA hd k (.slice a' xs.length c')) :: RowsS e rs :: A.set q tru) := S3
  have hi2 : (OwnMapI b kk (fun v : Value => v) (setA hd k (.slice a' xs.length c')) :: RowsS e rs :: A.set q tru)[i + 2]? = some (OwnSl e (Flat.sz α) a' xs.length c' (flL xs)) := by
   simp only [List.getElem?_cons_succ]
   rw [List.getElem?_set_ne (Ne.symm niq)]; exact hi
  have S5 := S4.joinS (i := i + 2) (j := 1) (by omega) hi2 rfl
  have S6 : SH K h w' (RowsS e ((k, (a', c'), xs) :: rs) :: OwnMapI b kk (fun v : Value => v) (setA hd k (.slice a' xs.length c')) :: tru :: (A.set q tru).set i tru) := S5
  have S7 := S6.joinS (i := 1) (j := 0) (by omega) rfl rfl
  have S8 := S7.weaken (k := 0) rfl (Y := OwnMapS b kk e ((k, xs) :: delA m k)) fun g hg => ⟨setA hd k (.slice a' xs.length c'), (k, (a', c'), xs) :: rs, fun k' => ?_, by simp [hm], hg⟩
  ·have S9 : SH K h w' ([OwnMapS b kk e ((k, xs) :: delA m k), tru, tru, tru] ++ (A.set q tru).set i tru) := S8
   have S10 : SH K h w' (OwnMapS b kk e ((k, xs) :: delA m k) :: (A.set q tru).set i tru) := SH.sel (L' := [OwnMapS b kk e ((k, xs) :: delA m k)]) [0] (by decide) rfl S9
   have S11 := S10.toHead (k := q)
   rw [List.set_comm _ _ niq.symm, List.set_set] at S11
   exact S11
  ·rw [getA_setA]
   simp only [getA]
   by_cases hkk : k = k'
   ·rw [if_pos hkk, if_pos hkk]; rfl
   ·rw [if_neg hkk, if_neg hkk]; exact hh k' hkk)
theorem rows_at {e : TypeId} {k : Int} {r : (Option Addr × Nat) × List α} {rs : List (Int × (Option Addr × Nat) × List α)} {g : FH} (hg : RowsS e rs g) (hk : getA rs k = some r) : RawSl g r.1.1 (flL r.2) ∧ r.2.length ≤ r.1.2 := by
 obtain ⟨g1, g2, rfl, hd, h1, _⟩ := rows_take hg hk
 refine ⟨h1.cells.mono (FH.le_join_left _ _), ?_⟩
 rcases h1.2 with ⟨_, h2, h3, _⟩ | ⟨_, _, _, _, h2, _⟩
 ·omega
 ·exact h2
theorem SH.freezeMS {w : World} {q b : Nat} {kk : IntKind} {e : TypeId} {m : List (Int × List α)} (S : SH K h w A) (hq : A[q]? = some (OwnMapS b kk e m)) :
  ∃ (h' : FH) (hd : List (Int × Value)), FH.le h h' ∧ (∀ k, ∃ (a : Option Addr) (c : Nat), (getA hd k).getD (.slice Option.none 0 0) = .slice a ((getA m k).getD []).length c ∧ RSl h' a ((getA m k).getD []) ∧ ((getA m k).getD []).length ≤ c) ∧ SH K h' w (A.set q (OwnMapI b kk (fun v : Value => v) hd)) := by
 obtain ⟨g, ⟨hd, rs, hh, rfl, hg⟩, own, up⟩ := S.upd hq
 have hql : q < A.length := (List.getElem?_eq_some_iff.1 hq).1
 have S1 := up (Star (OwnMapI b kk (fun v : Value => v) hd) (RowsS e rs)) g w hg own.sub (fun _ hb => .inl hb) (fun _ _ _ => rfl) rfl rfl rfl (Nat.le_refl _) (Nat.le_refl _)
 have S2 := S1.splitS (k := q) (by rw [List.getElem?_set_self hql])
 rw [List.set_set] at S2
 obtain ⟨g2, hx, hd2, S3⟩ := S2.freeze (k := 1) rfl
 refine ⟨_, hd, FH.le_join_left h g2, fun k => ?_, ?_⟩
 ·rw [getA_map (fun r : (Option Addr × Nat) × List α => r.2), hh k]
  cases hk : getA rs k with
  | none => exact ⟨Option.none, 0, rfl, ⟨[], rfl, fun j v e => by simp at e⟩, Nat.le_refl _⟩
  | some r =>
   obtain ⟨q1, q2⟩ := rows_at hx hk
   exact ⟨r.1.1, r.1.2, rfl, RSl.of (q1.mono (FH.le_join_right hd2)), q2⟩
 ·have S4 : SH K (h.join g2) w (OwnMapI b kk (fun v : Value => v) hd :: tru :: A.set q tru) := S3
  have S5 : SH K (h.join g2) w ([OwnMapI b kk (fun v : Value => v) hd, tru] ++ A.set q tru) := S4
  have S6 : SH K (h.join g2) w (OwnMapI b kk (fun v : Value => v) hd :: A.set q tru) := SH.sel (L' := [OwnMapI b kk (fun v : Value => v) hd]) [0] (by decide) rfl S5
  have S7 := S6.toHead (k := q)
  rwa [List.set_set] at S7
theorem J.freezeMS {cd : Code} {q b : Nat} {kk : IntKind} {e : TypeId} {m : List (Int × List α)} (hq : A[q]? = some (OwnMapS b kk e m))
  (j : ∀ (h' : FH) (hd : List (Int × Value)), FH.le h h' → (∀ k, ∃ (a : Option Addr) (c : Nat), (getA hd k).getD (.slice none 0 0) = .slice a ((getA m k).getD []).length c ∧ RSl h' a ((getA m k).getD []) ∧ ((getA m k).getD []).length ≤ c) → J P K n cd Q s (A.set q (OwnMapI b kk (fun v : Value => v) hd)) h') : J P K n cd Q s A h := fun ac w H S => by
 obtain ⟨h', hd, q1, q2, S1⟩ := S.freezeMS hq
 exact j h' hd q1 q2 ac w H S1
theorem JL.mapS (α : Type) [Flat α] {l : List Oper} {q b : Nat} {kk : IntKind} (e : TypeId) (hq : A[q]? = some (OwnMapI b kk (fun v : Value => v) [])) (j : JL P K n ops l Q s (A.set q (OwnMapS b kk e ([] : List (Int × List α)))) h) : JL P K n ops l Q s A h := fun ac w H S =>
 j ac w H (S.weaken hq fun g hg => ⟨[], [], fun _ => rfl, rfl, g, noFH, by funext b; unfold FH.join noFH; cases g b <;> rfl, fun _ => .inr rfl, hg, trivial⟩)
theorem lkH {t : TypeId} {x y : Operand} {b q : Nat} {kk : IntKind} {hd : List (Int × Value)} {k : Int} {v : Value} (ht : TMapI P t kk (.slice none 0 0)) (hx : ev s x = some (.map (some b))) (hy : ev s y = some (.int kk k)) (hk : A[q]? = some (OwnMapI b kk (fun v : Value => v) hd)) (hv : (getA hd k).getD (.slice none 0 0) = v) :
  VF P K n s A h ⟨dd, .lookup t x y false, ty, pos, af, gd⟩ v := by
 subst hv
 exact lkI (enc := fun v : Value => v) (.slice none 0 0) ht hx hy hk
end
end Go.Proofs.YtimillpakjgnoaaGreat.Pl

namespace Go.Proofs.YtimillpakjgnoaaGreat.Pl
section
variable {N : Type}
theorem nodup_sub_len {α : Type} [DecidableEq α] : ∀ (l m : List α), l.Nodup → (∀ x ∈ l, x ∈ m) → l.length ≤ m.length
 | [], _, _, _ => Nat.zero_le _
 | a :: l, m, hn, hs => by
  obtain ⟨h1, h2⟩ := List.nodup_cons.1 hn
  have ha := hs a List.mem_cons_self
  have := nodup_sub_len l (m.erase a) h2 fun x hx => (List.mem_erase_of_ne (fun e : x = a => h1 (e ▸ hx))).2 (hs x (List.mem_cons_of_mem _ hx))
  rw [List.length_erase_of_mem ha] at this
  have := List.length_pos_of_mem ha
  simp; omega
end
end Go.Proofs.YtimillpakjgnoaaGreat.Pl

