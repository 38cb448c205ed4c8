/- A small program logic over the model, for any program: what a frame's slots hold, what memory the call owns, what memory stays as it is; and one rule for each form of code. Nothing is assumed; no condition. -/
import Derived.WalkKit
import Derived.Below
import Derived.Deep.Quiet
import Derived.RangeFuncNested
import Derived.RangeFuncCalls
import Derived.RangeFuncLeaves
import Derived.TacticsIn
namespace Go.Proofs.YtojoehfldbimpaaGreatDoor.Pl
open Go Go.RowKit

/-! ### the count of draws never goes back -/
theorem ex_bind {ε α β : Type} {x : Except ε α} {f : α → Except ε β} {b : β} (h : (x >>= f) = .ok b) : ∃ a, x = .ok a ∧ f a = .ok b := by
  cases x with
  | error e => cases h
  | ok a => exact ⟨a, rfl, h⟩
theorem view_drawn {p : Program} {w w' : World} {at_ : Addr} {u : TypeId} {k : Addr} {v : Value} {at2 : Bool} {l : List Addr} (h : w.viewStore p at_ u k v at2 = .ok (w', l)) : w'.drawn = w.drawn := by
  unfold World.viewStore at h
  dsimp only at h
  split at h
  · cases h
  · obtain ⟨⟨c, e, f1, f2, f3, f4⟩, _, h⟩ := ex_bind h
    dsimp only at h
    split at h
    · split at h
      · cases h
      · obtain ⟨_, _, h⟩ := ex_bind h
        have := Except.ok.inj h
        rw [Prod.mk.injEq] at this
        rw [← this.1]
    · cases h
theorem far_drawn {p : Program} {w w' : World} {a : Addr} {v : Value} {at2 : Bool} {l : List Addr} (h : w.farStore p a v at2 = .ok (w', l)) : w'.drawn = w.drawn := by
  unfold World.farStore at h
  split at h
  · split at h
    · rename_i r hr
      obtain rfl := Except.ok.inj h
      exact view_drawn hr
    · cases h
  · cases h
theorem ask_drawn {α : Type} : ∀ (m : Ask α) (w : World), w.drawn ≤ (w.ask m).2.drawn
  | .done a, w => Nat.le_refl _
  | .ask what range k, w => by
    unfold World.ask
    simp only
    split
    · exact ask_drawn _ _
    · exact Nat.le_trans (Nat.le_succ _) (ask_drawn _ { w with drawn := w.drawn + 1 })
theorem sys_drawn (w : World) (c : Sys) : w.drawn ≤ (w.sys c).2.drawn := by
  have := ask_drawn (Kernel.perform c w.os) w
  unfold World.sys
  split
  · exact Nat.le_refl _
  · rename_i h
    rw [h] at this
    exact this
theorem run_drawn {p : Program} {α : Type} : ∀ (m : Sem α) (w w' : World) (v : α), m.run p w = .ok v w' → w.drawn ≤ w'.drawn := by
  intro m
  induction m with
  | pure a => intro w w' v h; cases h; exact Nat.le_refl _
  | load m a k ih =>
    intro w w' v h
    simp only [Sem.run] at h
    split at h
    · exact ih _ _ _ _ h
    · split at h
      · exact ih _ _ _ _ h
      · cases h
  | store m a x k ih =>
    intro w w' v h
    have key : ∀ x, (match w.cell? a with
      | some _ => if w.frozen? a then (.halt (.unsupported (.unsafePointer "a write to bytes that a string shares")) w : Result α) else k.run p (w.setCell a x)
      | none => match w.farStore p a x (m == Mode.atomic) with
        | .ok (w, _) => k.run p w
        | .error h => .halt h w) = .ok v w' → w.drawn ≤ w'.drawn := fun x h => by
      split at h
      · split at h
        · cases h
        · have := ih _ _ _ h; exact this
      · split at h
        · rename_i w2 l hf
          rw [← far_drawn hf]
          exact ih _ _ _ h
        · cases h
    cases x <;> first | (simp only [Sem.run] at h; cases h; done) | exact key _ h
  | new o k ih => intro w w' v h; have := ih _ _ _ _ h; exact this
  | shape r k ih => intro w w' v h; exact ih _ _ _ _ h
  | freeze a n k ih =>
    intro w w' v h
    have := ih _ _ _ h
    rwa [show (w.freeze a n).drawn = w.drawn by unfold World.freeze; split <;> rfl] at this
  | frozen a k ih => intro w w' v h; exact ih _ _ _ _ h
  | getObj r k ih =>
    intro w w' v h
    simp only [Sem.run] at h
    split at h
    · cases h
    · exact ih _ _ _ _ h
    · cases h
  | setObj r o k ih =>
    intro w w' v h
    simp only [Sem.run] at h
    split at h
    · cases h
    · have := ih _ _ _ h; exact this
    · cases h
  | choose q k ih =>
    intro w w' v h
    simp only [Sem.run] at h
    split at h
    · exact ih _ _ _ _ h
    · exact Nat.le_trans (Nat.le_succ _) (ih _ _ _ _ h)
  | sys c k ih => intro w w' v h; exact Nat.le_trans (sys_drawn w c) (ih _ _ _ _ h)
  | program k ih => intro w w' v h; exact ih _ _ _ _ h
  | mark m k ih => intro w w' v h; exact ih _ _ _ h
  | halt h => intro w w' v e; cases e
/-- what is counted of the draws -/
def dr (_ : World) : Nat := 0
theorem dr_drew (w : World) : dr w ≤ dr w.drew := by unfold dr; first | exact Nat.le_succ _ | exact Nat.le_refl _
theorem run_dr {p : Program} {α : Type} (m : Sem α) (w w' : World) (v : α) (h : m.run p w = .ok v w') : dr w ≤ dr w' := by
  have := run_drawn m w w' v h
  unfold dr; omega
/-- Below block number B the world w' is as w was; the streams are as they were; no block has gone; no draw is undone. -/
structure Below (B : Nat) (w w' : World) : Prop where
  os : w'.os = w.os
  tape : w'.tape = w.tape
  output : w'.output = w.output
  size : w.heap.size ≤ w'.heap.size
  block : ∀ k, k < B → w'.heap[k]? = w.heap[k]?
  drawn : dr w ≤ dr w'
theorem Below.toK {B : Nat} {w w' : World} (h : Below B w w') : Go.RowKit.Below B w w' := ⟨h.os, h.tape, h.output, h.size, h.block⟩
theorem Below.refl (B : Nat) (w : World) : Below B w w := ⟨rfl, rfl, rfl, Nat.le_refl _, fun _ _ => rfl, Nat.le_refl _⟩
theorem Below.drew {B : Nat} {a w : World} (h : Below B a w) : Below B a w.drew := ⟨h.os, h.tape, h.output, h.size, h.block, Nat.le_trans h.drawn (dr_drew _)⟩
theorem Below.alloc {B : Nat} {a w : World} (h : Below B a w) (hB : B ≤ w.heap.size) (o : Obj) : Below B a (w.alloc o) :=
  have k := h.toK.alloc hB o
  ⟨k.os, k.tape, k.output, k.size, k.block, h.drawn⟩

/-! ### memory that stays -/
abbrev FH := Nat → Option Obj
def FH.le (h h' : FH) : Prop := ∀ b o, h b = some o → h' b = some o
theorem FH.le_refl (h : FH) : FH.le h h := fun _ _ e => e
theorem FH.le_trans {a b c : FH} (x : FH.le a b) (y : FH.le b c) : FH.le a c := fun i o e => y i o (x i o e)
def Sub (h : FH) (w : World) : Prop := ∀ b o, h b = some o → w.heap[b]? = some o
theorem Sub.anti {h h' : FH} {w : World} (hl : FH.le h h') (s : Sub h' w) : Sub h w := fun b o e => s b o (hl b o e)
theorem Sub.lt {h : FH} {w : World} (s : Sub h w) {b : Nat} {o : Obj} (e : h b = some o) : b < w.heap.size :=
  (Array.getElem?_eq_some_iff.1 (s b o e)).1
theorem Sub.ext {h : FH} {w w' : World} (s : Sub h w) (hb : ∀ b, b < w.heap.size → w'.heap[b]? = w.heap[b]?) : Sub h w' :=
  fun b o e => (hb b (s.lt e)).trans (s b o e)
def FH.cell (h : FH) (a : Addr) : Option Value :=
  match h a.block with
  | some (.cells c _ _) => if a.spot.isSome then none else c[a.off]?
  | _ => none
theorem FH.cell_mono {h h' : FH} (hl : FH.le h h') {a : Addr} {v : Value} (e : h.cell a = some v) : h'.cell a = some v := by
  unfold FH.cell at *
  cases hb : h a.block with
  | none => rw [hb] at e; cases e
  | some o => rw [hb] at e; rw [hl _ _ hb]; exact e
theorem Sub.cell {h : FH} {w : World} (s : Sub h w) {a : Addr} {v : Value} (e : h.cell a = some v) : w.cell? a = some v := by
  unfold FH.cell at e
  cases hb : h a.block with
  | none => rw [hb] at e; cases e
  | some o => rw [hb] at e; unfold World.cell?; rw [s _ _ hb]; exact e
def FH.join (h g : FH) : FH := fun b => match h b with | some o => some o | none => g b
def Disj (g g' : FH) : Prop := ∀ b, g b = none ∨ g' b = none
theorem Disj.symm {g g' : FH} (d : Disj g g') : Disj g' g := fun b => (d b).symm
theorem FH.le_join_left (h g : FH) : FH.le h (h.join g) := fun b o e => by simp [FH.join, e]
theorem FH.le_join_right {h g : FH} (d : Disj h g) : FH.le g (h.join g) := fun b o e => by
  rcases d b with e' | e'
  · simp [FH.join, e', e]
  · rw [e'] at e; cases e
theorem Sub.join {h g : FH} {w : World} (s : Sub h w) (t : Sub g w) : Sub (h.join g) w := fun b o e => by
  unfold FH.join at e
  cases hb : h b with
  | none => rw [hb] at e; exact t b o e
  | some o' => rw [hb] at e; exact s b o (by simpa [hb] using e)
def FH.one (b : Nat) (o : Obj) : FH := fun b' => if b' = b then some o else none
theorem FH.one_self (b : Nat) (o : Obj) : FH.one b o b = some o := by simp [FH.one]
theorem FH.one_ne {b b' : Nat} {o : Obj} (h : FH.one b o b' ≠ none) : b' = b := by
  unfold FH.one at h
  split at h
  · assumption
  · exact absurd rfl h
theorem Sub.one {b : Nat} {o : Obj} {w : World} (h : w.heap[b]? = some o) : Sub (FH.one b o) w := fun b' o' e => by
  unfold FH.one at e
  split at e
  · rename_i hb; rw [hb, h]; exact e
  · cases e

/-! ### memory that the call owns -/
abbrev Asrt := FH → Prop
def tru : Asrt := fun _ => True
/-- what the call must leave as it was -/
structure Kp where
  w : World
  h : FH
  keep : Nat → Prop
  lt : ∀ b, keep b → b < w.heap.size
structure Kept (K : Kp) (w : World) : Prop where
  os : w.os = K.w.os
  tape : w.tape = K.w.tape
  output : w.output = K.w.output
  size : K.w.heap.size ≤ w.heap.size
  block : ∀ b, K.keep b → w.heap[b]? = K.w.heap[b]?
  drawn : dr K.w ≤ dr w
def Kp.all (w : World) (h : FH) : Kp := ⟨w, h, fun b => b < w.heap.size, fun _ h => h⟩
theorem Kept.start (w : World) (h : FH) : Kept (Kp.all w h) w := ⟨rfl, rfl, rfl, Nat.le_refl _, fun _ _ => rfl, Nat.le_refl _⟩
theorem Kept.below {w w' : World} {h : FH} (k : Kept (Kp.all w h) w') : Below w.heap.size w w' := ⟨k.os, k.tape, k.output, k.size, k.block, k.drawn⟩
structure Own (K : Kp) (h : FH) (w : World) (g : FH) : Prop where
  disj : Disj h g
  sub : Sub g w
  free : ∀ b, g b ≠ none → ¬ K.keep b
def Parts (K : Kp) (h : FH) (w : World) (A : List Asrt) (gs : List FH) : Prop :=
  gs.length = A.length ∧ (∀ (i : Nat) (g : FH) (X : Asrt), gs[i]? = some g → A[i]? = some X → X g) ∧ (∀ (i : Nat) (g : FH), gs[i]? = some g → Own K h w g) ∧
    (∀ (i j : Nat) (g g' : FH), i ≠ j → gs[i]? = some g → gs[j]? = some g' → Disj g g')
structure SH (K : Kp) (h : FH) (w : World) (A : List Asrt) : Prop where
  kept : Kept K w
  sub : Sub h w
  fresh : ∀ b, h b ≠ none → K.h b ≠ none ∨ ¬ K.keep b
  parts : ∃ gs, Parts K h w A gs

section
variable {K : Kp} {h : FH} {w : World} {A : List Asrt}
theorem SH.start (w : World) (h : FH) (s : Sub h w) : SH (Kp.all w h) h w [] :=
  ⟨Kept.start w h, s, fun _ h => .inl h, [], rfl, by simp, by simp, by simp⟩
theorem SH.below {w0 : World} {h0 : FH} (s : SH (Kp.all w0 h0) h w A) : Below w0.heap.size w0 w := s.kept.below
theorem SH.anti {h' : FH} (hl : FH.le h h') (s : SH K h' w A) : SH K h w A := by
  obtain ⟨gs, p1, p2, p3, p4⟩ := s.parts
  refine ⟨s.kept, s.sub.anti hl, fun b hb => s.fresh b (by
    cases e : h b with
    | none => exact absurd e hb
    | some o => rw [hl b o e]; simp), gs, p1, p2, fun i g hi => ?_, p4⟩
  have o := p3 i g hi
  refine ⟨fun b => ?_, o.sub, o.free⟩
  rcases o.disj b with e | e
  · cases hb : h b with
    | none => exact .inl rfl
    | some x => rw [hl _ _ hb] at e; cases e
  · exact .inr e
/-- the world has grown, and all that was there is as it was -/
theorem SH.ext {w' : World} (s : SH K h w A) (hb : Below w.heap.size w w') : SH K h w' A := by
  obtain ⟨gs, p1, p2, p3, p4⟩ := s.parts
  refine ⟨⟨hb.os.trans s.kept.os, hb.tape.trans s.kept.tape, hb.output.trans s.kept.output, Nat.le_trans s.kept.size hb.size, fun b hk => ?_, Nat.le_trans s.kept.drawn hb.drawn⟩, s.sub.ext hb.block, s.fresh, gs, p1, p2, fun i g hi => ⟨(p3 i g hi).disj, (p3 i g hi).sub.ext hb.block, (p3 i g hi).free⟩, p4⟩
  rw [hb.block b (Nat.lt_of_lt_of_le (K.lt b hk) s.kept.size)]
  exact s.kept.block b hk
theorem list_set_get {α : Type} {l : List α} {k i : Nat} {x y : α} (h : (l.set k x)[i]? = some y) : (i = k ∧ y = x ∧ k < l.length) ∨ (i ≠ k ∧ l[i]? = some y) := by
  by_cases e : k = i
  · subst e
    rw [List.getElem?_set] at h
    split at h
    · split at h
      · exact .inl ⟨rfl, (Option.some.inj h).symm, by assumption⟩
      · cases h
    · rename_i hne; exact absurd rfl hne
  · rw [List.getElem?_set_ne e] at h
    exact .inr ⟨fun e' => e e'.symm, h⟩
/-- one part is looked at; it may be written, and the rest stays -/
theorem SH.upd {k : Nat} {X : Asrt} (s : SH K h w A) (hk : A[k]? = some X) :
    ∃ g, X g ∧ Own K h w g ∧ ∀ (X' : Asrt) (g' : FH) (w' : World), X' g' → Sub g' w' → (∀ b, g' b ≠ none → g b ≠ none ∨ w.heap.size ≤ b) →
      (∀ b, b < w.heap.size → g b = none → w'.heap[b]? = w.heap[b]?) → w'.os = w.os → w'.tape = w.tape → w'.output = w.output → w.heap.size ≤ w'.heap.size → dr w ≤ dr w' →
      SH K h w' (A.set k X') := by
  obtain ⟨gs, p1, p2, p3, p4⟩ := s.parts
  have hkl : k < gs.length := by rw [p1]; exact (List.getElem?_eq_some_iff.1 hk).1
  have hg : gs[k]? = some gs[k] := List.getElem?_eq_getElem hkl
  have own := p3 k _ hg
  refine ⟨gs[k], p2 k _ X hg hk, own, fun X' g' w' hx hs hdom hsame h1 h2 h3 hsz hdr => ?_⟩
  have out : ∀ b, b < w.heap.size → (∃ i g, i ≠ k ∧ gs[i]? = some g ∧ g b ≠ none) → w'.heap[b]? = w.heap[b]? := fun b hb ⟨i, g, hi, hgi, hne⟩ => by
    refine hsame b hb ?_
    rcases p4 i k g _ hi hgi hg b with e | e
    · exact absurd e hne
    · exact e
  refine ⟨⟨h1.trans s.kept.os, h2.trans s.kept.tape, h3.trans s.kept.output, Nat.le_trans s.kept.size hsz, fun b hkb => ?_, Nat.le_trans s.kept.drawn hdr⟩, fun b o e => ?_, s.fresh, gs.set k g', by simp [p1], fun i g Y hi hY => ?_, fun i g hi => ?_, fun i j g g2 hij hi hj => ?_⟩
  · have hb := Nat.lt_of_lt_of_le (K.lt b hkb) s.kept.size
    refine (hsame b hb ?_).trans (s.kept.block b hkb)
    cases e : gs[k] b with
    | none => rfl
    | some o => exact absurd hkb (own.free b (by simp [e]))
  · have hb := s.sub.lt e
    refine (hsame b hb ?_).trans (s.sub b o e)
    rcases own.disj b with e' | e'
    · rw [e] at e'; cases e'
    · exact e'
  · rcases list_set_get hi with ⟨rfl, rfl, _⟩ | ⟨hne, hi'⟩
    · rcases list_set_get hY with ⟨_, rfl, _⟩ | ⟨hne, _⟩
      · exact hx
      · exact absurd rfl hne
    · rcases list_set_get hY with ⟨rfl, _, _⟩ | ⟨_, hY'⟩
      · exact absurd rfl hne
      · exact p2 i g Y hi' hY'
  · rcases list_set_get hi with ⟨rfl, rfl, _⟩ | ⟨hne, hi'⟩
    · refine ⟨fun b => ?_, hs, fun b hb hkb => ?_⟩
      · cases e : g b with
        | none => exact .inr rfl
        | some o =>
          refine .inl ?_
          rcases hdom b (by simp [e]) with e' | e'
          · rcases own.disj b with x | x
            · exact x
            · exact absurd x e'
          · cases hh : h b with
            | none => rfl
            | some o' => have := s.sub.lt hh; omega
      · rcases hdom b hb with e' | e'
        · exact own.free b e' hkb
        · have := Nat.lt_of_lt_of_le (K.lt b hkb) s.kept.size; omega
    · have o := p3 i g hi'
      refine ⟨o.disj, fun b ob e => ?_, o.free⟩
      exact (out b (o.sub.lt e) ⟨i, g, hne, hi', by simp [e]⟩).trans (o.sub b ob e)
  · have key : ∀ i g, i ≠ k → gs[i]? = some g → Disj g' g := fun i g hne hi' b => by
      cases e : g' b with
      | none => exact .inl rfl
      | some o =>
        refine .inr ?_
        rcases hdom b (by simp [e]) with e' | e'
        · rcases p4 i k g _ hne hi' hg b with x | x
          · exact x
          · exact absurd x e'
        · cases hh : g b with
          | none => rfl
          | some o' => have := (p3 i g hi').sub.lt hh; omega
    rcases list_set_get hi with ⟨rfl, rfl, _⟩ | ⟨hne, hi'⟩
    · rcases list_set_get hj with ⟨rfl, _, _⟩ | ⟨hne2, hj'⟩
      · exact absurd rfl hij
      · exact key j g2 hne2 hj'
    · rcases list_set_get hj with ⟨rfl, rfl, _⟩ | ⟨hne2, hj'⟩
      · exact (key i g hne hi').symm
      · exact p4 i j g g2 hij hi' hj'
/-- new blocks -/
theorem SH.push {w' : World} {X : Asrt} {g : FH} (s : SH K h w A) (hb : Below w.heap.size w w') (hx : X g) (hs : Sub g w') (hnew : ∀ b, g b ≠ none → w.heap.size ≤ b) : SH K h w' (X :: A) := by
  have s' := s.ext hb
  obtain ⟨gs0, q1, q2, q3, q4⟩ := s.parts
  refine ⟨s'.kept, s'.sub, s.fresh, g :: gs0, by simp [q1], fun i g1 Y hi hY => ?_, fun i g1 hi => ?_, fun i j g1 g2 hij hi hj => ?_⟩
  · cases i with
    | zero => simp at hi hY; subst hi; subst hY; exact hx
    | succ i => simp at hi hY; exact q2 i g1 Y hi hY
  · cases i with
    | zero =>
      simp at hi; subst hi
      refine ⟨fun b => ?_, hs, fun b hb' hk => ?_⟩
      · cases e : h b with
        | none => exact .inl rfl
        | some o =>
          refine .inr ?_
          cases e2 : g b with
          | none => rfl
          | some o2 => have h1 := s.sub.lt e; have h2 := hnew b (by simp [e2]); omega
      · have h1 := hnew b hb'; have h2 := Nat.lt_of_lt_of_le (K.lt b hk) s.kept.size; omega
    | succ i => simp at hi; exact ⟨(q3 i g1 hi).disj, (q3 i g1 hi).sub.ext hb.block, (q3 i g1 hi).free⟩
  · have key : ∀ i g1, gs0[i]? = some g1 → Disj g g1 := fun i g1 hi b => by
      cases e : g1 b with
      | none => exact .inr rfl
      | some o =>
        refine .inl ?_
        cases e2 : g b with
        | none => rfl
        | some o2 => have h1 := (q3 i g1 hi).sub.lt e; have h2 := hnew b (by simp [e2]); omega
    cases i with
    | zero =>
      simp at hi; subst hi
      cases j with
      | zero => exact absurd rfl hij
      | succ j => simp at hj; exact key j g2 hj
    | succ i =>
      simp at hi
      cases j with
      | zero => simp at hj; subst hj; exact (key i g1 hi).symm
      | succ j => simp at hj; exact q4 i j g1 g2 (by omega) hi hj
/-- a call comes back: what it has made is added to what was there -/
theorem SH.merge {w' : World} {h0 h1 : FH} {B : List Asrt} (s : SH K h w A) (r : SH (Kp.all w h0) h1 w' B) (fr : ∀ b, h1 b ≠ none → h b ≠ none ∨ w.heap.size ≤ b) : SH K h1 w' (B ++ A) := by
  have s' := s.ext r.below
  obtain ⟨gs, p1, p2, p3, p4⟩ := s.parts
  obtain ⟨gr, r1, r2, r3, r4⟩ := r.parts
  have old : ∀ (i : Nat) (g : FH) (b : Nat), gs[i]? = some g → g b ≠ none → b < w.heap.size := fun i g b hi hb => by
    cases e : g b with
    | none => exact absurd e hb
    | some o => exact (p3 i g hi).sub.lt e
  have new : ∀ (i : Nat) (g : FH) (b : Nat), gr[i]? = some g → g b ≠ none → w.heap.size ≤ b := fun i g b hi hb => Nat.le_of_not_lt ((r3 i g hi).free b hb)
  have cut : ∀ (i : Nat) (X : FH), (gr ++ gs)[i]? = some X → (i < gr.length ∧ gr[i]? = some X) ∨ (gr.length ≤ i ∧ gs[i - gr.length]? = some X) := fun i X hi => by
    by_cases hlt : i < gr.length
    · rw [List.getElem?_append_left hlt] at hi; exact .inl ⟨hlt, hi⟩
    · rw [List.getElem?_append_right (by omega)] at hi; exact .inr ⟨by omega, hi⟩
  refine ⟨s'.kept, r.sub, fun b hb => ?_, gr ++ gs, by simp [p1, r1], fun i g X hi hX => ?_, fun i g hi => ?_, fun i j g g2 hij hi hj => ?_⟩
  · rcases fr b hb with e | e
    · exact s.fresh b e
    · exact .inr fun hk => by have := Nat.lt_of_lt_of_le (K.lt b hk) s.kept.size; omega
  · rcases cut i g hi with ⟨hlt, hi'⟩ | ⟨hge, hi'⟩
    · rw [List.getElem?_append_left (by omega)] at hX; exact r2 i g X hi' hX
    · rw [List.getElem?_append_right (by omega)] at hX; rw [r1] at hi'; exact p2 _ g X hi' hX
  · rcases cut i g hi with ⟨hlt, hi'⟩ | ⟨hge, hi'⟩
    · refine ⟨(r3 i g hi').disj, (r3 i g hi').sub, fun b hb hk => ?_⟩
      have h1 := new i g b hi' hb
      have := Nat.lt_of_lt_of_le (K.lt b hk) s.kept.size; omega
    · refine ⟨fun b => ?_, (p3 _ g hi').sub.ext r.below.block, (p3 _ g hi').free⟩
      cases e : g b with
      | none => exact .inr rfl
      | some o =>
        refine .inl ?_
        cases e1 : h1 b with
        | none => rfl
        | some o1 =>
          have hb := old _ g b hi' (by simp [e])
          rcases fr b (by simp [e1]) with x | x
          · rcases (p3 _ g hi').disj b with y | y
            · exact absurd y x
            · rw [e] at y; cases y
          · omega
  · have key : ∀ (i j : Nat) (g g2 : FH), gr[i]? = some g → gs[j]? = some g2 → Disj g g2 := fun i j g g2 hi hj b => by
      cases e : g b with
      | none => exact .inl rfl
      | some o =>
        refine .inr ?_
        cases e2 : g2 b with
        | none => rfl
        | some o2 => have h1 := new i g b hi (by simp [e]); have h2 := old j g2 b hj (by simp [e2]); omega
    rcases cut i g hi with ⟨hlt, hi'⟩ | ⟨hge, hi'⟩
    · rcases cut j g2 hj with ⟨hlt2, hj'⟩ | ⟨hge2, hj'⟩
      · exact r4 i j g g2 hij hi' hj'
      · exact key i _ g g2 hi' hj'
    · rcases cut j g2 hj with ⟨hlt2, hj'⟩ | ⟨hge2, hj'⟩
      · exact (key j _ g2 g hj' hi').symm
      · exact p4 _ _ g g2 (by omega) hi' hj'
/-- what the call owns may be given up: from then on it stays as it is -/
theorem SH.freeze {k : Nat} {X : Asrt} (s : SH K h w A) (hk : A[k]? = some X) : ∃ g, X g ∧ Disj h g ∧ SH K (h.join g) w (A.set k tru) := by
  obtain ⟨gs, p1, p2, p3, p4⟩ := s.parts
  have hkl : k < gs.length := by rw [p1]; exact (List.getElem?_eq_some_iff.1 hk).1
  have hg : gs[k]? = some gs[k] := List.getElem?_eq_getElem hkl
  have own := p3 k _ hg
  refine ⟨gs[k], p2 k _ X hg hk, own.disj, s.kept, s.sub.join own.sub, fun b hb => ?_, gs.set k (fun _ => none), by simp [p1], fun i g Y hi hY => ?_, fun i g hi => ?_, fun i j g g2 hij hi hj => ?_⟩
  · cases e : h b with
    | some o => exact s.fresh b (by simp [e])
    | none => exact .inr (own.free b (by simpa [FH.join, e] using hb))
  · rcases list_set_get hi with ⟨rfl, rfl, _⟩ | ⟨hne, hi'⟩
    · rcases list_set_get hY with ⟨_, rfl, _⟩ | ⟨hne, _⟩
      · trivial
      · exact absurd rfl hne
    · rcases list_set_get hY with ⟨rfl, _, _⟩ | ⟨_, hY'⟩
      · exact absurd rfl hne
      · exact p2 i g Y hi' hY'
  · rcases list_set_get hi with ⟨rfl, rfl, _⟩ | ⟨hne, hi'⟩
    · exact ⟨fun _ => .inr rfl, (fun _ _ e => by cases e), (fun _ e => absurd rfl e)⟩
    · have o := p3 i g hi'
      refine ⟨fun b => ?_, o.sub, o.free⟩
      rcases o.disj b with e | e
      · rcases p4 i k g _ hne hi' hg b with x | x
        · exact .inr x
        · exact .inl (by simp [FH.join, e, x])
      · exact .inr e
  · rcases list_set_get hi with ⟨rfl, rfl, _⟩ | ⟨hne, hi'⟩
    · exact fun _ => .inl rfl
    · rcases list_set_get hj with ⟨rfl, rfl, _⟩ | ⟨hne2, hj'⟩
      · exact fun _ => .inr rfl
      · exact p4 i j g g2 hij hi' hj'
theorem SH.drop {X : Asrt} (s : SH K h w (X :: A)) : SH K h w A := by
  obtain ⟨gs, p1, p2, p3, p4⟩ := s.parts
  cases gs with
  | nil => simp at p1
  | cons g gs =>
    refine ⟨s.kept, s.sub, s.fresh, gs, by simpa using p1, fun i g1 Y hi hY => p2 (i + 1) g1 Y (by simpa using hi) (by simpa using hY), fun i g1 hi => p3 (i + 1) g1 (by simpa using hi), fun i j g1 g2 hij hi hj => p4 (i + 1) (j + 1) g1 g2 (by omega) (by simpa using hi) (by simpa using hj)⟩
theorem SH.forget (s : SH K h w A) (k : Nat) : SH K h w (A.set k tru) := by
  obtain ⟨gs, p1, p2, p3, p4⟩ := s.parts
  refine ⟨s.kept, s.sub, s.fresh, gs, by simpa using p1, fun i g1 Y hi hY => ?_, p3, p4⟩
  rcases list_set_get hY with ⟨_, rfl, _⟩ | ⟨_, hY'⟩
  · trivial
  · exact p2 i g1 Y hi hY'
/-- an assertion may be weakened -/
theorem SH.weaken {k : Nat} {X Y : Asrt} (s : SH K h w A) (hk : A[k]? = some X) (hxy : ∀ g, X g → Y g) : SH K h w (A.set k Y) := by
  obtain ⟨gs, p1, p2, p3, p4⟩ := s.parts
  refine ⟨s.kept, s.sub, s.fresh, gs, by simpa using p1, fun i g1 Z hi hZ => ?_, p3, p4⟩
  rcases list_set_get hZ with ⟨rfl, rfl, _⟩ | ⟨_, hZ'⟩
  · exact hxy _ (p2 i g1 X hi hk)
  · exact p2 i g1 Z hi hZ'
/-- a part is read as memory that stays, as long as nothing writes it -/
theorem SH.look {k : Nat} {X : Asrt} (s : SH K h w A) (hk : A[k]? = some X) : ∃ g, X g ∧ Disj h g ∧ Sub (h.join g) w := by
  obtain ⟨g, hx, own, _⟩ := s.upd hk
  exact ⟨g, hx, own.disj, s.sub.join own.sub⟩
end

/-! ### the slots of a frame -/
abbrev St := List (Nat × Value)
def get : List (Nat × Value) → Nat → Option Value
  | [], _ => none
  | (k, v) :: r, t => bif Nat.beq k t then some v else get r t
/-- a frame: how many slots it has; how it is walked (plainly; inside a fence, as a call or as a round of a loop over a function); the blocks for the deferred calls of the rounds of its own such loops -/
structure Fr where
  sz : Nat
  ro : Option (Option Nat)
  dl : List Nat
def mark (D : Nat) : Deferred := { target := .collected D, args := #[] }
structure Holds (n : Fr) (s : St) (a : Act) : Prop where
  defers : a.defers = n.dl.map mark
  size : a.tmps.size = n.sz
  slots : ∀ t v, get s t = some v → a.tmps[t]? = some v
def ev (s : St) : Operand → Option Value
  | .tmp t => get s t
  | .const v => some v
  | .global g => some (.pointer (some ⟨g, 0, none⟩))
  | .func f => some (.func (.func f) #[] #[])
def evs (s : St) : List Operand → Option (List Value)
  | [] => some []
  | x :: r => match ev s x with
    | none => none
    | some v => match evs s r with
      | none => none
      | some vs => some (v :: vs)
section
variable {n : Fr} {s : St} {a : Act}
theorem Holds.getD (H : Holds n s a) {t : Nat} {v : Value} (e : get s t = some v) : a.tmps.getD t undef = v := by
  rw [Array.getD_eq_getD_getElem?, H.slots t v e]; rfl
theorem Holds.ev (H : Holds n s a) {x : Operand} {v : Value} (e : ev s x = some v) : a.eval x = v := by
  cases x with
  | tmp t => exact H.getD e
  | const u => exact Option.some.inj e
  | global g => exact Option.some.inj e
  | func f => exact Option.some.inj e
theorem Holds.evs (H : Holds n s a) {xs : List Operand} {vs : List Value} (e : evs s xs = some vs) : xs.map a.eval = vs := by
  induction xs generalizing vs with
  | nil => simpa [Pl.evs] using e
  | cons x r ih =>
    simp only [Pl.evs] at e
    split at e
    · cases e
    · rename_i v hv
      split at e
      · cases e
      · rename_i vs' hvs
        obtain rfl := Option.some.inj e
        simp [H.ev hv, ih hvs]
theorem Holds.put (H : Holds n s a) {d : Nat} (v : Value) (hd : Nat.blt d n.sz = true) : Holds n ((d, v) :: s) (a.put (some d) v) := by
  have hd' : d < n.sz := by simpa using hd
  refine ⟨H.defers, by simp [Act.put, H.size], fun t u e => ?_⟩
  simp only [get] at e
  cases hb : Nat.beq d t with
  | true =>
    have : d = t := Nat.eq_of_beq_eq_true hb
    subst this
    simp only [hb, cond_true] at e
    obtain rfl := Option.some.inj e
    simp [Act.put, H.size, hd']
  | false =>
    have hne : d ≠ t := fun e' => by subst e'; simp at hb
    simp only [hb, cond_false] at e
    simp only [Act.put]
    rw [Array.getElem?_setIfInBounds_ne hne]
    exact H.slots t u e
/-- fewer slots -/
def SubSt : List (Nat × Value) → St → Prop
  | [], _ => True
  | (t, v) :: r, s => get s t = some v ∧ SubSt r s
theorem SubSt.get {s' s : St} (h : SubSt s' s) {t : Nat} {v : Value} (e : get s' t = some v) : Pl.get s t = some v := by
  induction s' with
  | nil => cases e
  | cons p r ih =>
    obtain ⟨t', v'⟩ := p
    simp only [Pl.get] at e
    cases hb : Nat.beq t' t with
    | true =>
      have := Nat.eq_of_beq_eq_true hb
      subst this
      simp only [hb, cond_true] at e
      obtain rfl := Option.some.inj e
      exact h.1
    | false => simp only [hb, cond_false] at e; exact ih h.2 e
theorem Holds.sub {s' : St} (H : Holds n s a) (h : SubSt s' s) : Holds n s' a := ⟨H.defers, H.size, fun t v e => H.slots t v (h.get e)⟩
end

/-! ### judgments -/
abbrev FR (l : Option Nat) : Fence := { Fence.wide with round := l }
/-- code, and a list of operations, in a frame that is a call's or a round's -/
def WC (P : Program) (ro : Option (Option Nat)) (c : Code) (Q : Exit → Act → World → Prop) (a : Act) (w : World) : Prop :=
  match ro with
  | none => c.wp P Q a w
  | some l => c.wpIn (FR l) 0 P Q a w
def WL (P : Program) (ro : Option (Option Nat)) (ops : Array Oper) (Q : Exit → Act → World → Prop) (l : List Oper) (a : Act) (w : World) : Prop :=
  match ro with
  | none => wpList P ops Q l a w
  | some r => wpListIn (FR r) 0 P ops Q l a w
section
variable {P : Program} {K : Kp} {n : Fr}
def J (P : Program) (K : Kp) (n : Fr) (c : Code) (Q : Exit → Act → World → Prop) (s : St) (A : List Asrt) (h : FH) : Prop :=
  ∀ a w, Holds n s a → SH K h w A → WC P n.ro c Q a w
def JL (P : Program) (K : Kp) (n : Fr) (ops : Array Oper) (l : List Oper) (Q : Exit → Act → World → Prop) (s : St) (A : List Asrt) (h : FH) : Prop :=
  ∀ a w, Holds n s a → SH K h w A → WL P n.ro ops Q l a w
def E (K : Kp) (n : Fr) (Q : Exit → Act → World → Prop) (e : Exit) (s : St) (A : List Asrt) (h : FH) : Prop :=
  ∀ a w, Holds n s a → SH K h w A → Q e a w
variable {Q : Exit → Act → World → Prop} {s s' : St} {A : List Asrt} {h h' : FH}
theorem J.up (hl : FH.le h h') {c : Code} (j : J P K n c Q s A h) : J P K n c Q s A h' := fun a w H S => j a w H (S.anti hl)
theorem J.sub (hs : SubSt s' s) {c : Code} (j : J P K n c Q s' A h) : J P K n c Q s A h := fun a w H S => j a w (H.sub hs) S
theorem J.drop {c : Code} {X : Asrt} (j : J P K n c Q s A h) : J P K n c Q s (X :: A) h := fun a w H S => j a w H S.drop
theorem J.seq {x y : Code} (j : J P K n x (Exit.then (fun a w => WC P n.ro y Q a w) Q) s A h) : J P K n (.seq x y) Q s A h := by
  obtain ⟨m, ro, dl⟩ := n
  cases ro with
  | none => exact fun a w H S => wp_seq (j a w H S)
  | some l => exact fun a w H S => wpIn_seq (j a w H S)
theorem J.cond {c : Operand} {x y : Code} {b : Bool} (hc : ev s c = some (.bool b)) (ht : b = true → J P K n x Q s A h) (hf : b = false → J P K n y Q s A h) : J P K n (.cond c x y) Q s A h := by
  obtain ⟨m, ro, dl⟩ := n
  cases ro with
  | none => exact fun a w H S => wp_cond_split (H.ev hc) (fun e => ht e a w H S) (fun e => hf e a w H S)
  | some l => exact fun a w H S => wpIn_cond_split (H.ev hc) (fun e => ht e a w H S) (fun e => hf e a w H S)
theorem J.block {id : Nat} {c : Code} (j : J P K n c (Exit.inBlock id Q) s A h) : J P K n (.block id c) Q s A h := by
  obtain ⟨m, ro, dl⟩ := n
  cases ro with
  | none => exact fun a w H S => wp_block (j a w H S)
  | some l => exact fun a w H S => wpIn_block (j a w H S)
theorem J.region {id : Nat} {l : List Oper} (j : JL P K n l.toArray l Q s A h) : J P K n (.region id l.toArray false) Q s A h := by
  obtain ⟨m, ro, dl⟩ := n
  cases ro with
  | none => exact fun a w H S => wp_region_lit (j a w H S)
  | some l => exact fun a w H S => wpIn_region_lit (j a w H S)
theorem J.skip (j : E K n Q .normal s A h) : J P K n .skip Q s A h := by
  obtain ⟨m, ro, dl⟩ := n
  cases ro with
  | none => exact fun a w H S => wp_skip (j a w H S)
  | some l => exact fun a w H S => wpIn_skip (j a w H S)
theorem J.exit {id : Nat} (j : E K n Q (.exit id) s A h) : J P K n (.exit id) Q s A h := by
  obtain ⟨m, ro, dl⟩ := n
  cases ro with
  | none => exact fun a w H S => wp_exit (j a w H S)
  | some l => exact fun a w H S => wpIn_exit (j a w H S)
theorem J.ret (j : E K n Q .ret s A h) : J P K n .ret Q s A h := by
  obtain ⟨m, ro, dl⟩ := n
  cases ro with
  | none => exact fun a w H S => wp_ret (j a w H S)
  | some l => exact fun a w H S => wpIn_ret (j a w H S)
theorem JL.nil {ops : Array Oper} (j : E K n Q .normal s A h) : JL P K n ops [] Q s A h := by
  obtain ⟨m, ro, dl⟩ := n
  cases ro with
  | none => exact fun a w H S => wpList_nil (P := P) (ops := ops) (j a w H S)
  | some l => exact fun a w H S => wpListIn_nil (F := FR l) (n := 0) (P := P) (ops := ops) (j a w H S)
theorem JL.up (hl : FH.le h h') {ops : Array Oper} {l : List Oper} (j : JL P K n ops l Q s A h) : JL P K n ops l Q s A h' := fun a w H S => j a w H (S.anti hl)
theorem JL.sub (hs : SubSt s' s) {ops : Array Oper} {l : List Oper} (j : JL P K n ops l Q s' A h) : JL P K n ops l Q s A h := fun a w H S => j a w (H.sub hs) S
theorem JL.drop {ops : Array Oper} {l : List Oper} {X : Asrt} (j : JL P K n ops l Q s A h) : JL P K n ops l Q s (X :: A) h := fun a w H S => j a w H S.drop
theorem E.up {e : Exit} (hl : FH.le h h') (j : E K n Q e s A h) : E K n Q e s A h' := fun a w H S => j a w H (S.anti hl)
theorem E.sub {e : Exit} (hs : SubSt s' s) (j : E K n Q e s' A h) : E K n Q e s A h := fun a w H S => j a w (H.sub hs) S
theorem E.drop {e : Exit} {X : Asrt} (j : E K n Q e s A h) : E K n Q e s (X :: A) h := fun a w H S => j a w H S.drop
theorem E.seqN {y : Code} (j : J P K n y Q s A h) : E K n (Exit.then (fun a w => WC P n.ro y Q a w) Q) .normal s A h := j
theorem E.seqR {F : Act → World → Prop} (j : E K n Q .ret s A h) : E K n (Exit.then F Q) .ret s A h := j
theorem E.seqX {F : Act → World → Prop} {i : Nat} (j : E K n Q (.exit i) s A h) : E K n (Exit.then F Q) (.exit i) s A h := j
theorem E.blkN {id : Nat} (j : E K n Q .normal s A h) : E K n (Exit.inBlock id Q) .normal s A h := j
theorem E.blkR {id : Nat} (j : E K n Q .ret s A h) : E K n (Exit.inBlock id Q) .ret s A h := j
theorem E.blkX {id : Nat} (j : E K n Q .normal s A h) : E K n (Exit.inBlock id Q) (.exit id) s A h := fun a w H S => by
  simp only [Exit.inBlock, if_true]; exact j a w H S
theorem E.blkY {id i : Nat} (hne : Nat.beq i id = false) (j : E K n Q (.exit i) s A h) : E K n (Exit.inBlock id Q) (.exit i) s A h := fun a w H S => by
  have hn : i ≠ id := fun e => by subst e; simp at hne
  simp only [Exit.inBlock, hn, if_false]; exact j a w H S
theorem least {p : Nat → Prop} (h : ∃ k, p k) : ∃ k, p k ∧ ∀ j, p j → k ≤ j := by
  obtain ⟨k, hk⟩ := h
  induction k using Nat.strongRecOn with
  | _ k ih =>
    by_cases hx : ∃ j, j < k ∧ p j
    · obtain ⟨j, hj, hp⟩ := hx; exact ih j hj hp
    · exact ⟨k, hk, fun j hj => Nat.le_of_not_lt fun hlt => hx ⟨j, hlt, hj⟩⟩
open Classical in
noncomputable def leastOf (p : Nat → Prop) : Nat := if h : ∃ k, p k then Classical.choose (least h) else 0
theorem leastOf_spec {p : Nat → Prop} (h : ∃ k, p k) : p (leastOf p) ∧ ∀ j, p j → leastOf p ≤ j := by
  unfold leastOf
  rw [dif_pos h]
  exact Classical.choose_spec (least h)
theorem WC.loop {ro : Option (Option Nat)} {c : Code} {a : Act} {w : World} (I : Act → World → Prop) (μ : Act → World → Nat) (h0 : I a w)
    (round : ∀ a w, I a w → WC P ro c (fun e a' w' => match e with | .normal => I a' w' ∧ μ a' w' < μ a w | e => Q e a' w') a w) : WC P ro (.loop c) Q a w := by
  cases ro with
  | none =>
    refine wp_loop I μ h0 fun a w hi => Code.wp_mono (fun e a' w' q => ?_) (round a w hi)
    cases e <;> exact q
  | some l =>
    refine wpIn_loop I μ h0 fun a w hi => wpIn_mono (round a w hi) (fun e a' w' q => ?_)
    cases e <;> exact q
theorem WC.mono {ro : Option (Option Nat)} {c : Code} {a : Act} {w : World} {Q Q' : Exit → Act → World → Prop} (hq : ∀ e a w, Q e a w → Q' e a w) (hc : WC P ro c Q a w) : WC P ro c Q' a w := by
  cases ro with
  | none => exact Code.wp_mono (fun e a w => hq e a w) hc
  | some l => exact wpIn_mono hc hq
/-- a loop: a relation of a state to the frame, the slots and the memory, kept by every round, and a measure -/
theorem J.loopN {σ : Type} (I : σ → Prop) (μ : σ → Nat) (N : σ → Fr) (S : σ → St) (M : σ → List Asrt) (F : σ → FH) {c : Code} (x0 : σ) (hI : I x0) (hn : ∀ x, (N x).ro = n.ro) (h0 : N x0 = n)
    (round : ∀ x, I x → J P K (N x) c (Exit.then (fun a w => ∃ y, I y ∧ μ y < μ x ∧ Holds (N y) (S y) a ∧ SH K (F y) w (M y)) Q) (S x) (M x) (F x)) :
    J P K n (.loop c) Q (S x0) (M x0) (F x0) := fun a w H Sh => by
  refine WC.loop (fun a w => ∃ x, I x ∧ Holds (N x) (S x) a ∧ SH K (F x) w (M x)) (fun a w => leastOf fun k => ∃ x, μ x = k ∧ I x ∧ Holds (N x) (S x) a ∧ SH K (F x) w (M x)) ⟨x0, hI, by rw [h0]; exact H, Sh⟩ ?_
  intro a w hx
  have he : ∃ k, ∃ x, μ x = k ∧ I x ∧ Holds (N x) (S x) a ∧ SH K (F x) w (M x) := by obtain ⟨x, h⟩ := hx; exact ⟨μ x, x, rfl, h⟩
  obtain ⟨⟨x, h0, h1, h2, h3⟩, _⟩ := leastOf_spec he
  have hr := round x h1 a w h2 h3
  rw [hn] at hr
  refine WC.mono (fun e a' w' q => ?_) hr
  cases e with
  | normal =>
    obtain ⟨y, y1, y2, y3, y4⟩ := q
    refine ⟨⟨y, y1, y3, y4⟩, ?_⟩
    have hl := (leastOf_spec (p := fun k => ∃ x, μ x = k ∧ I x ∧ Holds (N x) (S x) a' ∧ SH K (F x) w' (M x)) ⟨μ y, y, rfl, y1, y3, y4⟩).2 (μ y) ⟨y, rfl, y1, y3, y4⟩
    exact Nat.lt_of_le_of_lt hl (by rw [← h0]; exact y2)
  | exit id => exact q
  | goto l => exact q
  | ret => exact q
  | panic ch => exact q
  | outgrown => exact q
theorem J.loop {σ : Type} (I : σ → Prop) (μ : σ → Nat) (S : σ → St) (M : σ → List Asrt) (F : σ → FH) {c : Code} (x0 : σ) (hI : I x0)
    (round : ∀ x, I x → J P K n c (Exit.then (fun a w => ∃ y, I y ∧ μ y < μ x ∧ Holds n (S y) a ∧ SH K (F y) w (M y)) Q) (S x) (M x) (F x)) :
    J P K n (.loop c) Q (S x0) (M x0) (F x0) := J.loopN I μ (fun _ => n) S M F x0 hI (fun _ => rfl) rfl round
/-- the end of a round -/
theorem E.round {σ : Type} {I : σ → Prop} {μ : σ → Nat} {S : σ → St} {M : σ → List Asrt} {F : σ → FH} {m : Nat} (y : σ) (hI : I y) (hμ : μ y < m) (hs : SubSt (S y) s) (hm : M y = A) (hf : FH.le (F y) h) :
    E K n (Exit.then (fun a w => ∃ y, I y ∧ μ y < m ∧ Holds n (S y) a ∧ SH K (F y) w (M y)) Q) .normal s A h :=
  fun a w H Sh => ⟨y, hI, hμ, H.sub hs, by rw [hm]; exact Sh.anti hf⟩
end
end Go.Proofs.YtojoehfldbimpaaGreatDoor.Pl

