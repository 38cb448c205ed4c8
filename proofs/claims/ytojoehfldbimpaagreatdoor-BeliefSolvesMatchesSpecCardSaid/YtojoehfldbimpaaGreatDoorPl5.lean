/- How plain data lies in memory: numbers, structs of them, slices of such data; slices of slices that the call owns row by row. No condition. -/
import Derived.Test.YtojoehfldbimpaaGreatDoorPl4
namespace Go.Proofs.YtojoehfldbimpaaGreatDoor.Pl
open Go Go.RowKit

class Rep (α : Type) where
  sz : Nat
  rep : FH → α → List Value → Prop
  len : ∀ {h x cs}, rep h x cs → cs.length = sz
  mono : ∀ {h h' x cs}, FH.le h h' → rep h x cs → rep h' x cs
  one : ∀ {h x cs}, rep h x cs → ∀ v ∈ cs, v.oneCell' = true
/-- data without addresses: its cells are known -/
class Flat (α : Type) where
  sz : Nat
  fl : α → List Value
  len : ∀ x, (fl x).length = sz
  one : ∀ x, ∀ v ∈ fl x, v.oneCell' = true
instance {α : Type} [F : Flat α] : Rep α := ⟨F.sz, fun _ x cs => cs = F.fl x, fun e => by rw [e]; exact F.len _, fun _ e => e, fun e => by rw [e]; exact F.one _⟩
instance : Flat Int := ⟨1, fun x => [.int .i64 x], fun _ => rfl, fun x v hv => by simp at hv; subst hv; rfl⟩
instance : Flat Bool := ⟨1, fun x => [.bool x], fun _ => rfl, fun x v hv => by simp at hv; subst hv; rfl⟩
def flL {α : Type} [Flat α] : List α → List Value
  | [] => []
  | x :: r => Flat.fl x ++ flL r
def RepL {α : Type} [Rep α] (h : FH) : List α → List Value → Prop
  | [], cs => cs = []
  | x :: r, cs => ∃ c cs', cs = c ++ cs' ∧ Rep.rep h x c ∧ RepL h r cs'
def RSl {α : Type} [Rep α] (h : FH) (a : Option Addr) (xs : List α) : Prop := ∃ cs, RepL h xs cs ∧ RawSl h a cs
def gt {α : Type} [Inhabited α] (xs : List α) (i : Int) : α := xs.getD i.toNat default
def inb {α : Type} (xs : List α) (i : Int) : Prop := 0 ≤ i ∧ i < xs.length
instance {α : Type} (xs : List α) (i : Int) : Decidable (inb xs i) := by unfold inb; infer_instance
section
variable {α : Type}
theorem flL_len [Flat α] (xs : List α) : (flL xs).length = xs.length * Flat.sz α := by
  induction xs with
  | nil => simp [flL]
  | cons x r ih => simp only [flL, List.length_append, Flat.len, ih, List.length_cons, Nat.add_mul]; omega
theorem flL_append [Flat α] (xs ys : List α) : flL (xs ++ ys) = flL xs ++ flL ys := by
  induction xs with
  | nil => rfl
  | cons x r ih => simp [flL, ih]
theorem flL_one [Flat α] (xs : List α) : ∀ v ∈ flL xs, v.oneCell' = true := by
  induction xs with
  | nil => intro v hv; cases hv
  | cons x r ih =>
    intro v hv
    rcases List.mem_append.1 hv with h | h
    · exact Flat.one x v h
    · exact ih v h
theorem flL_rep [Flat α] {h : FH} {xs : List α} {cs : List Value} : RepL h xs cs ↔ cs = flL xs := by
  induction xs generalizing cs with
  | nil => rfl
  | cons x r ih =>
    constructor
    · rintro ⟨c, cs', rfl, hc, hr⟩
      rw [ih.1 hr]
      show c ++ _ = _
      rw [show c = Flat.fl x from hc]; rfl
    · intro e
      exact ⟨Flat.fl x, flL r, e, rfl, ih.2 rfl⟩
theorem RepL.len [Rep α] {h : FH} {xs : List α} {cs : List Value} (r : RepL h xs cs) : cs.length = xs.length * Rep.sz α := by
  induction xs generalizing cs with
  | nil => rw [show cs = [] from r]; simp
  | cons x rr ih =>
    obtain ⟨c, cs', rfl, hc, hr⟩ := r
    rw [List.length_append, Rep.len hc, ih hr, List.length_cons, Nat.add_mul]; omega
theorem RepL.mono [Rep α] {h h' : FH} {xs : List α} {cs : List Value} (hl : FH.le h h') (r : RepL h xs cs) : RepL h' xs cs := by
  induction xs generalizing cs with
  | nil => exact r
  | cons x rr ih =>
    obtain ⟨c, cs', rfl, hc, hr⟩ := r
    exact ⟨c, cs', rfl, Rep.mono hl hc, ih hr⟩
theorem RepL.one [Rep α] {h : FH} {xs : List α} {cs : List Value} (r : RepL h xs cs) : ∀ v ∈ cs, v.oneCell' = true := by
  induction xs generalizing cs with
  | nil => rw [show cs = [] from r]; intro v hv; cases hv
  | cons x rr ih =>
    obtain ⟨c, cs', rfl, hc, hr⟩ := r
    intro v hv
    rcases List.mem_append.1 hv with q | q
    · exact Rep.one hc v q
    · exact ih hr v q
theorem RepL.append [Rep α] {h : FH} {xs ys : List α} {cs ds : List Value} (r : RepL h xs cs) (q : RepL h ys ds) : RepL h (xs ++ ys) (cs ++ ds) := by
  induction xs generalizing cs with
  | nil => rw [show cs = [] from r]; exact q
  | cons x rr ih =>
    obtain ⟨c, cs', rfl, hc, hr⟩ := r
    exact ⟨c, cs' ++ ds, by simp, hc, ih hr⟩
theorem RepL.get [Rep α] {h : FH} {xs : List α} {cs : List Value} (r : RepL h xs cs) {i : Nat} {x : α} (hi : xs[i]? = some x) : ∃ c, Rep.rep h x c ∧ ∀ j v, c[j]? = some v → cs[i * Rep.sz α + j]? = some v := by
  induction xs generalizing cs i with
  | nil => simp at hi
  | cons y rr ih =>
    obtain ⟨c, cs', rfl, hc, hr⟩ := r
    cases i with
    | zero =>
      simp at hi; subst hi
      refine ⟨c, hc, fun j v e => ?_⟩
      have hj := (List.getElem?_eq_some_iff.1 e).1
      rw [Nat.zero_mul, Nat.zero_add, List.getElem?_append_left hj]; exact e
    | succ i =>
      simp at hi
      obtain ⟨c', h1, h2⟩ := ih hr hi
      refine ⟨c', h1, fun j v e => ?_⟩
      have hl := Rep.len hc
      rw [List.getElem?_append_right (by rw [hl, Nat.add_mul]; omega)]
      have : (i + 1) * Rep.sz α + j - c.length = i * Rep.sz α + j := by rw [hl, Nat.add_mul]; omega
      rw [this]; exact h2 j v e
theorem RepL.set [Rep α] {h : FH} {xs : List α} {cs : List Value} (r : RepL h xs cs) {i : Nat} (hi : i < xs.length) {y : α} {c : List Value} (hc : Rep.rep h y c) : RepL h (xs.set i y) (wrL cs (i * Rep.sz α) c) := by
  induction xs generalizing cs i with
  | nil => simp at hi
  | cons z rr ih =>
    obtain ⟨c0, cs', rfl, hc0, hr⟩ := r
    have hl := Rep.len hc
    have hl0 := Rep.len hc0
    cases i with
    | zero =>
      refine ⟨c, cs', ?_, hc, hr⟩
      simp [wrL, hl, ← hl0]
    | succ i =>
      refine ⟨c0, _, ?_, hc0, ih hr (by simpa using hi)⟩
      have e1 : (i + 1) * Rep.sz α = c0.length + i * Rep.sz α := by rw [hl0, Nat.add_mul]; omega
      simp only [wrL, e1, List.take_append, List.drop_append]
      simp [List.take_of_length_le, Nat.add_assoc]
theorem gt_get [Inhabited α] {xs : List α} {i : Int} (hi : inb xs i) : xs[i.toNat]? = some (gt xs i) := by
  have : i.toNat < xs.length := by have := hi.1; have := hi.2; omega
  simp [gt, this]
theorem inb_lt {xs : List α} {i : Int} (hi : inb xs i) : i.toNat < xs.length := by have := hi.1; have := hi.2; omega
theorem inb_pos {xs : List α} {i : Int} (hi : inb xs i) : 0 < xs.length := by have := inb_lt hi; omega
theorem RSl.mono [Rep α] {h h' : FH} {a : Option Addr} {xs : List α} (hl : FH.le h h') (r : RSl h a xs) : RSl h' a xs := by
  obtain ⟨cs, h1, h2⟩ := r
  exact ⟨cs, h1.mono hl, h2.mono hl⟩
theorem RSl.ne [Rep α] {h : FH} {a : Option Addr} {xs : List α} (r : RSl h a xs) (hz : 0 < Rep.sz α) (hx : 0 < xs.length) : a ≠ none := by
  obtain ⟨cs, h1, h2⟩ := r
  have hl : 0 < cs.length := by rw [h1.len]; exact Nat.mul_pos hx hz
  exact (h2 0 cs[0] (List.getElem?_eq_getElem hl)).1
theorem RSl.elem [Rep α] [Inhabited α] {h : FH} {a : Option Addr} {xs : List α} (r : RSl h a xs) {i : Int} (hi : inb xs i) : ∃ c, Rep.rep h (gt xs i) c ∧ (0 < Rep.sz α → CellsAt h (ead a (i.toNat * Rep.sz α)) c) := by
  obtain ⟨cs, h1, h2⟩ := r
  obtain ⟨c, hc, hj⟩ := h1.get (gt_get hi)
  refine ⟨c, hc, fun hz j v e => ?_⟩
  have hne : a ≠ none := by
    have hl : 0 < cs.length := by rw [h1.len]; exact Nat.mul_pos (inb_pos hi) hz
    exact (h2 0 cs[0] (List.getElem?_eq_getElem hl)).1
  rw [ead_add hne]
  exact (h2 _ v (hj j v e)).2
theorem RSl.elemF [Flat α] [Inhabited α] {h : FH} {a : Option Addr} {xs : List α} (r : RSl h a xs) {i : Int} (hi : inb xs i) (hz : 0 < Flat.sz α) : CellsAt h (ead a (i.toNat * Flat.sz α)) (Flat.fl (gt xs i)) := by
  obtain ⟨c, hc, hh⟩ := r.elem hi
  have := hh hz
  rwa [show c = Flat.fl (gt xs i) from hc] at this
theorem RSl.raw [Flat α] {h : FH} {a : Option Addr} {xs : List α} (r : RSl h a xs) : RawSl h a (flL xs) := by
  obtain ⟨cs, h1, h2⟩ := r
  rwa [flL_rep.1 h1] at h2
theorem RSl.of [Flat α] {h : FH} {a : Option Addr} {xs : List α} (r : RawSl h a (flL xs)) : RSl h a xs := ⟨_, flL_rep.2 rfl, r⟩
theorem RSl.nil_ [Rep α] {h : FH} {a : Option Addr} : RSl h a ([] : List α) := ⟨[], rfl, fun j v e => by simp at e⟩
theorem flL_get [Flat α] [Inhabited α] {xs : List α} {i : Int} (hi : inb xs i) {j : Nat} {v : Value} (hv : (Flat.fl (gt xs i))[j]? = some v) : (flL xs)[i.toNat * Flat.sz α + j]? = some v := by
  obtain ⟨c, hc, hj⟩ := (flL_rep (h := fun _ => none) (xs := xs)).2 rfl |>.get (gt_get hi)
  rw [show c = Flat.fl (gt xs i) from hc] at hj
  exact hj j v hv
theorem flL_set [Flat α] {xs : List α} {i : Int} (hi : inb xs i) (y : α) : wrL (flL xs) (i.toNat * Flat.sz α) (Flat.fl y) = flL (xs.set i.toNat y) :=
  flL_rep.1 ((flL_rep (h := fun _ => none) (xs := xs)).2 rfl |>.set (inb_lt hi) (show Rep.rep _ y (Flat.fl y) from rfl))
theorem OwnSl.len {e : TypeId} {sz m c : Nat} {a : Option Addr} {cs : List Value} {g : FH} (hx : OwnSl e sz a m c cs g) : m ≤ c := by
  rcases hx.2 with ⟨_, rfl, _⟩ | ⟨b, cur, rfl, _, h1, _⟩
  · exact Nat.zero_le _
  · exact h1
/-- a slice of slices: an element is a slice that stays -/
instance [Rep α] : Rep (List α) := ⟨1, fun h xs cs => ∃ a c, cs = [.slice a xs.length c] ∧ xs.length ≤ c ∧ RSl h a xs, fun ⟨_, _, e, _⟩ => by rw [e]; rfl, fun hl ⟨a, c, e, l, r⟩ => ⟨a, c, e, l, r.mono hl⟩, fun ⟨_, _, e, _⟩ v hv => by rw [e] at hv; simp at hv; subst hv; rfl⟩
end

theorem set_same {β : Type} {l : List β} {i : Nat} {x : β} (h : l[i]? = some x) : l.set i x = l := by
  apply List.ext_getElem?
  intro j
  by_cases e : i = j
  · subst e; rw [List.getElem?_set, h]; simp [(List.getElem?_eq_some_iff.1 h).1]
  · rw [List.getElem?_set_ne e]
section
variable {P : Program} {K : Kp} {n : Fr} {ops : Array Oper} {Q : Exit → Act → World → Prop} {s : St} {A A' : List Asrt} {h : FH} {l : List Oper} {c : Code} {ex : Exit}
theorem JL.cast (hA : A = A') (j : JL P K n ops l Q s A' h) : JL P K n ops l Q s A h := by subst hA; exact j
theorem J.cast (hA : A = A') (j : J P K n c Q s A' h) : J P K n c Q s A h := by subst hA; exact j
theorem E.cast (hA : A = A') (j : E K n Q ex s A' h) : E K n Q ex s A h := by subst hA; exact j
theorem SH.perm {w : World} {X Y : List Asrt} (S : SH K h w (X ++ Y)) : SH K h w (Y ++ X) := by
  obtain ⟨gs, p1, p2, p3, p4⟩ := S.parts
  have hX : (gs.take X.length).length = X.length := by simp [p1]
  have hY : (gs.drop X.length).length = Y.length := by simp [p1]
  have cut : ∀ (i : Nat) (g : FH), (gs.drop X.length ++ gs.take X.length)[i]? = some g → (i < Y.length ∧ gs[X.length + i]? = some g) ∨ (Y.length ≤ i ∧ i - Y.length < X.length ∧ gs[i - Y.length]? = some g) := fun i g hi => by
    by_cases hlt : i < Y.length
    · rw [List.getElem?_append_left (by omega), List.getElem?_drop] at hi; exact .inl ⟨hlt, hi⟩
    · rw [List.getElem?_append_right (by omega), hY, List.getElem?_take] at hi
      split at hi
      · rename_i h1; exact .inr ⟨by omega, h1, hi⟩
      · cases hi
  refine ⟨S.kept, S.sub, S.fresh, gs.drop X.length ++ gs.take X.length, by simp [p1], fun i g Z hi hZ => ?_, fun i g hi => ?_, fun i j g g2 hij hi hj => ?_⟩
  · rcases cut i g hi with ⟨h1, h2⟩ | ⟨h1, h2, h3⟩
    · rw [List.getElem?_append_left h1] at hZ
      exact p2 _ g Z h2 (by rw [List.getElem?_append_right (by omega)]; simpa using hZ)
    · rw [List.getElem?_append_right h1] at hZ
      exact p2 _ g Z h3 (by rw [List.getElem?_append_left h2]; exact hZ)
  · rcases cut i g hi with ⟨h1, h2⟩ | ⟨h1, h2, h3⟩
    · exact p3 _ g h2
    · exact p3 _ g h3
  · rcases cut i g hi with ⟨h1, h2⟩ | ⟨h1, h2, h3⟩ <;> rcases cut j g2 hj with ⟨k1, k2⟩ | ⟨k1, k2, k3⟩
    · exact p4 _ _ g g2 (by omega) h2 k2
    · exact p4 _ _ g g2 (by omega) h2 k3
    · exact p4 _ _ g g2 (by omega) h3 k2
    · exact p4 _ _ g g2 (by omega) h3 k3
theorem JL.perm {X Y : List Asrt} (j : JL P K n ops l Q s (Y ++ X) h) : JL P K n ops l Q s (X ++ Y) h := fun a w H S => j a w H S.perm
/-- what stands first takes another's place -/
theorem SH.move {w : World} {X : Asrt} (S : SH K h w (X :: A)) (k : Nat) : SH K h w (A.set k X) := by
  obtain ⟨gs, p1, p2, p3, p4⟩ := S.parts
  cases gs with
  | nil => simp at p1
  | cons g0 gs =>
    have hl : gs.length = A.length := by simpa using p1
    refine ⟨S.kept, S.sub, S.fresh, gs.set k g0, by simp [hl], fun i g Y hi hY => ?_, fun i g hi => ?_, fun i j g g2 hij hi hj => ?_⟩
    · rcases list_set_get hi with ⟨rfl, rfl, _⟩ | ⟨hne, hi'⟩
      · rcases list_set_get hY with ⟨_, rfl, _⟩ | ⟨hne, _⟩
        · exact p2 0 g Y rfl rfl
        · exact absurd rfl hne
      · rcases list_set_get hY with ⟨rfl, _, _⟩ | ⟨_, hY'⟩
        · exact absurd rfl hne
        · exact p2 (i + 1) g Y (by simpa using hi') (by simpa using hY')
    · rcases list_set_get hi with ⟨rfl, rfl, _⟩ | ⟨hne, hi'⟩
      · exact p3 0 g rfl
      · exact p3 (i + 1) g (by simpa using hi')
    · rcases list_set_get hi with ⟨rfl, rfl, _⟩ | ⟨hne, hi'⟩
      · rcases list_set_get hj with ⟨rfl, rfl, _⟩ | ⟨hne2, hj'⟩
        · exact absurd rfl hij
        · exact p4 0 (j + 1) g g2 (by omega) rfl (by simpa using hj')
      · rcases list_set_get hj with ⟨rfl, rfl, _⟩ | ⟨hne2, hj'⟩
        · exact p4 (i + 1) 0 g g2 (by omega) (by simpa using hi') rfl
        · exact p4 (i + 1) (j + 1) g g2 (by omega) (by simpa using hi') (by simpa using hj')
theorem JL.move {X : Asrt} (k : Nat) (j : JL P K n ops l Q s (A.set k X) h) : JL P K n ops l Q s (X :: A) h := fun a w H S => j a w H (S.move k)
theorem fl_room {α : Type} [Flat α] {xs : List α} {i : Int} (hi : inb xs i) : i.toNat * Flat.sz α + Flat.sz α ≤ (flL xs).length := by
  rw [flL_len]
  have h1 := inb_lt hi
  have : (i.toNat + 1) * Flat.sz α ≤ xs.length * Flat.sz α := Nat.mul_le_mul_right _ h1
  rw [Nat.add_mul] at this; omega
theorem cellF {k off i : Nat} {e : TypeId} {sz m c : Nat} {a : Option Addr} {cs : List Value} {v : Value} (hk : A[k]? = some (OwnSl e sz a m c cs)) (hv : cs[i + off]? = some v) : ∀ w, SH K h w A → w.cell? ((ead a i).add off) = some v := fun w S => by
  obtain ⟨g, hx, own, _⟩ := S.upd hk
  obtain ⟨h1, h2⟩ := hx.cells _ v hv
  rw [ead_add h1]
  exact own.sub.cell h2
/-- of what the call owns, one part alone -/
theorem SH.pick {w : World} {k : Nat} {X : Asrt} (S : SH K h w A) (hk : A[k]? = some X) : SH K h w [X] := by
  have : ∀ (B : List Asrt), SH K h w (X :: B) → SH K h w [X] := fun B SB => by
    have := SH.perm (X := [X]) (Y := B) SB
    clear SB
    induction B with
    | nil => exact this
    | cons y r ih => exact ih (SH.drop this)
  have hkl := (List.getElem?_eq_some_iff.1 hk).1
  have S2 := SH.perm (X := A.take k) (Y := A.drop k) (by rw [List.take_append_drop]; exact S)
  rw [List.drop_eq_getElem_cons hkl, (List.getElem?_eq_some_iff.1 hk).2] at S2
  exact this _ S2
theorem E.nilSl {Q : Exit → Act → World → Prop} (e : TypeId) (sz : Nat) (k : E K n Q ex s (OwnSl e sz none 0 0 [] :: A) h) : E K n Q ex s A h := fun a w H S =>
  k a w H (S.push (Below.refl _ _) (g := fun _ => none) ⟨by simp, .inl ⟨rfl, rfl, rfl, rfl⟩⟩ (fun _ _ x => by cases x) (fun _ x => absurd rfl x))
def room (m by_ : Nat) : Prop := m ≤ maxLen ∧ m * by_ ≤ 140737488355328
end
section
variable {P : Program} {K : Kp} {n : Fr} {s : St} {A : List Asrt} {h : FH} {dd : Option Tmp} {gd : Option (Nat × Bool)} {ty : TypeId} {pos : String} {af : Array Edge}
/-- structs of two numbers are compared -/
structure TEq2 (P : Program) (t : TypeId) : Prop where
  guard : P.eqGuardType P.depth t = false
  run : ∀ d a b c e w, (Op.equalIn (d + 2) t (.agg #[.int .i64 a, .int .i64 b]) (.agg #[.int .i64 c, .int .i64 e])).run P w = .ok (a == c && b == e) w
theorem eq2 {x y : Operand} {t t' : TypeId} {a b c e : Int} (ht : TEq2 P t) (hx : ev s x = some (.agg #[.int .i64 a, .int .i64 b])) (hy : ev s y = some (.agg #[.int .i64 c, .int .i64 e])) : VF P K n s A h ⟨dd, .binOp .eql t x y t', ty, pos, af, gd⟩ (.bool (a == c && b == e)) := fun ac w H _ => by
  simp only [execOp, H.ev hx, H.ev hy, Sem.run_bind, run_eqGuard_agg w .eql t x y _ _ ht.guard, Result.andThen_ok, run_eql_struct, ht.run 9998]
  rfl
theorem ne2 {x y : Operand} {t t' : TypeId} {a b c e : Int} (ht : TEq2 P t) (hx : ev s x = some (.agg #[.int .i64 a, .int .i64 b])) (hy : ev s y = some (.agg #[.int .i64 c, .int .i64 e])) : VF P K n s A h ⟨dd, .binOp .neq t x y t', ty, pos, af, gd⟩ (.bool (!(a == c && b == e))) := fun ac w H _ => by
  simp only [execOp, H.ev hx, H.ev hy, Sem.run_bind, run_eqGuard_agg w .neq t x y _ _ ht.guard, Result.andThen_ok, run_neq_struct, ht.run 9998]
  rfl
end
end Go.Proofs.YtojoehfldbimpaaGreatDoor.Pl

