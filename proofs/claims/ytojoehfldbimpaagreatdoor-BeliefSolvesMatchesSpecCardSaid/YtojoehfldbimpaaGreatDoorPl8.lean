/- From contracts to rows: arguments that are read and stay as they are. No condition. -/
import Derived.Test.YtojoehfldbimpaaGreatDoorRows
import Derived.Test.YtojoehfldbimpaaGreatDoorPl7
import Derived.ProofKit
import Derived.OpenShut
import Derived.JoinedCond
import Derived.Carry
import Derived.Below
import Derived.ChangeSame
import Derived.Deep.Slices
import Derived.Deep.Fields
import Derived.Lib.SmallJoins
import Derived.SizedLaws
namespace Go.Proofs.YtojoehfldbimpaaGreatDoor.Pl
open Go Go.RowKit Go.WideShapes Go.ChangeShapes Go.ChangeAt Go.Joins Go.Deep
section
variable {H : Type} {enc : TypeId × Value → H} {P : Program}
theorem all_stays (hl : laidOutB P = true) {W W' : World} (hb : Go.RowKit.Below W.heap.size W W') {sp : Nat → Bool} : ∀ (ts : List TypeId) (vs : List Value) (ds : List (DataW H)) (ps : List MemPlace),
    (ts.all fun t => P.readableRec t && decide (t < P.types.size)) = true → DataW.TrodAll enc P W 0 (fun _ => true) true ts vs ds ps → (∀ x ∈ ps, x.block < W.heap.size) → (∀ x ∈ ps, sp x.block = true) → DataW.TrodAll enc P W' 0 sp true ts vs ds ps
  | [], vs, ds, ps, _, h, _, _ => by
    cases vs with
    | nil => cases ds with
      | nil => exact h
      | cons _ _ => exact h.elim
    | cons _ _ => exact h.elim
  | t :: ts, vs, ds, ps, hr, h, hlt, hsp => by
    obtain ⟨v0, vs0, d0, ds0, p0, q0, rfl, rfl, rfl, h0, r0⟩ := trodAll_cons h
    simp only [List.all_cons, Bool.and_eq_true, decide_eq_true_eq] at hr
    refine trodAll_cons_mk (WideElems.Trod_stays hl hr.1.1 hr.1.2 h0 (fun x hx => hb.same (hlt x (by simp [hx]))) (fun x hx => hsp x (by simp [hx]))) ?_
    exact all_stays hl hb ts vs0 ds0 q0 (by simpa using hr.2) r0 (fun x hx => hlt x (by simp [hx])) (fun x hx => hsp x (by simp [hx]))
/-- the whole heap as memory that stays -/
def hold (W : World) : FH := fun b => W.heap[b]?
theorem hold_sub (W : World) : Sub (hold W) W := fun _ _ e => e
theorem hold_cell {W : World} {a : Addr} {v : Value} (e : W.cell? a = some v) : (hold W).cell a = some v := by
  unfold World.cell? at e
  unfold FH.cell hold
  cases hb : W.heap[a.block]? with
  | none => rw [hb] at e; cases e
  | some o => rw [hb] at e; cases o <;> simp_all
/-- a slice that stays, out of its elements' cells -/
theorem rsl_of {α : Type} [Rep α] {h : FH} : ∀ (xs : List α) (a : Addr), (∀ (i : Nat) (x : α), xs[i]? = some x → ∃ cs, Rep.rep h x cs ∧ CellsAt h (a.add (i * Rep.sz α)) cs) → RSl h (some a) xs
  | [], a, _ => RSl.nil_
  | x :: r, a, hx => by
    obtain ⟨cs, h1, h2⟩ := hx 0 x rfl
    obtain ⟨ds, g1, g2⟩ := rsl_of r (a.add (Rep.sz α)) fun i y hy => by
      obtain ⟨c, k1, k2⟩ := hx (i + 1) y (by simpa using hy)
      refine ⟨c, k1, ?_⟩
      rw [add_add, show Rep.sz α + i * Rep.sz α = (i + 1) * Rep.sz α by rw [Nat.add_mul]; omega]
      exact k2
    have hl := Rep.len h1
    refine ⟨cs ++ ds, ⟨cs, ds, rfl, h1, g1⟩, fun j v e => ⟨by simp, ?_⟩⟩
    show h.cell (a.add j) = some v
    by_cases hj : j < cs.length
    · rw [List.getElem?_append_left hj] at e
      have := h2 j v e
      rwa [add_add, Nat.zero_mul, Nat.zero_add] at this
    · rw [List.getElem?_append_right (by omega)] at e
      have := (g2 (j - cs.length) v e).2
      have e2 : ead (some (a.add (Rep.sz α))) (j - cs.length) = a.add j := by
        show (a.add (Rep.sz α)).add (j - cs.length) = a.add j
        rw [add_add, hl]; congr 1; omega
      rwa [e2] at this
/-- how many bytes an element takes -/
class Bytes (α : Type) where
  n : Nat
instance : Bytes Int := ⟨8⟩
instance {α : Type} : Bytes (List α) := ⟨24⟩
/-- no slice is longer than the form's own reach -/
class Siz (α : Type) where
  siz : α → Prop
instance : Siz Int := ⟨fun _ => True⟩
instance : Siz Bool := ⟨fun _ => True⟩
instance {α : Type} [Bytes α] [Siz α] : Siz (List α) := ⟨fun xs => xs.length * Bytes.n α ≤ reachBytes ∧ ∀ x ∈ xs, Siz.siz x⟩
/-- what is read at a type is plain data of that form -/
def Reads (P : Program) (α : Type) [Rep α] [Siz α] (t : TypeId) : Prop := ∀ (H : Type) (enc : TypeId × Value → H) (w : World) (b : Nat) (sp : Nat → Bool) (hd : Bool) (n : Nat) (cs : List Value) (z : DataW H × List MemPlace), DataW.trod enc P w b sp hd n t cs = some z →
  ∃ x : α, Rep.rep (hold w) x cs ∧ ((∀ m ∈ z.1.weights P t, m ≤ reachBytes) → Siz.siz x)
theorem reads_int {t : TypeId} (ht : P.underlying t = some (.int .i64)) : Reads P Int t := fun H enc w b sp hd n cs z h => by
  obtain ⟨x, e, _⟩ := DataW.trod_int ht h
  exact ⟨x, e, fun _ => trivial⟩
theorem listed_ {α : Type} {p : Nat → α → Prop} : ∀ (m : Nat), (∀ i, i < m → ∃ x : α, p i x) → ∃ xs : List α, xs.length = m ∧ ∀ (i : Nat) (x : α), xs[i]? = some x → p i x
  | 0, _ => ⟨[], rfl, fun i x e => by simp at e⟩
  | k + 1, hx => by
    obtain ⟨xs, h1, h2⟩ := listed_ k fun i hi => hx i (by omega)
    obtain ⟨x, h3⟩ := hx k (by omega)
    refine ⟨xs ++ [x], by simp [h1], fun i y e => ?_⟩
    by_cases hik : i < xs.length
    · rw [List.getElem?_append_left hik] at e; exact h2 i y e
    · rw [List.getElem?_append_right (by omega)] at e
      have e0 : i - xs.length = 0 := by have := (List.getElem?_eq_some_iff.1 e).1; simp at this; omega
      rw [e0] at e
      simp at e; subst e
      have : i = k := by omega
      subst this
      exact h3
theorem weights_all {e : TypeId} : ∀ {l : List (DataW H)} {d : DataW H}, d ∈ l → ∀ n ∈ d.weights P e, n ∈ DataW.weightsAll P e l
  | [], _, h, _, _ => by cases h
  | x :: r, d, h, n, hn => by
    simp only [DataW.weightsAll, List.mem_append]
    rcases List.mem_cons.1 h with rfl | h
    · exact .inl hn
    · exact .inr (weights_all h n hn)
theorem reads_slice {α : Type} [Rep α] [Bytes α] [Siz α] {t e : TypeId} (ht : P.underlying t = some (.slice e)) (hc : P.cellsOf e = Rep.sz α) (hby : P.bytesOf e = Bytes.n α) (he : Reads P α e) : Reads P (List α) t := fun H enc w b sp hd n cs z h => by
  rcases open_slice ht h with ⟨rfl, _⟩ | ⟨a, len, cap, m, n', D, Q, rfl, _, hl, _, hm, hz, hi⟩
  · exact ⟨[], ⟨none, 0, rfl, Nat.le_refl _, RSl.nil_⟩, fun _ => ⟨by simp, fun x hx => by cases hx⟩⟩
  · have hx : ∀ i, i < len → ∃ x : α, (∃ cs, Rep.rep (hold w) x cs ∧ CellsAt (hold w) (a.add (i * Rep.sz α)) cs) ∧ ((∀ m ∈ (D i).weights P e, m ≤ reachBytes) → Siz.siz x) := fun i hlt => by
      have hlm : len ≤ m := by rw [hm]; split <;> omega
      obtain ⟨cs', hcs, ht'⟩ := hi i (by omega)
      obtain ⟨x, hx, hsz⟩ := he H enc w b sp hd n' cs' _ ht'
      obtain ⟨_, hcl, hat⟩ := World.cells?_some hcs
      refine ⟨x, ⟨cs', hx, fun j v e => hold_cell ?_⟩, hsz⟩
      rw [hc] at hat hcl
      rw [hat j (by rw [← hcl]; exact (List.getElem?_eq_some_iff.1 e).1)]
      exact e
    obtain ⟨xs, hxl, hxs⟩ := listed_ len hx
    refine ⟨xs, ⟨some a, cap, by rw [hxl], by omega, rsl_of xs a fun i x hix => (hxs i x hix).1⟩, fun hw => ⟨?_, fun x hx => ?_⟩⟩
    · have := hw ((((List.range len).map D).length + ((List.range (m - len)).map fun j => D (len + j)).length) * P.bytesOf e) (by rw [hz]; simp [DataW.weights, ht])
      simp only [List.length_map, List.length_range] at this
      rw [hxl, ← hby]
      refine Nat.le_trans (Nat.mul_le_mul_right _ ?_) this
      omega
    · obtain ⟨i, hi', hix⟩ := List.mem_iff_getElem.1 hx
      refine (hxs i x (by rw [List.getElem?_eq_getElem hi', hix])).2 fun k hk => hw k ?_
      rw [hz]
      simp only [DataW.weights, ht, List.mem_cons, List.mem_append]
      refine .inr (.inl (weights_all (d := D i) ?_ k hk))
      exact List.mem_map.2 ⟨i, List.mem_range.2 (by omega), rfl⟩
/-- a field of a struct that is read -/
theorem reads_field {α : Type} [Rep α] [Siz α] {fs : Array Field} {t : TypeId} {w : World} {b : Nat} {sp : Nat → Bool} {hd : Bool} {n : Nat} {cs : List Value} {xs : List (DataW H × List MemPlace)} (hs : P.underlying t = some (.struct fs)) (hlen : xs.length = fs.size) (hf : ∀ (i : Nat) (f : Field), fs[i]? = some f → DataW.trod enc P w b sp hd n f.type ((cs.drop f.offset).take (P.cellsOf f.type)) = xs[i]?)
    (i : Nat) {f : Field} (hi : fs[i]? = some f) (r : Reads P α f.type) : ∃ x : α, Rep.rep (hold w) x ((cs.drop f.offset).take (P.cellsOf f.type)) ∧ ((∀ m ∈ (DataW.agg (xs.map (·.1))).weights P t, m ≤ reachBytes) → Siz.siz x) := by
  have h1 := hf i f hi
  have hlt : i < xs.length := by rw [hlen]; exact (Array.getElem?_eq_some_iff.1 hi).1
  rw [List.getElem?_eq_getElem hlt] at h1
  obtain ⟨x, hx, hw⟩ := r H enc w b sp hd n _ _ h1
  refine ⟨x, hx, fun hm => hw fun m hm' => hm m ?_⟩
  simp only [DataW.weights, hs]
  refine DataW.weights_mem_each (j := i) (t := f.type) (d := xs[i].1) ?_ ?_ m hm'
  · rw [List.getElem?_map, Array.getElem?_toList, hi]; rfl
  · rw [List.getElem?_map, List.getElem?_eq_getElem hlt]; rfl
/-- an argument is opened: a struct -/
theorem open_aggR {α : Type} [Rep α] [Siz α] {r : Reach} {b0 b : Nat} {sp : Nat → Bool} {hd : Bool} {t : TypeId} {fs : Array Field} {w : World} {v : Value} {d : DataW H} {p : List MemPlace} (hs : P.underlying t = some (.struct fs)) (hr : Reads P α t) (hv : Value.okWide P w r b0 t v) (h : DataW.Trod enc P w b sp hd t v d p) :
    ∃ (x : α) (cs : List Value), v = .agg cs.toArray ∧ Rep.rep (hold w) x cs ∧ ((∀ m ∈ d.weights P t, m ≤ reachBytes) → Siz.siz x) := by
  obtain ⟨cs, rfl, _⟩ := okWide_struct hs hv
  obtain ⟨fuel, hf⟩ := h
  obtain ⟨x, hx, hz⟩ := hr H enc w b sp hd fuel _ _ hf
  exact ⟨x, cs.toList, by simp, hx, hz⟩
/-- .. a slice -/
theorem open_sliceR {α : Type} [Rep α] [Bytes α] [Siz α] {r : Reach} {b0 b : Nat} {sp : Nat → Bool} {hd : Bool} {t e : TypeId} {w : World} {v : Value} {d : DataW H} {p : List MemPlace} (hs : P.underlying t = some (.slice e)) (hr : Reads P (List α) t) (hv : Value.okWide P w r b0 t v) (h : DataW.Trod enc P w b sp hd t v d p) :
    ∃ (xs : List α) (a : Option Addr) (c : Nat), v = .slice a xs.length c ∧ xs.length ≤ c ∧ RSl (hold w) a xs ∧ ((∀ m ∈ d.weights P t, m ≤ reachBytes) → Siz.siz xs) := by
  obtain ⟨a, len, cap, rfl⟩ := okWide_slice hs hv
  obtain ⟨fuel, hf⟩ := h
  obtain ⟨xs, ⟨a', c', e1, hl, hr'⟩, hz⟩ := hr H enc w b sp hd fuel _ _ hf
  have e2 : (Value.slice a len cap).cells.toList = [Value.slice a len cap] := rfl
  rw [e2] at e1
  simp only [List.cons.injEq, and_true, Value.slice.injEq] at e1
  obtain ⟨rfl, rfl, rfl⟩ := e1
  exact ⟨xs, a, cap, rfl, hl, hr', hz⟩
end
end Go.Proofs.YtojoehfldbimpaaGreatDoor.Pl

