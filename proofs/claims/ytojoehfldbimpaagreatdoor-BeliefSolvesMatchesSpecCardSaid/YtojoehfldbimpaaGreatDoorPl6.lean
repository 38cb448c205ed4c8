/- More rules of the program logic: code that several ways reach is shown once; small steps that the printed walks use. No condition. -/
import Derived.Test.YtojoehfldbimpaaGreatDoorPl5
import Derived.Lib.BufferMore
import Derived.Laws.CopyRow
namespace Go.Proofs.YtojoehfldbimpaaGreatDoor.Pl
open Go Go.RowKit
section
variable {P : Program} {K : Kp} {n : Fr} {ops : Array Oper} {Q : Exit → Act → World → Prop} {s : St} {A A' : List Asrt} {h : FH} {rest : List Oper}
theorem SubSt.nil {s : St} : SubSt [] s := trivial
theorem SubSt.cons {s r : St} {t : Nat} {v : Value} (e : Pl.get s t = some v) (h : SubSt r s) : SubSt ((t, v) :: r) s := ⟨e, h⟩
/-- what follows is shown once, from the states that are named -/
theorem J.share {σ : Type} (G : σ → Prop) (S : σ → St) (M : σ → List Asrt) (F : σ → FH) {x r : Code} (hr : ∀ z, G z → J P K n r Q (S z) (M z) (F z))
    (hx : (∀ z, G z → J P K n r Q (S z) (M z) (F z)) → J P K n x (Exit.then (fun a w => WC P n.ro r Q a w) Q) s A h) : J P K n (.seq x r) Q s A h := .seq (hx hr)
theorem J.shareT {σ : Type} (G : σ → Prop) (S : σ → St) (M : σ → List Asrt) (F : σ → FH) {x r : Code} (hr : ∀ z, G z → J P K n r Q (S z) (M z) (F z))
    (hx : (∀ z, G z → J P K n r Q (S z) (M z) (F z)) → J P K n x (Exit.then (fun a w => WC P n.ro r Q a w) Q) s A h) : J P K n x (Exit.then (fun a w => WC P n.ro r Q a w) Q) s A h := hx hr
theorem E.use {σ : Type} {G : σ → Prop} {S : σ → St} {M : σ → List Asrt} {F : σ → FH} {r : Code} (hj : ∀ z, G z → J P K n r Q (S z) (M z) (F z)) (z : σ) (hz : G z) (hs : SubSt (S z) s) (hm : M z = A) (hf : FH.le (F z) h) :
    E K n (Exit.then (fun a w => WC P n.ro r Q a w) Q) .normal s A h := by
  subst hm
  exact .seqN (.up hf (.sub hs (hj z hz)))
section ops
variable {dd : Option Tmp} {gd : Option (Nat × Bool)} {ty : TypeId} {pos : String} {af : Array Edge}
theorem beql {x y : Operand} {t t' : TypeId} {a b : Bool} (hu : P.underlying t = some .bool) (hx : ev s x = some (.bool a)) (hy : ev s y = some (.bool b)) : VF P K n s A h ⟨dd, .binOp .eql t x y t', ty, pos, af, gd⟩ (.bool (a == b)) := fun ac w H _ => by
  simp only [execOp, H.ev hx, H.ev hy, Sem.run_bind, eqGuard_at_bool, Sem.run_pure, Result.andThen_ok, run_eql_bool w t a b hu]
end ops
/-- a region whose order is left open, and whose last operation waits for all the others: the last one is found by itself -/
theorem J.openL {m_ : Nat} {dl_ : List Nat} {id : Nat} {l : List Oper} (hm : P.follows .mixedOrders = true) (hl : l.dropLast ++ [l.getLastD default] = l) (hB : Region.lexB .any l.dropLast.toArray = true) (hT : tailB l.dropLast.toArray (l.getLastD default) = true)
    (j : QL P K ⟨m_, none, dl_⟩ l.dropLast.toArray l.dropLast (fun a => ∀ w, SH K h w A → wpList P l.toArray Q [l.getLastD default] a w) s A h) : J P K ⟨m_, none, dl_⟩ (.region id l.toArray true) Q s A h :=
  J.openT l.dropLast (l.getLastD default) hl hm hB hT j

/-! ### parts of what the call owns -/
theorem SH.none {w : World} (S : SH K h w A) : SH K h w [] := by
  induction A with
  | nil => exact S
  | cons x r ih => exact ih S.drop
theorem SH.sel {w : World} {L L' R : List Asrt} (is : List Nat) (hn : is.Nodup) (hL : is.map (fun i => L[i]?) = L'.map some) (S : SH K h w (L ++ R)) : SH K h w (L' ++ R) := by
  obtain ⟨gs, p1, p2, p3, p4⟩ := S.parts
  have hlen : gs.length = L.length + R.length := by simpa using p1
  have hl : is.length = L'.length := by simpa using congrArg List.length hL
  have hin : ∀ (j i : Nat), is[j]? = some i → i < L.length ∧ L'[j]? = L[i]? := fun j i hj => by
    have h1 : (is.map (fun i => L[i]?))[j]? = some (L[i]?) := by simp [hj]
    rw [hL] at h1
    rw [List.getElem?_map] at h1
    cases h2 : L'[j]? with
    | none => rw [h2] at h1; cases h1
    | some x =>
      rw [h2] at h1
      have h3 : L[i]? = some x := (Option.some.inj h1).symm
      exact ⟨(List.getElem?_eq_some_iff.1 h3).1, h3.symm⟩
  have cut : ∀ (j : Nat) (g : FH), (is.map (fun i => gs.getD i (fun _ => Option.none)) ++ gs.drop L.length)[j]? = some g → ∃ k, k < gs.length ∧ gs[k]? = some g ∧ (L' ++ R)[j]? = (L ++ R)[k]? ∧ ((j < is.length ∧ is[j]? = some k) ∨ (is.length ≤ j ∧ k = L.length + (j - is.length))) := fun j g hj => by
    by_cases hlt : j < is.length
    · rw [List.getElem?_append_left (by simpa using hlt)] at hj
      have hi : is[j]? = some is[j] := List.getElem?_eq_getElem hlt
      obtain ⟨q1, q2⟩ := hin j _ hi
      have hk : is[j] < gs.length := by omega
      refine ⟨is[j], hk, ?_, ?_, .inl ⟨hlt, hi⟩⟩
      · simp only [List.getElem?_map, hi, Option.map_some] at hj
        rw [← hj]; simp [hk]
      · rw [List.getElem?_append_left (by omega), List.getElem?_append_left q1, q2]
    · rw [List.getElem?_append_right (by simp; omega)] at hj
      simp only [List.length_map, List.getElem?_drop] at hj
      refine ⟨L.length + (j - is.length), (List.getElem?_eq_some_iff.1 hj).1, hj, ?_, .inr ⟨by omega, rfl⟩⟩
      rw [List.getElem?_append_right (by omega), List.getElem?_append_right (by omega)]
      congr 1; omega
  refine ⟨S.kept, S.sub, S.fresh, is.map (fun i => gs.getD i (fun _ => Option.none)) ++ gs.drop L.length, by simp [hl, hlen], fun j g Y hj hY => ?_, fun j g hj => ?_, fun i j g g2 hij hi hj => ?_⟩
  · obtain ⟨k, _, k2, k3, _⟩ := cut j g hj
    exact p2 k g Y k2 (by rw [← k3]; exact hY)
  · obtain ⟨k, _, k2, _⟩ := cut j g hj
    exact p3 k g k2
  · obtain ⟨k, _, k2, _, k4⟩ := cut i g hi
    obtain ⟨m, _, m2, _, m4⟩ := cut j g2 hj
    refine p4 k m g g2 (fun e => hij ?_) k2 m2
    rcases k4 with ⟨a1, a2⟩ | ⟨a1, a2⟩ <;> rcases m4 with ⟨b1, b2⟩ | ⟨b1, b2⟩
    · rw [e] at a2
      have e1 := (List.getElem?_eq_some_iff.1 a2).2
      have e2 := (List.getElem?_eq_some_iff.1 b2).2
      exact (List.getElem_inj hn).1 (e1.trans e2.symm)
    · have := (hin i k a2).1; omega
    · have := (hin j m b2).1; omega
    · omega
theorem J.sel {L L' R : List Asrt} (is : List Nat) {c : Code} (hA : A = L ++ R) (hn : is.Nodup) (hL : is.map (fun i => L[i]?) = L'.map some) (hA' : L' ++ R = A') (j : J P K n c Q s A' h) : J P K n c Q s A h := fun a w H S => by
  subst hA; subst hA'; exact j a w H (S.sel is hn hL)
theorem E.sel {L L' R : List Asrt} (is : List Nat) {ex : Exit} (hA : A = L ++ R) (hn : is.Nodup) (hL : is.map (fun i => L[i]?) = L'.map some) (hA' : L' ++ R = A') (j : E K n Q ex s A' h) : E K n Q ex s A h := fun a w H S => by
  subst hA; subst hA'; exact j a w H (S.sel is hn hL)
theorem sel_map {L : List Asrt} {is : List Nat} (hL : is.map (fun i => L[i]?) = (is.map (fun i => L.getD i tru)).map some) {w : World} {R : List Asrt} (hn : is.Nodup) (S : SH K h w (L ++ R)) : SH K h w (is.map (fun i => L.getD i tru) ++ R) := S.sel is hn hL
theorem J.sel0 (is : List Nat) {c : Code} (hn : is.Nodup) (hL : is.map (fun i => A[i]?) = (is.map (fun i => A.getD i tru)).map some) (j : J P K n c Q s (is.map (fun i => A.getD i tru)) h) : J P K n c Q s A h := fun a w H S => j a w H (by
  have := sel_map (R := []) hL hn (by rwa [List.append_nil])
  rwa [List.append_nil] at this)
theorem E.sel0 (is : List Nat) {ex : Exit} (hn : is.Nodup) (hL : is.map (fun i => A[i]?) = (is.map (fun i => A.getD i tru)).map some) (j : E K n Q ex s (is.map (fun i => A.getD i tru)) h) : E K n Q ex s A h := fun a w H S => j a w H (by
  have := sel_map (R := []) hL hn (by rwa [List.append_nil])
  rwa [List.append_nil] at this)
theorem inb_n {β : Type} {xs : List β} {i : Int} {m : Nat} (hi : inb xs i) (hl : xs.length = m) : 0 ≤ i ∧ i < m := by subst hl; exact hi
theorem room_of {m m' by_ : Nat} (e : m = m') (r : room m' by_) : m ≤ maxLen ∧ m * by_ ≤ 140737488355328 := by subst e; exact r
theorem len_app {β : Type} {xs ys : List β} {m k : Nat} (h1 : xs.length = m) (h2 : ys.length = k) : m + k = (xs ++ ys).length := by subst h1; subst h2; exact List.length_append.symm
theorem zfill (zs : List Value) (len : Nat) : (Array.range (len * zs.length)).map (fun i => zs.toArray[i % zs.toArray.size]!) = (List.replicate len zs).flatten.toArray := by
  apply Array.toList_inj.1
  simp only [Array.toList_map, Array.toList_range, List.size_toArray]
  induction len with
  | zero => simp
  | succ m ih =>
    rw [List.replicate_succ', List.flatten_append, ← ih, Nat.add_mul, Nat.one_mul, List.range_add, List.map_append]
    congr 1
    apply List.ext_getElem?
    intro j
    simp only [List.map_map, List.getElem?_map, List.flatten_singleton]
    by_cases hj : j < zs.length
    · simp [hj, Nat.mod_eq_of_lt hj]
    · simp [hj]
/-- a literal slice -/
theorem bs2 {d : Nat} {ty : TypeId} {pos : String} {af : Array Edge} {t e : TypeId} {len sz by_ : Nat} {zs : List Value} {parts : Array (Nat × Operand)} {pv : List (Nat × Value)} {cs : Array Value} (ht : TSl P t e sz by_ zs)
    (hp : (parts.toList.map (fun p => (ev s p.2).map (fun v => (p.1, v)))) = pv.map some) (hz : zs.length = sz) (hlen : len * sz ≤ 1000) (hml : len ≤ 1000)
    (hf : Instr.fill (fun i => some (i * sz, sz)) (List.replicate len zs).flatten.toArray pv = some cs) (hc : cs.size = len * sz) (hn : Nat.blt d n.sz = true)
    (k : ∀ a, a ≠ none → JL P K n ops rest Q ((d, .slice a len len) :: s) (OwnSl e sz a len len cs.toList :: A) h) : JL P K n ops (⟨some d, .buildSlice t len parts, ty, pos, af, none⟩ :: rest) Q s A h :=
  bs ht hp hlen hml (by subst hz; rw [zfill]; exact hf) hc hn k
section
variable {dd : Option Tmp} {gd : Option (Nat × Bool)} {ty : TypeId} {pos : String} {af : Array Edge}
end
/-- a box is looked at -/
theorem lookB {k : Nat} {p : Addr} {cs : List Value} {w : World} (S : SH K h w A) (hk : A[k]? = some (Box p cs)) : ∃ h', FH.le h h' ∧ Sub h' w ∧ CellsAt h' p cs := by
  obtain ⟨g, hx, hd, S'⟩ := S.look hk
  exact ⟨_, FH.le_join_left h g, S', hx.cells.mono (FH.le_join_right hd)⟩
/-- .. and kept as it is -/
theorem freezeB {k : Nat} {p : Addr} {cs : List Value} {w : World} (S : SH K h w A) (hk : A[k]? = some (Box p cs)) : ∃ h', FH.le h h' ∧ SH K h' w (A.set k tru) ∧ CellsAt h' p cs := by
  obtain ⟨g, hx, hd, S'⟩ := S.freeze hk
  exact ⟨_, FH.le_join_left h g, S', hx.cells.mono (FH.le_join_right hd)⟩
/-! ### parts of slices that stay -/
section
variable {α : Type} [Rep α] {a : Option Addr} {xs : List α} {c : Nat} {i : Int}
theorem RepL.take_ {h : FH} {xs : List α} {cs : List Value} (r : RepL h xs cs) (m : Nat) : RepL h (xs.take m) (cs.take (m * Rep.sz α)) := by
  induction xs generalizing cs m with
  | nil => rw [show cs = [] from r]; simp [RepL]
  | cons x rr ih =>
    obtain ⟨c, cs', rfl, hc, hr⟩ := r
    cases m with
    | zero => simp [RepL]
    | succ m =>
      have hl := Rep.len hc
      refine ⟨c, cs'.take (m * Rep.sz α), ?_, hc, ih hr m⟩
      have e : (m + 1) * Rep.sz α = c.length + m * Rep.sz α := by rw [hl, Nat.add_mul]; omega
      rw [e, List.take_append, List.take_of_length_le (by omega), Nat.add_sub_cancel_left]
theorem RepL.drop_ {h : FH} {xs : List α} {cs : List Value} (r : RepL h xs cs) (m : Nat) : RepL h (xs.drop m) (cs.drop (m * Rep.sz α)) := by
  induction xs generalizing cs m with
  | nil => rw [show cs = [] from r]; simp [RepL]
  | cons x rr ih =>
    obtain ⟨c, cs', rfl, hc, hr⟩ := r
    cases m with
    | zero => simp only [Nat.zero_mul, List.drop_zero]; exact ⟨c, cs', rfl, hc, hr⟩
    | succ m =>
      have hl := Rep.len hc
      have := ih hr m
      have e : (m + 1) * Rep.sz α = c.length + m * Rep.sz α := by rw [hl, Nat.add_mul]; omega
      have e2 : c.drop (c.length + m * Rep.sz α) = [] := List.drop_of_length_le (by omega)
      rw [e, List.drop_append, e2, Nat.add_sub_cancel_left]
      simpa using this
theorem RSl.take_ {h : FH} {a : Option Addr} {xs : List α} {m : Nat} (r : RSl h a xs) : RSl h a (xs.take m) := by
  obtain ⟨cs, h1, h2⟩ := r
  refine ⟨_, h1.take_ m, fun j v e => ?_⟩
  rw [List.getElem?_take] at e
  split at e
  · exact h2 j v e
  · cases e
theorem take_cap {β : Type} {xs : List β} (l : xs.length ≤ c) {m : Nat} : (xs.take m).length ≤ c := by rw [List.length_take]; omega
theorem take_len {β : Type} {xs : List β} (q : 0 ≤ i ∧ i ≤ (xs.length : Int)) : (xs.take i.toNat).length = i.toNat := by rw [List.length_take]; omega
theorem drop_le {β : Type} {xs : List β} (q : 0 ≤ i ∧ i ≤ (xs.length : Int)) : i.toNat ≤ xs.length := by omega
theorem drop_len {β : Type} {xs : List β} (_q : 0 ≤ i ∧ i ≤ (xs.length : Int)) : (xs.drop i.toNat).length = xs.length - i.toNat := by rw [List.length_drop]
theorem RSl.drop_ {h : FH} {a : Option Addr} {xs : List α} {c : Nat} {i : Int} (r : RSl h a xs) (l : xs.length ≤ c) (q : 0 ≤ i ∧ i ≤ (xs.length : Int)) : RSl h (sla a c i.toNat (Rep.sz α)) (xs.drop i.toNat) := by
  obtain ⟨cs, h1, h2⟩ := r
  refine ⟨_, h1.drop_ i.toNat, ?_⟩
  have := h2.part (cap := c) h1.len (drop_le q) (Nat.le_refl _) l
  have e : (cs.drop (i.toNat * Rep.sz α)).take ((xs.length - i.toNat) * Rep.sz α) = cs.drop (i.toNat * Rep.sz α) := by
    rw [List.take_of_length_le]
    rw [List.length_drop, h1.len, Nat.sub_mul]; omega
  rwa [e] at this
end
theorem slL2 {dd : Option Tmp} {gd : Option (Nat × Bool)} {ty : TypeId} {pos : String} {af : Array Edge} {t e : TypeId} {x y : Operand} {sz by_ len cap nn : Nat} {a : Option Addr} {zs : List Value} {ki : IntKind} {i : Int} (ht : TSl P t e sz by_ zs) (hx : ev s x = some (.slice a len cap)) (hy : ev s y = some (.int ki i)) (h0 : 0 ≤ i) (hn : len - i.toNat = nn) (hlc : i.toNat ≤ len) : VF P K n s A h ⟨dd, .slice t x (some y) none none, ty, pos, af, gd⟩ (.slice (sla a cap i.toNat sz) nn (cap - i.toNat)) := by
  subst hn; exact slL ht hx hy h0 rfl hlc
theorem RSl.nil_of {α : Type} [Rep α] {h : FH} {a : Option Addr} {xs : List α} (r : RSl h a xs) (hz : 0 < Rep.sz α) (ha : a.isNone = true) : xs = [] := by
  cases xs with
  | nil => rfl
  | cons x rr => exact absurd (by simpa using ha) (r.ne hz (by simp))
theorem eqnil {dd : Option Tmp} {gd : Option (Nat × Bool)} {ty : TypeId} {pos : String} {af : Array Edge} {x y : Operand} {t t' : TypeId} {a : Option Addr} {m c : Nat} (ht : TIsSl P t) (hx : ev s x = some (.slice a m c)) (hy : ev s y = some (.slice none 0 0)) : VF P K n s A h ⟨dd, .binOp .eql t x y t', ty, pos, af, gd⟩ (.bool a.isNone) := fun ac w H _ => by
  obtain ⟨e, he⟩ := ht
  have hg : (eqGuard .eql t x y (.slice a m c) (.slice none 0 0)).run P w = .ok () w := by simp [eqGuard]
  cases a with
  | none =>
    simp only [execOp, H.ev hx, H.ev hy, Sem.run_bind, hg, Result.andThen_ok, Lib.run_eql_slice_nil_nil w m c he]
    rfl
  | some b =>
    simp only [execOp, H.ev hx, H.ev hy, Sem.run_bind, hg, Result.andThen_ok, Lib.run_eql_slice_some_nil w b m c he]
    rfl
/-- a number of another kind -/
theorem cv {dd : Option Tmp} {gd : Option (Nat × Bool)} {ty : TypeId} {pos : String} {af : Array Edge} {x : Operand} {ts td : TypeId} {ki kj kk : IntKind} {i : Int} (hs : P.underlying ts = some (.int kk)) (hd : P.underlying td = some (.int kj)) (hx : ev s x = some (.int ki i)) : VF P K n s A h ⟨dd, .convert ts td x, ty, pos, af, gd⟩ (.int kj (kj.wrap i)) := fun ac w H _ => by
  simp [execOp, H.ev hx, convert, run_underlying hs, run_underlying hd, Conv.intToInt]
theorem look_len {k : Nat} {e : TypeId} {sz m c : Nat} {a : Option Addr} {cs : List Value} {w : World} (S : SH K h w A) (hk : A[k]? = some (OwnSl e sz a m c cs)) : m ≤ c := by
  obtain ⟨g, hx, _⟩ := S.upd hk
  exact hx.len
theorem J.freezeBx {k : Nat} {p : Addr} {cs : List Value} {l : Code} (hk : A[k]? = some (Box p cs)) (kk : ∀ h', FH.le h h' → CellsAt h' p cs → J P K n l Q s (A.set k tru) h') : J P K n l Q s A h := fun ac w H S => by
  obtain ⟨h', h1, h2, h3⟩ := freezeB S hk
  exact kk h' h1 h3 ac w H h2
theorem JL.freezeBx {k : Nat} {p : Addr} {cs : List Value} {l : List Oper} (hk : A[k]? = some (Box p cs)) (kk : ∀ h', FH.le h h' → CellsAt h' p cs → JL P K n ops l Q s (A.set k tru) h') : JL P K n ops l Q s A h := fun ac w H S => by
  obtain ⟨h', h1, h2, h3⟩ := freezeB S hk
  exact kk h' h1 h3 ac w H h2
theorem J.freezeL {k : Nat} {e : TypeId} {sz m c : Nat} {a : Option Addr} {cs : List Value} {l : Code} (hk : A[k]? = some (OwnSl e sz a m c cs)) (kk : ∀ h', FH.le h h' → m ≤ c → RawSl h' a cs → J P K n l Q s (A.set k tru) h') : J P K n l Q s A h := fun ac w H S => by
  have hlen := look_len S hk
  obtain ⟨g, hx, hd, S'⟩ := S.freeze hk
  exact kk _ (FH.le_join_left h g) hlen (hx.cells.mono (FH.le_join_right hd)) ac w H S'
theorem JL.freezeL {k : Nat} {e : TypeId} {sz m c : Nat} {a : Option Addr} {cs : List Value} {l : List Oper} (hk : A[k]? = some (OwnSl e sz a m c cs)) (kk : ∀ h', FH.le h h' → m ≤ c → RawSl h' a cs → JL P K n ops l Q s (A.set k tru) h') : JL P K n ops l Q s A h := fun ac w H S => by
  have hlen := look_len S hk
  obtain ⟨g, hx, hd, S'⟩ := S.freeze hk
  exact kk _ (FH.le_join_left h g) hlen (hx.cells.mono (FH.le_join_right hd)) ac w H S'
end
end Go.Proofs.YtojoehfldbimpaaGreatDoor.Pl

