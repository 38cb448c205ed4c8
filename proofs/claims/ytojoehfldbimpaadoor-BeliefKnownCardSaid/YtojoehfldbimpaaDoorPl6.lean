/- More rules of the program logic: code that several ways reach is shown once; small steps that the printed walks use. No condition. -/
import Derived.Test.YtojoehfldbimpaaDoorPl5
import Derived.Lib.BufferMore
import Derived.Laws.CopyRow
namespace Go.Proofs.YtojoehfldbimpaaDoor.Pl
open Go Go.RowKit
section
variable {P : Program} {K : Kp} {n : Fr} {ops : Array Oper} {Q : Exit → Act → World → Prop} {s : St} {A A' : List Asrt} {h : FH} {rest : List Oper}
theorem SubSt.nil {s : St} : SubSt [] s := trivial
theorem SubSt.cons {s r : St} {t : Nat} {v : Value} (e : Pl.get s t = some v) (h : SubSt r s) : SubSt ((t, v) :: r) s := ⟨e, h⟩
/-- what follows is shown once, from the states that are named -/
theorem J.share {σ : Type} (G : σ → Prop) (S : σ → St) (M : σ → List Asrt) (F : σ → FH) {x r : Code} (hr : ∀ z, G z → J P K n r Q (S z) (M z) (F z))
    (hx : (∀ z, G z → J P K n r Q (S z) (M z) (F z)) → J P K n x (Exit.then (fun a w => WC P n.ro r Q a w) Q) s A h) : J P K n (.seq x r) Q s A h := .seq (hx hr)
theorem J.share2 {σ : Type} (G : σ → Prop) (S : σ → St) (M : σ → List Asrt) (F : σ → FH) {x y r : Code} (hr : ∀ z, G z → J P K n r Q (S z) (M z) (F z))
    (hx : (∀ z, G z → J P K n r Q (S z) (M z) (F z)) → J P K n (.seq x (.seq y r)) Q s A h) : J P K n (.seq x (.seq y r)) Q s A h := hx hr
theorem J.shareT {σ : Type} (G : σ → Prop) (S : σ → St) (M : σ → List Asrt) (F : σ → FH) {x r : Code} (hr : ∀ z, G z → J P K n r Q (S z) (M z) (F z))
    (hx : (∀ z, G z → J P K n r Q (S z) (M z) (F z)) → J P K n x (Exit.then (fun a w => WC P n.ro r Q a w) Q) s A h) : J P K n x (Exit.then (fun a w => WC P n.ro r Q a w) Q) s A h := hx hr
theorem E.use {σ : Type} {G : σ → Prop} {S : σ → St} {M : σ → List Asrt} {F : σ → FH} {r : Code} (hj : ∀ z, G z → J P K n r Q (S z) (M z) (F z)) (z : σ) (hz : G z) (hs : SubSt (S z) s) (hm : M z = A) (hf : FH.le (F z) h) :
    E K n (Exit.then (fun a w => WC P n.ro r Q a w) Q) .normal s A h := by
  subst hm
  exact .seqN (.up hf (.sub hs (hj z hz)))
section ops
variable {dd : Option Tmp} {gd : Option (Nat × Bool)} {ty : TypeId} {pos : String} {af : Array Edge}
/-- a field of a field -/
theorem faa {x : Operand} {t : TypeId} {f o1 o2 o3 : Nat} {p : Addr} (hx : ev s x = some (.pointer (some (p.add o1)))) (hf : FldAt P t f o2) (h3 : o1 + o2 = o3) : VF P K n s A h ⟨dd, .fieldAddr t x f, ty, pos, af, gd⟩ (.pointer (some (p.add o3))) := by
  subst h3
  rw [← add_add]
  exact fa hx hf
theorem cellsO {k i : Nat} {e : TypeId} {sz m c : Nat} {a : Option Addr} {cs cs' : List Value} (hk : A[k]? = some (OwnSl e sz a m c cs)) (hv : ∀ j v, cs'[j]? = some v → cs[i + j]? = some v) : ∀ w, SH K h w A → ∀ j v, cs'[j]? = some v → w.cell? ((ead a i).add j) = some v :=
  fun w S j v e => cellF (off := j) hk (hv j v e) w S
theorem beql {x y : Operand} {t t' : TypeId} {a b : Bool} (hu : P.underlying t = some .bool) (hx : ev s x = some (.bool a)) (hy : ev s y = some (.bool b)) : VF P K n s A h ⟨dd, .binOp .eql t x y t', ty, pos, af, gd⟩ (.bool (a == b)) := fun ac w H _ => by
  simp only [execOp, H.ev hx, H.ev hy, Sem.run_bind, eqGuard_at_bool, Sem.run_pure, Result.andThen_ok, run_eql_bool w t a b hu]
theorem bneq {x y : Operand} {t t' : TypeId} {a b : Bool} (hu : P.underlying t = some .bool) (hx : ev s x = some (.bool a)) (hy : ev s y = some (.bool b)) : VF P K n s A h ⟨dd, .binOp .neq t x y t', ty, pos, af, gd⟩ (.bool (a != b)) := fun ac w H _ => by
  simp only [execOp, H.ev hx, H.ev hy, Sem.run_bind, eqGuard_at_bool, Sem.run_pure, Result.andThen_ok, run_neq_bool w t a b hu]; rfl
end ops
/-- a region whose order is left open, and whose last operation waits for all the others: the last one is found by itself -/
theorem J.openL {m_ : Nat} {dl_ : List Nat} {id : Nat} {l : List Oper} (hm : P.follows .mixedOrders = true) (hl : l.dropLast ++ [l.getLastD default] = l) (hB : Region.lexB .any l.dropLast.toArray = true) (hT : tailB l.dropLast.toArray (l.getLastD default) = true)
    (j : QL P K ⟨m_, none, dl_⟩ l.dropLast.toArray l.dropLast (fun a => ∀ w, SH K h w A → wpList P l.toArray Q [l.getLastD default] a w) s A h) : J P K ⟨m_, none, dl_⟩ (.region id l.toArray true) Q s A h :=
  J.openT l.dropLast (l.getLastD default) hl hm hB hT j

/-! ### parts of what the call owns -/
theorem SH.none {w : World} (S : SH K h w A) : SH K h w [] := by
  induction A with
  | nil => exact S
  | cons x r ih => exact ih S.drop
theorem SH.sel {w : World} {L L' R : List Asrt} (is : List Nat) (hn : is.Nodup) (hL : is.map (fun i => L[i]?) = L'.map some) (S : SH K h w (L ++ R)) : SH K h w (L' ++ R) := by
  obtain ⟨gs, p1, p2, p3, p4⟩ := S.parts
  have hlen : gs.length = L.length + R.length := by simpa using p1
  have hl : is.length = L'.length := by simpa using congrArg List.length hL
  have hin : ∀ (j i : Nat), is[j]? = some i → i < L.length ∧ L'[j]? = L[i]? := fun j i hj => by
    have h1 : (is.map (fun i => L[i]?))[j]? = some (L[i]?) := by simp [hj]
    rw [hL] at h1
    rw [List.getElem?_map] at h1
    cases h2 : L'[j]? with
    | none => rw [h2] at h1; cases h1
    | some x =>
      rw [h2] at h1
      have h3 : L[i]? = some x := (Option.some.inj h1).symm
      exact ⟨(List.getElem?_eq_some_iff.1 h3).1, h3.symm⟩
  have cut : ∀ (j : Nat) (g : FH), (is.map (fun i => gs.getD i (fun _ => Option.none)) ++ gs.drop L.length)[j]? = some g → ∃ k, k < gs.length ∧ gs[k]? = some g ∧ (L' ++ R)[j]? = (L ++ R)[k]? ∧ ((j < is.length ∧ is[j]? = some k) ∨ (is.length ≤ j ∧ k = L.length + (j - is.length))) := fun j g hj => by
    by_cases hlt : j < is.length
    · rw [List.getElem?_append_left (by simpa using hlt)] at hj
      have hi : is[j]? = some is[j] := List.getElem?_eq_getElem hlt
      obtain ⟨q1, q2⟩ := hin j _ hi
      have hk : is[j] < gs.length := by omega
      refine ⟨is[j], hk, ?_, ?_, .inl ⟨hlt, hi⟩⟩
      · simp only [List.getElem?_map, hi, Option.map_some] at hj
        rw [← hj]; simp [hk]
      · rw [List.getElem?_append_left (by omega), List.getElem?_append_left q1, q2]
    · rw [List.getElem?_append_right (by simp; omega)] at hj
      simp only [List.length_map, List.getElem?_drop] at hj
      refine ⟨L.length + (j - is.length), (List.getElem?_eq_some_iff.1 hj).1, hj, ?_, .inr ⟨by omega, rfl⟩⟩
      rw [List.getElem?_append_right (by omega), List.getElem?_append_right (by omega)]
      congr 1; omega
  refine ⟨S.kept, S.sub, S.fresh, is.map (fun i => gs.getD i (fun _ => Option.none)) ++ gs.drop L.length, by simp [hl, hlen], fun j g Y hj hY => ?_, fun j g hj => ?_, fun i j g g2 hij hi hj => ?_⟩
  · obtain ⟨k, _, k2, k3, _⟩ := cut j g hj
    exact p2 k g Y k2 (by rw [← k3]; exact hY)
  · obtain ⟨k, _, k2, _⟩ := cut j g hj
    exact p3 k g k2
  · obtain ⟨k, _, k2, _, k4⟩ := cut i g hi
    obtain ⟨m, _, m2, _, m4⟩ := cut j g2 hj
    refine p4 k m g g2 (fun e => hij ?_) k2 m2
    rcases k4 with ⟨a1, a2⟩ | ⟨a1, a2⟩ <;> rcases m4 with ⟨b1, b2⟩ | ⟨b1, b2⟩
    · rw [e] at a2
      have e1 := (List.getElem?_eq_some_iff.1 a2).2
      have e2 := (List.getElem?_eq_some_iff.1 b2).2
      exact (List.getElem_inj hn).1 (e1.trans e2.symm)
    · have := (hin i k a2).1; omega
    · have := (hin j m b2).1; omega
    · omega
theorem J.sel {L L' R : List Asrt} (is : List Nat) {c : Code} (hA : A = L ++ R) (hn : is.Nodup) (hL : is.map (fun i => L[i]?) = L'.map some) (hA' : L' ++ R = A') (j : J P K n c Q s A' h) : J P K n c Q s A h := fun a w H S => by
  subst hA; subst hA'; exact j a w H (S.sel is hn hL)
theorem E.sel {L L' R : List Asrt} (is : List Nat) {ex : Exit} (hA : A = L ++ R) (hn : is.Nodup) (hL : is.map (fun i => L[i]?) = L'.map some) (hA' : L' ++ R = A') (j : E K n Q ex s A' h) : E K n Q ex s A h := fun a w H S => by
  subst hA; subst hA'; exact j a w H (S.sel is hn hL)
theorem sel_map {L : List Asrt} {is : List Nat} (hL : is.map (fun i => L[i]?) = (is.map (fun i => L.getD i tru)).map some) {w : World} {R : List Asrt} (hn : is.Nodup) (S : SH K h w (L ++ R)) : SH K h w (is.map (fun i => L.getD i tru) ++ R) := S.sel is hn hL
theorem J.sel0 (is : List Nat) {c : Code} (hn : is.Nodup) (hL : is.map (fun i => A[i]?) = (is.map (fun i => A.getD i tru)).map some) (j : J P K n c Q s (is.map (fun i => A.getD i tru)) h) : J P K n c Q s A h := fun a w H S => j a w H (by
  have := sel_map (R := []) hL hn (by rwa [List.append_nil])
  rwa [List.append_nil] at this)
theorem E.sel0 (is : List Nat) {ex : Exit} (hn : is.Nodup) (hL : is.map (fun i => A[i]?) = (is.map (fun i => A.getD i tru)).map some) (j : E K n Q ex s (is.map (fun i => A.getD i tru)) h) : E K n Q ex s A h := fun a w H S => j a w H (by
  have := sel_map (R := []) hL hn (by rwa [List.append_nil])
  rwa [List.append_nil] at this)
theorem SH.dropR {w : World} {X Y : List Asrt} (S : SH K h w (X ++ Y)) : SH K h w X := S.perm.dropAll
theorem J.selD {L R : List Asrt} (is : List Nat) {c : Code} (hA : A = L ++ R) (hn : is.Nodup) (hL : is.map (fun i => L[i]?) = (is.map (fun i => L.getD i tru)).map some) (j : J P K n c Q s (is.map (fun i => L.getD i tru)) h) : J P K n c Q s A h := fun a w H S => by
  subst hA; exact j a w H (sel_map hL hn S).dropR
theorem E.selD {L R : List Asrt} (is : List Nat) {ex : Exit} (hA : A = L ++ R) (hn : is.Nodup) (hL : is.map (fun i => L[i]?) = (is.map (fun i => L.getD i tru)).map some) (j : E K n Q ex s (is.map (fun i => L.getD i tru)) h) : E K n Q ex s A h := fun a w H S => by
  subst hA; exact j a w H (sel_map hL hn S).dropR
theorem inb_n {β : Type} {xs : List β} {i : Int} {m : Nat} (hi : inb xs i) (hl : xs.length = m) : 0 ≤ i ∧ i < m := by subst hl; exact hi
theorem room_of {m m' by_ : Nat} (e : m = m') (r : room m' by_) : m ≤ maxLen ∧ m * by_ ≤ 140737488355328 := by subst e; exact r
theorem len_app {β : Type} {xs ys : List β} {m k : Nat} (h1 : xs.length = m) (h2 : ys.length = k) : m + k = (xs ++ ys).length := by subst h1; subst h2; exact List.length_append.symm
theorem zfill (zs : List Value) (len : Nat) : (Array.range (len * zs.length)).map (fun i => zs.toArray[i % zs.toArray.size]!) = (List.replicate len zs).flatten.toArray := by
  apply Array.toList_inj.1
  simp only [Array.toList_map, Array.toList_range, List.size_toArray]
  induction len with
  | zero => simp
  | succ m ih =>
    rw [List.replicate_succ', List.flatten_append, ← ih, Nat.add_mul, Nat.one_mul, List.range_add, List.map_append]
    congr 1
    apply List.ext_getElem?
    intro j
    simp only [List.map_map, List.getElem?_map, List.flatten_singleton]
    by_cases hj : j < zs.length
    · simp [hj, Nat.mod_eq_of_lt hj]
    · simp [hj]
/-- a literal slice -/
theorem bs2 {d : Nat} {ty : TypeId} {pos : String} {af : Array Edge} {t e : TypeId} {len sz by_ : Nat} {zs : List Value} {parts : Array (Nat × Operand)} {pv : List (Nat × Value)} {cs : Array Value} (ht : TSl P t e sz by_ zs)
    (hp : (parts.toList.map (fun p => (ev s p.2).map (fun v => (p.1, v)))) = pv.map some) (hz : zs.length = sz) (hlen : len * sz ≤ 1000) (hml : len ≤ 1000)
    (hf : Instr.fill (fun i => some (i * sz, sz)) (List.replicate len zs).flatten.toArray pv = some cs) (hc : cs.size = len * sz) (hn : Nat.blt d n.sz = true)
    (k : ∀ a, a ≠ none → JL P K n ops rest Q ((d, .slice a len len) :: s) (OwnSl e sz a len len cs.toList :: A) h) : JL P K n ops (⟨some d, .buildSlice t len parts, ty, pos, af, none⟩ :: rest) Q s A h :=
  bs ht hp hlen hml (by subst hz; rw [zfill]; exact hf) hc hn k
theorem fold_set : ∀ (l : List Value) (k : Nat) (A : Array Value), k + l.length = A.size → ((l.zipIdx k).foldl (fun (cs : Array Value) (p : Value × Nat) => cs.setIfInBounds (0 + p.2) p.1) A).toList = A.toList.take k ++ l
  | [], k, A, h => by
    simp only [List.length_nil, Nat.add_zero] at h
    subst h
    rw [List.zipIdx_nil, List.foldl_nil, List.append_nil, ← Array.length_toList, List.take_length]
  | c :: r, k, A, h => by
    simp only [List.length_cons] at h
    rw [List.zipIdx_cons, List.foldl_cons, fold_set r (k + 1) _ (by simp; omega)]
    have hk : k < A.toList.length := by simp; omega
    simp only [Nat.zero_add, Array.toList_setIfInBounds]
    rw [List.take_set, List.take_succ_eq_append_getElem hk, List.set_append_right _ _ (by rw [List.length_take]; omega)]
    have : (List.take k A.toList).length = k := by rw [List.length_take]; omega
    simp [this]
theorem fill_one {zs : List Value} {cs : Array Value} {sz : Nat} (hz : zs.length = sz) (hc : cs.size = sz) : Instr.fill (fun i => some (i * sz, sz)) (List.replicate 1 zs).flatten.toArray [(0, .agg cs)] = some cs := by
  have h := fold_set cs.toList 0 zs.toArray (by simp [hz, hc])
  have e : (Value.agg cs).cells = cs := rfl
  simp only [Instr.fill, e, hc, Nat.zero_mul]
  have hsz : ((List.replicate 1 zs).flatten.toArray).size = sz := by simp [hz]
  rw [if_neg (by simp [hz])]
  congr 1
  refine Array.ext' ?_
  rw [← Array.foldl_toList, Array.toList_zipIdx]
  have e2 : (List.replicate 1 zs).flatten = zs := by simp
  rw [e2]
  simpa using h
theorem bs1S {d : Nat} {ty : TypeId} {pos : String} {af : Array Edge} {t e : TypeId} {sz by_ : Nat} {zs : List Value} {x : Operand} {cs : Array Value} (ht : TSl P t e sz by_ zs) (hx : ev s x = some (.agg cs)) (hz : zs.length = sz) (hlen : sz ≤ 1000) (hc : cs.size = sz) (hn : Nat.blt d n.sz = true)
    (k : ∀ a, a ≠ none → JL P K n ops rest Q ((d, .slice a 1 1) :: s) (OwnSl e sz a 1 1 cs.toList :: A) h) : JL P K n ops (⟨some d, .buildSlice t 1 #[(0, x)], ty, pos, af, none⟩ :: rest) Q s A h :=
  bs2 (pv := [(0, .agg cs)]) ht (by simp [hx]) hz (by omega) (by omega) (fill_one hz hc) (by omega) hn k
/-- structs of four numbers are compared -/
structure TEq4 (P : Program) (t : TypeId) : Prop where
  guard : P.eqGuardType P.depth t = false
  run : ∀ d a b c e a' b' c' e' w, (Op.equalIn (d + 2) t (.agg #[.int .i64 a, .int .i64 b, .int .i64 c, .int .i64 e]) (.agg #[.int .i64 a', .int .i64 b', .int .i64 c', .int .i64 e'])).run P w = .ok ((a == a' && b == b') && (c == c' && e == e')) w
section
variable {dd : Option Tmp} {gd : Option (Nat × Bool)} {ty : TypeId} {pos : String} {af : Array Edge}
theorem eq4 {x y : Operand} {t t' : TypeId} {a b c e a' b' c' e' : Int} (ht : TEq4 P t) (hx : ev s x = some (.agg #[.int .i64 a, .int .i64 b, .int .i64 c, .int .i64 e])) (hy : ev s y = some (.agg #[.int .i64 a', .int .i64 b', .int .i64 c', .int .i64 e'])) : VF P K n s A h ⟨dd, .binOp .eql t x y t', ty, pos, af, gd⟩ (.bool ((a == a' && b == b') && (c == c' && e == e'))) := fun ac w H _ => by
  simp only [execOp, H.ev hx, H.ev hy, Sem.run_bind, run_eqGuard_agg w .eql t x y _ _ ht.guard, Result.andThen_ok, run_eql_struct, ht.run 9998]
  rfl
theorem ne4 {x y : Operand} {t t' : TypeId} {a b c e a' b' c' e' : Int} (ht : TEq4 P t) (hx : ev s x = some (.agg #[.int .i64 a, .int .i64 b, .int .i64 c, .int .i64 e])) (hy : ev s y = some (.agg #[.int .i64 a', .int .i64 b', .int .i64 c', .int .i64 e'])) : VF P K n s A h ⟨dd, .binOp .neq t x y t', ty, pos, af, gd⟩ (.bool (!((a == a' && b == b') && (c == c' && e == e')))) := fun ac w H _ => by
  simp only [execOp, H.ev hx, H.ev hy, Sem.run_bind, run_eqGuard_agg w .neq t x y _ _ ht.guard, Result.andThen_ok, run_neq_struct, ht.run 9998]
  rfl
end
/-- a box is looked at -/
theorem lookB {k : Nat} {p : Addr} {cs : List Value} {w : World} (S : SH K h w A) (hk : A[k]? = some (Box p cs)) : ∃ h', FH.le h h' ∧ Sub h' w ∧ CellsAt h' p cs := by
  obtain ⟨g, hx, hd, S'⟩ := S.look hk
  exact ⟨_, FH.le_join_left h g, S', hx.cells.mono (FH.le_join_right hd)⟩
/-- .. and kept as it is -/
theorem freezeB {k : Nat} {p : Addr} {cs : List Value} {w : World} (S : SH K h w A) (hk : A[k]? = some (Box p cs)) : ∃ h', FH.le h h' ∧ SH K h' w (A.set k tru) ∧ CellsAt h' p cs := by
  obtain ⟨g, hx, hd, S'⟩ := S.freeze hk
  exact ⟨_, FH.le_join_left h g, S', hx.cells.mono (FH.le_join_right hd)⟩
/-! ### parts of slices that stay -/
section
variable {α : Type} [Rep α] {a : Option Addr} {xs : List α} {c : Nat} {i : Int}
theorem RepL.take_ {h : FH} {xs : List α} {cs : List Value} (r : RepL h xs cs) (m : Nat) : RepL h (xs.take m) (cs.take (m * Rep.sz α)) := by
  induction xs generalizing cs m with
  | nil => rw [show cs = [] from r]; simp [RepL]
  | cons x rr ih =>
    obtain ⟨c, cs', rfl, hc, hr⟩ := r
    cases m with
    | zero => simp [RepL]
    | succ m =>
      have hl := Rep.len hc
      refine ⟨c, cs'.take (m * Rep.sz α), ?_, hc, ih hr m⟩
      have e : (m + 1) * Rep.sz α = c.length + m * Rep.sz α := by rw [hl, Nat.add_mul]; omega
      rw [e, List.take_append, List.take_of_length_le (by omega), Nat.add_sub_cancel_left]
theorem RepL.drop_ {h : FH} {xs : List α} {cs : List Value} (r : RepL h xs cs) (m : Nat) : RepL h (xs.drop m) (cs.drop (m * Rep.sz α)) := by
  induction xs generalizing cs m with
  | nil => rw [show cs = [] from r]; simp [RepL]
  | cons x rr ih =>
    obtain ⟨c, cs', rfl, hc, hr⟩ := r
    cases m with
    | zero => simp only [Nat.zero_mul, List.drop_zero]; exact ⟨c, cs', rfl, hc, hr⟩
    | succ m =>
      have hl := Rep.len hc
      have := ih hr m
      have e : (m + 1) * Rep.sz α = c.length + m * Rep.sz α := by rw [hl, Nat.add_mul]; omega
      have e2 : c.drop (c.length + m * Rep.sz α) = [] := List.drop_of_length_le (by omega)
      rw [e, List.drop_append, e2, Nat.add_sub_cancel_left]
      simpa using this
theorem RSl.take_ {h : FH} {a : Option Addr} {xs : List α} {m : Nat} (r : RSl h a xs) : RSl h a (xs.take m) := by
  obtain ⟨cs, h1, h2⟩ := r
  refine ⟨_, h1.take_ m, fun j v e => ?_⟩
  rw [List.getElem?_take] at e
  split at e
  · exact h2 j v e
  · cases e
theorem take_cap {β : Type} {xs : List β} (l : xs.length ≤ c) {m : Nat} : (xs.take m).length ≤ c := by rw [List.length_take]; omega
theorem take_len {β : Type} {xs : List β} (q : 0 ≤ i ∧ i ≤ (xs.length : Int)) : (xs.take i.toNat).length = i.toNat := by rw [List.length_take]; omega
theorem drop_le {β : Type} {xs : List β} (q : 0 ≤ i ∧ i ≤ (xs.length : Int)) : i.toNat ≤ xs.length := by omega
theorem drop_len {β : Type} {xs : List β} (_q : 0 ≤ i ∧ i ≤ (xs.length : Int)) : (xs.drop i.toNat).length = xs.length - i.toNat := by rw [List.length_drop]
theorem drop_cap {β : Type} {xs : List β} (l : xs.length ≤ c) (q : 0 ≤ i ∧ i ≤ (xs.length : Int)) : (xs.drop i.toNat).length ≤ c - i.toNat := by rw [List.length_drop]; omega
theorem RSl.drop_ {h : FH} {a : Option Addr} {xs : List α} {c : Nat} {i : Int} (r : RSl h a xs) (l : xs.length ≤ c) (q : 0 ≤ i ∧ i ≤ (xs.length : Int)) : RSl h (sla a c i.toNat (Rep.sz α)) (xs.drop i.toNat) := by
  obtain ⟨cs, h1, h2⟩ := r
  refine ⟨_, h1.drop_ i.toNat, ?_⟩
  have := h2.part (cap := c) h1.len (drop_le q) (Nat.le_refl _) l
  have e : (cs.drop (i.toNat * Rep.sz α)).take ((xs.length - i.toNat) * Rep.sz α) = cs.drop (i.toNat * Rep.sz α) := by
    rw [List.take_of_length_le]
    rw [List.length_drop, h1.len, Nat.sub_mul]; omega
  rwa [e] at this
end
theorem slL2 {dd : Option Tmp} {gd : Option (Nat × Bool)} {ty : TypeId} {pos : String} {af : Array Edge} {t e : TypeId} {x y : Operand} {sz by_ len cap nn : Nat} {a : Option Addr} {zs : List Value} {ki : IntKind} {i : Int} (ht : TSl P t e sz by_ zs) (hx : ev s x = some (.slice a len cap)) (hy : ev s y = some (.int ki i)) (h0 : 0 ≤ i) (hn : len - i.toNat = nn) (hlc : i.toNat ≤ len) : VF P K n s A h ⟨dd, .slice t x (some y) none none, ty, pos, af, gd⟩ (.slice (sla a cap i.toNat sz) nn (cap - i.toNat)) := by
  subst hn; exact slL ht hx hy h0 rfl hlc
theorem RSl.nil_of {α : Type} [Rep α] {h : FH} {a : Option Addr} {xs : List α} (r : RSl h a xs) (hz : 0 < Rep.sz α) (ha : a.isNone = true) : xs = [] := by
  cases xs with
  | nil => rfl
  | cons x rr => exact absurd (by simpa using ha) (r.ne hz (by simp))
theorem eqnil {dd : Option Tmp} {gd : Option (Nat × Bool)} {ty : TypeId} {pos : String} {af : Array Edge} {x y : Operand} {t t' : TypeId} {a : Option Addr} {m c : Nat} (ht : TIsSl P t) (hx : ev s x = some (.slice a m c)) (hy : ev s y = some (.slice none 0 0)) : VF P K n s A h ⟨dd, .binOp .eql t x y t', ty, pos, af, gd⟩ (.bool a.isNone) := fun ac w H _ => by
  obtain ⟨e, he⟩ := ht
  have hg : (eqGuard .eql t x y (.slice a m c) (.slice none 0 0)).run P w = .ok () w := by simp [eqGuard]
  cases a with
  | none =>
    simp only [execOp, H.ev hx, H.ev hy, Sem.run_bind, hg, Result.andThen_ok, Lib.run_eql_slice_nil_nil w m c he]
    rfl
  | some b =>
    simp only [execOp, H.ev hx, H.ev hy, Sem.run_bind, hg, Result.andThen_ok, Lib.run_eql_slice_some_nil w b m c he]
    rfl
/-- an element of an array, by its address -/
structure TArr (P : Program) (t : TypeId) (m sz : Nat) : Prop where
  info : ∃ e i, P.underlying t = some (.array m e) ∧ P.info? e = some i ∧ i.size = sz
theorem tArr_mk {t e : TypeId} {m sz : Nat} (hu : P.underlying t = some (.array m e)) (hs : (P.info? e).map (·.size) = some sz) : TArr P t m sz := by
  obtain ⟨i, hi, hz⟩ := Option.map_eq_some_iff.1 hs
  exact ⟨e, i, hu, hi, hz⟩
theorem ixA {dd : Option Tmp} {gd : Option (Nat × Bool)} {ty : TypeId} {pos : String} {af : Array Edge} {x y : Operand} {t : TypeId} {m sz off : Nat} {ki : IntKind} {i : Int} {p : Addr} (hx : ev s x = some (.pointer (some p))) (hy : ev s y = some (.int ki i)) (ht : TArr P t m sz) (hi : 0 ≤ i ∧ i < m) (ho : i.toNat * sz = off) : VF P K n s A h ⟨dd, .indexAddr t x y, ty, pos, af, gd⟩ (.pointer (some (p.add off))) := fun ac w H _ => by
  obtain ⟨e, ii, h1, h2, h3⟩ := ht.info
  subst ho
  simp [execOp, H.ev hx, H.ev hy, Instr.indexAt, asIntOf, run_underlying h1, Instr.sureAddr, sizeOf, typeInfo, h2, h3, hi]
theorem ixAA {dd : Option Tmp} {gd : Option (Nat × Bool)} {ty : TypeId} {pos : String} {af : Array Edge} {x y : Operand} {t : TypeId} {m sz o1 o2 off : Nat} {ki : IntKind} {i : Int} {p : Addr} (hx : ev s x = some (.pointer (some (p.add o1)))) (hy : ev s y = some (.int ki i)) (ht : TArr P t m sz) (hi : 0 ≤ i ∧ i < m) (ho : i.toNat * sz = o2) (h3 : o1 + o2 = off) : VF P K n s A h ⟨dd, .indexAddr t x y, ty, pos, af, gd⟩ (.pointer (some (p.add off))) := by
  subst h3
  rw [← add_add]
  exact ixA hx hy ht hi ho
/-- a field of a struct's value, of one cell -/
def FldV (P : Program) (t : TypeId) (f off : Nat) : Prop := ∀ (cs : Array Value) (v : Value) (w : World), cs[off]? = some v → (Instr.field t (.agg cs) f).run P w = .ok v w
theorem fldV_mk {t ft : TypeId} {f off : Nat} {fs : Array Field} (hu : P.underlying t = some (.struct fs)) (hf : (fs[f]?).map (fun x => (x.type, x.offset)) = some (ft, off)) (h1 : TOne P ft) : FldV P t f off := fun cs v w hv => by
  obtain ⟨x, hx, he⟩ := Option.map_eq_some_iff.1 hf
  simp only [Prod.mk.injEq] at he
  obtain ⟨rfl, rfl⟩ := he
  have := (h1 w).1
  simp [Instr.field, run_underlying hu, hx, asAgg, part, this, hv]
theorem fldV {dd : Option Tmp} {gd : Option (Nat × Bool)} {ty : TypeId} {pos : String} {af : Array Edge} {x : Operand} {t : TypeId} {f off : Nat} {cs : Array Value} {v : Value} (ht : FldV P t f off) (hx : ev s x = some (.agg cs)) (hv : cs[off]? = some v) : VF P K n s A h ⟨dd, .field t x f, ty, pos, af, gd⟩ v := fun ac w H _ => by
  simp [execOp, H.ev hx, ht cs v w hv]
/-- how an array is built -/
structure TBldA (P : Program) (t : TypeId) (sz : Nat) (zs : List Value) : Prop where
  run : ∀ (parts : Array (Nat × Value)) w, (Instr.build t parts).run P w = (match Instr.fill (fun i => some (i * sz, sz)) zs.toArray parts.toList with
    | some cells => .ok (.agg cells) w
    | none => (stuck "build: a part of the wrong size" : Sem Value).run P w)
theorem tBldA_mk {t e : TypeId} {m sz : Nat} {zs : List Value} {z : Value} (hu : P.underlying t = some (.array m e)) (hz : ((P.info? t).bind (·.zero)) = some z) (hzs : z.cells.toList = zs) (hs : (P.info? e).map (·.size) = some sz) : TBldA P t sz zs := by
  refine ⟨fun parts w => ?_⟩
  obtain ⟨i, hi, hzz⟩ := Option.bind_eq_some_iff.1 hz
  obtain ⟨j, hj, hjs⟩ := Option.map_eq_some_iff.1 hs
  have hzc : z.cells = zs.toArray := by rw [← hzs]
  unfold Instr.build
  simp only [Sem.run_bind, zeroValue, sizeOf, typeInfo, run_program, hi, hzz, hj, hjs, Sem.run_pure, Result.andThen_ok, run_underlying hu, hzc]
  cases Instr.fill (fun i => some (i * sz, sz)) zs.toArray parts.toList <;> rfl
theorem bldA {dd : Option Tmp} {gd : Option (Nat × Bool)} {ty : TypeId} {pos : String} {af : Array Edge} {t : TypeId} {parts : Array (Nat × Operand)} {sz : Nat} {zs : List Value} {pv : List (Nat × Value)} {cs : Array Value} (ht : TBldA P t sz zs) (hp : (parts.toList.map (fun p => (ev s p.2).map (fun v => (p.1, v)))) = pv.map some)
    (hf : Instr.fill (fun i => some (i * sz, sz)) zs.toArray pv = some cs) : VF P K n s A h ⟨dd, .build t parts, ty, pos, af, gd⟩ (.agg cs) :=
  (fun ac w H _ => by
    have key : ∀ (l : List (Nat × Operand)) (pv : List (Nat × Value)), (l.map (fun p => (ev s p.2).map (fun v => (p.1, v)))) = pv.map some → l.map (fun p => (p.1, ac.eval p.2)) = pv := by
      intro l
      induction l with
      | nil => intro pv hpv; cases pv with
        | nil => rfl
        | cons p r => simp at hpv
      | cons x r ih => intro pv hpv; cases pv with
        | nil => simp at hpv
        | cons p q =>
          simp only [List.map_cons, List.cons.injEq] at hpv
          obtain ⟨h1, h2⟩ := hpv
          obtain ⟨v, hv, hv2⟩ := Option.map_eq_some_iff.1 h1
          simp only [List.map_cons, ih q h2, H.ev hv, hv2]
    have e : (parts.map (fun x => (x.1, ac.eval x.2))).toList = pv := by rw [Array.toList_map]; exact key _ _ hp
    have e2 : (Instr.build t (parts.map (fun x => (x.1, ac.eval x.2)))).run P w = .ok (.agg cs) w := by rw [ht.run, e, hf]
    simp [execOp, e2])
/-- a number of another kind -/
theorem cv {dd : Option Tmp} {gd : Option (Nat × Bool)} {ty : TypeId} {pos : String} {af : Array Edge} {x : Operand} {ts td : TypeId} {ki kj kk : IntKind} {i : Int} (hs : P.underlying ts = some (.int kk)) (hd : P.underlying td = some (.int kj)) (hx : ev s x = some (.int ki i)) : VF P K n s A h ⟨dd, .convert ts td x, ty, pos, af, gd⟩ (.int kj (kj.wrap i)) := fun ac w H _ => by
  simp [execOp, H.ev hx, convert, run_underlying hs, run_underlying hd, Conv.intToInt]
def cpy {α : Type} (xs : List α) (lo : Nat) (zs : List α) : List α := xs.take lo ++ zs ++ xs.drop (lo + zs.length)
theorem flL_take {α : Type} [Flat α] (xs : List α) (m : Nat) (h1 : Flat.sz α = 1) : (flL xs).take m = flL (xs.take m) := by
  have := (flL_rep (h := fun _ => none) (xs := xs)).2 rfl |>.take_ m
  rw [show Rep.sz α = Flat.sz α from rfl, h1, Nat.mul_one] at this
  exact flL_rep.1 this
theorem flL_drop {α : Type} [Flat α] (xs : List α) (m : Nat) (h1 : Flat.sz α = 1) : (flL xs).drop m = flL (xs.drop m) := by
  have := (flL_rep (h := fun _ => none) (xs := xs)).2 rfl |>.drop_ m
  rw [show Rep.sz α = Flat.sz α from rfl, h1, Nat.mul_one] at this
  exact flL_rep.1 this
theorem flL_cpy {α : Type} [Flat α] (xs : List α) (lo : Nat) (zs : List α) (h1 : Flat.sz α = 1) : wrL (flL xs) lo (flL zs) = flL (cpy xs lo zs) := by
  unfold wrL cpy
  rw [flL_append, flL_append, flL_take xs lo h1, flL_drop xs _ h1, flL_len, h1, Nat.mul_one]
/-- a copy into a slice of the call's own, from an index on -/
theorem cpS {d : Nat} {ty : TypeId} {pos : String} {af : Array Edge} {x y : Operand} {t e e' : TypeId} {k nn c lo dl dc sl sc by_ cnt : Nat} {a a2 da : Option Addr} {zs cs news cs' : List Value} (ht : TSl P t e 1 by_ zs) (hx : ev s x = some (.slice da dl dc)) (hy : ev s y = some (.slice a2 sl sc)) (hk : A[k]? = some (OwnSl e' 1 a nn c cs)) (hda : da = sla a c lo 1 ∨ (lo = 0 ∧ da = a)) (hdl : dl = nn - lo) (hlo : lo ≤ nn)
    (hnews : ∀ w, SH K h w A → (0 < sl → a2 ≠ none) ∧ ∀ j u, news[j]? = some u → w.cell? (ead a2 j) = some u) (hl : news.length = cnt) (hcnt : cnt = min sl dl) (h1 : ∀ u ∈ news, u.oneCell' = true) (hcs : wrL cs lo news = cs') (hn : Nat.blt d n.sz = true)
    (kk : JL P K n ops rest Q ((d, .int .i64 (cnt : Int)) :: s) (A.set k (OwnSl e' 1 a nn c cs')) h) : JL P K n ops (⟨some d, .call { callee := .builtin .copy, args := #[x, y], argTypes := #[t, t] }, ty, pos, af, none⟩ :: rest) Q s A h :=
  JL.valW rfl rfl hn (fun ac w H S => by
    subst hl; subst hcs
    obtain ⟨ii, z, i1, i2, i3, i4, i5⟩ := ht.info
    obtain ⟨g, hX, own, up⟩ := S.upd hk
    obtain ⟨n1, n2⟩ := hnews w S
    have hi : (P.info? e).map (·.size) = some 1 := by rw [i1]; simp [i3]
    have nothing : news = [] → (Builtin.copy_ #[t, t] ty #[.slice da dl dc, .slice a2 sl sc]).run P w = .ok (.int .i64 0) w → ∃ v w' A' h', (execOp ac.eval ⟨some d, .call { callee := .builtin .copy, args := #[x, y], argTypes := #[t, t] }, ty, pos, af, none⟩).run P w = .ok (.value v) w' ∧ SH K h' w' A' ∧ JL P K n ops rest Q ((d, v) :: s) A' h' := fun he hr => by
      subst he
      refine ⟨.int .i64 0, w, _, h, ?_, ?_, kk⟩
      · simp only [execOp, resolve, invoke, builtin, Sem.run_bind, Sem.run_pure, Result.andThen_ok, List.map_toArray, List.map_cons, List.map_nil, H.ev hx, H.ev hy, hr]
      · have e0 : wrL cs lo [] = cs := by simp [wrL]
        rw [e0, set_same hk]; exact S
    rcases Nat.eq_zero_or_pos (min sl dl) with hz | hz
    · have he : news = [] := List.eq_nil_of_length_eq_zero (by omega)
      refine nothing he ?_
      have hz2 : Nat.min sl dl = 0 := hz
      have hl0 : ∀ p, (loadCells p 0).run P w = .ok #[] w := fun p => run_loadCells_list (P := P) w p [] (by simp)
      cases da <;> cases a2 <;> simp [Builtin.copy_, run_underlying ht.und, Builtin.lenOf, Builtin.firstCells, sizeOf, typeInfo, i1, storeCells, goInt, hz2, hl0]
    · obtain ⟨hcl, ⟨rfl, rfl, rfl, rfl⟩ | ⟨b, cur, rfl, rfl, q1, q2, q3, q4⟩⟩ := hX
      · omega
      · obtain ⟨b2, rfl⟩ : ∃ b2, a2 = some b2 := by
          cases a2 with
          | none => exact absurd rfl (n1 (by omega))
          | some b2 => exact ⟨b2, rfl⟩
        have hda' : da = some ⟨b, lo, none⟩ := by
          rcases hda with rfl | ⟨rfl, rfl⟩
          · unfold sla
            rw [if_neg (by omega)]
            simp only [Option.map_some, Nat.mul_one, add_lit]
          · rfl
        subst hda'
        have hbk := one_sub own.sub
        have hfit : lo + news.length ≤ cur.size := by rw [q3]; omega
        have hr := run_copy_row (P := P) w t t ty e b lo dl dc b2 sl sc cur e' news ht.und hi hbk hcnt n2 hfit h1
        refine ⟨.int .i64 (news.length : Int), w.setRow b (wrL cur.toList lo news).toArray, _, h, ?_, SH.wr up hbk _ (OwnSl e' 1 (some ⟨b, 0, none⟩) nn c (wrL cs lo news)) ⟨?_, .inr ⟨b, _, rfl, rfl, q1, q2, ?_, ?_⟩⟩, kk⟩
        · simp only [execOp, resolve, invoke, builtin, Sem.run_bind, Sem.run_pure, Result.andThen_ok, List.map_toArray, List.map_cons, List.map_nil, H.ev hx, H.ev hy, hr]
          rfl
        · simp [wrL]; omega
        · simp [wrL]; omega
        · rw [← q4]
          simp only [Nat.mul_one] at hcl q4 ⊢
          have hc : lo + news.length ≤ nn := by omega
          simp only [wrL, List.take_take, List.take_append, List.length_take, List.length_append, Array.length_toList, List.drop_take]
          have e1 : min nn lo = lo := by omega
          have e2 : min lo cur.size = lo := by omega
          have e3 : news.length ≤ nn - lo := by omega
          simp [e1, e2, List.take_of_length_le e3, Nat.min_comm lo])
theorem cpy_len {α : Type} {xs zs : List α} {lo m : Nat} (h : xs.length = m) (hl : lo + zs.length ≤ m) : (cpy xs lo zs).length = m := by
  unfold cpy
  simp only [List.length_append, List.length_take, List.length_drop]
  omega
theorem take_src {α : Type} [Flat α] {ys : List α} {m sl : Nat} {a : Option Addr} (h1 : Flat.sz α = 1) (src : ∀ w, SH K h w A → (0 < sl → a ≠ none) ∧ ∀ j u, (flL ys)[j]? = some u → w.cell? (ead a j) = some u) : ∀ w, SH K h w A → (0 < sl → a ≠ none) ∧ ∀ j u, (flL (ys.take m))[j]? = some u → w.cell? (ead a j) = some u := fun w S => ⟨(src w S).1, fun j u e => (src w S).2 j u (by
  rw [← flL_take ys m h1, List.getElem?_take] at e
  split at e
  · exact e
  · cases e)⟩
theorem take_flen {α : Type} [Flat α] {ys : List α} {m : Nat} (h1 : Flat.sz α = 1) (h : m ≤ ys.length) : (flL (ys.take m)).length = m := by
  rw [flL_len, h1, Nat.mul_one, List.length_take]; omega
theorem srcV {k : Nat} {e : TypeId} {sz m c sl : Nat} {a : Option Addr} {cs : List Value} (hk : A[k]? = some (OwnSl e sz a m c cs)) (hle : sl ≤ m) : ∀ w, SH K h w A → (0 < sl → a ≠ none) ∧ ∀ j u, cs[j]? = some u → w.cell? (ead a j) = some u := fun w S => ⟨fun q => (srcS hk w S).1 (by omega), (srcS hk w S).2⟩
theorem look_len {k : Nat} {e : TypeId} {sz m c : Nat} {a : Option Addr} {cs : List Value} {w : World} (S : SH K h w A) (hk : A[k]? = some (OwnSl e sz a m c cs)) : m ≤ c := by
  obtain ⟨g, hx, _⟩ := S.upd hk
  exact hx.len
theorem J.freezeBx {k : Nat} {p : Addr} {cs : List Value} {l : Code} (hk : A[k]? = some (Box p cs)) (kk : ∀ h', FH.le h h' → CellsAt h' p cs → J P K n l Q s (A.set k tru) h') : J P K n l Q s A h := fun ac w H S => by
  obtain ⟨h', h1, h2, h3⟩ := freezeB S hk
  exact kk h' h1 h3 ac w H h2
theorem JL.freezeBx {k : Nat} {p : Addr} {cs : List Value} {l : List Oper} (hk : A[k]? = some (Box p cs)) (kk : ∀ h', FH.le h h' → CellsAt h' p cs → JL P K n ops l Q s (A.set k tru) h') : JL P K n ops l Q s A h := fun ac w H S => by
  obtain ⟨h', h1, h2, h3⟩ := freezeB S hk
  exact kk h' h1 h3 ac w H h2
theorem J.freezeL {k : Nat} {e : TypeId} {sz m c : Nat} {a : Option Addr} {cs : List Value} {l : Code} (hk : A[k]? = some (OwnSl e sz a m c cs)) (kk : ∀ h', FH.le h h' → m ≤ c → RawSl h' a cs → J P K n l Q s (A.set k tru) h') : J P K n l Q s A h := fun ac w H S => by
  have hlen := look_len S hk
  obtain ⟨g, hx, hd, S'⟩ := S.freeze hk
  exact kk _ (FH.le_join_left h g) hlen (hx.cells.mono (FH.le_join_right hd)) ac w H S'
theorem JL.freezeL {k : Nat} {e : TypeId} {sz m c : Nat} {a : Option Addr} {cs : List Value} {l : List Oper} (hk : A[k]? = some (OwnSl e sz a m c cs)) (kk : ∀ h', FH.le h h' → m ≤ c → RawSl h' a cs → JL P K n ops l Q s (A.set k tru) h') : JL P K n ops l Q s A h := fun ac w H S => by
  have hlen := look_len S hk
  obtain ⟨g, hx, hd, S'⟩ := S.freeze hk
  exact kk _ (FH.le_join_left h g) hlen (hx.cells.mono (FH.le_join_right hd)) ac w H S'
theorem mat_freeze' {α : Type} [Flat α] {w : World} {eo e : TypeId} {k m c : Nat} {a : Option Addr} {vs : List RowV} {rs : List (List α)} (hm : rs.length = m) (hl : vs.length = rs.length) (S : SH K h w (A ++ rowsA e vs rs)) (hk : A[k]? = some (OwnSl eo 1 a m c (rowsV vs rs))) : ∃ h', FH.le h h' ∧ SH K h' w (A.set k tru) ∧ RSl h' a rs ∧ rs.length ≤ c := by
  subst hm; exact mat_freeze hl S hk
theorem J.matFreeze' {α : Type} [Flat α] {eo e : TypeId} {k m c : Nat} {a : Option Addr} {vs : List RowV} {rs : List (List α)} {l : Code} (hm : rs.length = m) (hl : vs.length = rs.length) (hk : A[k]? = some (OwnSl eo 1 a m c (rowsV vs rs)))
    (j : ∀ h', FH.le h h' → RSl h' a rs → rs.length ≤ c → J P K n l Q s (A.set k tru) h') : J P K n l Q s (A ++ rowsA e vs rs) h := fun ac w H S => by
  subst hm
  obtain ⟨h', l1, S1, r1, r2⟩ := mat_freeze hl S hk
  exact j h' l1 r1 r2 ac w H S1
end
end Go.Proofs.YtojoehfldbimpaaDoor.Pl
