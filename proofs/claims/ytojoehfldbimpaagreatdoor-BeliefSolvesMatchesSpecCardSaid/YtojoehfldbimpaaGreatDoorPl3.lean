/- The rules of the program logic for memory: variables of the call's own, slices that the call owns, slices that stay; calls and returns. No condition. -/
import Derived.Test.YtojoehfldbimpaaGreatDoorPl2
import Derived.Maps.AppendAt
namespace Go.Proofs.YtojoehfldbimpaaGreatDoor.Pl
open Go Go.RowKit

/-- a variable of the call's own at p: its cells -/
def Box (p : Addr) (cs : List Value) : Asrt := fun g => ∃ b t, p = ⟨b, 0, none⟩ ∧ g = FH.one b (.cells cs.toArray t (0, 0))
/-- a slice of the call's own: nil, or at the head of a block of its own -/
def OwnSl (e : TypeId) (sz : Nat) (a : Option Addr) (n c : Nat) (cs : List Value) : Asrt := fun g =>
  cs.length = n * sz ∧ ((a = none ∧ n = 0 ∧ c = 0 ∧ g = fun _ => none) ∨
    ∃ b cur, a = some ⟨b, 0, none⟩ ∧ g = FH.one b (.cells cur e (0, 0)) ∧ n ≤ c ∧ c ≤ maxLen ∧ cur.size = c * sz ∧ cur.toList.take (n * sz) = cs)
/-- the cells from an address on, in memory that stays -/
def CellsAt (h : FH) (p : Addr) (cs : List Value) : Prop := ∀ j v, cs[j]? = some v → h.cell (p.add j) = some v
theorem CellsAt.mono {h h' : FH} (hl : FH.le h h') {p : Addr} {cs : List Value} (c : CellsAt h p cs) : CellsAt h' p cs := fun j v e => FH.cell_mono hl (c j v e)
/-- a slice that stays: its cells -/
def RawSl (h : FH) (a : Option Addr) (cs : List Value) : Prop := ∀ j v, cs[j]? = some v → a ≠ none ∧ h.cell (ead a j) = some v
theorem RawSl.mono {h h' : FH} (hl : FH.le h h') {a : Option Addr} {cs : List Value} (c : RawSl h a cs) : RawSl h' a cs := fun j v e => ⟨(c j v e).1, FH.cell_mono hl (c j v e).2⟩
theorem add_add (a : Addr) (i j : Nat) : (a.add i).add j = a.add (i + j) := by
  unfold Addr.add
  by_cases hi : i = 0 <;> by_cases hj : j = 0 <;> simp [hi, hj, Nat.add_assoc]
theorem add_zero (a : Addr) : a.add 0 = a := rfl
theorem ead_add {a : Option Addr} (ha : a ≠ none) (i j : Nat) : (ead a i).add j = ead a (i + j) := by
  cases a with
  | none => exact absurd rfl ha
  | some x => exact add_add x i j
theorem add_lit (b i : Nat) : (⟨b, 0, none⟩ : Addr).add i = ⟨b, i, none⟩ := by unfold Addr.add; split <;> simp_all
theorem one_cell (b : Nat) (cs : Array Value) (t : TypeId) (i : Nat) : (FH.one b (.cells cs t (0, 0))).cell ⟨b, i, none⟩ = cs[i]? := by simp [FH.cell, FH.one]
theorem Box.cells {p : Addr} {cs : List Value} {g : FH} (h : Box p cs g) : CellsAt g p cs := by
  obtain ⟨b, t, rfl, rfl⟩ := h
  intro j v e
  rw [add_lit, one_cell]
  simpa using e
theorem OwnSl.cells {e : TypeId} {sz : Nat} {a : Option Addr} {n c : Nat} {cs : List Value} {g : FH} (h : OwnSl e sz a n c cs g) : RawSl g a cs := by
  obtain ⟨hl, ⟨rfl, rfl, rfl, rfl⟩ | ⟨b, cur, rfl, rfl, h1, h2, h3, h4⟩⟩ := h
  · intro j v e
    have : cs = [] := List.eq_nil_of_length_eq_zero (by simpa using hl)
    subst this
    simp at e
  · intro j v e
    refine ⟨by simp, ?_⟩
    show (FH.one b _).cell ((⟨b, 0, none⟩ : Addr).add j) = _
    rw [add_lit, one_cell]
    rw [← h4, List.getElem?_take] at e
    split at e
    · simpa using e
    · cases e

section
variable {P : Program} {K : Kp} {n : Fr} {ops : Array Oper} {Q : Exit → Act → World → Prop} {s : St} {A : List Asrt} {h : FH} {rest : List Oper} {d : Nat} {dd : Option Tmp} {gd : Option (Nat × Bool)} {ty : TypeId} {pos : String} {af : Array Edge}

/-! ### loads -/
theorem ld1 {x : Operand} {t : TypeId} {p : Addr} {v : Value} (hx : ev s x = some (.pointer (some p))) (ht : TOne P t) (hc : ∀ w, SH K h w A → w.cell? p = some v) : VF P K n s A h ⟨dd, .load t x, ty, pos, af, gd⟩ (v) :=
  (fun ac w H S => by
    simp [execOp, H.ev hx, Instr.loadAt, Instr.sureAddr, loadVar, (ht w).1, run_load, hc w S])
theorem ldA {x : Operand} {t : TypeId} {p : Addr} {cs : List Value} {m : Nat} (hx : ev s x = some (.pointer (some p))) (ht : TAgg P t m) (hm : cs.length = m) (hc : ∀ w, SH K h w A → ∀ j v, cs[j]? = some v → w.cell? (p.add j) = some v) : VF P K n s A h ⟨dd, .load t x, ty, pos, af, gd⟩ (.agg cs.toArray) :=
  (fun ac w H S => by
    subst hm
    simp [execOp, H.ev hx, Instr.loadAt, Instr.sureAddr, loadVar, (ht w).1, (ht w).2, run_loadCells_list w p cs (hc w S)])
theorem cellB {k : Nat} {p : Addr} {cs : List Value} {off : Nat} {v : Value} (hk : A[k]? = some (Box p cs)) (hv : cs[off]? = some v) : ∀ w, SH K h w A → w.cell? (p.add off) = some v := fun w S => by
  obtain ⟨g, hx, own, _⟩ := S.upd hk
  exact own.sub.cell (hx.cells off v hv)
theorem cellsB {k : Nat} {p : Addr} {cs cs' : List Value} {off m : Nat} (hk : A[k]? = some (Box p cs)) (hv : (cs.drop off).take m = cs') : ∀ w, SH K h w A → ∀ j v, cs'[j]? = some v → w.cell? ((p.add off).add j) = some v := fun w S j v e => by
  rw [add_add]
  refine cellB hk ?_ w S
  rw [← hv, List.getElem?_take] at e
  split at e
  · rw [List.getElem?_drop] at e; exact e
  · cases e
theorem cellS {k : Nat} {e : TypeId} {sz m c : Nat} {a : Option Addr} {cs : List Value} {i : Nat} {v : Value} (hk : A[k]? = some (OwnSl e sz a m c cs)) (hv : cs[i]? = some v) : ∀ w, SH K h w A → w.cell? (ead a i) = some v := fun w S => by
  obtain ⟨g, hx, own, _⟩ := S.upd hk
  exact own.sub.cell (hx.cells i v hv).2
theorem OwnSl.ne {e : TypeId} {sz m c : Nat} {a : Option Addr} {cs : List Value} {g : FH} (hx : OwnSl e sz a m c cs g) (hm : 0 < m) : a ≠ none := by
  rcases hx.2 with ⟨_, rfl, _⟩ | ⟨b, cur, rfl, _⟩
  · omega
  · simp
theorem neS {k : Nat} {e : TypeId} {sz m c : Nat} {a : Option Addr} {cs : List Value} (hk : A[k]? = some (OwnSl e sz a m c cs)) (hm : 0 < m) {w : World} (S : SH K h w A) : a ≠ none := by
  obtain ⟨g, hx, _⟩ := S.upd hk
  exact hx.ne hm
theorem ixS {x y : Operand} {t e e' : TypeId} {a : Option Addr} {k len cap sz sz' by_ : Nat} {zs cs : List Value} {ki : IntKind} {i : Int} (hx : ev s x = some (.slice a len cap)) (hy : ev s y = some (.int ki i)) (ht : TSl P t e sz by_ zs) (hk : A[k]? = some (OwnSl e' sz' a len cap cs)) (hi : 0 ≤ i ∧ i < len) : VF P K n s A h ⟨dd, .indexAddr t x y, ty, pos, af, gd⟩ (.pointer (some (ead a (i.toNat * sz)))) :=
  fun ac w H S => by
    have hne := neS hk (by omega) S
    exact ix hx hy ht hne hi ac w H S
/-- a fact that the memory itself gives may be used ahead of the next step -/
theorem JL.fact {φ : Prop} {l : List Oper} (hf : ∀ w, SH K h w A → φ) (k : φ → JL P K n ops l Q s A h) : JL P K n ops l Q s A h := fun a w H S => k (hf w S) a w H S
theorem J.fact {φ : Prop} {c : Code} (hf : ∀ w, SH K h w A → φ) (k : φ → J P K n c Q s A h) : J P K n c Q s A h := fun a w H S => k (hf w S) a w H S
theorem cellH {p : Addr} {v : Value} (hv : h.cell p = some v) : ∀ w, SH K h w A → w.cell? p = some v := fun _ S => S.sub.cell hv
theorem cellsH {p : Addr} {cs : List Value} (hv : CellsAt h p cs) : ∀ w, SH K h w A → ∀ j v, cs[j]? = some v → w.cell? (p.add j) = some v := fun _ S j v e => S.sub.cell (hv j v e)

/-! ### stores -/
def wrL (cs : List Value) (off : Nat) (vs : List Value) : List Value := cs.take off ++ vs ++ cs.drop (off + vs.length)
theorem one_sub {b : Nat} {o : Obj} {w : World} (s : Sub (FH.one b o) w) : w.heap[b]? = some o := s b o (FH.one_self b o)
theorem store_run {w : World} {t tt : TypeId} {b off m : Nat} {v : Value} {vs : List Value} {cur : Array Value} (ht : (sizeOf t).run P w = .ok m w) (hv : v.cells.toList = vs) (hm : vs.length = m) (h1 : ∀ u ∈ vs, u.oneCell' = true)
    (hb : w.heap[b]? = some (.cells cur tt (0, 0))) (hfit : off + vs.length ≤ cur.size) :
    (Instr.storeAt t (.pointer (some ⟨b, off, none⟩)) v).run P w = .ok () (w.setRow b (wrL cur.toList off vs).toArray) := by
  have hsz : v.cells.size = m := by rw [← Array.length_toList, hv, hm]
  have e : (storeCells ⟨b, off, none⟩ vs 0).run P w = _ := run_storeCells_at P b off tt vs 0 cur w hb (by simpa using hfit) h1
  simp only [Nat.add_zero] at e
  simp only [Instr.storeAt, Instr.sureAddr, Sem.run_bind, Sem.run_pure, Result.andThen_ok, storeVar, ht, hsz, ne_eq, not_true_eq_false, if_false, hv, e, wrL, List.append_assoc]
theorem SH.wr {w : World} {k b : Nat} {cs : Array Value} {t : TypeId}
    (up : ∀ (X' : Asrt) (g' : FH) (w' : World), X' g' → Sub g' w' → (∀ b', g' b' ≠ none → FH.one b (.cells cs t (0, 0)) b' ≠ none ∨ w.heap.size ≤ b') → (∀ b', b' < w.heap.size → FH.one b (.cells cs t (0, 0)) b' = none → w'.heap[b']? = w.heap[b']?) → w'.os = w.os → w'.tape = w.tape → w'.output = w.output → w.heap.size ≤ w'.heap.size → dr w ≤ dr w' → SH K h w' (A.set k X'))
    (hb : w.heap[b]? = some (.cells cs t (0, 0))) (new : Array Value) (X' : Asrt) (hX' : X' (FH.one b (.cells new t (0, 0)))) : SH K h (w.setRow b new) (A.set k X') := by
  refine up X' _ _ hX' (Sub.one (setRow_heap w b cs _ t _ hb)) (fun b' hb' => .inl ?_) (fun b' _ hn => ?_) rfl rfl rfl (by simp) (Nat.le_refl _)
  · rw [FH.one_ne hb', FH.one_self]; simp
  · refine setRow_other w b b' _ (fun e => ?_)
    rw [e, FH.one_self] at hn
    cases hn
/-- a store into a variable of the call's own -/
theorem st {x y : Operand} {t : TypeId} {p : Addr} {off k m : Nat} {cs vs : List Value} {v : Value} (hx : ev s x = some (.pointer (some (p.add off)))) (hy : ev s y = some v) (hv : v.cells.toList = vs) (ht : ∀ w, (sizeOf t).run P w = .ok m w) (hm : vs.length = m) (h1 : (vs.all Value.oneCell') = true)
    (hk : A[k]? = some (Box p cs)) (hoff : Nat.ble (off + m) cs.length = true) (kk : JL P K n ops rest Q s (A.set k (Box p (wrL cs off vs))) h) : JL P K n ops (⟨none, .store t x y, ty, pos, af, none⟩ :: rest) Q s A h :=
  JL.skipW rfl rfl (fun ac w H S => by
    have ho : off + vs.length ≤ cs.length := by rw [hm]; simpa using hoff
    obtain ⟨g, hb, own, up⟩ := S.upd hk
    obtain ⟨b, tt, rfl, rfl⟩ := hb
    have hbk := one_sub own.sub
    have e := store_run (P := P) (ht w) hv hm (by simpa using h1) hbk (off := off) (by simpa using ho)
    rw [add_lit] at hx
    refine ⟨w.setRow b (wrL cs.toArray.toList off vs).toArray, _, h, by simp only [execOp, H.ev hx, H.ev hy, Sem.run_bind, e]; rfl, SH.wr up hbk _ (Box ⟨b, 0, none⟩ (wrL cs off vs)) ⟨b, tt, rfl, by simp⟩, kk⟩)
/-- a store into a slice of the call's own -/
theorem stS {x y : Operand} {t e : TypeId} {a : Option Addr} {p : Addr} {nn c sz off k m : Nat} {cs cs' vs : List Value} {v : Value} (hx : ev s x = some (.pointer (some p))) (hp : a ≠ none → p = ead a off) (hy : ev s y = some v) (hv : v.cells.toList = vs) (ht : ∀ w, (sizeOf t).run P w = .ok m w) (hm : vs.length = m) (h1 : (vs.all Value.oneCell') = true)
    (hk : A[k]? = some (OwnSl e sz a nn c cs)) (hne : 0 < nn) (hoff : off + m ≤ cs.length) (hcs : wrL cs off vs = cs') (kk : JL P K n ops rest Q s (A.set k (OwnSl e sz a nn c cs')) h) : JL P K n ops (⟨none, .store t x y, ty, pos, af, none⟩ :: rest) Q s A h :=
  JL.skipW rfl rfl (fun ac w H S => by
    obtain ⟨g, hb, own, up⟩ := S.upd hk
    obtain ⟨hl, ⟨_, rfl, _⟩ | ⟨b, cur, rfl, rfl, q1, q2, q3, q4⟩⟩ := hb
    · omega
    have hbk := one_sub own.sub
    have hlen : cs.length ≤ cur.size := by rw [← q4, List.length_take]; simp; omega
    have e := store_run (P := P) (ht w) hv hm (by simpa using h1) hbk (off := off) (by omega)
    obtain rfl := hp (by simp)
    have hpp : ead (some (⟨b, 0, none⟩ : Addr)) off = ⟨b, off, none⟩ := add_lit b off
    rw [hpp] at hx
    refine ⟨w.setRow b (wrL cur.toList off vs).toArray, _, h, by simp only [execOp, H.ev hx, H.ev hy, Sem.run_bind, e]; rfl, SH.wr up hbk _ (OwnSl _ sz _ nn c cs') ⟨?_, .inr ⟨b, _, rfl, rfl, q1, q2, ?_, ?_⟩⟩, kk⟩
    · rw [← hcs, ← hl]; simp [wrL]; omega
    · simp [wrL]; omega
    · rw [← hcs, ← q4]
      have hc : off + vs.length ≤ nn * sz := by omega
      have hs : nn * sz ≤ cur.size := by rw [← q4, List.length_take] at hl; simp at hl; omega
      simp only [wrL, List.take_take, List.take_append, List.length_take, List.length_append, Array.length_toList, List.drop_take]
      have e1 : min (nn * sz) off = off := by omega
      have e2 : min off cur.size = off := by omega
      have e3 : vs.length ≤ nn * sz - off := by omega
      simp [e1, e2, List.take_of_length_le e3, Nat.min_comm off])

/-! ### new memory -/
theorem below_alloc (w : World) (o : Obj) : Below w.heap.size w (w.alloc o) := (Below.refl _ _).alloc (Nat.le_refl _) o
theorem SH.new {w : World} {X : Asrt} {o : Obj} (S : SH K h w A) (hX : X (FH.one w.heap.size o)) : SH K h (w.alloc o) (X :: A) :=
  S.push (below_alloc w o) hX (Sub.one (heap_alloc_new w o)) (fun b hb => by rw [FH.one_ne hb]; exact Nat.le_refl _)
theorem al {t : TypeId} {zs : List Value} (ht : TZero P t zs) (hn : Nat.blt d n.sz = true)
    (k : ∀ p, JL P K n ops rest Q ((d, .pointer (some p)) :: s) (Box p zs :: A) h) : JL P K n ops (⟨some d, .alloc t, ty, pos, af, none⟩ :: rest) Q s A h :=
  JL.valW rfl rfl hn (fun ac w H S => by
    obtain ⟨z, hz, hrun⟩ := ht
    refine ⟨_, w.alloc (.cells z.cells t), _, h, ?_, S.new (X := Box ⟨w.heap.size, 0, none⟩ zs) ⟨_, t, rfl, by rw [← hz]⟩, k _⟩
    simp [execOp, Instr.alloc, hrun w, newVar, newRow])
theorem bx {t : TypeId} {x : Operand} {v : Value} {vs : List Value} (hx : ev s x = some v) (hv : v.cells.toList = vs) (hn : Nat.blt d n.sz = true)
    (k : ∀ p, JL P K n ops rest Q ((d, .pointer (some p)) :: s) (Box p vs :: A) h) : JL P K n ops (⟨some d, .box t x, ty, pos, af, none⟩ :: rest) Q s A h :=
  JL.valW rfl rfl hn (fun ac w H S => by
    refine ⟨_, w.alloc (.cells v.cells t), _, h, ?_, S.new (X := Box ⟨w.heap.size, 0, none⟩ vs) ⟨_, t, rfl, by rw [← hv]⟩, k _⟩
    simp [execOp, Instr.box, H.ev hx, newVar, newRow])
/-- a literal slice -/
theorem bs {t e : TypeId} {len sz by_ : Nat} {zs : List Value} {parts : Array (Nat × Operand)} {pv : List (Nat × Value)} {cs : Array Value} (ht : TSl P t e sz by_ zs)
    (hp : (parts.toList.map (fun p => (ev s p.2).map (fun v => (p.1, v)))) = pv.map some) (hlen : len * sz ≤ 1000) (hml : len ≤ 1000)
    (hf : Instr.fill (fun i => some (i * sz, sz)) ((Array.range (len * sz)).map (zs.toArray[· % zs.toArray.size]!)) pv = some cs) (hc : cs.size = len * sz) (hn : Nat.blt d n.sz = true)
    (k : ∀ a, a ≠ none → JL P K n ops rest Q ((d, .slice a len len) :: s) (OwnSl e sz a len len cs.toList :: A) h) : JL P K n ops (⟨some d, .buildSlice t len parts, ty, pos, af, none⟩ :: rest) Q s A h :=
  JL.valW rfl rfl hn (fun ac w H S => by
    obtain ⟨i, z, h1, h2, h3, h4, h5⟩ := ht.info
    have key : ∀ (l : List (Nat × Operand)) (pv : List (Nat × Value)), (l.map (fun p => (ev s p.2).map (fun v => (p.1, v)))) = pv.map some → l.map (fun p => (p.1, ac.eval p.2)) = pv := by
      intro l
      induction l with
      | nil => intro pv hpv; cases pv with
        | nil => rfl
        | cons p r => simp at hpv
      | cons x r ih => intro pv hpv; cases pv with
        | nil => simp at hpv
        | cons p q =>
          simp only [List.map_cons, List.cons.injEq] at hpv
          obtain ⟨h1, h2⟩ := hpv
          obtain ⟨v, hv, hv2⟩ := Option.map_eq_some_iff.1 h1
          simp only [List.map_cons, ih q h2, H.ev hv, hv2]
    have ee : (parts.map (fun x => (x.1, ac.eval x.2))).toList = pv := by rw [Array.toList_map]; exact key _ _ hp
    have hzc : z.cells = zs.toArray := by rw [← h5]
    have erun : (Instr.buildSlice t len (parts.map (fun x => (x.1, ac.eval x.2)))).run P w = .ok (.slice (some ⟨w.heap.size, 0, none⟩) len len) (w.alloc (.cells cs e)) := by
      subst h3
      have hbig : ¬ len * i.size > 2 ^ 24 := by omega
      unfold Instr.buildSlice
      rw [Sem.run_bind, run_underlying ht.und]
      simp only [Result.andThen_ok, Sem.run_bind, sizeOf, typeInfo, run_program, h1, Sem.run_pure, if_neg hbig, ee]
      by_cases h0 : len * i.size = 0
      · have e0 : (Array.range (len * i.size)).map ((#[] : Array Value)[· % (#[] : Array Value).size]!) = (Array.range (len * i.size)).map (zs.toArray[· % zs.toArray.size]!) := by rw [h0]; simp
        rw [if_pos h0]
        simp only [Sem.run_bind, Sem.run_pure, Result.andThen_ok, e0, hf]
        rfl
      · rw [if_neg h0]
        simp only [Sem.run_bind, zeroValue, typeInfo, run_program, h1, h2, hzc, Sem.run_pure, Result.andThen_ok, hf]
        rfl
    exact ⟨_, _, _, h, by simp only [execOp, Sem.run_bind, erun]; rfl, S.new (X := OwnSl e sz (some ⟨w.heap.size, 0, none⟩) len len cs.toList) ⟨by simp [hc], .inr ⟨_, cs, rfl, rfl, Nat.le_refl _, by simp only [maxLen]; omega, hc, by rw [List.take_of_length_le]; simp [hc]⟩⟩, k _ (by simp)⟩)
/-- make of a slice whose elements have one cell -/
theorem mk {t e : TypeId} {x y : Operand} {m by_ : Nat} {z : Value} {cs' : List Value} {i : Int} (ht : TSl P t e 1 by_ [z]) (hx : ev s x = some (.int .i64 i)) (hy : ev s y = some (.int .i64 i)) (hi : i = (m : Int)) (hb : m * by_ ≤ 281474976710656) (hm : m ≤ maxLen) (hcs : List.replicate m z = cs') (hn : Nat.blt d n.sz = true)
    (k : ∀ a c, JL P K n ops rest Q ((d, .slice a m c) :: s) (OwnSl e 1 a m c cs' :: A) h) : JL P K n ops (⟨some d, .makeSlice t x y, ty, pos, af, none⟩ :: rest) Q s A h :=
  JL.valW rfl rfl hn (fun ac w H S => by
    obtain ⟨ii, zz, h1, h2, h3, h4, h5⟩ := ht.info
    subst hi; subst hcs
    have hzc : zz.cells = #[z] := by apply Array.toList_inj.1; rw [h5]
    have hbb : (by_ : Int) * (m : Int) ≤ 281474976710656 := by
      have : ((by_ * m : Nat) : Int) ≤ 281474976710656 := by rw [Nat.mul_comm]; omega
      rwa [Int.natCast_mul] at this
    have hr := run_make (P := P) w t e ii zz ht.und h1 h2 .i64 .i64 (m : Int) (m : Int) (by omega) (Int.le_refl _) (by rw [h4]; exact hbb) (by simp only [maxLen] at hm; omega)
    rw [h3, hzc] at hr
    simp only [Int.toNat_natCast, Nat.mul_one] at hr
    refine ⟨_, _, _, h, by simp only [execOp, H.ev hx, H.ev hy, Sem.run_bind, hr]; rfl, S.new (X := OwnSl e 1 (some ⟨w.heap.size, 0, none⟩) m m (List.replicate m z)) ⟨by simp, .inr ⟨_, _, rfl, rfl, Nat.le_refl _, hm, by simp [size_madeCells], ?_⟩⟩, k _ m⟩
    rw [toList_madeCells_one, List.take_of_length_le (by simp)])
/-- append onto a slice of the call's own (nil too) -/
theorem OwnSl.row {e : TypeId} {sz nn c : Nat} {a : Option Addr} {cs : List Value} {g : FH} {w : World} (h : OwnSl e sz a nn c cs g) (s : Sub g w) : w.ownsRow 0 e sz (.slice a nn c) nn cs := by
  obtain ⟨hl, ⟨rfl, rfl, rfl, rfl⟩ | ⟨b, cur, rfl, rfl, h1, h2, h3, h4⟩⟩ := h
  · exact ⟨hl, .inl ⟨rfl, rfl⟩⟩
  · exact ⟨hl, .inr ⟨b, c, cur, rfl, Nat.zero_le _, one_sub s, h1, h2, h3, h4⟩⟩
theorem append_step {w : World} {t e : TypeId} {k sz by_ nn c m c2 : Nat} {a a2 : Option Addr} {zs cs news : List Value} (S : SH K h w A) (ht : TSl P t e sz by_ zs) (hsz : zs.length = sz) (hpos : 0 < sz) (hk : A[k]? = some (OwnSl e sz a nn c cs))
    (hl : news.length = m * sz) (hne : 0 < m → a2 ≠ none) (hnews : ∀ j u, news[j]? = some u → w.cell? (ead a2 j) = some u) (h1 : ∀ u ∈ news, u.oneCell' = true) (h63 : nn + m ≤ maxLen) (hb : (nn + m) * by_ ≤ 140737488355328) (ty : TypeId) :
    ∃ a' c' w', (Builtin.append_ #[t, t] ty #[.slice a nn c, .slice a2 m c2]).run P w = .ok (.slice a' (nn + m) c') w' ∧ SH K h w' (A.set k (OwnSl e sz a' (nn + m) c' (cs ++ news))) := by
  obtain ⟨i, z, i1, i2, i3, i4, i5⟩ := ht.info
  obtain ⟨g, hX, own, up⟩ := S.upd hk
  have hown := hX.row own.sub
  have hzs : z.cells.size = sz := by rw [← Array.length_toList, i5, hsz]
  rcases a2 with _ | ad
  · have hm : m = 0 := by
      rcases Nat.eq_zero_or_pos m with h0 | h0
      · exact h0
      · exact absurd rfl (hne h0)
    subst hm
    have hn : news = [] := List.eq_nil_of_length_eq_zero (by simpa using hl)
    subst hn
    refine ⟨a, c, w, ?_, ?_⟩
    · rcases hown.2 with ⟨e1, rfl⟩ | ⟨g', cap, cur, e1, _, _, hnc, _⟩
      · injection e1 with e1 e2 e3; subst e1; subst e3
        simp [Builtin.append_, run_underlying ht.und, sizeOf, typeInfo, i1, Builtin.lenOf, Builtin.firstCells]
      · injection e1 with e1 e2 e3; subst e1; subst e3
        simp [Builtin.append_, run_underlying ht.und, sizeOf, typeInfo, i1, Builtin.lenOf, Builtin.firstCells, hnc, storeCells]
    · simp only [Nat.add_zero, List.append_nil]
      exact up _ g w hX own.sub (fun b hb => .inl hb) (fun _ _ _ => rfl) rfl rfl rfl (Nat.le_refl _) (Nat.le_refl _)
  · obtain ⟨v', w', hr, h2, h3, _, h5⟩ := run_append_own_at (P := P) w 0 t ty e i z sz by_ ht.und i1 i2 i3 i4 hzs hpos (.slice a nn c) nn cs hown ad m c2 news hl hnews h1 h63 hb (Nat.zero_le _)
    have hgr : ∀ b, some b ≠ (Value.slice a nn c).ownBlock → b < w.heap.size → w'.heap[b]? = w.heap[b]? := fun b hb hlt => h3.block b hlt hb
    have hin : ∀ b, (Value.slice a nn c).ownBlock = some b → g b ≠ none := fun b hb => by
      rcases hX.2 with ⟨rfl, _⟩ | ⟨b', cur, rfl, rfl, _⟩
      · simp [Value.ownBlock] at hb
      · simp [Value.ownBlock] at hb; subst hb; rw [FH.one_self]; simp
    rcases h2.2 with ⟨rfl, h0⟩ | ⟨g', cap, cur, rfl, _, hg', q1, q2, q3, q4⟩
    · refine ⟨none, 0, w', by rw [hr]; congr 1; simp [h0], ?_⟩
      have hnil : cs ++ news = [] := List.eq_nil_of_length_eq_zero (by rw [List.length_append, hX.1, hl, ← Nat.add_mul, h0]; simp)
      rw [hnil, h0]
      exact up _ (fun _ => none) w' ⟨by simp, .inl ⟨rfl, rfl, rfl, rfl⟩⟩ (fun _ _ x => by cases x) (fun _ x => absurd rfl x) (fun b hb hg => hgr b (fun x => hin b x.symm hg) hb) h3.os h3.tape h3.output h3.size (run_dr _ _ _ _ hr)
    · refine ⟨some ⟨g', 0, none⟩, cap, w', hr, ?_⟩
      refine up _ (FH.one g' (.cells cur e (0, 0))) w' ⟨h2.1, .inr ⟨g', cur, rfl, rfl, q1, q2, q3, q4⟩⟩ (Sub.one hg') (fun b hb => ?_) (fun b hb hg => hgr b (fun x => hin b x.symm hg) hb) h3.os h3.tape h3.output h3.size (run_dr _ _ _ _ hr)
      rw [FH.one_ne hb]
      rcases h5 with h5 | h5
      · exact .inl (hin g' h5.symm)
      · have : g' = w.heap.size := by simpa [Value.ownBlock] using h5
        exact .inr (by omega)
theorem app {t e : TypeId} {x y : Operand} {k sz by_ nn c m c2 nm : Nat} {a a2 : Option Addr} {zs cs news cs' : List Value} (ht : TSl P t e sz by_ zs) (hsz : zs.length = sz) (hpos : 0 < sz) (hx : ev s x = some (.slice a nn c)) (hy : ev s y = some (.slice a2 m c2)) (hk : A[k]? = some (OwnSl e sz a nn c cs))
    (hl : news.length = m * sz) (hnews : ∀ w, SH K h w A → (0 < m → a2 ≠ none) ∧ ∀ j u, news[j]? = some u → w.cell? (ead a2 j) = some u) (h1 : ∀ u ∈ news, u.oneCell' = true) (h63 : nn + m ≤ maxLen) (hb : (nn + m) * by_ ≤ 140737488355328) (hnm : nn + m = nm) (hcs : cs ++ news = cs') (hn : Nat.blt d n.sz = true)
    (kk : ∀ a' c', JL P K n ops rest Q ((d, .slice a' nm c') :: s) (A.set k (OwnSl e sz a' nm c' cs')) h) : JL P K n ops (⟨some d, .call { callee := .builtin .append, args := #[x, y], argTypes := #[t, t] }, ty, pos, af, none⟩ :: rest) Q s A h :=
  JL.valW rfl rfl hn (fun ac w H S => by
    subst hnm; subst hcs
    obtain ⟨a', c', w', hr, hs⟩ := append_step (c2 := c2) S ht hsz hpos hk hl (hnews w S).1 (hnews w S).2 h1 h63 hb ty
    refine ⟨_, w', _, h, ?_, hs, kk a' c'⟩
    simp only [execOp, resolve, invoke, builtin, Sem.run_bind, Sem.run_pure, Result.andThen_ok, List.map_toArray, List.map_cons, List.map_nil, H.ev hx, H.ev hy, hr])
/-- a slice that is nil and not owned yet may be owned -/
theorem JL.nilSl (e : TypeId) (sz : Nat) {l : List Oper} (k : JL P K n ops l Q s (OwnSl e sz none 0 0 [] :: A) h) : JL P K n ops l Q s A h := fun a w H S =>
  k a w H (S.push (Below.refl _ _) (g := fun _ => none) ⟨by simp, .inl ⟨rfl, rfl, rfl, rfl⟩⟩ (fun _ _ x => by cases x) (fun _ x => absurd rfl x))
theorem J.nilSl (e : TypeId) (sz : Nat) {c : Code} (k : J P K n c Q s (OwnSl e sz none 0 0 [] :: A) h) : J P K n c Q s A h := fun a w H S =>
  k a w H (S.push (Below.refl _ _) (g := fun _ => none) ⟨by simp, .inl ⟨rfl, rfl, rfl, rfl⟩⟩ (fun _ _ x => by cases x) (fun _ x => absurd rfl x))
/-- the source of an append, or of a reading: a slice of the call's own -/
theorem srcS {k : Nat} {e : TypeId} {sz m c : Nat} {a : Option Addr} {cs : List Value} (hk : A[k]? = some (OwnSl e sz a m c cs)) : ∀ w, SH K h w A → (0 < m → a ≠ none) ∧ ∀ j u, cs[j]? = some u → w.cell? (ead a j) = some u := fun w S => by
  obtain ⟨g, hx, own, _⟩ := S.upd hk
  exact ⟨hx.ne, fun j u e => own.sub.cell (hx.cells j u e).2⟩
theorem srcH {m : Nat} {a : Option Addr} {cs : List Value} (ha : 0 < m → a ≠ none) (hr : RawSl h a cs) : ∀ w, SH K h w A → (0 < m → a ≠ none) ∧ ∀ j u, cs[j]? = some u → w.cell? (ead a j) = some u := fun _ S => ⟨ha, fun j u e => S.sub.cell (hr j u e).2⟩
/-- what the call owns may be given up: from then on it stays -/
theorem JL.freeze {k : Nat} {e : TypeId} {sz m c : Nat} {a : Option Addr} {cs : List Value} {l : List Oper} (hk : A[k]? = some (OwnSl e sz a m c cs)) (kk : ∀ h', FH.le h h' → (0 < m → a ≠ none) → RawSl h' a cs → JL P K n ops l Q s (A.set k tru) h') : JL P K n ops l Q s A h := fun ac w H S => by
  obtain ⟨g, hx, hd, S'⟩ := S.freeze hk
  exact kk _ (FH.le_join_left h g) hx.ne (hx.cells.mono (FH.le_join_right hd)) ac w H S'
theorem J.freeze {k : Nat} {e : TypeId} {sz m c : Nat} {a : Option Addr} {cs : List Value} {l : Code} (hk : A[k]? = some (OwnSl e sz a m c cs)) (kk : ∀ h', FH.le h h' → (0 < m → a ≠ none) → RawSl h' a cs → J P K n l Q s (A.set k tru) h') : J P K n l Q s A h := fun ac w H S => by
  obtain ⟨g, hx, hd, S'⟩ := S.freeze hk
  exact kk _ (FH.le_join_left h g) hx.ne (hx.cells.mono (FH.le_join_right hd)) ac w H S'
theorem look {k : Nat} {e : TypeId} {sz m c : Nat} {a : Option Addr} {cs : List Value} {w : World} (S : SH K h w A) (hk : A[k]? = some (OwnSl e sz a m c cs)) : ∃ h', FH.le h h' ∧ Sub h' w ∧ (0 < m → a ≠ none) ∧ RawSl h' a cs := by
  obtain ⟨g, hx, hd, S'⟩ := S.look hk
  exact ⟨_, FH.le_join_left h g, S', hx.ne, hx.cells.mono (FH.le_join_right hd)⟩
/-- a part of a slice -/
def sla (a : Option Addr) (cap l sz : Nat) : Option Addr := if cap = l then a else a.map (·.add (l * sz))
theorem sl_run {t e : TypeId} {sz by_ : Nat} {zs : List Value} (ht : TSl P t e sz by_ zs) (w : World) : P.underlying t = some (.slice (P.elem t)) ∧ (sizeOf (P.elem t)).run P w = .ok sz w := by
  obtain ⟨ii, z, h1, h2, h3, h4, h5⟩ := ht.info
  have hel : P.elem t = e := by unfold Program.elem; rw [ht.und]
  exact ⟨by rw [hel]; exact ht.und, by rw [hel]; simp [sizeOf, typeInfo, h1, h3]⟩
theorem slH {t e : TypeId} {x y : Operand} {sz by_ len cap u : Nat} {a : Option Addr} {zs : List Value} {ki : IntKind} {i : Int} (ht : TSl P t e sz by_ zs) (hx : ev s x = some (.slice a len cap)) (hy : ev s y = some (.int ki i)) (h0 : 0 ≤ i) (hu : i.toNat = u) (huc : u ≤ cap) : VF P K n s A h ⟨dd, .slice t x none (some y) none, ty, pos, af, gd⟩ (.slice a u cap) :=
  (fun ac w H _ => by
    obtain ⟨e1, e2⟩ := sl_run ht w
    have hr := run_slice_h (P := P) w t a len cap e1 ki i h0 (by omega)
    have em : a.map (fun x => x.add (0 * sz)) = a := by cases a <;> simp [Addr.add]
    simp only [execOp, Option.map_none, Option.map_some, H.ev hx, H.ev hy, Sem.run_bind, run_sliceAt_slice w t _ _ _ _ e1, hr, e2, Result.andThen_ok, sliced, hu, em]
    simp)
theorem slL {t e : TypeId} {x y : Operand} {sz by_ len cap l : Nat} {a : Option Addr} {zs : List Value} {ki : IntKind} {i : Int} (ht : TSl P t e sz by_ zs) (hx : ev s x = some (.slice a len cap)) (hy : ev s y = some (.int ki i)) (h0 : 0 ≤ i) (hl : i.toNat = l) (hlc : l ≤ len) : VF P K n s A h ⟨dd, .slice t x (some y) none none, ty, pos, af, gd⟩ (.slice (sla a cap l sz) (len - l) (cap - l)) :=
  (fun ac w H _ => by
    obtain ⟨e1, e2⟩ := sl_run ht w
    have hr := run_slice_l (P := P) w t a len cap e1 ki i h0 (by omega)
    simp only [execOp, Option.map_none, Option.map_some, H.ev hx, H.ev hy, Sem.run_bind, run_sliceAt_slice w t _ _ _ _ e1, hr, e2, Result.andThen_ok, sliced, hl, sla]
    rfl)
theorem RawSl.part {a : Option Addr} {cs : List Value} {len cap sz l u : Nat} (r : RawSl h a cs) (_hl : cs.length = len * sz) (hlu : l ≤ u) (hul : u ≤ len) (hlc : len ≤ cap) : RawSl h (sla a cap l sz) ((cs.drop (l * sz)).take ((u - l) * sz)) := by
  intro j v e
  rw [List.getElem?_take] at e
  split at e
  · rw [List.getElem?_drop] at e
    have := r _ v e
    rename_i hj
    have hlt : l < u := by
      rcases Nat.lt_or_ge l u with q | q
      · exact q
      · have : u - l = 0 := by omega
        rw [this] at hj; simp at hj
    unfold sla
    rw [if_neg (by omega)]
    cases a with
    | none => exact absurd rfl this.1
    | some x =>
      refine ⟨by simp, ?_⟩
      show h.cell ((x.add (l * sz)).add j) = some v
      rw [add_add]
      exact this.2
  · cases e

/-! ### calls -/
theorem call_exec {f : FuncId} {x : Operand} {xs : Array Operand} {ts : Array TypeId} {first cap : Array Value} {vs : List Value} {a : Act} {w : World} (H : Holds n s a) (hf : ∀ args w, (callFunc f args).run P w = .ok (.enter f args) w)
    (hx : ev s x = some (.func (.func f) first cap)) (hv : evs s xs.toList = some vs) {o : Oper} (ho : o.op = .call { callee := .value x, args := xs, argTypes := ts }) :
    (execOp a.eval o).run P w = .ok (.enter f (first.toList ++ vs ++ cap.toList).toArray) w := by
  have e1 : xs.map a.eval = vs.toArray := by rw [← Array.toArray_toList (xs := xs), List.map_toArray, H.evs hv]
  have e2 : first ++ vs.toArray ++ cap = (first.toList ++ vs ++ cap.toList).toArray := by apply Array.toList_inj.1; simp
  simp only [execOp, ho, resolve, H.ev hx, Deferred.ofValue, Sem.run_bind, Sem.run_pure, Result.andThen_ok, invoke, e1, hf, e2]
/-- a call that gives a plain value -/
theorem cl {f : FuncId} {x : Operand} {xs : Array Operand} {ts : Array TypeId} {first cap : Array Value} {vs : List Value} {v : Value} (hf : ∀ args w, (callFunc f args).run P w = .ok (.enter f args) w)
    (hx : ev s x = some (.func (.func f) first cap)) (hv : evs s xs.toList = some vs) (hc : ∀ w, SH K h w A → Calls P f (first.toList ++ vs ++ cap.toList).toArray w fun e w' => e = .returned v ∧ Below w.heap.size w w') : CF P K n s A h ⟨dd, .call { callee := .value x, args := xs, argTypes := ts }, ty, pos, af, gd⟩ v :=
  fun _ w H S => ⟨f, _, call_exec H hf hx hv rfl, hc w S⟩
/-- a call that gives memory of its own -/
theorem clO {α : Type} {V : α → Value} {Ψ : α → Prop} {B : α → List Asrt} {f : FuncId} {x : Operand} {xs : Array Operand} {ts : Array TypeId} {first cap : Array Value} {vs : List Value} (hf : ∀ args w, (callFunc f args).run P w = .ok (.enter f args) w)
    (hx : ev s x = some (.func (.func f) first cap)) (hv : evs s xs.toList = some vs) (hc : ∀ w, SH K h w A → Calls P f (first.toList ++ vs ++ cap.toList).toArray w fun e w' => ∃ (r : α) (h0 h1 : FH), e = .returned (V r) ∧ Ψ r ∧ FH.le h h1 ∧ SH (Kp.all w h0) h1 w' (B r)) (hn : Nat.blt d n.sz = true)
    (k : ∀ r, Ψ r → JL P K n ops rest Q ((d, V r) :: s) (B r ++ A) h) : JL P K n ops (⟨some d, .call { callee := .value x, args := xs, argTypes := ts }, ty, pos, af, none⟩ :: rest) Q s A h :=
  JL.callW rfl rfl hn (fun _ _ H _ => call_exec H hf hx hv rfl) (fun w S => (hc w S).mono fun _ _ ⟨r, _, _, he, hψ, hl, sr⟩ => ⟨V r, B r ++ A, h, he, S.merge (sr.anti hl) (fun _ hb => .inl hb), k r hψ⟩)
/-- a call that gives memory that stays -/
theorem clR {α : Type} {V : α → Value} {Φ : FH → α → Prop} {B : α → List Asrt} {f : FuncId} {x : Operand} {xs : Array Operand} {ts : Array TypeId} {first cap : Array Value} {vs : List Value} (hf : ∀ args w, (callFunc f args).run P w = .ok (.enter f args) w)
    (hx : ev s x = some (.func (.func f) first cap)) (hv : evs s xs.toList = some vs) (hc : ∀ w, SH K h w A → Calls P f (first.toList ++ vs ++ cap.toList).toArray w fun e w' => ∃ (r : α) (h1 : FH), e = .returned (V r) ∧ FH.le h h1 ∧ Φ h1 r ∧ SH (Kp.all w h) h1 w' (B r)) (hn : Nat.blt d n.sz = true)
    (k : ∀ r h1, FH.le h h1 → Φ h1 r → JL P K n ops rest Q ((d, V r) :: s) (B r ++ A) h1) : JL P K n ops (⟨some d, .call { callee := .value x, args := xs, argTypes := ts }, ty, pos, af, none⟩ :: rest) Q s A h :=
  JL.callW rfl rfl hn (fun _ _ H _ => call_exec H hf hx hv rfl) (fun w S => (hc w S).mono fun _ _ ⟨r, h1, he, hl, hφ, sr⟩ => ⟨V r, B r ++ A, h1, he, S.merge sr (fun b hb => by
    rcases sr.fresh b hb with q | q
    · exact .inl q
    · exact .inr (Nat.le_of_not_lt q)), k r h1 hl hφ⟩)
end

/-! ### the end of a function -/
section
variable {P : Program} {K : Kp} {n : Fr} {s : St} {A : List Asrt} {h : FH} {fn : Func} {R : Ending → World → Prop}
def resOne (tmps : Array Value) (r : ResultVar) : Sem Value := match r with | .tmp t => pure (tmps.getD t undef) | .cell x t => do loadVar t (← asAddr (tmps.getD x undef))
theorem results_eq (tmps : Array Value) : results fn tmps = (do let vs ← fn.results.mapM (resOne tmps); pure (if h : vs.size = 1 then vs[0] else .tuple vs)) := by
  unfold results
  congr 1
/-- what a result variable gives -/
def RV (P : Program) (K : Kp) (n : Fr) (s : St) (A : List Asrt) (h : FH) (r : ResultVar) (v : Value) : Prop := ∀ a w, Holds n s a → SH K h w A →
  (resOne a.tmps r).run P w = .ok v w
theorem rvT {t : Nat} {v : Value} (hv : get s t = some v) : RV P K n s A h (.tmp t) v := fun a w H _ => by simp only [resOne, H.getD hv]; rfl
theorem rvC {x t k m : Nat} {p : Addr} {cs : List Value} (hx : get s x = some (.pointer (some p))) (ht : TAgg P t m) (hk : A[k]? = some (Box p cs)) (hm : cs.length = m) : RV P K n s A h (.cell x t) (.agg cs.toArray) := fun a w H S => by
  subst hm
  have hc := cellsB (K := K) (h := h) (off := 0) (m := cs.length) hk (cs' := cs) (by simp) w S
  simp [resOne, H.getD hx, asAddr, loadVar, (ht w).1, (ht w).2, run_loadCells_list w p cs hc]
theorem rvC1 {x t k : Nat} {p : Addr} {v : Value} (hx : get s x = some (.pointer (some p))) (ht : TOne P t) (hk : A[k]? = some (Box p [v])) : RV P K n s A h (.cell x t) v := fun a w H S => by
  have hc := cellB (K := K) (h := h) (off := 0) hk (v := v) rfl w S
  rw [add_zero] at hc
  simp [resOne, H.getD hx, asAddr, loadVar, (ht w).1, run_load, hc]
theorem E.res0 {m_ : Nat} {ro_ : Option (Option Nat)} {e : Exit} (he : e = .ret ∨ e = .normal) (hr : fn.results = #[]) (k : ∀ w, SH K h w A → R (.returned (.tuple #[])) w) : E K ⟨m_, ro_, []⟩ (bodyPost P fn R) e s A h := fun a w H S => by
  rcases he with rfl | rfl <;> exact ⟨H.defers, _, results_none hr _ _ _, k w S⟩
theorem E.res1 {m_ : Nat} {ro_ : Option (Option Nat)} {r : ResultVar} {v : Value} (hr : fn.results = #[r]) (h1 : RV P K ⟨m_, ro_, []⟩ s A h r v) (k : ∀ w, SH K h w A → R (.returned v) w) : E K ⟨m_, ro_, []⟩ (bodyPost P fn R) .ret s A h := fun a w H S => by
  refine ⟨H.defers, v, ?_, k w S⟩
  have e1 := h1 a w H S
  simp only [results_eq, hr, Sem.run_bind, List.mapM_toArray, List.mapM_cons, List.mapM_nil, e1, Sem.run_map, Result.andThen_ok, Sem.run_pure]
  rfl
theorem E.res2 {m_ : Nat} {ro_ : Option (Option Nat)} {r1 r2 : ResultVar} {v1 v2 : Value} (hr : fn.results = #[r1, r2]) (h1 : RV P K ⟨m_, ro_, []⟩ s A h r1 v1) (h2 : RV P K ⟨m_, ro_, []⟩ s A h r2 v2) (k : ∀ w, SH K h w A → R (.returned (.tuple #[v1, v2])) w) : E K ⟨m_, ro_, []⟩ (bodyPost P fn R) .ret s A h := fun a w H S => by
  refine ⟨H.defers, _, ?_, k w S⟩
  have e1 := h1 a w H S
  have e2 := h2 a w H S
  simp only [results_eq, hr, Sem.run_bind, List.mapM_toArray, List.mapM_cons, List.mapM_nil, e1, e2, Sem.run_map, Result.andThen_ok, Sem.run_pure]
  rfl
theorem E.res3 {m_ : Nat} {ro_ : Option (Option Nat)} {r1 r2 r3 : ResultVar} {v1 v2 v3 : Value} (hr : fn.results = #[r1, r2, r3]) (h1 : RV P K ⟨m_, ro_, []⟩ s A h r1 v1) (h2 : RV P K ⟨m_, ro_, []⟩ s A h r2 v2) (h3 : RV P K ⟨m_, ro_, []⟩ s A h r3 v3) (k : ∀ w, SH K h w A → R (.returned (.tuple #[v1, v2, v3])) w) : E K ⟨m_, ro_, []⟩ (bodyPost P fn R) .ret s A h := fun a w H S => by
  refine ⟨H.defers, _, ?_, k w S⟩
  have e1 := h1 a w H S
  have e2 := h2 a w H S
  have e3 := h3 a w H S
  simp only [results_eq, hr, Sem.run_bind, List.mapM_toArray, List.mapM_cons, List.mapM_nil, e1, e2, e3, Sem.run_map, Result.andThen_ok, Sem.run_pure]
  rfl
/-- the beginning of a function -/
def start : Nat → List Value → St
  | _, [] => []
  | i, v :: r => (i, v) :: start (i + 1) r
theorem get_start (i : Nat) (vs : List Value) (t : Nat) (v : Value) (h : get (start i vs) t = some v) : i ≤ t ∧ vs[t - i]? = some v := by
  induction vs generalizing i with
  | nil => cases h
  | cons u r ih =>
    simp only [start, get] at h
    cases hb : Nat.beq i t with
    | true =>
      have := Nat.eq_of_beq_eq_true hb
      subst this
      simp only [hb, cond_true] at h
      simp [h]
    | false =>
      simp only [hb, cond_false] at h
      obtain ⟨h1, h2⟩ := ih (i + 1) h
      refine ⟨by omega, ?_⟩
      have : t - i = (t - (i + 1)) + 1 := by omega
      rw [this]; simpa using h2
theorem enter {f : FuncId} {c : Code} {args : List Value} {w : World} (hf : P.funcs[f]? = some fn) (hb : fn.body = some c) {n : Nat} (hn : fn.ntmps = n) (hle : Nat.ble args.length n = true) (hs : Sub h w)
    (j : J P (Kp.all w h) ⟨n, none, []⟩ c (bodyPost P fn R) (start 0 args) [] h) : Calls P f args.toArray w R := by
  have hl : args.length ≤ n := by simpa using hle
  refine calls_of_wp hf hb (j _ w ⟨rfl, ?_, fun t v e => ?_⟩ (SH.start w h hs))
  · simp [hn]; omega
  · obtain ⟨_, h2⟩ := get_start 0 args t v e
    simp only [Nat.sub_zero] at h2
    have hlt : t < args.length := (List.getElem?_eq_some_iff.1 h2).1
    rw [Array.getElem?_append_left (by simpa using hlt)]
    simpa using h2
end
end Go.Proofs.YtojoehfldbimpaaGreatDoor.Pl

