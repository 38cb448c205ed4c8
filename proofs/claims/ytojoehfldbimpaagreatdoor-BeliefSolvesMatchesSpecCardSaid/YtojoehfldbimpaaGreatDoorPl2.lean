/- The rules of the program logic for single operations: numbers, truth values, boxes (variables of the call's own), slices that stay and slices that the call owns. No condition. -/
import Derived.Test.YtojoehfldbimpaaGreatDoorPl1
namespace Go.Proofs.YtojoehfldbimpaaGreatDoor.Pl
open Go Go.RowKit

/-! ### what is asked of the program's tables, type by type -/
def TOne (P : Program) (t : TypeId) : Prop := ∀ w, (isAgg t).run P w = .ok false w ∧ (sizeOf t).run P w = .ok 1 w
def TAgg (P : Program) (t : TypeId) (k : Nat) : Prop := ∀ w, (isAgg t).run P w = .ok true w ∧ (sizeOf t).run P w = .ok k w
def TZero (P : Program) (t : TypeId) (zs : List Value) : Prop := ∃ z : Value, z.cells.toList = zs ∧ ∀ w, (zeroValue t).run P w = .ok z w
def FldAt (P : Program) (t : TypeId) (f off : Nat) : Prop := ∀ a w, (Instr.fieldAt t (.pointer (some a)) f).run P w = .ok (.pointer (some (a.add off))) w
structure TSl (P : Program) (t e : TypeId) (sz bytes : Nat) (zs : List Value) : Prop where
  und : P.underlying t = some (.slice e)
  info : ∃ i z, P.info? e = some i ∧ i.zero = some z ∧ i.size = sz ∧ i.bytes = bytes ∧ z.cells.toList = zs
def TIsSl (P : Program) (t : TypeId) : Prop := ∃ e, P.underlying t = some (.slice e)
theorem TSl.is {P : Program} {t e : TypeId} {sz bytes : Nat} {zs : List Value} (h : TSl P t e sz bytes zs) : TIsSl P t := ⟨e, h.und⟩
/-- how a struct is built: its zero value's cells, and where each field lies -/
structure TBld (P : Program) (t : TypeId) (zs : List Value) (pl : List (Nat × Nat)) : Prop where
  run : ∀ (parts : Array (Nat × Value)) w, (Instr.build t parts).run P w = (match Instr.fill (fun i => pl[i]?) zs.toArray parts.toList with
    | some cells => .ok (.agg cells) w
    | none => (stuck "build: no such field, or a part of the wrong size" : Sem Value).run P w)

section
variable {P : Program}
theorem tOne_mk {t : TypeId} {d : TypeDesc} (hu : P.underlying t = some d) (hd : (match d with | .struct _ | .array _ _ => true | _ => false) = false) (hs : P.cellsOf t = 1) : TOne P t := by
  intro w
  obtain ⟨i, hi, hsz⟩ : ∃ i, P.info? t = some i ∧ i.size = 1 := by
    unfold Program.cellsOf at hs
    cases hh : P.info? t with
    | none => rw [hh] at hs; simp at hs
    | some i => rw [hh] at hs; exact ⟨i, rfl, by simpa using hs⟩
  refine ⟨?_, by simp [sizeOf, typeInfo, hi, hsz]⟩
  unfold isAgg
  rw [Sem.run_bind, run_underlying hu]
  cases d <;> first | rfl | (simp at hd)
theorem tAgg_mk {t : TypeId} {d : TypeDesc} {k : Nat} (hu : P.underlying t = some d) (hd : (match d with | .struct _ | .array _ _ => true | _ => false) = true) (hs : (P.info? t).map (·.size) = some k) : TAgg P t k := by
  intro w
  obtain ⟨i, hi, hsz⟩ := Option.map_eq_some_iff.1 hs
  refine ⟨?_, by simp [sizeOf, typeInfo, hi, hsz]⟩
  unfold isAgg
  rw [Sem.run_bind, run_underlying hu]
  cases d <;> first | rfl | (simp at hd)
theorem tZero_mk {t : TypeId} {z : Value} {zs : List Value} (h : ((P.info? t).bind (·.zero)) = some z) (hz : z.cells.toList = zs) : TZero P t zs := by
  obtain ⟨i, hi, hzz⟩ := Option.bind_eq_some_iff.1 h
  exact ⟨z, hz, fun w => by simp [zeroValue, typeInfo, hi, hzz]⟩
theorem tSl_mk {t e : TypeId} {sz bytes : Nat} {z : Value} {zs : List Value} (hu : P.underlying t = some (.slice e)) (h : (P.info? e).map (fun i => (i.zero, i.size, i.bytes)) = some (some z, sz, bytes)) (hz : z.cells.toList = zs) : TSl P t e sz bytes zs := by
  obtain ⟨i, hi, hz0, hz1, hz2⟩ := info_parts h
  exact ⟨hu, i, z, hi, hz0, hz1, hz2, hz⟩
theorem fldAt_mk {t : TypeId} {f off : Nat} {fs : Array Field} (hu : P.underlying t = some (.struct fs)) (h : (fs[f]?).map (fun x => (x.offset, P.cellsOf x.type == 0)) = some (off, false)) : FldAt P t f off := by
  intro a w
  obtain ⟨x, hx, he⟩ := Option.map_eq_some_iff.1 h
  simp only [Prod.mk.injEq] at he
  obtain ⟨rfl, h0⟩ := he
  have hne : P.cellsOf x.type ≠ 0 := by simpa using h0
  obtain ⟨i, hi, hsz⟩ : ∃ i, P.info? x.type = some i ∧ i.size ≠ 0 := by
    unfold Program.cellsOf at hne
    cases hh : P.info? x.type with
    | none => rw [hh] at hne; simp at hne
    | some i => rw [hh] at hne; exact ⟨i, rfl, by simpa using hne⟩
  simp [Instr.fieldAt, run_underlying hu, hx, Instr.sureAddr, fieldPlace, sizeOf, typeInfo, hi, hsz]

theorem tBld_mk {t : TypeId} {zs : List Value} {pl : List (Nat × Nat)} {fs : Array Field} {z : Value} (hu : P.underlying t = some (.struct fs)) (hz : ((P.info? t).bind (·.zero)) = some z) (hzs : z.cells.toList = zs)
    (hp : fs.toList.map (fun f => (P.info? f.type).map (fun i => (f.offset, i.size))) = pl.map some) : TBld P t zs pl := by
  refine ⟨fun parts w => ?_⟩
  obtain ⟨i, hi, hzz⟩ := Option.bind_eq_some_iff.1 hz
  have key : ∀ (l : List Field) (pl : List (Nat × Nat)), l.map (fun f => (P.info? f.type).map (fun i => (f.offset, i.size))) = pl.map some → (l.mapM (fun f => do pure (f.offset, ← sizeOf f.type) : Field → Sem (Nat × Nat))).run P w = .ok pl w := by
    intro l
    induction l with
    | nil => intro pl h; cases pl with
      | nil => rfl
      | cons p r => simp at h
    | cons f r ih => intro pl h; cases pl with
      | nil => simp at h
      | cons p q =>
        simp only [List.map_cons, List.cons.injEq] at h
        obtain ⟨h1, h2⟩ := h
        obtain ⟨j, hj, hj2⟩ := Option.map_eq_some_iff.1 h1
        have e := ih q h2
        simp only [List.mapM_cons, Sem.run_bind, sizeOf, typeInfo, run_program, Result.andThen_ok, hj, Sem.run_pure, hj2] at e ⊢
        rw [e]
        rfl
  have e : (fs.mapM (fun f => do pure (f.offset, ← sizeOf f.type) : Field → Sem (Nat × Nat))).run P w = .ok pl.toArray w := by
    rw [← Array.toArray_toList (xs := fs), List.mapM_toArray, Sem.run_map, key _ _ hp]; rfl
  have hzc : z.cells = zs.toArray := by rw [← hzs]
  have e2 : (fun i : Nat => pl.toArray[i]?) = (fun i : Nat => pl[i]?) := by funext i; simp
  unfold Instr.build
  simp only [Sem.run_bind, zeroValue, typeInfo, run_program, hi, hzz, Sem.run_pure, Result.andThen_ok, run_underlying hu, e, hzc, e2]
  cases Instr.fill (fun i => pl[i]?) zs.toArray parts.toList <;> rfl

/-! ### operations that give a value and leave the world alone -/
variable {K : Kp} {n : Fr} {ops : Array Oper} {Q : Exit → Act → World → Prop} {s : St} {A : List Asrt} {h : FH} {rest : List Oper}
/-- an operation that gives a value and leaves the world alone; a call that gives a plain value -/
def VF (P : Program) (K : Kp) (n : Fr) (s : St) (A : List Asrt) (h : FH) (o : Oper) (v : Value) : Prop := ∀ a w, Holds n s a → SH K h w A → (execOp a.eval o).run P w = .ok (.value v) w
def CF (P : Program) (K : Kp) (n : Fr) (s : St) (A : List Asrt) (h : FH) (o : Oper) (v : Value) : Prop := ∀ a w, Holds n s a → SH K h w A →
  ∃ f args, (execOp a.eval o).run P w = .ok (.enter f args) w ∧ Calls P f args w fun e w' => e = .returned v ∧ Below w.heap.size w w'
theorem calls_FR {l : Option Nat} {m : Nat} {f : FuncId} {args : Array Value} {w : World} {R : Ending → World → Prop} (h : Calls P f args w R) : CallsIn (FR l) m P f args w R := by
  have h1 : CallsIn Fence.wide m P f args w R := callsIn_wide.2 h
  cases l with
  | none => exact h1
  | some l => exact CallsIn.inRound l h1
/-- an operation that yields a value, or nothing: one for both kinds of frames -/
theorem WL.val {ro : Option (Option Nat)} {o : Oper} {a : Act} {w w' : World} {v : Value} (hg : o.guard = none) (hr : (execOp a.eval o).run P w = .ok (.value v) w') (k : WL P ro ops Q rest (a.put o.dst v) w') : WL P ro ops Q (o :: rest) a w := by
  cases ro with
  | none =>
    refine wpList_plain hg fun Kc hK => ?_
    unfold Oper.wp
    rw [hr]
    exact hK _ _ k
  | some l =>
    refine wpListIn_plain hg fun Kc hK => ⟨fun _ _ => trivial, ?_⟩
    rw [Oper.semAt_eq _ _ _ (fun c e => by
      simp only [execOp, e, Sem.run_bind] at hr
      cases q : (resolve a.eval c o.type).run P w with
      | ok x y => rw [q] at hr; simp at hr
      | halt x y => rw [q] at hr; simp at hr), hr]
    exact hK _ _ k
theorem WL.skip {ro : Option (Option Nat)} {o : Oper} {a : Act} {w w' : World} (hg : o.guard = none) (hr : (execOp a.eval o).run P w = .ok .skip w') (k : WL P ro ops Q rest (a.put o.dst undef) w') : WL P ro ops Q (o :: rest) a w := by
  cases ro with
  | none =>
    refine wpList_plain hg fun Kc hK => ?_
    unfold Oper.wp
    rw [hr]
    exact hK _ _ k
  | some l =>
    refine wpListIn_plain hg fun Kc hK => ⟨fun _ _ => trivial, ?_⟩
    rw [Oper.semAt_eq _ _ _ (fun c e => by
      simp only [execOp, e, Sem.run_bind] at hr
      cases q : (resolve a.eval c o.type).run P w with
      | ok x y => rw [q] at hr; simp at hr
      | halt x y => rw [q] at hr; simp at hr), hr]
    exact hK _ _ k
theorem WL.enter {ro : Option (Option Nat)} {o : Oper} {a : Act} {w w' : World} {f : FuncId} {args : Array Value} (hg : o.guard = none) (hr : (execOp a.eval o).run P w = .ok (.enter f args) w') (hc : Calls P f args w' fun e w'' => ∃ v, e = .returned v ∧ WL P ro ops Q rest (a.put o.dst v) w'') : WL P ro ops Q (o :: rest) a w := by
  cases ro with
  | none =>
    refine wpList_plain hg fun Kc hK => ?_
    unfold Oper.wp
    rw [hr]
    refine hc.mono fun e w'' ⟨v, he, k⟩ => ?_
    subst he
    exact hK _ _ k
  | some l =>
    refine wpListIn_plain hg fun Kc hK => ⟨fun _ _ => trivial, ?_⟩
    rw [Oper.semAt_eq _ _ _ (fun c e => by
      simp only [execOp, e, Sem.run_bind] at hr
      cases q : (resolve a.eval c o.type).run P w with
      | ok x y => rw [q] at hr; simp at hr
      | halt x y => rw [q] at hr; simp at hr), hr]
    refine ⟨fun h => (by cases h), calls_FR (hc.mono fun e w'' ⟨v, he, k⟩ => ?_)⟩
    subst he
    exact hK _ _ k
theorem WL.want {ro : Option (Option Nat)} {o : Oper} {a : Act} {w : World} (hw : Region.wanted o (yielded ops a.tmps) = true) (k : WL P ro ops Q (⟨o.dst, o.op, o.type, o.pos, o.after, none⟩ :: rest) a w) : WL P ro ops Q (o :: rest) a w := by
  cases ro with
  | none =>
    unfold WL at k ⊢
    unfold wpList at k ⊢
    simp only [Region.wanted, if_true] at k
    rw [if_pos hw]
    exact k
  | some l =>
    unfold WL at k ⊢
    simp only [wpListIn] at k ⊢
    simp only [Region.wanted, if_true] at k
    rw [if_pos hw]
    exact k
theorem WL.pass {ro : Option (Option Nat)} {o : Oper} {a : Act} {w : World} (hw : Region.wanted o (yielded ops a.tmps) = false) (k : WL P ro ops Q rest (a.put o.dst undef) w) : WL P ro ops Q (o :: rest) a w := by
  cases ro with
  | none =>
    unfold WL at k ⊢
    unfold wpList
    rw [if_neg (by rw [hw]; decide)]
    exact k
  | some l =>
    unfold WL at k ⊢
    simp only [wpListIn]
    rw [if_neg (by rw [hw]; decide)]
    exact ⟨fun _ _ => trivial, k⟩
theorem JL.v {o : Oper} {d : Nat} {v : Value} (hx : VF P K n s A h o v) (hg : o.guard = none) (hd : o.dst = some d) (hn : Nat.blt d n.sz = true)
    (k : JL P K n ops rest Q ((d, v) :: s) A h) : JL P K n ops (o :: rest) Q s A h :=
  fun a w H S => WL.val hg (hx a w H S) (k _ w (by rw [hd]; exact H.put v hn) S)
theorem JL.c {o : Oper} {d : Nat} {v : Value} (hx : CF P K n s A h o v) (hg : o.guard = none) (hd : o.dst = some d) (hn : Nat.blt d n.sz = true)
    (k : JL P K n ops rest Q ((d, v) :: s) A h) : JL P K n ops (o :: rest) Q s A h :=
  fun a w H S => by
    obtain ⟨f, args, hr, hc⟩ := hx a w H S
    exact WL.enter hg hr (hc.mono fun e w' ⟨he, hb⟩ => ⟨v, he, k _ w' (by rw [hd]; exact H.put v hn) (S.ext hb)⟩)
theorem JL.valW {o : Oper} {d : Nat} (hg : o.guard = none) (hd : o.dst = some d) (hn : Nat.blt d n.sz = true)
    (hx : ∀ a w, Holds n s a → SH K h w A → ∃ v w' A' h', (execOp a.eval o).run P w = .ok (.value v) w' ∧ SH K h' w' A' ∧ JL P K n ops rest Q ((d, v) :: s) A' h') : JL P K n ops (o :: rest) Q s A h :=
  fun a w H S => by
    obtain ⟨v, w', A', h', hr, hs, k⟩ := hx a w H S
    exact WL.val hg hr (k _ w' (by rw [hd]; exact H.put v hn) hs)
theorem JL.skipW {o : Oper} (hg : o.guard = none) (hd : o.dst = none)
    (hx : ∀ a w, Holds n s a → SH K h w A → ∃ w' A' h', (execOp a.eval o).run P w = .ok .skip w' ∧ SH K h' w' A' ∧ JL P K n ops rest Q s A' h') : JL P K n ops (o :: rest) Q s A h :=
  fun a w H S => by
    obtain ⟨w', A', h', hr, hs, k⟩ := hx a w H S
    exact WL.skip hg hr (k _ w' (by rw [hd]; exact H) hs)
/-- a call of one of the program's functions, by its contract -/
theorem JL.callW {o : Oper} {d : Nat} {f : FuncId} {args : Array Value} (hg : o.guard = none) (hd : o.dst = some d) (hn : Nat.blt d n.sz = true)
    (hx : ∀ a w, Holds n s a → SH K h w A → (execOp a.eval o).run P w = .ok (.enter f args) w)
    (hc : ∀ w, SH K h w A → Calls P f args w fun e w' => ∃ v A' h', e = .returned v ∧ SH K h' w' A' ∧ JL P K n ops rest Q ((d, v) :: s) A' h') : JL P K n ops (o :: rest) Q s A h :=
  fun a w H S => WL.enter hg (hx a w H S) ((hc w S).mono fun e w' ⟨v, A', h', he, hs, k⟩ => ⟨v, he, k _ w' (by rw [hd]; exact H.put v hn) hs⟩)
section ops
variable {dd : Option Tmp} {gd : Option (Nat × Bool)} {ty : TypeId} {pos : String} {af : Array Edge}
theorem mv {x : Operand} {v : Value} (hx : ev s x = some v) : VF P K n s A h ⟨dd, .move x, ty, pos, af, gd⟩ (v) :=
  (fun a w H _ => by simp [execOp, H.ev hx])
theorem asg {x : Operand} {v : Value} (hx : ev s x = some v) : VF P K n s A h ⟨dd, .assign x, ty, pos, af, gd⟩ (v) :=
  (fun a w H _ => by simp [execOp, H.ev hx])
theorem pkT {c x y : Operand} {b : Bool} {v : Value} (hc : ev s c = some (.bool b)) (hb : b = true) (hx : ev s x = some v) : VF P K n s A h ⟨dd, .pick c x y, ty, pos, af, gd⟩ (v) :=
  (fun a w H _ => by subst hb; simp [execOp, H.ev hc, H.ev hx, asBool])
theorem pkF {c x y : Operand} {b : Bool} {v : Value} (hc : ev s c = some (.bool b)) (hb : b = false) (hy : ev s y = some v) : VF P K n s A h ⟨dd, .pick c x y, ty, pos, af, gd⟩ (v) :=
  (fun a w H _ => by subst hb; simp [execOp, H.ev hc, H.ev hy, asBool])
def ibin (op : BinOp) (k : IntKind) (x y : Int) : Option Value :=
  match op with
  | .add => some (.int k (k.wrap (x + y)))
  | .sub => some (.int k (k.wrap (x - y)))
  | .mul => some (.int k (k.wrap (x * y)))
  | .eql => some (.bool (x == y))
  | .neq => some (.bool (x != y))
  | .lss => some (.bool (decide (x < y)))
  | .leq => some (.bool (decide (x ≤ y)))
  | .gtr => some (.bool (decide (y < x)))
  | .geq => some (.bool (decide (y ≤ x)))
  | .and => some (.int k (bits .and k x y))
  | .or => some (.int k (bits .or k x y))
  | .xor => some (.int k (bits .xor k x y))
  | .andNot => some (.int k (bits .andNot k x y))
  | _ => none
theorem run_ibin {op : BinOp} {ki : IntKind} {i j : Int} {v : Value} (hv : ibin op ki i j = some v) (x y : Operand) (t : TypeId) (w : World) :
    (eqGuard op t x y (.int ki i) (.int ki j)).run P w = .ok () w ∧ (binOp op t (.int ki i) (.int ki j)).run P w = .ok v w := by
  refine ⟨by rw [eqGuard_at_int]; rfl, ?_⟩
  cases op <;> simp only [ibin] at hv <;> first | (cases hv; done) | (obtain rfl := Option.some.inj hv; first | (rw [binOp_add]; rfl) | (rw [binOp_sub]; rfl) | (rw [binOp_mul]; rfl) | (rw [binOp_and]; rfl) | (rw [binOp_or]; rfl) | (rw [binOp_xor]; rfl) | (rw [binOp_andNot]; rfl) | (rw [binOp_eql]; rfl) | (rw [binOp_neq]; rfl) | (rw [binOp_lss]; rfl) | (rw [binOp_leq]; rfl) | (rw [binOp_gtr]; rfl) | (rw [binOp_geq]; rfl))
theorem bi {op : BinOp} {x y : Operand} {t t' : TypeId} {ki : IntKind} {i j : Int} {v : Value} (hx : ev s x = some (.int ki i)) (hy : ev s y = some (.int ki j)) (hv : ibin op ki i j = some v) : VF P K n s A h ⟨dd, .binOp op t x y t', ty, pos, af, gd⟩ (v) :=
  (fun a w H _ => by
    obtain ⟨e1, e2⟩ := run_ibin (P := P) hv x y t w
    simp [execOp, H.ev hx, H.ev hy, e1, e2])
def shiftV (op : BinOp) (k : IntKind) (x y : Int) : Option Value :=
  match op with
  | .shl => some (.int k (k.wrap (x * 2 ^ (min y.toNat k.bits))))
  | .shr => some (.int k (x.fdiv (2 ^ (min y.toNat k.bits))))
  | _ => none
theorem bsh {op : BinOp} {x y : Operand} {t t' : TypeId} {ki kj : IntKind} {i j : Int} {v : Value} (hx : ev s x = some (.int ki i)) (hy : ev s y = some (.int kj j)) (h0 : 0 ≤ j) (hv : shiftV op ki i j = some v) : VF P K n s A h ⟨dd, .binOp op t x y t', ty, pos, af, gd⟩ (v) :=
  (fun a w H _ => by
    have h0' : ¬ j < 0 := by omega
    cases op <;> simp only [shiftV] at hv <;> first | (cases hv; done) | (obtain rfl := Option.some.inj hv; simp [execOp, H.ev hx, H.ev hy, eqGuard_at_int, binOp_shl, binOp_shr, Op.shift, h0']))
theorem un {x : Operand} {t : TypeId} {ki : IntKind} {i : Int} (hx : ev s x = some (.int ki i)) : VF P K n s A h ⟨dd, .unOp .neg t x, ty, pos, af, gd⟩ (.int ki (ki.wrap (0 - i))) :=
  (fun a w H _ => by simp [execOp, H.ev hx, Op.unary, Op.intArith])
theorem nt {x : Operand} {t : TypeId} {b : Bool} (hx : ev s x = some (.bool b)) : VF P K n s A h ⟨dd, .unOp .not t x, ty, pos, af, gd⟩ (.bool (!b)) :=
  (fun a w H _ => by simp [execOp, H.ev hx, Op.unary])
/-- guards -/
theorem JL.gR {o : Oper} {g t : Nat} {want b : Bool} (hg : o.guard = some (g, want)) (ht : (ops[g]?).bind (·.dst) = some t) (hv : get s t = some (.bool b)) (hb : b = want)
    (k : JL P K n ops (⟨o.dst, o.op, o.type, o.pos, o.after, none⟩ :: rest) Q s A h) : JL P K n ops (o :: rest) Q s A h := fun a w H S => by
  have hy : yielded ops a.tmps g = some b := by unfold yielded; rw [ht]; simp [H.slots t _ hv]
  exact WL.want (by simp [Region.wanted, hg, hy, hb]) (k a w H S)
theorem JL.gS {o : Oper} {g t d : Nat} {want b : Bool} (hg : o.guard = some (g, want)) (ht : (ops[g]?).bind (·.dst) = some t) (hv : get s t = some (.bool b)) (hb : b = !want) (hd : o.dst = some d) (hn : Nat.blt d n.sz = true)
    (k : JL P K n ops rest Q ((d, undef) :: s) A h) : JL P K n ops (o :: rest) Q s A h := fun a w H S => by
  have hy : yielded ops a.tmps g = some b := by unfold yielded; rw [ht]; simp [H.slots t _ hv]
  exact WL.pass (by simp [Region.wanted, hg, hy, hb]) (k _ w (by rw [hd]; exact H.put undef hn) S)
theorem JL.gU {o : Oper} {g t d : Nat} {want : Bool} (hg : o.guard = some (g, want)) (ht : (ops[g]?).bind (·.dst) = some t) (hv : get s t = some undef) (hd : o.dst = some d) (hn : Nat.blt d n.sz = true)
    (k : JL P K n ops rest Q ((d, undef) :: s) A h) : JL P K n ops (o :: rest) Q s A h := fun a w H S => by
  have hy : yielded ops a.tmps g = none := by unfold yielded; rw [ht]; simp [H.slots t _ hv, undef]
  exact WL.pass (by simp [Region.wanted, hg, hy]) (k _ w (by rw [hd]; exact H.put undef hn) S)
theorem JL.gv {o : Oper} {g t d : Nat} {want b : Bool} {v : Value} (hx : VF P K n s A h o v) (hg : o.guard = some (g, want)) (ht : (ops[g]?).bind (·.dst) = some t) (hv : get s t = some (.bool b)) (hb : b = want) (hd : o.dst = some d) (hn : Nat.blt d n.sz = true)
    (k : JL P K n ops rest Q ((d, v) :: s) A h) : JL P K n ops (o :: rest) Q s A h := .gR hg ht hv hb (.v (o := ⟨o.dst, o.op, o.type, o.pos, o.after, none⟩) hx rfl hd hn k)
theorem JL.gc {o : Oper} {g t d : Nat} {want b : Bool} {v : Value} (hx : CF P K n s A h o v) (hg : o.guard = some (g, want)) (ht : (ops[g]?).bind (·.dst) = some t) (hv : get s t = some (.bool b)) (hb : b = want) (hd : o.dst = some d) (hn : Nat.blt d n.sz = true)
    (k : JL P K n ops rest Q ((d, v) :: s) A h) : JL P K n ops (o :: rest) Q s A h := .gR hg ht hv hb (.c (o := ⟨o.dst, o.op, o.type, o.pos, o.after, none⟩) hx rfl hd hn k)
/-- addresses -/
theorem fa {x : Operand} {t : TypeId} {f off : Nat} {p : Addr} (hx : ev s x = some (.pointer (some p))) (hf : FldAt P t f off) : VF P K n s A h ⟨dd, .fieldAddr t x f, ty, pos, af, gd⟩ (.pointer (some (p.add off))) :=
  (fun a w H _ => by simp [execOp, H.ev hx, hf p w])
def ead (a : Option Addr) (k : Nat) : Addr := match a with | some x => x.add k | none => default
theorem ix {x y : Operand} {t e : TypeId} {a : Option Addr} {len cap sz by_ : Nat} {zs : List Value} {ki : IntKind} {i : Int} (hx : ev s x = some (.slice a len cap)) (hy : ev s y = some (.int ki i)) (ht : TSl P t e sz by_ zs) (ha : a ≠ none) (hi : 0 ≤ i ∧ i < len) : VF P K n s A h ⟨dd, .indexAddr t x y, ty, pos, af, gd⟩ (.pointer (some (ead a (i.toNat * sz)))) :=
  (fun ac w H _ => by
    obtain ⟨ii, z, h1, h2, h3, h4, h5⟩ := ht.info
    cases a with
    | none => exact absurd rfl ha
    | some p => simp [execOp, H.ev hx, H.ev hy, Instr.indexAt, asIntOf, run_underlying ht.und, sizeOf, typeInfo, h1, h3, hi, ead])
theorem ln {x : Operand} {t : TypeId} {a : Option Addr} {len cap : Nat} (hx : ev s x = some (.slice a len cap)) (ht : TIsSl P t) : VF P K n s A h ⟨dd, .call { callee := .builtin .len, args := #[x], argTypes := #[t] }, ty, pos, af, gd⟩ (.int .i64 (len : Int)) :=
  (fun ac w H _ => by
    obtain ⟨e, he⟩ := ht
    simp [execOp, resolve, invoke, builtin, H.ev hx, Builtin.len_, run_underlying he, goInt])
theorem ext {x : Operand} {vs : Array Value} {i : Nat} {v : Value} (hx : ev s x = some (.tuple vs)) (hv : vs[i]? = some v) : VF P K n s A h ⟨dd, .extract x i, ty, pos, af, gd⟩ (v) :=
  (fun ac w H _ => by simp [execOp, H.ev hx, Instr.extract, hv])
theorem bld {t : TypeId} {parts : Array (Nat × Operand)} {zs : List Value} {pl : List (Nat × Nat)} {pv : List (Nat × Value)} {cs : Array Value} (ht : TBld P t zs pl) (hp : (parts.toList.map (fun p => (ev s p.2).map (fun v => (p.1, v)))) = pv.map some)
    (hf : Instr.fill (fun i => pl[i]?) zs.toArray pv = some cs) : VF P K n s A h ⟨dd, .build t parts, ty, pos, af, gd⟩ (.agg cs) :=
  (fun ac w H _ => by
    have key : ∀ (l : List (Nat × Operand)) (pv : List (Nat × Value)), (l.map (fun p => (ev s p.2).map (fun v => (p.1, v)))) = pv.map some → l.map (fun p => (p.1, ac.eval p.2)) = pv := by
      intro l
      induction l with
      | nil => intro pv hpv; cases pv with
        | nil => rfl
        | cons p r => simp at hpv
      | cons x r ih => intro pv hpv; cases pv with
        | nil => simp at hpv
        | cons p q =>
          simp only [List.map_cons, List.cons.injEq] at hpv
          obtain ⟨h1, h2⟩ := hpv
          obtain ⟨v, hv, hv2⟩ := Option.map_eq_some_iff.1 h1
          simp only [List.map_cons, ih q h2, H.ev hv, hv2]
    have e : (parts.map (fun x => (x.1, ac.eval x.2))).toList = pv := by rw [Array.toList_map]; exact key _ _ hp
    have e2 : (Instr.build t (parts.map (fun x => (x.1, ac.eval x.2)))).run P w = .ok (.agg cs) w := by rw [ht.run, e, hf]
    simp [execOp, e2])
theorem mkf {fn : Fn} {first cap : Array Operand} {vf vc : List Value} (h1 : evs s first.toList = some vf) (h2 : evs s cap.toList = some vc) : VF P K n s A h ⟨dd, .makeFunc fn first cap, ty, pos, af, gd⟩ (.func fn vf.toArray vc.toArray) :=
  (fun ac w H _ => by
    have e1 : first.map ac.eval = vf.toArray := by rw [← Array.toArray_toList (xs := first), List.map_toArray, H.evs h1]
    have e2 : cap.map ac.eval = vc.toArray := by rw [← Array.toArray_toList (xs := cap), List.map_toArray, H.evs h2]
    simp [execOp, Instr.makeFunc, e1, e2])
end ops
end
end Go.Proofs.YtojoehfldbimpaaGreatDoor.Pl

