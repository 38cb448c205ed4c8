import Derived.Test.YtojoehfldbimpaaGreatDoorM2
import Derived.Shelf.SlSortCmp.NoneTotal
import Derived.Ground.SlsfProg
import Derived.Test.YtojoehfldbimpaaGreatDoorM3
import Derived.Ground.NamesProg
import Derived.Shelf.Strconv.Itoa3
import Derived.Test.YtojoehfldbimpaaGreatDoorChecked
import Derived.Test.YtojoehfldbimpaaGreatDoorM1
/- A second copy of a part of the program logic, in which draws are counted, and the walks of the functions that a sort calls. No condition. -/
namespace Go.Proofs.YtojoehfldbimpaaGreatDoor.Pl.Pd
open Go Go.RowKit
/-- what is counted of the draws -/
def dr (w : World) : Nat := w.drawn
theorem dr_drew (w : World) : dr w ≤ dr w.drew := by unfold dr; first | exact Nat.le_succ _ | exact Nat.le_refl _
/-- Below block number B the world w' is as w was; the streams are as they were; no block has gone; no draw is undone. -/
structure Below (B : Nat) (w w' : World) : Prop where
  os : w'.os = w.os
  tape : w'.tape = w.tape
  output : w'.output = w.output
  size : w.heap.size ≤ w'.heap.size
  block : ∀ k, k < B → w'.heap[k]? = w.heap[k]?
  drawn : dr w ≤ dr w'
theorem Below.refl (B : Nat) (w : World) : Below B w w := ⟨rfl, rfl, rfl, Nat.le_refl _, fun _ _ => rfl, Nat.le_refl _⟩
theorem Below.drew {B : Nat} {a w : World} (h : Below B a w) : Below B a w.drew := ⟨h.os, h.tape, h.output, h.size, h.block, Nat.le_trans h.drawn (dr_drew _)⟩
structure Kept (K : Kp) (w : World) : Prop where
  os : w.os = K.w.os
  tape : w.tape = K.w.tape
  output : w.output = K.w.output
  size : K.w.heap.size ≤ w.heap.size
  block : ∀ b, K.keep b → w.heap[b]? = K.w.heap[b]?
  drawn : dr K.w ≤ dr w
theorem Kept.start (w : World) (h : FH) : Kept (Kp.all w h) w := ⟨rfl, rfl, rfl, Nat.le_refl _, fun _ _ => rfl, Nat.le_refl _⟩
theorem Kept.below {w w' : World} {h : FH} (k : Kept (Kp.all w h) w') : Below w.heap.size w w' := ⟨k.os, k.tape, k.output, k.size, k.block, k.drawn⟩
structure SH (K : Kp) (h : FH) (w : World) (A : List Asrt) : Prop where
  kept : Kept K w
  sub : Sub h w
  fresh : ∀ b, h b ≠ none → K.h b ≠ none ∨ ¬ K.keep b
  parts : ∃ gs, Parts K h w A gs

section
variable {K : Kp} {h : FH} {w : World} {A : List Asrt}
theorem SH.start (w : World) (h : FH) (s : Sub h w) : SH (Kp.all w h) h w [] :=
  ⟨Kept.start w h, s, fun _ h => .inl h, [], rfl, by simp, by simp, by simp⟩
theorem SH.below {w0 : World} {h0 : FH} (s : SH (Kp.all w0 h0) h w A) : Below w0.heap.size w0 w := s.kept.below
theorem SH.anti {h' : FH} (hl : FH.le h h') (s : SH K h' w A) : SH K h w A := by
  obtain ⟨gs, p1, p2, p3, p4⟩ := s.parts
  refine ⟨s.kept, s.sub.anti hl, fun b hb => s.fresh b (by
    cases e : h b with
    | none => exact absurd e hb
    | some o => rw [hl b o e]; simp), gs, p1, p2, fun i g hi => ?_, p4⟩
  have o := p3 i g hi
  refine ⟨fun b => ?_, o.sub, o.free⟩
  rcases o.disj b with e | e
  · cases hb : h b with
    | none => exact .inl rfl
    | some x => rw [hl _ _ hb] at e; cases e
  · exact .inr e
/-- the world has grown, and all that was there is as it was -/
theorem SH.ext {w' : World} (s : SH K h w A) (hb : Below w.heap.size w w') : SH K h w' A := by
  obtain ⟨gs, p1, p2, p3, p4⟩ := s.parts
  refine ⟨⟨hb.os.trans s.kept.os, hb.tape.trans s.kept.tape, hb.output.trans s.kept.output, Nat.le_trans s.kept.size hb.size, fun b hk => ?_, Nat.le_trans s.kept.drawn hb.drawn⟩, s.sub.ext hb.block, s.fresh, gs, p1, p2, fun i g hi => ⟨(p3 i g hi).disj, (p3 i g hi).sub.ext hb.block, (p3 i g hi).free⟩, p4⟩
  rw [hb.block b (Nat.lt_of_lt_of_le (K.lt b hk) s.kept.size)]
  exact s.kept.block b hk
theorem SH.drop {X : Asrt} (s : SH K h w (X :: A)) : SH K h w A := by
  obtain ⟨gs, p1, p2, p3, p4⟩ := s.parts
  cases gs with
  | nil => simp at p1
  | cons g gs =>
    refine ⟨s.kept, s.sub, s.fresh, gs, by simpa using p1, fun i g1 Y hi hY => p2 (i + 1) g1 Y (by simpa using hi) (by simpa using hY), fun i g1 hi => p3 (i + 1) g1 (by simpa using hi), fun i j g1 g2 hij hi hj => p4 (i + 1) (j + 1) g1 g2 (by omega) (by simpa using hi) (by simpa using hj)⟩
end


section
variable {P : Program} {K : Kp} {n : Fr}
def J (P : Program) (K : Kp) (n : Fr) (c : Code) (Q : Exit → Act → World → Prop) (s : St) (A : List Asrt) (h : FH) : Prop :=
  ∀ a w, Holds n s a → SH K h w A → WC P n.ro c Q a w
def JL (P : Program) (K : Kp) (n : Fr) (ops : Array Oper) (l : List Oper) (Q : Exit → Act → World → Prop) (s : St) (A : List Asrt) (h : FH) : Prop :=
  ∀ a w, Holds n s a → SH K h w A → WL P n.ro ops Q l a w
def E (K : Kp) (n : Fr) (Q : Exit → Act → World → Prop) (e : Exit) (s : St) (A : List Asrt) (h : FH) : Prop :=
  ∀ a w, Holds n s a → SH K h w A → Q e a w
variable {Q : Exit → Act → World → Prop} {s s' : St} {A : List Asrt} {h h' : FH}
theorem J.up (hl : FH.le h h') {c : Code} (j : J P K n c Q s A h) : J P K n c Q s A h' := fun a w H S => j a w H (S.anti hl)
theorem J.sub (hs : SubSt s' s) {c : Code} (j : J P K n c Q s' A h) : J P K n c Q s A h := fun a w H S => j a w (H.sub hs) S
theorem J.drop {c : Code} {X : Asrt} (j : J P K n c Q s A h) : J P K n c Q s (X :: A) h := fun a w H S => j a w H S.drop
theorem J.seq {x y : Code} (j : J P K n x (Exit.then (fun a w => WC P n.ro y Q a w) Q) s A h) : J P K n (.seq x y) Q s A h := by
  obtain ⟨m, ro, dl⟩ := n
  cases ro with
  | none => exact fun a w H S => wp_seq (j a w H S)
  | some l => exact fun a w H S => wpIn_seq (j a w H S)
theorem J.cond {c : Operand} {x y : Code} {b : Bool} (hc : ev s c = some (.bool b)) (ht : b = true → J P K n x Q s A h) (hf : b = false → J P K n y Q s A h) : J P K n (.cond c x y) Q s A h := by
  obtain ⟨m, ro, dl⟩ := n
  cases ro with
  | none => exact fun a w H S => wp_cond_split (H.ev hc) (fun e => ht e a w H S) (fun e => hf e a w H S)
  | some l => exact fun a w H S => wpIn_cond_split (H.ev hc) (fun e => ht e a w H S) (fun e => hf e a w H S)
theorem J.block {id : Nat} {c : Code} (j : J P K n c (Exit.inBlock id Q) s A h) : J P K n (.block id c) Q s A h := by
  obtain ⟨m, ro, dl⟩ := n
  cases ro with
  | none => exact fun a w H S => wp_block (j a w H S)
  | some l => exact fun a w H S => wpIn_block (j a w H S)
theorem J.region {id : Nat} {l : List Oper} (j : JL P K n l.toArray l Q s A h) : J P K n (.region id l.toArray false) Q s A h := by
  obtain ⟨m, ro, dl⟩ := n
  cases ro with
  | none => exact fun a w H S => wp_region_lit (j a w H S)
  | some l => exact fun a w H S => wpIn_region_lit (j a w H S)
theorem J.skip (j : E K n Q .normal s A h) : J P K n .skip Q s A h := by
  obtain ⟨m, ro, dl⟩ := n
  cases ro with
  | none => exact fun a w H S => wp_skip (j a w H S)
  | some l => exact fun a w H S => wpIn_skip (j a w H S)
theorem J.exit {id : Nat} (j : E K n Q (.exit id) s A h) : J P K n (.exit id) Q s A h := by
  obtain ⟨m, ro, dl⟩ := n
  cases ro with
  | none => exact fun a w H S => wp_exit (j a w H S)
  | some l => exact fun a w H S => wpIn_exit (j a w H S)
theorem J.ret (j : E K n Q .ret s A h) : J P K n .ret Q s A h := by
  obtain ⟨m, ro, dl⟩ := n
  cases ro with
  | none => exact fun a w H S => wp_ret (j a w H S)
  | some l => exact fun a w H S => wpIn_ret (j a w H S)
theorem JL.nil {ops : Array Oper} (j : E K n Q .normal s A h) : JL P K n ops [] Q s A h := by
  obtain ⟨m, ro, dl⟩ := n
  cases ro with
  | none => exact fun a w H S => wpList_nil (P := P) (ops := ops) (j a w H S)
  | some l => exact fun a w H S => wpListIn_nil (F := FR l) (n := 0) (P := P) (ops := ops) (j a w H S)
theorem JL.up (hl : FH.le h h') {ops : Array Oper} {l : List Oper} (j : JL P K n ops l Q s A h) : JL P K n ops l Q s A h' := fun a w H S => j a w H (S.anti hl)
theorem JL.sub (hs : SubSt s' s) {ops : Array Oper} {l : List Oper} (j : JL P K n ops l Q s' A h) : JL P K n ops l Q s A h := fun a w H S => j a w (H.sub hs) S
theorem JL.drop {ops : Array Oper} {l : List Oper} {X : Asrt} (j : JL P K n ops l Q s A h) : JL P K n ops l Q s (X :: A) h := fun a w H S => j a w H S.drop
theorem E.up {e : Exit} (hl : FH.le h h') (j : E K n Q e s A h) : E K n Q e s A h' := fun a w H S => j a w H (S.anti hl)
theorem E.sub {e : Exit} (hs : SubSt s' s) (j : E K n Q e s' A h) : E K n Q e s A h := fun a w H S => j a w (H.sub hs) S
theorem E.drop {e : Exit} {X : Asrt} (j : E K n Q e s A h) : E K n Q e s (X :: A) h := fun a w H S => j a w H S.drop
theorem E.seqN {y : Code} (j : J P K n y Q s A h) : E K n (Exit.then (fun a w => WC P n.ro y Q a w) Q) .normal s A h := j
theorem E.seqR {F : Act → World → Prop} (j : E K n Q .ret s A h) : E K n (Exit.then F Q) .ret s A h := j
theorem E.seqX {F : Act → World → Prop} {i : Nat} (j : E K n Q (.exit i) s A h) : E K n (Exit.then F Q) (.exit i) s A h := j
theorem E.blkN {id : Nat} (j : E K n Q .normal s A h) : E K n (Exit.inBlock id Q) .normal s A h := j
theorem E.blkR {id : Nat} (j : E K n Q .ret s A h) : E K n (Exit.inBlock id Q) .ret s A h := j
theorem E.blkX {id : Nat} (j : E K n Q .normal s A h) : E K n (Exit.inBlock id Q) (.exit id) s A h := fun a w H S => by
  simp only [Exit.inBlock, if_true]; exact j a w H S
/-- a loop: a relation of a state to the frame, the slots and the memory, kept by every round, and a measure -/
theorem J.loopN {σ : Type} (I : σ → Prop) (μ : σ → Nat) (N : σ → Fr) (S : σ → St) (M : σ → List Asrt) (F : σ → FH) {c : Code} (x0 : σ) (hI : I x0) (hn : ∀ x, (N x).ro = n.ro) (h0 : N x0 = n)
    (round : ∀ x, I x → J P K (N x) c (Exit.then (fun a w => ∃ y, I y ∧ μ y < μ x ∧ Holds (N y) (S y) a ∧ SH K (F y) w (M y)) Q) (S x) (M x) (F x)) :
    J P K n (.loop c) Q (S x0) (M x0) (F x0) := fun a w H Sh => by
  refine WC.loop (fun a w => ∃ x, I x ∧ Holds (N x) (S x) a ∧ SH K (F x) w (M x)) (fun a w => leastOf fun k => ∃ x, μ x = k ∧ I x ∧ Holds (N x) (S x) a ∧ SH K (F x) w (M x)) ⟨x0, hI, by rw [h0]; exact H, Sh⟩ ?_
  intro a w hx
  have he : ∃ k, ∃ x, μ x = k ∧ I x ∧ Holds (N x) (S x) a ∧ SH K (F x) w (M x) := by obtain ⟨x, h⟩ := hx; exact ⟨μ x, x, rfl, h⟩
  obtain ⟨⟨x, h0, h1, h2, h3⟩, _⟩ := leastOf_spec he
  have hr := round x h1 a w h2 h3
  rw [hn] at hr
  refine WC.mono (fun e a' w' q => ?_) hr
  cases e with
  | normal =>
    obtain ⟨y, y1, y2, y3, y4⟩ := q
    refine ⟨⟨y, y1, y3, y4⟩, ?_⟩
    have hl := (leastOf_spec (p := fun k => ∃ x, μ x = k ∧ I x ∧ Holds (N x) (S x) a' ∧ SH K (F x) w' (M x)) ⟨μ y, y, rfl, y1, y3, y4⟩).2 (μ y) ⟨y, rfl, y1, y3, y4⟩
    exact Nat.lt_of_le_of_lt hl (by rw [← h0]; exact y2)
  | exit id => exact q
  | goto l => exact q
  | ret => exact q
  | panic ch => exact q
  | outgrown => exact q
theorem J.loop {σ : Type} (I : σ → Prop) (μ : σ → Nat) (S : σ → St) (M : σ → List Asrt) (F : σ → FH) {c : Code} (x0 : σ) (hI : I x0)
    (round : ∀ x, I x → J P K n c (Exit.then (fun a w => ∃ y, I y ∧ μ y < μ x ∧ Holds n (S y) a ∧ SH K (F y) w (M y)) Q) (S x) (M x) (F x)) :
    J P K n (.loop c) Q (S x0) (M x0) (F x0) := J.loopN I μ (fun _ => n) S M F x0 hI (fun _ => rfl) rfl round
/-- the end of a round -/
theorem E.round {σ : Type} {I : σ → Prop} {μ : σ → Nat} {S : σ → St} {M : σ → List Asrt} {F : σ → FH} {m : Nat} (y : σ) (hI : I y) (hμ : μ y < m) (hs : SubSt (S y) s) (hm : M y = A) (hf : FH.le (F y) h) :
    E K n (Exit.then (fun a w => ∃ y, I y ∧ μ y < m ∧ Holds n (S y) a ∧ SH K (F y) w (M y)) Q) .normal s A h :=
  fun a w H Sh => ⟨y, hI, hμ, H.sub hs, by rw [hm]; exact Sh.anti hf⟩
end
section
variable {P : Program}
variable {K : Kp} {n : Fr} {ops : Array Oper} {Q : Exit → Act → World → Prop} {s : St} {A : List Asrt} {h : FH} {rest : List Oper}
/-- an operation that gives a value and leaves the world alone; a call that gives a plain value -/
def VF (P : Program) (K : Kp) (n : Fr) (s : St) (A : List Asrt) (h : FH) (o : Oper) (v : Value) : Prop := ∀ a w, Holds n s a → SH K h w A → (execOp a.eval o).run P w = .ok (.value v) w
def CF (P : Program) (K : Kp) (n : Fr) (s : St) (A : List Asrt) (h : FH) (o : Oper) (v : Value) : Prop := ∀ a w, Holds n s a → SH K h w A →
  ∃ f args, (execOp a.eval o).run P w = .ok (.enter f args) w ∧ Calls P f args w fun e w' => e = .returned v ∧ Below w.heap.size w w'
theorem JL.v {o : Oper} {d : Nat} {v : Value} (hx : VF P K n s A h o v) (hg : o.guard = none) (hd : o.dst = some d) (hn : Nat.blt d n.sz = true)
    (k : JL P K n ops rest Q ((d, v) :: s) A h) : JL P K n ops (o :: rest) Q s A h :=
  fun a w H S => WL.val hg (hx a w H S) (k _ w (by rw [hd]; exact H.put v hn) S)
theorem JL.c {o : Oper} {d : Nat} {v : Value} (hx : CF P K n s A h o v) (hg : o.guard = none) (hd : o.dst = some d) (hn : Nat.blt d n.sz = true)
    (k : JL P K n ops rest Q ((d, v) :: s) A h) : JL P K n ops (o :: rest) Q s A h :=
  fun a w H S => by
    obtain ⟨f, args, hr, hc⟩ := hx a w H S
    exact WL.enter hg hr (hc.mono fun e w' ⟨he, hb⟩ => ⟨v, he, k _ w' (by rw [hd]; exact H.put v hn) (S.ext hb)⟩)
section ops
variable {dd : Option Tmp} {gd : Option (Nat × Bool)} {ty : TypeId} {pos : String} {af : Array Edge}
theorem mv {x : Operand} {v : Value} (hx : ev s x = some v) : VF P K n s A h ⟨dd, .move x, ty, pos, af, gd⟩ (v) :=
  (fun a w H _ => by simp [execOp, H.ev hx])
theorem asg {x : Operand} {v : Value} (hx : ev s x = some v) : VF P K n s A h ⟨dd, .assign x, ty, pos, af, gd⟩ (v) :=
  (fun a w H _ => by simp [execOp, H.ev hx])
theorem bi {op : BinOp} {x y : Operand} {t t' : TypeId} {ki : IntKind} {i j : Int} {v : Value} (hx : ev s x = some (.int ki i)) (hy : ev s y = some (.int ki j)) (hv : ibin op ki i j = some v) : VF P K n s A h ⟨dd, .binOp op t x y t', ty, pos, af, gd⟩ (v) :=
  (fun a w H _ => by
    obtain ⟨e1, e2⟩ := run_ibin (P := P) hv x y t w
    simp [execOp, H.ev hx, H.ev hy, e1, e2])
theorem ix {x y : Operand} {t e : TypeId} {a : Option Addr} {len cap sz by_ : Nat} {zs : List Value} {ki : IntKind} {i : Int} (hx : ev s x = some (.slice a len cap)) (hy : ev s y = some (.int ki i)) (ht : TSl P t e sz by_ zs) (ha : a ≠ none) (hi : 0 ≤ i ∧ i < len) : VF P K n s A h ⟨dd, .indexAddr t x y, ty, pos, af, gd⟩ (.pointer (some (ead a (i.toNat * sz)))) :=
  (fun ac w H _ => by
    obtain ⟨ii, z, h1, h2, h3, h4, h5⟩ := ht.info
    cases a with
    | none => exact absurd rfl ha
    | some p => simp [execOp, H.ev hx, H.ev hy, Instr.indexAt, asIntOf, run_underlying ht.und, sizeOf, typeInfo, h1, h3, hi, ead])
theorem ln {x : Operand} {t : TypeId} {a : Option Addr} {len cap : Nat} (hx : ev s x = some (.slice a len cap)) (ht : TIsSl P t) : VF P K n s A h ⟨dd, .call { callee := .builtin .len, args := #[x], argTypes := #[t] }, ty, pos, af, gd⟩ (.int .i64 (len : Int)) :=
  (fun ac w H _ => by
    obtain ⟨e, he⟩ := ht
    simp [execOp, resolve, invoke, builtin, H.ev hx, Builtin.len_, run_underlying he, goInt])
theorem ext {x : Operand} {vs : Array Value} {i : Nat} {v : Value} (hx : ev s x = some (.tuple vs)) (hv : vs[i]? = some v) : VF P K n s A h ⟨dd, .extract x i, ty, pos, af, gd⟩ (v) :=
  (fun ac w H _ => by simp [execOp, H.ev hx, Instr.extract, hv])
end ops
end
section
variable {P : Program} {K : Kp} {n : Fr} {ops : Array Oper} {Q : Exit → Act → World → Prop} {s : St} {A : List Asrt} {h : FH} {rest : List Oper} {d : Nat} {dd : Option Tmp} {gd : Option (Nat × Bool)} {ty : TypeId} {pos : String} {af : Array Edge}

theorem ld1 {x : Operand} {t : TypeId} {p : Addr} {v : Value} (hx : ev s x = some (.pointer (some p))) (ht : TOne P t) (hc : ∀ w, SH K h w A → w.cell? p = some v) : VF P K n s A h ⟨dd, .load t x, ty, pos, af, gd⟩ (v) :=
  (fun ac w H S => by
    simp [execOp, H.ev hx, Instr.loadAt, Instr.sureAddr, loadVar, (ht w).1, run_load, hc w S])
theorem cellH {p : Addr} {v : Value} (hv : h.cell p = some v) : ∀ w, SH K h w A → w.cell? p = some v := fun _ S => S.sub.cell hv
/-- a call that gives a plain value -/
theorem cl {f : FuncId} {x : Operand} {xs : Array Operand} {ts : Array TypeId} {first cap : Array Value} {vs : List Value} {v : Value} (hf : ∀ args w, (callFunc f args).run P w = .ok (.enter f args) w)
    (hx : ev s x = some (.func (.func f) first cap)) (hv : evs s xs.toList = some vs) (hc : ∀ w, SH K h w A → Calls P f (first.toList ++ vs ++ cap.toList).toArray w fun e w' => e = .returned v ∧ Below w.heap.size w w') : CF P K n s A h ⟨dd, .call { callee := .value x, args := xs, argTypes := ts }, ty, pos, af, gd⟩ v :=
  fun _ w H S => ⟨f, _, call_exec H hf hx hv rfl, hc w S⟩
end

section
variable {P : Program} {K : Kp} {n : Fr} {s : St} {A : List Asrt} {h : FH} {fn : Func} {R : Ending → World → Prop}
/-- what a result variable gives -/
def RV (P : Program) (K : Kp) (n : Fr) (s : St) (A : List Asrt) (h : FH) (r : ResultVar) (v : Value) : Prop := ∀ a w, Holds n s a → SH K h w A →
  (resOne a.tmps r).run P w = .ok v w
theorem rvT {t : Nat} {v : Value} (hv : get s t = some v) : RV P K n s A h (.tmp t) v := fun a w H _ => by simp only [resOne, H.getD hv]; rfl
theorem E.res1 {m_ : Nat} {ro_ : Option (Option Nat)} {r : ResultVar} {v : Value} (hr : fn.results = #[r]) (h1 : RV P K ⟨m_, ro_, []⟩ s A h r v) (k : ∀ w, SH K h w A → R (.returned v) w) : E K ⟨m_, ro_, []⟩ (bodyPost P fn R) .ret s A h := fun a w H S => by
  refine ⟨H.defers, v, ?_, k w S⟩
  have e1 := h1 a w H S
  simp only [results_eq, hr, Sem.run_bind, List.mapM_toArray, List.mapM_cons, List.mapM_nil, e1, Sem.run_map, Result.andThen_ok, Sem.run_pure]
  rfl
theorem enter {f : FuncId} {c : Code} {args : List Value} {w : World} (hf : P.funcs[f]? = some fn) (hb : fn.body = some c) {n : Nat} (hn : fn.ntmps = n) (hle : Nat.ble args.length n = true) (hs : Sub h w)
    (j : J P (Kp.all w h) ⟨n, none, []⟩ c (bodyPost P fn R) (start 0 args) [] h) : Calls P f args.toArray w R := by
  have hl : args.length ≤ n := by simpa using hle
  refine calls_of_wp hf hb (j _ w ⟨rfl, ?_, fun t v e => ?_⟩ (SH.start w h hs))
  · simp [hn]; omega
  · obtain ⟨_, h2⟩ := get_start 0 args t v e
    simp only [Nat.sub_zero] at h2
    have hlt : t < args.length := (List.getElem?_eq_some_iff.1 h2).1
    rw [Array.getElem?_append_left (by simpa using hlt)]
    simpa using h2
end
section
variable {P : Program} {K : Kp} {n : Fr} {ops : Array Oper} {Q : Exit → Act → World → Prop} {s : St} {A : List Asrt} {h : FH}
/-- a loop from a state that is named -/
theorem J.loop' {σ : Type} (I : σ → Prop) (μ : σ → Nat) (S : σ → St) (M : σ → List Asrt) (F : σ → FH) {c : Code} (x0 : σ) (hI : I x0) (hs : SubSt (S x0) s) (hm : M x0 = A) (hf : FH.le (F x0) h)
    (round : ∀ x, I x → J P K n c (Exit.then (fun a w => ∃ y, I y ∧ μ y < μ x ∧ Holds n (S y) a ∧ SH K (F y) w (M y)) Q) (S x) (M x) (F x)) :
    J P K n (.loop c) Q s A h := by
  subst hm
  exact .up hf (.sub hs (.loop I μ S M F x0 hI round))
end

section
variable {P : Program} {K : Kp} {n : Fr} {ops : Array Oper} {Q : Exit → Act → World → Prop} {s : St} {A : List Asrt} {h : FH} {rest : List Oper} {R : Act → Prop}
def QL (P : Program) (K : Kp) (n : Fr) (ops : Array Oper) (l : List Oper) (R : Act → Prop) (s : St) (A : List Asrt) (h : FH) : Prop := ∀ a, Holds n s a → wpQuiet P ops (fun w => SH K h w A) R l a
theorem QL.nil (hr : ∀ a, Holds n s a → R a) : QL P K n ops [] R s A h := fun a H => wpQuiet_nil (hr a H)
theorem QL.v {o : Oper} {d : Nat} {v : Value} (hx : VF P K n s A h o v) (hg : o.guard = none) (hd : o.dst = some d) (hn : Nat.blt d n.sz = true) (k : QL P K n ops rest R ((d, v) :: s) A h) : QL P K n ops (o :: rest) R s A h :=
  fun a H => wpQuiet_step fun Kc hK => by
    rw [if_pos (by simp [Region.wanted, hg])]
    refine ⟨v, fun w hw => ?_, hK _ (k _ ?_)⟩
    · unfold Oper.quietAt; rw [hx a w H hw]; exact ⟨rfl, rfl⟩
    · rw [hd]; exact H.put v hn
theorem QL.c {o : Oper} {d : Nat} {v : Value} (hx : CF P K n s A h o v) (hg : o.guard = none) (hd : o.dst = some d) (hn : Nat.blt d n.sz = true) (k : QL P K n ops rest R ((d, v) :: s) A h) : QL P K n ops (o :: rest) R s A h :=
  fun a H => wpQuiet_step fun Kc hK => by
    rw [if_pos (by simp [Region.wanted, hg])]
    refine ⟨v, fun w hw => ?_, hK _ (k _ ?_)⟩
    · obtain ⟨f, args, hr, hc⟩ := hx a w H hw
      unfold Oper.quietAt; rw [hr]
      exact ⟨rfl, hc.mono fun e w' ⟨he, hb⟩ => ⟨he, SH.ext hw hb⟩⟩
    · rw [hd]; exact H.put v hn
theorem SH.drew {w : World} (S : SH K h w A) : SH K h { w with drawn := w.drawn + 1 } A := S.ext ((Below.refl _ _).drew)
end

section
variable {P : Program} {K : Kp} {n : Fr} {ops : Array Oper} {Q : Exit → Act → World → Prop} {s : St} {A A' : List Asrt} {h : FH} {l : List Oper} {c : Code} {ex : Exit}
/-- what stands first takes another's place -/
theorem SH.move {w : World} {X : Asrt} (S : SH K h w (X :: A)) (k : Nat) : SH K h w (A.set k X) := by
  obtain ⟨gs, p1, p2, p3, p4⟩ := S.parts
  cases gs with
  | nil => simp at p1
  | cons g0 gs =>
    have hl : gs.length = A.length := by simpa using p1
    refine ⟨S.kept, S.sub, S.fresh, gs.set k g0, by simp [hl], fun i g Y hi hY => ?_, fun i g hi => ?_, fun i j g g2 hij hi hj => ?_⟩
    · rcases list_set_get hi with ⟨rfl, rfl, _⟩ | ⟨hne, hi'⟩
      · rcases list_set_get hY with ⟨_, rfl, _⟩ | ⟨hne, _⟩
        · exact p2 0 g Y rfl rfl
        · exact absurd rfl hne
      · rcases list_set_get hY with ⟨rfl, _, _⟩ | ⟨_, hY'⟩
        · exact absurd rfl hne
        · exact p2 (i + 1) g Y (by simpa using hi') (by simpa using hY')
    · rcases list_set_get hi with ⟨rfl, rfl, _⟩ | ⟨hne, hi'⟩
      · exact p3 0 g rfl
      · exact p3 (i + 1) g (by simpa using hi')
    · rcases list_set_get hi with ⟨rfl, rfl, _⟩ | ⟨hne, hi'⟩
      · rcases list_set_get hj with ⟨rfl, rfl, _⟩ | ⟨hne2, hj'⟩
        · exact absurd rfl hij
        · exact p4 0 (j + 1) g g2 (by omega) rfl (by simpa using hj')
      · rcases list_set_get hj with ⟨rfl, rfl, _⟩ | ⟨hne2, hj'⟩
        · exact p4 (i + 1) 0 g g2 (by omega) (by simpa using hi') rfl
        · exact p4 (i + 1) (j + 1) g g2 (by omega) (by simpa using hi') (by simpa using hj')
theorem JL.move {X : Asrt} (k : Nat) (j : JL P K n ops l Q s (A.set k X) h) : JL P K n ops l Q s (X :: A) h := fun a w H S => j a w H (S.move k)
end
section
variable {P : Program} {K : Kp} {n : Fr} {ops : Array Oper} {Q : Exit → Act → World → Prop} {s : St} {A A' : List Asrt} {h : FH} {rest : List Oper}
theorem SH.none {w : World} (S : SH K h w A) : SH K h w [] := by
  induction A with
  | nil => exact S
  | cons x r ih => exact ih S.drop
end
section
variable {P : Program} {K : Kp} {m_ : Nat} {dl_ : List Nat} {ops : Array Oper} {Q : Exit → Act → World → Prop} {s : St} {A : List Asrt} {h : FH}
def JA (P : Program) (K : Kp) (n : Fr) (ops : Array Oper) (Q : Exit → Act → World → Prop) (X D C : List Nat) (val s0 : St) (A : List Asrt) (h : FH) : Prop :=
  dstOk ops (s0.map (·.1)) X = true → ∀ (fuel : Nat) (listed : Array Bool) (a : Act) (w : World) (sL : St), Known ops D C val s0 listed sL → listed.toList.count false ≤ fuel → Holds n sL a → SH K h w A → wpAny P .any ops Q fuel listed a w
/-- what the operations give that only read -/
def QA (P : Program) (K : Kp) (n : Fr) (ops : Array Oper) (val s0 : St) (A : List Asrt) (h : FH) (C : List Nat) : Prop :=
  ∀ i ∈ C, ∃ o d v si, ops[i]? = some o ∧ o.dst = some d ∧ Nat.blt d n.sz = true ∧ get val i = some v ∧ dl ops val o = si ∧ ((gdT ops si o ∧ ((∀ sL, VF P K n (si ++ (s0 ++ sL)) A h o v) ∨ (∀ sL, CF P K n (si ++ (s0 ++ sL)) A h o v))) ∨ (gdF ops si o ∧ v = undef))
section
variable {val s0 : St} {i d g t : Nat} {C : List Nat} {o : Oper} {u : Value} {want b : Bool}
theorem QA.nil : QA P K ⟨m_, none, dl_⟩ ops val s0 A h [] := fun i hi => by cases hi
theorem QA.cons (si : St) (ho : ops[i]? = some o) (hd : o.dst = some d) (hn : Nat.blt d m_ = true) (hv : get val i = some u) (hs : dl ops val o = si) (hx : (gdT ops si o ∧ ((∀ sL, VF P K ⟨m_, none, dl_⟩ (si ++ (s0 ++ sL)) A h o u) ∨ (∀ sL, CF P K ⟨m_, none, dl_⟩ (si ++ (s0 ++ sL)) A h o u))) ∨ (gdF ops si o ∧ u = undef)) (r : QA P K ⟨m_, none, dl_⟩ ops val s0 A h C) : QA P K ⟨m_, none, dl_⟩ ops val s0 A h (i :: C) := fun j hj => by
  rcases List.mem_cons.1 hj with rfl | hj
  · exact ⟨o, d, u, si, ho, hd, hn, hv, hs, hx⟩
  · exact r j hj
theorem QA.v (si : St) (ho : ops[i]? = some o) (hg : o.guard = none) (hd : o.dst = some d) (hn : Nat.blt d m_ = true) (hv : get val i = some u) (hs : dl ops val o = si) (hx : ∀ sL, VF P K ⟨m_, none, dl_⟩ (si ++ (s0 ++ sL)) A h o u) (r : QA P K ⟨m_, none, dl_⟩ ops val s0 A h C) : QA P K ⟨m_, none, dl_⟩ ops val s0 A h (i :: C) :=
  .cons si ho hd hn hv hs (.inl ⟨gdT_none hg, .inl hx⟩) r
theorem QA.c (si : St) (ho : ops[i]? = some o) (hg : o.guard = none) (hd : o.dst = some d) (hn : Nat.blt d m_ = true) (hv : get val i = some u) (hs : dl ops val o = si) (hx : ∀ sL, CF P K ⟨m_, none, dl_⟩ (si ++ (s0 ++ sL)) A h o u) (r : QA P K ⟨m_, none, dl_⟩ ops val s0 A h C) : QA P K ⟨m_, none, dl_⟩ ops val s0 A h (i :: C) :=
  .cons si ho hd hn hv hs (.inl ⟨gdT_none hg, .inr hx⟩) r
end
/-- what is known when one more operation has been done -/
def After (P : Program) (K : Kp) (n : Fr) (ops : Array Oper) (Q : Exit → Act → World → Prop) (X D C : List Nat) (val s0 : St) (i : Nat) (o : Oper) (sL : St) : Act → World → Prop := fun a w =>
  ∃ (M C' : List Nat) (pre s1 : St) (A' : List Asrt) (h' : FH), ((∀ t v, get s1 t = some v → get s0 t = some v) ∧ (∀ d, o.dst = some d → ∀ p ∈ s1, Nat.beq p.1 d = false) ∧ dstOk ops (s1.map (·.1)) X = true) ∧ ancOk ops [i] M = true ∧ (∀ j ∈ C, j ∈ M ∨ j ∈ C') ∧ (∀ j, j ∈ D ∨ j ∈ C → get (pre ++ val) j = get val j) ∧
    (match o.dst with | some d => ∃ v, get (pre ++ val) i = some v ∧ Holds n ((d, v) :: sL) a | none => Holds n sL a) ∧ SH K h' w A' ∧ JA P K n ops Q X (i :: (M ++ D)) C' (pre ++ val) s1 A' h'
def HA (P : Program) (K : Kp) (n : Fr) (ops : Array Oper) (Q : Exit → Act → World → Prop) (X D C : List Nat) (val s0 : St) (A : List Asrt) (h : FH) (H : List Nat) : Prop :=
  ∀ i ∈ H, ∃ o si, ops[i]? = some o ∧ dl ops val o = si ∧ ∀ sL, (∀ t v, get (si ++ s0) t = some v → get sL t = some v) → JL P K n ops [o] (Exit.then (After P K n ops Q X D C val s0 i o sL) Q) (si ++ (s0 ++ sL)) A h
theorem HA.nil {X D C : List Nat} {val s0 : St} : HA P K ⟨m_, none, dl_⟩ ops Q X D C val s0 A h [] := fun i hi => by cases hi
theorem HA.cons {X D C H : List Nat} {val s0 : St} {i : Nat} {o : Oper} (si : St) (ho : ops[i]? = some o) (hs : dl ops val o = si) (hx : ∀ sL, (∀ t v, get (si ++ s0) t = some v → get sL t = some v) → JL P K ⟨m_, none, dl_⟩ ops [o] (Exit.then (After P K ⟨m_, none, dl_⟩ ops Q X D C val s0 i o sL) Q) (si ++ (s0 ++ sL)) A h) (r : HA P K ⟨m_, none, dl_⟩ ops Q X D C val s0 A h H) : HA P K ⟨m_, none, dl_⟩ ops Q X D C val s0 A h (i :: H) := fun j hj => by
  rcases List.mem_cons.1 hj with rfl | hj
  · exact ⟨o, si, ho, hs, hx⟩
  · exact r j hj
end
section
variable {P : Program} {K : Kp} {n : Fr} {ops : Array Oper} {Q : Exit → Act → World → Prop} {s : St} {A : List Asrt} {h : FH} {rest : List Oper} {fn : Func} {R : Ending → World → Prop}
end
theorem w_isNaN1 {h : FH} {w : World} (hs : Sub h w) (x : Int) (K : Bool → Prop) (hF : F_isNaN1 x K) : Calls Tryz.prog 122 #[.int .i64 x] w fun e w' => ∃ r : Bool, K r ∧ e = .returned (.bool r) ∧ Below w.heap.size w w' := by
  refine enter (args := [.int .i64 x]) Tryz.func122 rfl Tryz.ntmps122 rfl hs ?_
  refine .seq ?_
  refine .region ?_
  refine .v (asg rfl) rfl rfl rfl ?_
  refine .nil ?_
  refine .seqN ?_
  refine .seq ?_
  refine .region ?_
  refine .v (mv rfl) rfl rfl rfl ?_
  refine .v (mv rfl) rfl rfl rfl ?_
  refine .v (bi rfl rfl rfl) rfl rfl rfl ?_
  refine .v (asg rfl) rfl rfl rfl ?_
  refine .nil ?_
  refine .seqN ?_
  refine .ret ?_
  refine .res1 rfl (rvT rfl) (fun w' S => ⟨x != x, hF, rfl, S.below⟩)

theorem c_isNaN1 {h : FH} {w : World} (hs : Sub h w) (x : Int) : Calls Tryz.prog 122 #[.int .i64 x] w fun e w' => e = .returned (.bool (sp_isNaN1 x)) ∧ Below w.heap.size w w' :=
  (w_isNaN1 hs x (fun r => r = sp_isNaN1 x) (ok_isNaN1 x)).mono fun _ _ ⟨_, hk, he, hb⟩ => ⟨by rw [he, hk], hb⟩


theorem w_compare {h : FH} {w : World} (hs : Sub h w) (x : Int) (y : Int) (K : Int → Prop) (hF : F_compare x y K) : Calls Tryz.prog 111 #[.int .i64 x, .int .i64 y] w fun e w' => ∃ r : Int, K r ∧ e = .returned (.int .i64 r) ∧ Below w.heap.size w w' := by
  refine enter (args := [.int .i64 x, .int .i64 y]) Tryz.func111 rfl Tryz.ntmps111 rfl hs ?_
  refine .seq ?_
  refine .region ?_
  refine .v (asg rfl) rfl rfl rfl ?_
  refine .nil ?_
  refine .seqN ?_
  refine .seq ?_
  refine .region ?_
  refine .v (mv rfl) rfl rfl rfl ?_
  obtain ⟨r2, q1⟩ : ∃ y_ : Bool, y_ = sp_isNaN1 x := ⟨_, rfl⟩
  replace hF := hF r2 q1
  refine .c (cl (v := .bool r2) Tryz.call122 rfl rfl (fun w S => (by rw [q1]; exact c_isNaN1 S.sub x ))) rfl rfl rfl ?_
  refine .v (asg rfl) rfl rfl rfl ?_
  refine .nil ?_
  refine .seqN ?_
  refine .seq ?_
  refine .region ?_
  refine .v (mv rfl) rfl rfl rfl ?_
  obtain ⟨r3, q2⟩ : ∃ y_ : Bool, y_ = sp_isNaN1 y := ⟨_, rfl⟩
  replace hF := hF r3 q2
  refine .c (cl (v := .bool r3) Tryz.call122 rfl rfl (fun w S => (by rw [q2]; exact c_isNaN1 S.sub y ))) rfl rfl rfl ?_
  refine .v (asg rfl) rfl rfl rfl ?_
  refine .nil ?_
  refine .seqN ?_
  refine .seq ?_
  refine .seq ?_
  refine .region ?_
  refine .v (mv rfl) rfl rfl rfl ?_
  refine .nil ?_
  refine .seqN ?_
  refine .cond rfl (fun q6 => ?_) (fun q6 => ?_)
  · replace hF := hF.1 q6
    refine .seq ?_
    refine .seq ?_
    refine .region ?_
    refine .v (mv rfl) rfl rfl rfl ?_
    refine .nil ?_
    refine .seqN ?_
    refine .cond rfl (fun q8 => ?_) (fun q8 => ?_)
    · replace hF := hF.1 q8
      refine .seq ?_
      refine .region ?_
      refine .v (asg rfl) rfl rfl rfl ?_
      refine .nil ?_
      refine .seqN ?_
      refine .ret ?_
      refine .seqR ?_
      refine .seqR ?_
      refine .res1 rfl (rvT rfl) (fun w' S => ⟨0, hF, rfl, S.below⟩)
    replace hF := hF.2 q8
    refine .skip ?_
    refine .seqN ?_
    refine .seq ?_
    refine .region ?_
    refine .v (asg rfl) rfl rfl rfl ?_
    refine .nil ?_
    refine .seqN ?_
    refine .ret ?_
    refine .seqR ?_
    refine .res1 rfl (rvT rfl) (fun w' S => ⟨(-1), hF, rfl, S.below⟩)
  replace hF := hF.2 q6
  refine .skip ?_
  refine .seqN ?_
  refine .seq ?_
  refine .seq ?_
  refine .region ?_
  refine .v (mv rfl) rfl rfl rfl ?_
  refine .nil ?_
  refine .seqN ?_
  refine .cond rfl (fun q10 => ?_) (fun q10 => ?_)
  · replace hF := hF.1 q10
    refine .seq ?_
    refine .region ?_
    refine .v (asg rfl) rfl rfl rfl ?_
    refine .nil ?_
    refine .seqN ?_
    refine .ret ?_
    refine .seqR ?_
    refine .res1 rfl (rvT rfl) (fun w' S => ⟨1, hF, rfl, S.below⟩)
  replace hF := hF.2 q10
  refine .skip ?_
  refine .seqN ?_
  refine .seq ?_
  refine .seq ?_
  refine .region ?_
  refine .v (mv rfl) rfl rfl rfl ?_
  refine .v (mv rfl) rfl rfl rfl ?_
  refine .v (bi rfl rfl rfl) rfl rfl rfl ?_
  refine .nil ?_
  refine .seqN ?_
  refine .cond rfl (fun q12 => ?_) (fun q12 => ?_)
  · replace hF := hF.1 q12
    refine .seq ?_
    refine .region ?_
    refine .v (asg rfl) rfl rfl rfl ?_
    refine .nil ?_
    refine .seqN ?_
    refine .ret ?_
    refine .seqR ?_
    refine .res1 rfl (rvT rfl) (fun w' S => ⟨(-1), hF, rfl, S.below⟩)
  replace hF := hF.2 q12
  refine .skip ?_
  refine .seqN ?_
  refine .seq ?_
  refine .seq ?_
  refine .region ?_
  refine .v (mv rfl) rfl rfl rfl ?_
  refine .v (mv rfl) rfl rfl rfl ?_
  refine .v (bi rfl rfl rfl) rfl rfl rfl ?_
  refine .nil ?_
  refine .seqN ?_
  refine .cond rfl (fun q14 => ?_) (fun q14 => ?_)
  · replace hF := hF.1 q14
    refine .seq ?_
    refine .region ?_
    refine .v (asg rfl) rfl rfl rfl ?_
    refine .nil ?_
    refine .seqN ?_
    refine .ret ?_
    refine .seqR ?_
    refine .res1 rfl (rvT rfl) (fun w' S => ⟨1, hF, rfl, S.below⟩)
  replace hF := hF.2 q14
  refine .skip ?_
  refine .seqN ?_
  refine .seq ?_
  refine .region ?_
  refine .v (asg rfl) rfl rfl rfl ?_
  refine .nil ?_
  refine .seqN ?_
  refine .ret ?_
  refine .res1 rfl (rvT rfl) (fun w' S => ⟨0, hF, rfl, S.below⟩)

theorem c_compare {h : FH} {w : World} (hs : Sub h w) (x : Int) (y : Int) : Calls Tryz.prog 111 #[.int .i64 x, .int .i64 y] w fun e w' => e = .returned (.int .i64 (sp_compare x y)) ∧ Below w.heap.size w w' :=
  (w_compare hs x y (fun r => r = sp_compare x y) (ok_compare x y)).mono fun _ _ ⟨_, hk, he, hb⟩ => ⟨by rw [he, hk], hb⟩


set_option maxHeartbeats 8000000 in
theorem w_scompare {h : FH} {w : World} (hs : Sub h w) (s1 : List Int) (as1 : Option Addr) (cs1 : Nat) (_q1 : RSl h as1 s1) (_q2 : s1.length ≤ cs1) (s2 : List Int) (as2 : Option Addr) (cs2 : Nat) (_q3 : RSl h as2 s2) (_q4 : s2.length ≤ cs2) (K : Int → Prop) (hF : F_scompare s1 s2 K) : Calls Tryz.prog 92 #[.slice as1 s1.length cs1, .slice as2 s2.length cs2] w fun e w' => ∃ r : Int, K r ∧ e = .returned (.int .i64 r) ∧ Below w.heap.size w w' := by
  refine enter (args := [.slice as1 s1.length cs1, .slice as2 s2.length cs2]) Tryz.func92 rfl Tryz.ntmps92 rfl hs ?_
  refine .seq ?_
  refine .region ?_
  refine .v (asg rfl) rfl rfl rfl ?_
  refine .nil ?_
  refine .seqN ?_
  refine .seq ?_
  refine .seq ?_
  refine .region ?_
  refine .v (mv rfl) rfl rfl rfl ?_
  refine .v (ln rfl tS22.is) rfl rfl rfl ?_
  refine .v (mv rfl) rfl rfl rfl ?_
  refine .nil ?_
  refine .seqN ?_
  refine .block ?_
  obtain ⟨I1, μ1, q112, q113⟩ := hF
  refine .loop' (σ := Int) (fun z => I1 z) (fun z => μ1 z) (fun z => [(0, .slice as1 s1.length cs1), (1, .slice as2 s2.length cs2), (9, .slice as1 s1.length cs1), (10, .int .i64 ((s1.length : Nat) : Int)), (11, .int .i64 z)]) (fun _ => []) (fun _ => h) 0 q112 (.cons rfl (.cons rfl (.cons rfl (.cons rfl (.cons rfl (.nil)))))) rfl (FH.le_refl _) ?_
  rintro t11 q112
  have hF := q113 t11 q112
  show J _ _ _ _ _ [(0, .slice as1 s1.length cs1), (1, .slice as2 s2.length cs2), (9, .slice as1 s1.length cs1), (10, .int .i64 ((s1.length : Nat) : Int)), (11, .int .i64 t11)] [] h
  refine .seq ?_
  refine .region ?_
  refine .v (bi rfl rfl rfl) rfl rfl rfl ?_
  refine .nil ?_
  refine .seqN ?_
  refine .seq ?_
  refine .cond rfl (fun q116 => ?_) (fun q116 => ?_)
  · replace hF := hF.1 q116
    refine .skip ?_
    refine .seqN ?_
    refine .seq ?_
    refine .block ?_
    refine .seq ?_
    refine .region ?_
    refine .v (mv rfl) rfl rfl rfl ?_
    obtain ⟨q129, hF⟩ := hF
    refine .v (ix rfl rfl tS22 (_q1.ne (by decide) (inb_pos q129)) q129) rfl rfl rfl ?_
    refine .v (ld1 (v := .int .i64 (gt s1 t11)) rfl tO3 (cellH (_q1.elemF q129 (by decide) 0 _ rfl))) rfl rfl rfl ?_
    refine .v (asg rfl) rfl rfl rfl ?_
    refine .v (asg rfl) rfl rfl rfl ?_
    refine .nil ?_
    refine .seqN ?_
    refine .seq ?_
    refine .seq ?_
    refine .region ?_
    refine .v (mv rfl) rfl rfl rfl ?_
    refine .v (mv rfl) rfl rfl rfl ?_
    refine .v (ln rfl tS22.is) rfl rfl rfl ?_
    refine .v (bi rfl rfl rfl) rfl rfl rfl ?_
    refine .nil ?_
    refine .seqN ?_
    refine .cond rfl (fun q131 => ?_) (fun q131 => ?_)
    · replace hF := hF.1 q131
      refine .seq ?_
      refine .region ?_
      refine .v (asg rfl) rfl rfl rfl ?_
      refine .nil ?_
      refine .seqN ?_
      refine .ret ?_
      refine .seqR ?_
      refine .blkR ?_
      refine .seqR ?_
      refine .seqR ?_
      refine .blkR ?_
      refine .seqR ?_
      refine .res1 rfl (rvT rfl) (fun w' S => ⟨1, hF, rfl, S.below⟩)
    replace hF := hF.2 q131
    refine .skip ?_
    refine .seqN ?_
    refine .seq ?_
    refine .region ?_
    refine .v (mv rfl) rfl rfl rfl ?_
    refine .v (mv rfl) rfl rfl rfl ?_
    obtain ⟨q132, hF⟩ := hF
    refine .v (ix rfl rfl tS22 (_q3.ne (by decide) (inb_pos q132)) q132) rfl rfl rfl ?_
    refine .v (ld1 (v := .int .i64 (gt s2 t11)) rfl tO3 (cellH (_q3.elemF q132 (by decide) 0 _ rfl))) rfl rfl rfl ?_
    refine .v (asg rfl) rfl rfl rfl ?_
    refine .nil ?_
    refine .seqN ?_
    refine .seq ?_
    refine .region ?_
    refine .v (mv rfl) rfl rfl rfl ?_
    refine .v (mv rfl) rfl rfl rfl ?_
    obtain ⟨r2, q133⟩ : ∃ y_ : Int, y_ = sp_compare (gt s1 t11) (gt s2 t11) := ⟨_, rfl⟩
    replace hF := hF r2 q133
    refine .c (cl (v := .int .i64 r2) Tryz.call111 rfl rfl (fun w S => (by rw [q133]; exact c_compare S.sub (gt s1 t11) (gt s2 t11) ))) rfl rfl rfl ?_
    refine .v (asg rfl) rfl rfl rfl ?_
    refine .nil ?_
    refine .seqN ?_
    refine .seq ?_
    refine .region ?_
    refine .v (mv rfl) rfl rfl rfl ?_
    refine .v (bi rfl rfl rfl) rfl rfl rfl ?_
    refine .nil ?_
    refine .seqN ?_
    refine .cond rfl (fun q134 => ?_) (fun q134 => ?_)
    · replace hF := hF.1 q134
      refine .seq ?_
      refine .region ?_
      refine .v (mv rfl) rfl rfl rfl ?_
      refine .v (asg rfl) rfl rfl rfl ?_
      refine .nil ?_
      refine .seqN ?_
      refine .ret ?_
      refine .blkR ?_
      refine .seqR ?_
      refine .seqR ?_
      refine .blkR ?_
      refine .seqR ?_
      refine .res1 rfl (rvT rfl) (fun w' S => ⟨r2, hF, rfl, S.below⟩)
    replace hF := hF.2 q134
    refine .skip ?_
    refine .blkN ?_
    refine .seqN ?_
    refine .region ?_
    refine .v (bi rfl rfl rfl) rfl rfl rfl ?_
    refine .v (mv rfl) rfl rfl rfl ?_
    refine .nil ?_
    exact .round (IntKind.i64.wrap (t11 + 1)) hF.1 hF.2 (.cons rfl (.cons rfl (.cons rfl (.cons rfl (.cons rfl (.nil)))))) rfl (FH.le_refl _)
  replace hF := hF.2 q116
  refine .exit ?_
  refine .seqX ?_
  refine .seqX ?_
  refine .blkX ?_
  refine .seqN ?_
  refine .seq ?_
  refine .seq ?_
  refine .region ?_
  refine .v (mv rfl) rfl rfl rfl ?_
  refine .v (ln rfl tS22.is) rfl rfl rfl ?_
  refine .v (mv rfl) rfl rfl rfl ?_
  refine .v (ln rfl tS22.is) rfl rfl rfl ?_
  refine .v (bi rfl rfl rfl) rfl rfl rfl ?_
  refine .nil ?_
  refine .seqN ?_
  refine .cond rfl (fun q136 => ?_) (fun q136 => ?_)
  · replace hF := hF.1 q136
    refine .seq ?_
    refine .region ?_
    refine .v (asg rfl) rfl rfl rfl ?_
    refine .nil ?_
    refine .seqN ?_
    refine .ret ?_
    refine .seqR ?_
    refine .res1 rfl (rvT rfl) (fun w' S => ⟨(-1), hF, rfl, S.below⟩)
  replace hF := hF.2 q136
  refine .skip ?_
  refine .seqN ?_
  refine .seq ?_
  refine .region ?_
  refine .v (asg rfl) rfl rfl rfl ?_
  refine .nil ?_
  refine .seqN ?_
  refine .ret ?_
  refine .res1 rfl (rvT rfl) (fun w' S => ⟨0, hF, rfl, S.below⟩)

theorem c_scompare {h : FH} {w : World} (hs : Sub h w) (s1 : List Int) (as1 : Option Addr) (cs1 : Nat) (_q1 : RSl h as1 s1) (_q2 : s1.length ≤ cs1) (s2 : List Int) (as2 : Option Addr) (cs2 : Nat) (_q3 : RSl h as2 s2) (_q4 : s2.length ≤ cs2) (hp : pre_scompare s1 s2) : Calls Tryz.prog 92 #[.slice as1 s1.length cs1, .slice as2 s2.length cs2] w fun e w' => e = .returned (.int .i64 (sp_scompare s1 s2)) ∧ Below w.heap.size w w' :=
  (w_scompare hs s1 as1 cs1 _q1 _q2 s2 as2 cs2 _q3 _q4 (fun r => r = sp_scompare s1 s2) (ok_scompare s1 s2 hp)).mono fun _ _ ⟨_, hk, he, hb⟩ => ⟨by rw [he, hk], hb⟩

end Go.Proofs.YtojoehfldbimpaaGreatDoor.Pl.Pd

/- The library's sorting of lists of numbers by slices.Compare, laid at this program, in the words of the walks. No condition. -/
namespace Go.Proofs
open Go.Shelf
def YtojoehfldbimpaaGreatDoor.laysSR_ren : Go.Shelf.Ren := ⟨fun | 6 => 107 | 15 => 119 | 14 => 120 | 28 => 134 | 29 => 135 | 20 => 136 | 21 => 137 | 22 => 138 | 23 => 139 | 24 => 140 | 25 => 141 | 26 => 142 | 27 => 143 | 46 => 155 | 47 => 151 | 48 => 152 | 49 => 156 | 50 => 157 | 57 => 163 | n => n, fun | 22 => 35 | 24 => 22 | 25 => 116 | 3 => 3 | 39 => 131 | 0 => 0 | 53 => 148 | 55 => 137 | 4 => 4 | 46 => 142 | 45 => 141 | 50 => 123 | 5 => 5 | 9 => 9 | 66 => 161 | 70 => 165 | 76 => 173 | 77 => 174 | n => n, fun | n => n⟩
theorem YtojoehfldbimpaaGreatDoor.laysSR : Go.Proofs.SlLaysF.n6 Tryz.prog YtojoehfldbimpaaGreatDoor.laysSR_ren := {
  mixed := by kernel_rfl
  f6 := ⟨Tryz.f107.name, by decide, Tryz.func107.trans (congrArg some (by kernel_rfl))⟩
  f14 := ⟨Tryz.f120.name, by decide, Tryz.func120.trans (congrArg some (by kernel_rfl))⟩
  f15 := Tryz.func119.trans (congrArg some (by kernel_rfl))
  f20 := ⟨Tryz.f136.name, by decide, Tryz.func136.trans (congrArg some (by kernel_rfl))⟩
  f21 := ⟨Tryz.f137.name, by decide, Tryz.func137.trans (congrArg some (by kernel_rfl))⟩
  f22 := ⟨Tryz.f138.name, by decide, Tryz.func138.trans (congrArg some (by kernel_rfl))⟩
  f23 := ⟨Tryz.f139.name, by decide, Tryz.func139.trans (congrArg some (by kernel_rfl))⟩
  f24 := ⟨Tryz.f140.name, by decide, Tryz.func140.trans (congrArg some (by kernel_rfl))⟩
  f25 := ⟨Tryz.f141.name, by decide, Tryz.func141.trans (congrArg some (by kernel_rfl))⟩
  f26 := ⟨Tryz.f142.name, by decide, Tryz.func142.trans (congrArg some (by kernel_rfl))⟩
  f27 := ⟨Tryz.f143.name, by decide, Tryz.func143.trans (congrArg some (by kernel_rfl))⟩
  f28 := Tryz.func134.trans (congrArg some (by kernel_rfl))
  f29 := Tryz.func135.trans (congrArg some (by kernel_rfl))
  f46 := ⟨Tryz.f155.name, by decide, Tryz.func155.trans (congrArg some (by kernel_rfl))⟩
  f47 := Tryz.func151.trans (congrArg some (by kernel_rfl))
  f48 := Tryz.func152.trans (congrArg some (by kernel_rfl))
  f49 := ⟨Tryz.f156.name, by decide, Tryz.func156.trans (congrArg some (by kernel_rfl))⟩
  f50 := ⟨Tryz.f157.name, by decide, Tryz.func157.trans (congrArg some (by kernel_rfl))⟩
  f57 := ⟨Tryz.f163.name, by decide, Tryz.func163.trans (congrArg some (by kernel_rfl))⟩
  t0 := Tryz.underlying0
  a0 := Tryz.isAgg0
  z0 := Tryz.sizeOf0
  v0 := Tryz.zeroValue0
  t3 := Tryz.underlying3
  a3 := Tryz.isAgg3
  z3 := Tryz.sizeOf3
  v3 := Tryz.zeroValue3
  t4 := Tryz.underlying4
  a4 := Tryz.isAgg4
  z4 := Tryz.sizeOf4
  v4 := Tryz.zeroValue4
  t5 := Tryz.underlying5
  a5 := Tryz.isAgg5
  z5 := Tryz.sizeOf5
  v5 := Tryz.zeroValue5
  t9 := Tryz.underlying9
  a9 := Tryz.isAgg9
  z9 := Tryz.sizeOf9
  v9 := Tryz.zeroValue9
  t22 := Tryz.underlying35
  a22 := Tryz.isAgg35
  z22 := Tryz.sizeOf35
  v22 := Tryz.zeroValue35
  a24 := Tryz.isAgg22
  z24 := Tryz.sizeOf22
  t25 := Tryz.underlying116
  a25 := Tryz.isAgg116
  z25 := Tryz.sizeOf116
  v25 := Tryz.zeroValue116
  t39 := Tryz.underlying131
  a39 := Tryz.isAgg131
  z39 := Tryz.sizeOf131
  v39 := Tryz.zeroValue131
  t45 := Tryz.underlying141
  a45 := Tryz.isAgg141
  z45 := Tryz.sizeOf141
  v45 := Tryz.zeroValue141
  t46 := Tryz.underlying142
  a46 := Tryz.isAgg142
  z46 := Tryz.sizeOf142
  v46 := Tryz.zeroValue142
  t50 := Tryz.underlying123
  a50 := Tryz.isAgg123
  z50 := Tryz.sizeOf123
  v50 := Tryz.zeroValue123
  t53 := Tryz.underlying148
  a53 := Tryz.isAgg148
  z53 := Tryz.sizeOf148
  v53 := Tryz.zeroValue148
  t55 := Tryz.underlying137
  a55 := Tryz.isAgg137
  z55 := Tryz.sizeOf137
  v55 := Tryz.zeroValue137
  t66 := Tryz.underlying161
  a66 := Tryz.isAgg161
  z66 := Tryz.sizeOf161
  v66 := Tryz.zeroValue161
  t70 := Tryz.underlying165
  a70 := Tryz.isAgg165
  z70 := Tryz.sizeOf165
  v70 := Tryz.zeroValue165
  t76 := Tryz.underlying173
  a76 := Tryz.isAgg173
  z76 := Tryz.sizeOf173
  v76 := Tryz.zeroValue173
  t77 := Tryz.underlying174
  a77 := Tryz.isAgg174
  z77 := Tryz.sizeOf174
  v77 := Tryz.zeroValue174 }
end Go.Proofs
namespace Go.Proofs.YtojoehfldbimpaaGreatDoor.Pl
open Go Go.RowKit Go.Sort
theorem grow_of_drawn {W w' : World} (hb : Pd.Below W.heap.size W w') : ∃ q os', w' = grow (W.drewN q) os' := by
  refine ⟨w'.drawn - W.drawn, w'.heap.extract W.heap.size w'.heap.size, ?_⟩
  have h1 : w'.heap = W.heap ++ w'.heap.extract W.heap.size w'.heap.size := by
    refine Array.ext_getElem? fun i => ?_
    rw [Array.getElem?_append]
    split
    · rename_i h; exact hb.block i h
    · rename_i h
      rw [Array.getElem?_extract]
      split
      · congr 1; omega
      · exact Array.getElem?_eq_none (by omega)
  have h2 : w'.drawn = W.drawn + (w'.drawn - W.drawn) := by have h0 : W.drawn ≤ w'.drawn := hb.drawn; omega
  have h3 := hb.os
  have h4 := hb.tape
  have h5 := hb.output
  generalize w'.heap.extract W.heap.size w'.heap.size = os at h1
  generalize w'.drawn - W.drawn = q at h2
  cases w'
  simp only at h1 h2 h3 h4 h5
  subst h1; subst h2; subst h3; subst h4; subst h5
  rfl
theorem putG {w : World} {h : FH} {b c m sz q : Nat} {cur : Array Value} {e : TypeId} {ds : List Value} {os : Array Obj} (hs : Sub h w) (sg : Sub (FH.one b (.cells cur e (0, 0))) w) (hd : Disj h (FH.one b (.cells cur e (0, 0)))) (hmax : c ≤ maxLen) (hsz : cur.size = c * sz) (hds : ds.length = m * sz) (hm : m ≤ c) :
    SH (Kp.ex w h (FH.one b (.cells cur e (0, 0)))) h (grow (putRow id (Sort.ahead w q) b 0 ds.toArray) os) [OwnSl e sz (some ⟨b, 0, none⟩) m c ds] := by
  have hb : w.heap[b]? = some (.cells cur e (0, 0)) := sg b _ (FH.one_self _ _)
  have hlt : b < w.heap.size := sg.lt (FH.one_self _ _)
  have hheap : ∀ i, i < w.heap.size → (grow (putRow id (Sort.ahead w q) b 0 ds.toArray) os).heap[i]? = if b = i then some (.cells (putCells id 0 ds.toArray cur) e (0, 0)) else w.heap[i]? := fun i hi => by
    show ((w.heap.modify b (onCells (putCells id 0 ds.toArray))) ++ os)[i]? = _
    rw [Array.getElem?_append_left (by rw [Array.size_modify]; exact hi), Array.getElem?_modify]
    by_cases q : b = i
    · subst q
      rw [if_pos rfl, if_pos rfl, hb]; rfl
    · rw [if_neg q, if_neg q]
  have hsize : w.heap.size ≤ (grow (putRow id (Sort.ahead w q) b 0 ds.toArray) os).heap.size := by
    show w.heap.size ≤ ((w.heap.modify b (onCells (putCells id 0 ds.toArray))) ++ os).size
    rw [Array.size_append, Array.size_modify]; omega
  have hone : ∀ i, FH.one b (.cells cur e (0, 0)) i = none → b ≠ i := fun i g q => by
    subst q
    rw [FH.one_self] at g; cases g
  have hnb : ∀ i, h i ≠ none → b ≠ i := fun i hi => hone i ((hd i).resolve_left hi)
  refine ⟨⟨rfl, rfl, rfl, hsize, fun i hi => ?_, (by unfold dr; first | exact Nat.le_add_right _ _ | exact Nat.le_refl _)⟩, fun i o ho => ?_, fun i hi => .inl hi, [FH.one b (.cells (putCells id 0 ds.toArray cur) e (0, 0))], rfl, ?_, ?_, ?_⟩
  · rw [hheap i hi.1, if_neg (hone i hi.2)]; rfl
  · rw [hheap i (hs.lt ho), if_neg (hnb i (by rw [ho]; simp))]; exact hs i o ho
  · intro i g X hi hX
    cases i with
    | succ i => simp at hi
    | zero =>
      simp at hi hX
      subst hi; subst hX
      have hle : m * sz ≤ c * sz := Nat.mul_le_mul_right sz hm
      refine ⟨hds, .inr ⟨b, _, rfl, rfl, hm, hmax, by simp [putCells, hsz], ?_⟩⟩
      refine List.ext_getElem? fun k => ?_
      rw [List.getElem?_take]
      by_cases g : k < m * sz
      · have g2 : k < ds.length := by omega
        have g3 : k < cur.size := by omega
        rw [if_pos g, Array.getElem?_toList]
        simp [putCells, g2, g3]
      · rw [if_neg g, List.getElem?_eq_none (by omega)]
  · intro i g hi
    cases i with
    | succ i => simp at hi
    | zero =>
      simp at hi
      subst hi
      refine ⟨fun j => ?_, Sub.one ?_, fun j hj hk => ?_⟩
      · by_cases g : h j = none
        · exact .inl g
        · exact .inr (by unfold FH.one; rw [if_neg (fun e => hnb j g e.symm)])
      · rw [hheap b hlt, if_pos rfl]
      · exact hone j hk.2 (FH.one_ne hj).symm
  · intro i j g g' hij hi hj
    cases i with
    | succ i => simp at hi
    | zero => cases j with
      | zero => exact absurd rfl hij
      | succ j => simp at hj
theorem ownHoldsG {w : World} {b m : Nat} {cur : Array Value} {e : TypeId} {ds : List Value} (hb : w.heap[b]? = some (.cells cur e (0, 0))) (hl : ds.length = m) (ht : cur.toList.take m = ds) : Go.Sort.Holds id w b 0 ds.toArray := fun j hj => by
  have hj' : j < ds.length := by simpa using hj
  refine ⟨?_, ?_⟩
  · unfold World.cell?
    rw [hb]
    show (if (none : Option _).isSome = true then none else cur[0 + j]?) = _
    have h1 := congrArg (fun l => l[j]?) ht
    simp only [List.getElem?_take, show j < m by omega, if_true] at h1
    rw [Array.getElem?_toList, List.getElem?_eq_getElem hj'] at h1
    rw [Nat.zero_add]
    simp [h1, hj']
  · unfold World.frozen?
    rw [hb]
    simp
/-- a list of numbers, with a slice that holds it -/
abbrev RowA (h : FH) := {p : List Int × Value // Rep.rep h p.1 [p.2] ∧ p.1.length ≤ 1000}
instance (h : FH) : Inhabited (RowA h) := ⟨⟨([], .slice none 0 0), ⟨none, 0, rfl, Nat.le_refl 0, RSl.nil_⟩, by simp⟩⟩
def encA {h : FH} (p : RowA h) : Value := p.1.2
def cfA {h : FH} (p q : RowA h) : Int := sp_scompare p.1.1 q.1.1
theorem rows_of {h : FH} : ∀ (l : Bel) (cs : List Value), RepL h l cs → (∀ x ∈ l, x.length ≤ 1000) → ∃ ds : List (RowA h), ds.map (·.1.1) = l ∧ ds.map encA = cs
  | [], cs, r, _ => ⟨[], rfl, (show cs = [] from r).symm⟩
  | x :: l, cs, ⟨c, r, e, h1, h2⟩, hx => by
    obtain ⟨ds, d1, d2⟩ := rows_of l r h2 fun y hy => hx y (List.mem_cons_of_mem _ hy)
    have hl := Rep.len h1
    match c, hl with
    | [v], _ => exact ⟨⟨(x, v), h1, hx x List.mem_cons_self⟩ :: ds, by rw [List.map_cons, d1], by rw [List.map_cons, d2, e]; rfl⟩
theorem rep_rows {h : FH} : ∀ ds : List (RowA h), RepL h (ds.map (·.1.1)) (ds.map encA)
  | [] => rfl
  | p :: ds => ⟨[p.1.2], ds.map encA, rfl, p.2.1, rep_rows ds⟩
theorem ltA {h : FH} (p q : RowA h) : ltOf cfA p q = sp_before p.1.1 q.1.1 := by
  unfold ltOf cfA
  rw [Bool.eq_iff_iff, decide_eq_true_eq]
  exact (scompare_before _ _).1
theorem swoA {h : FH} : SWO (ltOf (cfA (h := h))) := ⟨fun x => by rw [ltA]; exact before_irr _, fun x y z h1 h2 => by
  rw [ltA] at *; exact before_trans _ _ _ h1 h2, fun x y z h1 h2 => by
  rw [ltA] at *; exact nle_trans (y := y.1.1) h2 h1⟩
theorem putRow_map {α : Type} [Inhabited α] (enc : α → Value) (w : World) (b : Nat) (d : Array α) : putRow enc w b 0 d = putRow id w b 0 (d.map enc) := by
  unfold putRow
  congr 1
  funext c
  unfold putCells
  apply Array.ext
  · simp
  · intro i h1 h2
    simp only [Array.getElem_mapIdx, Array.size_map, id]
    split
    · rename_i hi
      have hlt : i - 0 < d.size := by omega
      rw [getElem!_pos d _ hlt, getElem!_pos (d.map enc) _ (by simpa using hlt), Array.getElem_map]
    · rfl
theorem holds_map {α : Type} [Inhabited α] (enc : α → Value) {w : World} {b : Nat} {d : Array α} (h : Go.Sort.Holds id w b 0 (d.map enc)) : Go.Sort.Holds enc w b 0 d := fun j hj => by
  have := h j (by simpa using hj)
  rwa [getElem!_pos (d.map enc) j (by simpa using hj), Array.getElem_map, ← getElem!_pos d j hj] at this
theorem c_sortR {h : FH} {w : World} (hs : Sub h w) (x : List (List Int)) (a : Option Addr) (c : Nat) {cs : List Value} (rep : RepL h x cs) {gX : FH} (ownX : OwnSl 22 1 a x.length c cs gX) (subX : Sub gX w) (disX : Disj h gX) (hp : pre_sortR x) :
    Calls Tryz.prog 107 #[.slice a x.length c, .func (.func 92) #[] #[]] w fun e w' => e = .returned (.tuple #[]) ∧ SH (Kp.ex w h gX) h w' [OwnPX h 22 1 a c (sp_sortR x)] := by
  have own0 := ownX
  obtain ⟨h1, ⟨rfl, h2, rfl, rfl⟩ | ⟨b, cur, rfl, rfl, h4, h5, h6, h7⟩⟩ := ownX
  · have e : x = [] := List.length_eq_zero_iff.1 h2
    subst e
    refine (AnyF.slices_SortFunc_none { YtojoehfldbimpaaGreatDoor.laysSR with } none 0 _ w).mono fun e w' ⟨he, hw⟩ => ⟨he, ?_⟩
    subst hw
    rw [show sp_sortR [] = [] by simp [sp_sortR]]
    exact SH.startX (X := OwnPX h 22 1 none 0 ([] : Bel)) hs subX disX ⟨cs, rep, own0⟩
  · obtain ⟨ds, d1, d2⟩ := rows_of x cs rep hp.2
    have hdl : ds.length = x.length := by rw [← d1, List.length_map]
    have hb := subX b _ (FH.one_self _ _)
    have hlt := subX.lt (FH.one_self _ _)
    have hnb : ∀ i, h i ≠ none → b ≠ i := fun i hi q => by
      subst q
      rcases disX b with g | g
      · exact hi g
      · rw [FH.one_self] at g; cases g
    have hcmp : CmpLays1 Tryz.prog 92 #[] (encA (h := h)) cfA b 0 ds.toArray.size w := fun m os dk _ u v => by
      have hsW : Sub h (sortWorld encA w b 0 m dk os) := fun i o ho => by
        have hi := hs.lt ho
        show ((w.heap.modify b (onCells (putCells encA 0 dk))) ++ os)[i]? = _
        rw [Array.getElem?_append_left (by rw [Array.size_modify]; exact hi), Array.getElem?_modify, if_neg (hnb i (by rw [ho]; simp))]
        exact hs i o ho
      obtain ⟨⟨u1, u2⟩, ⟨ua, uc, ue, ul, ur⟩, un⟩ := u
      obtain ⟨⟨v1, v2⟩, ⟨va, vc, ve, vl, vr⟩, vn⟩ := v
      simp only [List.cons.injEq, and_true] at ue ve
      subst ue; subst ve
      exact (Pd.c_scompare hsW u1 ua uc ur ul v1 va vc vr vl ⟨un, vn⟩).mono fun e w' ⟨he, hb⟩ => ⟨he, grow_of_drawn hb⟩
    have hH : Go.Sort.Holds encA w b 0 ds.toArray := holds_map encA (by
      rw [List.map_toArray, d2]
      exact ownHoldsG hb h1 h7)
    have hsz : ds.toArray.size = x.length := by simpa using hdl
    have key := Any.slices_SortFunc YtojoehfldbimpaaGreatDoor.laysSR (encA (h := h)) (fun p => by
      obtain ⟨⟨p1, p2⟩, ⟨pa, pc, pe, _⟩, _⟩ := p
      simp only [List.cons.injEq, and_true] at pe
      subst pe; rfl) cfA swoA 92 #[] b 0 c ds.toArray w Tryz.call92 hcmp hH hlt (by rw [hsz]; have := hp.1; omega)
    rw [hsz] at key
    refine key.mono fun e w' ⟨he, d', n, os, hp', hs', hw⟩ => ⟨he, ?_⟩
    subst hw
    obtain ⟨p1, _, p3⟩ := hp'
    have hx1 : d'.extract 0 x.length = d' := by rw [← hsz, ← p1]; exact Array.extract_size
    have hx2 : ds.toArray.extract 0 x.length = ds.toArray := by rw [← hsz]; exact Array.extract_size
    rw [hx1, hx2] at p3
    have hsort : sp_sortR x = d'.toList.map (·.1.1) := by
      refine sorted_perm _ _ (sortR_sorted x) ?_ ?_
      · rw [List.pairwise_map, List.pairwise_iff_getElem]
        intro i j hi hj hij
        have hsz' : d'.size = x.length := by rw [p1, hsz]
        have hj' : j < d'.size := by simpa using hj
        have := hs' i j (Nat.zero_le _) hij (by omega)
        rw [ltA, getElem!_pos d' j hj', getElem!_pos d' i (by omega)] at this
        exact this
      · refine (sortR_perm x).trans ?_
        have := (p3.map (fun p : RowA h => p.1.1)).symm
        rw [List.toList_toArray, d1] at this
        exact this
    have hrep := rep_rows d'.toList
    rw [← hsort] at hrep
    have hlen : (d'.toList.map (encA (h := h))).length = x.length * 1 := by
      rw [List.length_map, Array.length_toList, p1, hsz, Nat.mul_one]
    have big := putG (q := n) (os := os) (ds := d'.toList.map (encA (h := h))) (m := x.length) (sz := 1) hs subX disX h5 h6 hlen h4
    have hlen2 := sortR_len x
    unfold sortWorld
    rw [putRow_map]
    have e5 : d'.map (encA (h := h)) = (d'.toList.map encA).toArray := by
      apply Array.toList_inj.1; simp
    rw [e5]
    exact big.weaken (k := 0) (X := OwnSl 22 1 (some ⟨b, 0, none⟩) x.length c (d'.toList.map encA)) (Y := OwnPX h 22 1 (some ⟨b, 0, none⟩) c (sp_sortR x)) rfl fun g hx => ⟨_, hrep, by rw [hlen2]; exact hx⟩
end Go.Proofs.YtojoehfldbimpaaGreatDoor.Pl

/- The walks: from what each function asks to what it does; printed from the code. No condition. -/
namespace Go.Proofs.YtojoehfldbimpaaGreatDoor.Pl
open Go Go.RowKit
theorem w_compactR {h : FH} {w : World} (hs : Sub h w) (s_ : List (List Int)) (as_ : Option Addr) (cs_ : Nat) {cs : List Value} (q1 : RepL h s_ cs) {gX : FH} (ownX : OwnSl 22 1 as_ s_.length cs_ cs gX) (subX : Sub gX w) (disX : Disj h gX) (K : (List (List Int)) → Prop) (hF : F_compactR s_ K) : Calls Tryz.prog 108 #[.slice as_ s_.length cs_, .func (.func 109) #[] #[]] w fun e w' => ∃ r : List (List Int), K r ∧ e = .returned (.slice as_ r.length cs_) ∧ SH (Kp.ex w h gX) h w' [OwnPX h 22 1 as_ cs_ r] := by
  refine enterX (X := OwnSl 22 1 as_ s_.length cs_ cs) (args := [.slice as_ s_.length cs_, .func (.func 109) #[] #[]]) Tryz.func108 rfl Tryz.ntmps108 rfl hs subX disX ownX ?_
  refine .seq ?_
  refine .region ?_
  refine .v (asg rfl) rfl rfl rfl ?_
  refine .nil ?_
  refine .seqN ?_
  refine .seq ?_
  refine .seq ?_
  refine .region ?_
  refine .v (mv rfl) rfl rfl rfl ?_
  refine .v (ln rfl tS35.is) rfl rfl rfl ?_
  refine .v (bi rfl rfl rfl) rfl rfl rfl ?_
  refine .nil ?_
  refine .seqN ?_
  refine .cond rfl (fun q3 => ?_) (fun q3 => ?_)
  · replace hF := hF.1 q3
    refine .seq ?_
    refine .region ?_
    refine .v (mv rfl) rfl rfl rfl ?_
    refine .v (asg rfl) rfl rfl rfl ?_
    refine .nil ?_
    refine .seqN ?_
    refine .ret ?_
    refine .seqR ?_
    refine .res1 rfl (rvT rfl) (fun w' S => ⟨s_, hF, rfl, S.wholeP (k := 0) rfl q1 rfl⟩)
  replace hF := hF.2 q3
  refine .skip ?_
  refine .seqN ?_
  refine .seq ?_
  refine .seq ?_
  refine .region ?_
  refine .v (asg rfl) rfl rfl rfl ?_
  refine .nil ?_
  refine .seqN ?_
  refine .block ?_
  obtain ⟨I1, μ1, q4021, q4022⟩ := hF
  refine .loop' (σ := Int) (fun z => I1 z) (fun z => μ1 z) (fun z => [(0, .slice as_ s_.length cs_), (1, .func (.func 109) #[] #[]), (5, .int .i64 z)]) (fun _ => [OwnSl 22 1 as_ s_.length cs_ cs]) (fun _ => h) 1 q4021 (.cons rfl (.cons rfl (.cons rfl (.nil)))) rfl (FH.le_refl _) ?_
  rintro k q4021
  have hF := q4022 k q4021
  show J _ _ _ _ _ [(0, .slice as_ s_.length cs_), (1, .func (.func 109) #[] #[]), (5, .int .i64 k)] [OwnSl 22 1 as_ s_.length cs_ cs] h
  refine .seq ?_
  refine .seq ?_
  refine .region ?_
  refine .v (mv rfl) rfl rfl rfl ?_
  refine .v (mv rfl) rfl rfl rfl ?_
  refine .v (ln rfl tS35.is) rfl rfl rfl ?_
  refine .v (bi rfl rfl rfl) rfl rfl rfl ?_
  refine .nil ?_
  refine .seqN ?_
  refine .cond rfl (fun q4024 => ?_) (fun q4024 => ?_)
  · replace hF := hF.1 q4024
    refine .skip ?_
    refine .seqN ?_
    refine .seq ?_
    refine .block ?_
    refine .seq ?_
    refine .open_ (by kernel_rfl) (by kernel_rfl) ?_
    refine .v (mv rfl) rfl rfl rfl ?_
    refine .v (mv rfl) rfl rfl rfl ?_
    refine .v (mv rfl) rfl rfl rfl ?_
    obtain ⟨q4559, hF⟩ := hF
    refine .v (ixS rfl rfl tS35 (k := 0) rfl q4559) rfl rfl rfl ?_
    obtain ⟨_, ⟨a, c, rfl, q4560, q4561⟩, q4562⟩ := RepL.get q1 (gt_get q4559)
    refine .v (ld1 (v := .slice a ((gt s_ k).length) c) rfl tO22 (cellS (k := 0) rfl (q4562 0 _ rfl))) rfl rfl rfl ?_
    refine .v (mv rfl) rfl rfl rfl ?_
    refine .v (mv rfl) rfl rfl rfl ?_
    refine .v (bi rfl rfl rfl) rfl rfl rfl ?_
    obtain ⟨q4563, hF⟩ := hF
    refine .v (ixS rfl rfl tS35 (k := 0) rfl q4563) rfl rfl rfl ?_
    obtain ⟨_, ⟨a2, c2, rfl, q4564, q4565⟩, q4566⟩ := RepL.get q1 (gt_get q4563)
    refine .v (ld1 (v := .slice a2 ((gt s_ (IntKind.i64.wrap (k - 1))).length) c2) rfl tO22 (cellS (k := 0) rfl (q4566 0 _ rfl))) rfl rfl rfl ?_
    obtain ⟨q4567, hF⟩ := hF
    obtain ⟨r2, q4568⟩ : ∃ y_ : Bool, y_ = sp_sequal (gt s_ k) (gt s_ (IntKind.i64.wrap (k - 1))) := ⟨_, rfl⟩
    replace hF := hF r2 q4568
    refine .c (cl (v := .bool r2) Tryz.call109 rfl rfl (fun w S => (by rw [q4568]; exact c_sequal S.sub (gt s_ k) a c q4561 q4560 (gt s_ (IntKind.i64.wrap (k - 1))) a2 c2 q4565 q4564 q4567))) rfl rfl rfl ?_
    refine .fin ?_
    refine .seqN ?_
    refine .cond rfl (fun q4569 => ?_) (fun q4569 => ?_)
    · replace hF := hF.1 q4569
      refine .seq ?_
      refine .fact (fun w S => look_len S (k := 0) rfl) (fun q4570 => ?_)
      refine .region ?_
      refine .v (mv rfl) rfl rfl rfl ?_
      refine .v (mv rfl) rfl rfl rfl ?_
      obtain ⟨q4571, hF⟩ := hF
      refine .v (slL tS35 rfl rfl q4571.1 rfl (Int.toNat_le.2 q4571.2)) rfl rfl rfl ?_
      refine .v (asg rfl) rfl rfl rfl ?_
      refine .nil ?_
      refine .seqN ?_
      refine .seq ?_
      refine .seq ?_
      refine .region ?_
      refine .v (asg rfl) rfl rfl rfl ?_
      refine .nil ?_
      refine .seqN ?_
      refine .block ?_
      obtain ⟨I2, μ2, q4781, q4782⟩ := hF
      refine .loop' (σ := Int × Int × List (List Int) × List Value) (fun z => I2 z.1 z.2.1 z.2.2.1 ∧ RepL h z.2.2.1 z.2.2.2 ∧ z.2.2.1.length = s_.length) (fun z => μ2 z.1 z.2.1 z.2.2.1) (fun z => [(0, .slice as_ s_.length cs_), (1, .func (.func 109) #[] #[]), (5, .int .i64 z.1), (6, .slice (sla as_ cs_ (k).toNat 1) (s_.length - (k).toNat) (cs_ - (k).toNat)), (7, .int .i64 z.2.1)]) (fun z => [OwnSl 22 1 as_ s_.length cs_ z.2.2.2]) (fun _ => h) (k, 1, s_, cs) ⟨q4781, q1, rfl⟩ (.cons rfl (.cons rfl (.cons rfl (.cons rfl (.cons rfl (.nil)))))) rfl (FH.le_refl _) ?_
      rintro ⟨k3, k22, s_2, css⟩ ⟨q4781, q4738, q4739⟩
      have hF := q4782 k3 k22 s_2 q4781
      show J _ _ _ _ _ [(0, .slice as_ s_.length cs_), (1, .func (.func 109) #[] #[]), (5, .int .i64 k3), (6, .slice (sla as_ cs_ (k).toNat 1) (s_.length - (k).toNat) (cs_ - (k).toNat)), (7, .int .i64 k22)] [OwnSl 22 1 as_ s_.length cs_ css] h
      refine .seq ?_
      refine .seq ?_
      refine .region ?_
      refine .v (mv rfl) rfl rfl rfl ?_
      refine .v (mv rfl) rfl rfl rfl ?_
      refine .v (ln rfl tS35.is) rfl rfl rfl ?_
      refine .v (bi rfl rfl rfl) rfl rfl rfl ?_
      refine .nil ?_
      refine .seqN ?_
      refine .cond rfl (fun q4784 => ?_) (fun q4784 => ?_)
      · replace hF := hF.1 q4784
        refine .skip ?_
        refine .seqN ?_
        refine .share (σ := Int × List (List Int) × List Value) (fun z => F_compactR_J1 s_2 k3 k22 I2 μ2 z.2.1 z.1 ∧ RepL h z.2.1 z.2.2 ∧ z.2.1.length = s_.length) (fun z => [(0, .slice as_ s_.length cs_), (1, .func (.func 109) #[] #[]), (5, .int .i64 z.1), (6, .slice (sla as_ cs_ (k).toNat 1) (s_.length - (k).toNat) (cs_ - (k).toNat)), (7, .int .i64 k22)]) (fun z => [OwnSl 22 1 as_ s_.length cs_ z.2.2]) (fun _ => h) ?_ (fun q4804 => ?_)
        · rintro ⟨k5, s_4, css3⟩ ⟨hF, q4802, q4803⟩
          show J _ _ _ _ _ [(0, .slice as_ s_.length cs_), (1, .func (.func 109) #[] #[]), (5, .int .i64 k5), (6, .slice (sla as_ cs_ (k).toNat 1) (s_.length - (k).toNat) (cs_ - (k).toNat)), (7, .int .i64 k22)] [OwnSl 22 1 as_ s_.length cs_ css3] h
          refine .region ?_
          refine .v (mv rfl) rfl rfl rfl ?_
          refine .v (bi rfl rfl rfl) rfl rfl rfl ?_
          refine .v (asg rfl) rfl rfl rfl ?_
          refine .nil ?_
          exact .round (k5, IntKind.i64.wrap (k22 + 1), s_4, css3) ⟨hF.1, q4802, q4803⟩ hF.2 (.cons rfl (.cons rfl (.cons rfl (.cons rfl (.cons rfl (.nil)))))) rfl (FH.le_refl _)
        refine .block ?_
        refine .seq ?_
        refine .open_ (by kernel_rfl) (by kernel_rfl) ?_
        refine .v (mv rfl) rfl rfl rfl ?_
        refine .v (mv rfl) rfl rfl rfl ?_
        refine .v (mv rfl) rfl rfl rfl ?_
        obtain ⟨q4805, hF⟩ := hF
        obtain ⟨q4806, hF⟩ := hF
        refine .v (ixV rfl rfl tS35 (k := 0) rfl q4805 (inb_n q4806 q4739)) rfl rfl rfl ?_
        obtain ⟨_, ⟨a3, c3, rfl, q4807, q4808⟩, q4809⟩ := RepL.get q4738 (gt_get q4806)
        refine .v (ld1 (v := .slice a3 ((gt s_2 ((((k).toNat : Nat) : Int) + k22)).length) c3) rfl tO22 (cellS (k := 0) rfl (q4809 0 _ rfl))) rfl rfl rfl ?_
        refine .v (mv rfl) rfl rfl rfl ?_
        refine .v (mv rfl) rfl rfl rfl ?_
        refine .v (bi rfl rfl rfl) rfl rfl rfl ?_
        obtain ⟨q4810, hF⟩ := hF
        obtain ⟨q4811, hF⟩ := hF
        refine .v (ixV rfl rfl tS35 (k := 0) rfl q4810 (inb_n q4811 q4739)) rfl rfl rfl ?_
        obtain ⟨_, ⟨a4, c4, rfl, q4812, q4813⟩, q4814⟩ := RepL.get q4738 (gt_get q4811)
        refine .v (ld1 (v := .slice a4 ((gt s_2 ((((k).toNat : Nat) : Int) + (IntKind.i64.wrap (k22 - 1)))).length) c4) rfl tO22 (cellS (k := 0) rfl (q4814 0 _ rfl))) rfl rfl rfl ?_
        obtain ⟨q4815, hF⟩ := hF
        obtain ⟨r3, q4816⟩ : ∃ y_ : Bool, y_ = sp_sequal (gt s_2 ((((k).toNat : Nat) : Int) + k22)) (gt s_2 ((((k).toNat : Nat) : Int) + (IntKind.i64.wrap (k22 - 1)))) := ⟨_, rfl⟩
        replace hF := hF r3 q4816
        refine .c (cl (v := .bool r3) Tryz.call109 rfl rfl (fun w S => (by rw [q4816]; exact c_sequal S.sub (gt s_2 ((((k).toNat : Nat) : Int) + k22)) a3 c3 q4808 q4807 (gt s_2 ((((k).toNat : Nat) : Int) + (IntKind.i64.wrap (k22 - 1)))) a4 c4 q4813 q4812 q4815))) rfl rfl rfl ?_
        refine .v (nt rfl) rfl rfl rfl ?_
        refine .fin ?_
        refine .seqN ?_
        refine .cond rfl (fun q4817 => ?_) (fun q4817 => ?_)
        · replace hF := hF.1 q4817
          refine .seq ?_
          refine .region ?_
          refine .v (mv rfl) rfl rfl rfl ?_
          refine .v (mv rfl) rfl rfl rfl ?_
          refine .v (mv rfl) rfl rfl rfl ?_
          refine .v (mv rfl) rfl rfl rfl ?_
          refine .v (ixV rfl rfl tS35 (k := 0) rfl q4805 (inb_n q4806 q4739)) rfl rfl rfl ?_
          refine .v (ld1 (v := .slice a3 ((gt s_2 ((((k).toNat : Nat) : Int) + k22)).length) c3) rfl tO22 (cellS (k := 0) rfl (q4809 0 _ rfl))) rfl rfl rfl ?_
          obtain ⟨q4818, hF⟩ := hF
          refine .v (ixS rfl rfl tS35 (k := 0) rfl (inb_n q4818 q4739)) rfl rfl rfl ?_
          obtain ⟨d, q4819⟩ : ∃ y_ : List (List Int), y_ = (s_2.set (k3).toNat (gt s_2 ((((k).toNat : Nat) : Int) + k22))) := ⟨_, rfl⟩
          replace hF := hF d q4819
          have q4821 : d.length = s_.length := by rw [q4819]; exact List.length_set.trans q4739
          have q4820 : RepL h d (wrL css ((k3).toNat * 1) [.slice a3 ((gt s_2 ((((k).toNat : Nat) : Int) + k22)).length) c3]) := by rw [q4819]; exact RepL.set q4738 (inb_lt q4818) ⟨a3, c3, rfl, q4807, q4808⟩
          refine stS (k := 0) (cs' := (wrL css ((k3).toNat * 1) [.slice a3 ((gt s_2 ((((k).toNat : Nat) : Int) + k22)).length) c3])) rfl (fun _ => rfl) rfl rfl (fun w => (tO22 w).2) rfl rfl rfl (by rw [← q4739]; exact inb_pos q4818) (rep_room q4738 q4818) rfl ?_
          refine .cast (A' := [OwnSl 22 1 as_ s_.length cs_ (wrL css ((k3).toNat * 1) [.slice a3 ((gt s_2 ((((k).toNat : Nat) : Int) + k22)).length) c3])]) rfl ?_
          refine .nil ?_
          refine .seqN ?_
          refine .region ?_
          refine .v (mv rfl) rfl rfl rfl ?_
          refine .v (bi rfl rfl rfl) rfl rfl rfl ?_
          refine .v (asg rfl) rfl rfl rfl ?_
          refine .nil ?_
          refine .blkN ?_
          exact .use q4804 (IntKind.i64.wrap (k3 + 1), d, (wrL css ((k3).toNat * 1) [.slice a3 ((gt s_2 ((((k).toNat : Nat) : Int) + k22)).length) c3])) ⟨hF, q4820, q4821⟩ (.cons rfl (.cons rfl (.cons rfl (.cons rfl (.cons rfl (.nil)))))) rfl (FH.le_refl _)
        replace hF := hF.2 q4817
        refine .skip ?_
        refine .blkN ?_
        exact .use q4804 (k3, s_2, css) ⟨hF, q4738, q4739⟩ (.cons rfl (.cons rfl (.cons rfl (.cons rfl (.cons rfl (.nil)))))) rfl (FH.le_refl _)
      replace hF := hF.2 q4784
      refine .exit ?_
      refine .seqX ?_
      refine .seqX ?_
      refine .blkX ?_
      refine .seqN ?_
      refine .seq ?_
      refine .fact (fun w S => look_len S (k := 0) rfl) (fun q4822 => ?_)
      refine .region ?_
      refine .v (mv rfl) rfl rfl rfl ?_
      refine .v (mv rfl) rfl rfl rfl ?_
      obtain ⟨q4823, hF⟩ := hF
      refine .v (slL tS35 rfl rfl q4823.1 rfl (Int.toNat_le.2 q4823.2)) rfl rfl rfl ?_
      have q4824 : RepL h (s_2.take (k3).toNat ++ List.replicate (s_.length - (k3).toNat) []) (css.take (k3).toNat ++ List.replicate (s_.length - (k3).toNat) (.slice none 0 0)) := RepL.append (by have := RepL.take_ q4738 (k3).toNat; rwa [show Rep.sz (List Int) = 1 from rfl, Nat.mul_one] at this) (rep_nils _)
      have q4825 : (s_2.take (k3).toNat ++ List.replicate (s_.length - (k3).toNat) []).length = s_.length := take_rep q4739 (Int.toNat_le.2 q4823.2)
      refine clS (k := 0) (lo := (k3).toNat) tS35 rfl rfl rfl rfl rfl (Int.toNat_le.2 q4823.2) rfl ?_
      refine .cast (A' := [OwnSl 22 1 as_ s_.length cs_ (css.take (k3).toNat ++ List.replicate (s_.length - (k3).toNat) (.slice none 0 0))]) rfl ?_
      refine .nil ?_
      refine .seqN ?_
      refine .seq ?_
      refine .region ?_
      refine .v (mv rfl) rfl rfl rfl ?_
      refine .v (mv rfl) rfl rfl rfl ?_
      refine .v (slH tS35 rfl rfl q4823.1 rfl (Nat.le_trans (Int.toNat_le.2 q4823.2) q4822)) rfl rfl rfl ?_
      refine .v (asg rfl) rfl rfl rfl ?_
      refine .nil ?_
      refine .seqN ?_
      refine .ret ?_
      refine .blkR ?_
      refine .seqR ?_
      refine .seqR ?_
      refine .blkR ?_
      refine .seqR ?_
      refine .res1 rfl (rvT rfl) (fun w' S => ⟨((s_2.take (k3).toNat ++ List.replicate (s_.length - (k3).toNat) []).take ((k3).toNat)), hF, (by rw [len_take (q4825) (Int.toNat_le.2 q4823.2)]), S.prefixP (k := 0) rfl q4824 q4825 (Int.toNat_le.2 q4823.2)⟩)
    replace hF := hF.2 q4569
    refine .skip ?_
    refine .blkN ?_
    refine .seqN ?_
    refine .region ?_
    refine .v (mv rfl) rfl rfl rfl ?_
    refine .v (bi rfl rfl rfl) rfl rfl rfl ?_
    refine .v (asg rfl) rfl rfl rfl ?_
    refine .nil ?_
    exact .round (IntKind.i64.wrap (k + 1)) hF.1 hF.2 (.cons rfl (.cons rfl (.cons rfl (.nil)))) rfl (FH.le_refl _)
  replace hF := hF.2 q4024
  refine .exit ?_
  refine .seqX ?_
  refine .seqX ?_
  refine .blkX ?_
  refine .seqN ?_
  refine .seq ?_
  refine .region ?_
  refine .v (mv rfl) rfl rfl rfl ?_
  refine .v (asg rfl) rfl rfl rfl ?_
  refine .nil ?_
  refine .seqN ?_
  refine .ret ?_
  refine .res1 rfl (rvT rfl) (fun w' S => ⟨s_, hF, rfl, S.wholeP (k := 0) rfl q1 rfl⟩)

theorem c_compactR {h : FH} {w : World} (hs : Sub h w) (s_ : List (List Int)) (as_ : Option Addr) (cs_ : Nat) {cs : List Value} (q1 : RepL h s_ cs) {gX : FH} (ownX : OwnSl 22 1 as_ s_.length cs_ cs gX) (subX : Sub gX w) (disX : Disj h gX) (hp : pre_compactR s_) : Calls Tryz.prog 108 #[.slice as_ s_.length cs_, .func (.func 109) #[] #[]] w fun e w' => e = .returned (.slice as_ (sp_compactR s_).length cs_) ∧ SH (Kp.ex w h gX) h w' [OwnPX h 22 1 as_ cs_ (sp_compactR s_)] :=
  (w_compactR hs s_ as_ cs_ q1 ownX subX disX  (fun r => r = sp_compactR s_) (ok_compactR s_ hp)).mono fun _ _ ⟨r, hk, he, hS⟩ => ⟨by rw [← hk]; exact he, by rw [← hk]; exact hS⟩

theorem w_normal {h : FH} {w : World} (hs : Sub h w) (l : List (List Int)) (al2 : Option Addr) (cl2 : Nat) {cs : List Value} (q1 : RepL h l cs) {gX : FH} (ownX : OwnSl 22 1 al2 l.length cl2 cs gX) (subX : Sub gX w) (disX : Disj h gX) (K : (List (List Int)) → Prop) (hF : F_normal l K) : Calls Tryz.prog 84 #[.slice al2 l.length cl2] w fun e w' => ∃ r : List (List Int), K r ∧ e = .returned (.slice al2 r.length cl2) ∧ SH (Kp.ex w h gX) h w' [OwnPX h 22 1 al2 cl2 r] := by
  refine enterX (X := OwnSl 22 1 al2 l.length cl2 cs) (args := [.slice al2 l.length cl2]) Tryz.func84 rfl Tryz.ntmps84 rfl hs subX disX ownX ?_
  refine .seq ?_
  refine .region ?_
  refine .v (asg rfl) rfl rfl rfl ?_
  refine .nil ?_
  refine .seqN ?_
  refine .seq ?_
  refine .region ?_
  refine .v (mv rfl) rfl rfl rfl ?_
  obtain ⟨q2, hF⟩ := hF
  obtain ⟨r2, q3⟩ : ∃ y_ : List (List Int), y_ = sp_sortR l := ⟨_, rfl⟩
  replace hF := hF r2 q3
  refine callX (k := 0) (v := .tuple #[]) (X' := OwnPX h 22 1 al2 cl2 r2) rfl Tryz.call107 rfl rfl (fun w g hx sg hd hs' => ?_) rfl ?_
  · rw [q3]; exact c_sortR hs' l al2 cl2 q1 (own_n (rfl).symm hx) sg hd q2
  have q5 : r2.length = l.length := by rw [q3]; exact (sortR_len l).trans rfl
  refine .openPn (k := 0) rfl q5 (fun cs2 q4 => ?_)
  refine .cast (A' := [OwnSl 22 1 al2 l.length cl2 cs2]) rfl ?_
  refine .nil ?_
  refine .seqN ?_
  refine .seq ?_
  refine .region ?_
  refine .v (mv rfl) rfl rfl rfl ?_
  obtain ⟨q6, hF⟩ := hF
  obtain ⟨r3, q7⟩ : ∃ y_ : List (List Int), y_ = sp_compactR r2 := ⟨_, rfl⟩
  replace hF := hF r3 q7
  refine callX (k := 0) (v := .slice al2 r3.length cl2) (X' := OwnPX h 22 1 al2 cl2 r3) rfl Tryz.call108 rfl rfl (fun w g hx sg hd hs' => ?_) rfl ?_
  · rw [q7]; have hc_ := c_compactR hs' r2 al2 cl2 q4 (own_n (q5).symm hx) sg hd q6; rw [q5] at hc_; exact hc_
  refine .openP (k := 0) rfl (fun cs3 q8 => ?_)
  refine .cast (A' := [OwnSl 22 1 al2 r3.length cl2 cs3]) rfl ?_
  refine .v (asg rfl) rfl rfl rfl ?_
  refine .nil ?_
  refine .seqN ?_
  refine .ret ?_
  refine .res1 rfl (rvT rfl) (fun w' S => ⟨r3, hF, rfl, S.wholeP (k := 0) rfl q8 rfl⟩)

theorem c_normal {h : FH} {w : World} (hs : Sub h w) (l : List (List Int)) (al2 : Option Addr) (cl2 : Nat) {cs : List Value} (q1 : RepL h l cs) {gX : FH} (ownX : OwnSl 22 1 al2 l.length cl2 cs gX) (subX : Sub gX w) (disX : Disj h gX) (hp : pre_normal l) : Calls Tryz.prog 84 #[.slice al2 l.length cl2] w fun e w' => e = .returned (.slice al2 (sp_normal l).length cl2) ∧ SH (Kp.ex w h gX) h w' [OwnPX h 22 1 al2 cl2 (sp_normal l)] :=
  (w_normal hs l al2 cl2 q1 ownX subX disX (fun r => r = sp_normal l) (ok_normal l hp)).mono fun _ _ ⟨r, hk, he, hS⟩ => ⟨by rw [← hk]; exact he, by rw [← hk]; exact hS⟩

set_option maxHeartbeats 8000000 in
theorem w_worlds {h : FH} {w : World} (hs : Sub h w) (t : Task) (at_ : Option Addr) (ct : Nat) (_q1 : RSl h at_ t.init) (_q2 : t.init.length ≤ ct) (at_2 : Option Addr) (ct2 : Nat) (_q3 : RSl h at_2 t.goal) (_q4 : t.goal.length ≤ ct2) (at_3 : Option Addr) (ct3 : Nat) (_q5 : RSl h at_3 t.ops) (_q6 : t.ops.length ≤ ct3) (unknown : List Int) (aunknown : Option Addr) (cunknown : Nat) (_q7 : RSl h aunknown unknown) (_q8 : unknown.length ≤ cunknown) (K : (List (List Int)) → Prop) (hF : F_worlds t unknown K) : Calls Tryz.prog 48 #[.agg #[.int .i64 t.facts, .slice at_ t.init.length ct, .slice at_2 t.goal.length ct2, .slice at_3 t.ops.length ct3], .slice aunknown unknown.length cunknown] w fun e w' => ∃ (r : List (List Int)) (z : Option Addr × Nat) (h1 : FH), K r ∧ e = .returned (.slice z.1 r.length z.2) ∧ FH.le h h1 ∧ (RSl h1 z.1 r ∧ r.length ≤ z.2) ∧ SH (Kp.all w h) h1 w' [] := by
  refine enter (args := [.agg #[.int .i64 t.facts, .slice at_ t.init.length ct, .slice at_2 t.goal.length ct2, .slice at_3 t.ops.length ct3], .slice aunknown unknown.length cunknown]) Tryz.func48 rfl Tryz.ntmps48 rfl hs ?_
  refine .seq ?_
  refine .region ?_
  refine bx (vs := [.int .i64 t.facts, .slice at_ t.init.length ct, .slice at_2 t.goal.length ct2, .slice at_3 t.ops.length ct3]) rfl rfl rfl (fun pt => ?_)
  refine .v (asg rfl) rfl rfl rfl ?_
  refine .nil ?_
  refine .seqN ?_
  refine .seq ?_
  refine .region ?_
  refine .v (asg rfl) rfl rfl rfl ?_
  refine .nil ?_
  refine .seqN ?_
  refine .seq ?_
  refine .seq ?_
  refine .region ?_
  refine .v (mv rfl) rfl rfl rfl ?_
  refine .v (ln rfl tS22.is) rfl rfl rfl ?_
  obtain ⟨q9, hF⟩ := hF
  obtain ⟨x, q10⟩ : ∃ y_ : Int, y_ = (IntKind.i64.wrap (1 * 2 ^ (min ((((unknown.length : Nat) : Int) : Int)).toNat (IntKind.bits .i64)))) := ⟨_, rfl⟩
  replace hF := hF x q10
  refine .v (v := .int .i64 x) (by rw [q10]; exact bsh rfl rfl q9 rfl) rfl rfl rfl ?_
  refine .v (mv rfl) rfl rfl rfl ?_
  refine .nil ?_
  refine .seqN ?_
  refine .block ?_
  refine .nilSl 22 1 ?_
  refine .cast (A' := [OwnSl 22 1 none (([] : List (List Int)).length) 0 [], Box pt [.int .i64 t.facts, .slice at_ t.init.length ct, .slice at_2 t.goal.length ct2, .slice at_3 t.ops.length ct3]]) rfl ?_
  refine .sel0 [1, 0] (by decide) rfl ?_
  obtain ⟨I1, μ1, q1784, q1785⟩ := hF
  refine .loop' (σ := Int × List (List Int) × Option Addr × Nat × List Value × FH) (fun z => I1 z.1 z.2.1 ∧ RepL z.2.2.2.2.2 z.2.1 z.2.2.2.2.1 ∧ FH.le h z.2.2.2.2.2) (fun z => μ1 z.1 z.2.1) (fun z => [(1, .slice aunknown unknown.length cunknown), (2, .pointer (some pt)), (5, .slice z.2.2.1 z.2.1.length z.2.2.2.1), (12, .int .i64 x), (13, .int .i64 z.1)]) (fun z => [Box pt [.int .i64 t.facts, .slice at_ t.init.length ct, .slice at_2 t.goal.length ct2, .slice at_3 t.ops.length ct3], OwnSl 22 1 z.2.2.1 z.2.1.length z.2.2.2.1 z.2.2.2.2.1]) (fun z => z.2.2.2.2.2) (0, ([] : List (List Int)), none, 0, [], h) ⟨q1784, (show RepL h ([] : List (List Int)) [] from rfl), (FH.le_refl _)⟩ (.cons rfl (.cons rfl (.cons rfl (.cons rfl (.cons rfl (.nil)))))) rfl (FH.le_refl _) ?_
  rintro ⟨t13, out, aout, cout, csout, h19⟩ ⟨q1784, q1429, q1430⟩
  have hF := q1785 t13 out q1784
  show J _ _ _ _ _ [(1, .slice aunknown unknown.length cunknown), (2, .pointer (some pt)), (5, .slice aout out.length cout), (12, .int .i64 x), (13, .int .i64 t13)] [Box pt [.int .i64 t.facts, .slice at_ t.init.length ct, .slice at_2 t.goal.length ct2, .slice at_3 t.ops.length ct3], OwnSl 22 1 aout out.length cout csout] h19
  refine .seq ?_
  refine .region ?_
  refine .v (bi rfl rfl rfl) rfl rfl rfl ?_
  refine .nil ?_
  refine .seqN ?_
  refine .seq ?_
  refine .cond rfl (fun q1788 => ?_) (fun q1788 => ?_)
  · replace hF := hF.1 q1788
    refine .skip ?_
    refine .seqN ?_
    refine .seq ?_
    refine .block ?_
    refine .seq ?_
    refine .region ?_
    refine .v (mv rfl) rfl rfl rfl ?_
    refine .v (asg rfl) rfl rfl rfl ?_
    refine .nil ?_
    refine .seqN ?_
    refine .seq ?_
    refine .region ?_
    refine .v (asg rfl) rfl rfl rfl ?_
    refine .nil ?_
    refine .seqN ?_
    refine .seq ?_
    refine .seq ?_
    refine .region ?_
    refine .v (mv rfl) rfl rfl rfl ?_
    refine .v (ln rfl tS22.is) rfl rfl rfl ?_
    refine .v (mv rfl) rfl rfl rfl ?_
    refine .nil ?_
    refine .seqN ?_
    refine .block ?_
    refine .nilSl 3 1 ?_
    refine .cast (A' := [OwnSl 3 1 none (([] : List Int).length) 0 (flL ([] : List Int)), Box pt [.int .i64 t.facts, .slice at_ t.init.length ct, .slice at_2 t.goal.length ct2, .slice at_3 t.ops.length ct3], OwnSl 22 1 aout out.length cout csout]) rfl ?_
    refine .sel0 [1, 2, 0] (by decide) rfl ?_
    obtain ⟨I2, μ2, q2109, q2110⟩ := hF
    refine .loop' (σ := Int × List Int × Option Addr × Nat) (fun z => I2 z.1 z.2.1) (fun z => μ2 z.1 z.2.1) (fun z => [(1, .slice aunknown unknown.length cunknown), (2, .pointer (some pt)), (5, .slice aout out.length cout), (6, .int .i64 t13), (7, .slice z.2.2.1 z.2.1.length z.2.2.2), (12, .int .i64 x), (13, .int .i64 t13), (16, .slice aunknown unknown.length cunknown), (17, .int .i64 ((unknown.length : Nat) : Int)), (18, .int .i64 z.1)]) (fun z => [Box pt [.int .i64 t.facts, .slice at_ t.init.length ct, .slice at_2 t.goal.length ct2, .slice at_3 t.ops.length ct3], OwnSl 22 1 aout out.length cout csout, OwnSl 3 1 z.2.2.1 z.2.1.length z.2.2.2 (flL z.2.1)]) (fun _ => h19) (0, ([] : List Int), none, 0) q2109 (.cons rfl (.cons rfl (.cons rfl (.cons rfl (.cons rfl (.cons rfl (.cons rfl (.cons rfl (.cons rfl (.cons rfl (.nil))))))))))) rfl (FH.le_refl _) ?_
    rintro ⟨t18, add, aadd, cadd⟩ q2109
    have hF := q2110 t18 add q2109
    show J _ _ _ _ _ [(1, .slice aunknown unknown.length cunknown), (2, .pointer (some pt)), (5, .slice aout out.length cout), (6, .int .i64 t13), (7, .slice aadd add.length cadd), (12, .int .i64 x), (13, .int .i64 t13), (16, .slice aunknown unknown.length cunknown), (17, .int .i64 ((unknown.length : Nat) : Int)), (18, .int .i64 t18)] [Box pt [.int .i64 t.facts, .slice at_ t.init.length ct, .slice at_2 t.goal.length ct2, .slice at_3 t.ops.length ct3], OwnSl 22 1 aout out.length cout csout, OwnSl 3 1 aadd add.length cadd (flL add)] h19
    refine .seq ?_
    refine .region ?_
    refine .v (bi rfl rfl rfl) rfl rfl rfl ?_
    refine .nil ?_
    refine .seqN ?_
    refine .seq ?_
    refine .cond rfl (fun q2113 => ?_) (fun q2113 => ?_)
    · replace hF := hF.1 q2113
      refine .skip ?_
      refine .seqN ?_
      refine .share (σ := List Int × Option Addr × Nat) (fun z => F_worlds_J1 add t18 I2 μ2 z.1) (fun z => [(1, .slice aunknown unknown.length cunknown), (2, .pointer (some pt)), (5, .slice aout out.length cout), (6, .int .i64 t13), (7, .slice z.2.1 z.1.length z.2.2), (12, .int .i64 x), (13, .int .i64 t13), (16, .slice aunknown unknown.length cunknown), (17, .int .i64 ((unknown.length : Nat) : Int)), (18, .int .i64 t18)]) (fun z => [Box pt [.int .i64 t.facts, .slice at_ t.init.length ct, .slice at_2 t.goal.length ct2, .slice at_3 t.ops.length ct3], OwnSl 22 1 aout out.length cout csout, OwnSl 3 1 z.2.1 z.1.length z.2.2 (flL z.1)]) (fun _ => h19) ?_ (fun q2121 => ?_)
      · rintro ⟨add3, aadd3, cadd3⟩ hF
        show J _ _ _ _ _ [(1, .slice aunknown unknown.length cunknown), (2, .pointer (some pt)), (5, .slice aout out.length cout), (6, .int .i64 t13), (7, .slice aadd3 add3.length cadd3), (12, .int .i64 x), (13, .int .i64 t13), (16, .slice aunknown unknown.length cunknown), (17, .int .i64 ((unknown.length : Nat) : Int)), (18, .int .i64 t18)] [Box pt [.int .i64 t.facts, .slice at_ t.init.length ct, .slice at_2 t.goal.length ct2, .slice at_3 t.ops.length ct3], OwnSl 22 1 aout out.length cout csout, OwnSl 3 1 aadd3 add3.length cadd3 (flL add3)] h19
        refine .region ?_
        refine .v (bi rfl rfl rfl) rfl rfl rfl ?_
        refine .v (mv rfl) rfl rfl rfl ?_
        refine .nil ?_
        exact .round (IntKind.i64.wrap (t18 + 1), add3, aadd3, cadd3) hF.1 hF.2 (.cons rfl (.cons rfl (.cons rfl (.cons rfl (.cons rfl (.cons rfl (.cons rfl (.cons rfl (.cons rfl (.cons rfl (.nil))))))))))) rfl (FH.le_refl _)
      refine .block ?_
      refine .seq ?_
      refine .region ?_
      refine .v (mv rfl) rfl rfl rfl ?_
      obtain ⟨q2122, hF⟩ := hF
      refine .v (ix rfl rfl tS22 (_q7.ne (by decide) (inb_pos q2122)) q2122) rfl rfl rfl ?_
      refine .v (ld1 (v := .int .i64 (gt unknown t18)) rfl tO3 (cellH ((_q7.mono (q1430)).elemF q2122 (by decide) 0 _ rfl))) rfl rfl rfl ?_
      refine .v (asg rfl) rfl rfl rfl ?_
      refine .v (asg rfl) rfl rfl rfl ?_
      refine .nil ?_
      refine .seqN ?_
      refine .seq ?_
      refine .region ?_
      refine .v (mv rfl) rfl rfl rfl ?_
      refine .v (mv rfl) rfl rfl rfl ?_
      obtain ⟨q2123, hF⟩ := hF
      refine .v (bsh rfl rfl q2123 rfl) rfl rfl rfl ?_
      obtain ⟨x2, q2124⟩ : ∃ y_ : Int, y_ = (bits .and .i64 (Int.fdiv t13 (2 ^ (min ((t18 : Int)).toNat (IntKind.bits .i64)))) 1) := ⟨_, rfl⟩
      replace hF := hF x2 q2124
      refine .v (v := .int .i64 x2) (by rw [q2124]; exact bi rfl rfl rfl) rfl rfl rfl ?_
      refine .v (bi rfl rfl rfl) rfl rfl rfl ?_
      refine .nil ?_
      refine .seqN ?_
      refine .cond rfl (fun q2125 => ?_) (fun q2125 => ?_)
      · replace hF := hF.1 q2125
        refine .region ?_
        refine .v (mv rfl) rfl rfl rfl ?_
        refine .v (mv rfl) rfl rfl rfl ?_
        refine bs2 (cs := #[.int .i64 (gt unknown t18)]) (pv := [(0, .int .i64 (gt unknown t18))]) tS22 rfl rfl (by decide) (by decide) rfl rfl rfl (fun a _ => ?_)
        refine .cast (A' := [OwnSl 3 1 a (([(gt unknown t18)] : List Int).length) 1 (flL ([(gt unknown t18)] : List Int)), Box pt [.int .i64 t.facts, .slice at_ t.init.length ct, .slice at_2 t.goal.length ct2, .slice at_3 t.ops.length ct3], OwnSl 22 1 aout out.length cout csout, OwnSl 3 1 aadd add.length cadd (flL add)]) rfl ?_
        obtain ⟨q2127, hF⟩ := hF
        have q2128 : add.length + ([(gt unknown t18)] : List Int).length = ((add ++ ([(gt unknown t18)] : List Int))).length := len_app rfl rfl
        refine app (k := 3) (news := flL ([(gt unknown t18)] : List Int)) (cs' := flL (add ++ ([(gt unknown t18)] : List Int))) (nm := ((add ++ ([(gt unknown t18)] : List Int))).length) tS22 rfl (by decide) rfl rfl rfl (by rw [flL_len]; rfl) (srcS (k := 0) rfl) (flL_one _) (room_of q2128 q2127).1 (room_of q2128 q2127).2 q2128 (flL_append _ _).symm rfl (fun a2 c => ?_)
        refine .cast (A' := [OwnSl 3 1 a (([(gt unknown t18)] : List Int).length) 1 (flL ([(gt unknown t18)] : List Int)), Box pt [.int .i64 t.facts, .slice at_ t.init.length ct, .slice at_2 t.goal.length ct2, .slice at_3 t.ops.length ct3], OwnSl 22 1 aout out.length cout csout, OwnSl 3 1 a2 ((add ++ ([(gt unknown t18)] : List Int)).length) c (flL (add ++ ([(gt unknown t18)] : List Int)))]) rfl ?_
        refine .v (asg rfl) rfl rfl rfl ?_
        refine .nil ?_
        refine .blkN ?_
        refine .sel0 [1, 2, 3] (by decide) rfl ?_
        exact .use q2121 ((add ++ ([(gt unknown t18)] : List Int)), a2, c) hF (.cons rfl (.cons rfl (.cons rfl (.cons rfl (.cons rfl (.cons rfl (.cons rfl (.cons rfl (.cons rfl (.cons rfl (.nil))))))))))) rfl (FH.le_refl _)
      replace hF := hF.2 q2125
      refine .skip ?_
      refine .blkN ?_
      exact .use q2121 (add, aadd, cadd) hF (.cons rfl (.cons rfl (.cons rfl (.cons rfl (.cons rfl (.cons rfl (.cons rfl (.cons rfl (.cons rfl (.cons rfl (.nil))))))))))) rfl (FH.le_refl _)
    replace hF := hF.2 q2113
    refine .exit ?_
    refine .seqX ?_
    refine .seqX ?_
    refine .blkX ?_
    refine .seqN ?_
    refine .region ?_
    refine .v (mv rfl) rfl rfl rfl ?_
    refine .v (fa rfl tF25_1) rfl rfl rfl ?_
    refine .v (ld1 rfl tO22 (cellB (off := 1) (k := 0) rfl rfl)) rfl rfl rfl ?_
    refine .v (mv rfl) rfl rfl rfl ?_
    refine .v (mv rfl) rfl rfl rfl ?_
    obtain ⟨q2129, hF⟩ := hF
    obtain ⟨r2, q2130⟩ : ∃ y_ : List Int, y_ = sp_update t.init add unknown := ⟨_, rfl⟩
    replace hF := hF r2 q2130
    refine clO (α := Option Addr × Nat) (V := fun z => .slice z.1 r2.length z.2) (Ψ := fun z => True) (B := fun z => [OwnSl 3 1 z.1 r2.length z.2 (flL r2)]) Tryz.call83 rfl rfl (fun w S => (by rw [q2130]; obtain ⟨h_, hl_, hs_, hne_, hr_⟩ := look S (k := 2) rfl; exact (c_update hs_ t.init at_ ct (RSl.mono hl_ (_q1.mono (q1430))) _q2 add aadd cadd (RSl.of hr_) (look_len S (k := 2) rfl) unknown aunknown cunknown (RSl.mono hl_ (_q7.mono (q1430))) _q8 q2129).mono fun _ _ ⟨z, h0, h1, e1, e2, e3, e4⟩ => ⟨z, h0, h1, e1, e2, FH.le_trans hl_ e3, e4⟩)) rfl (fun z _ => ?_)
    obtain ⟨a3, c2⟩ := z
    refine .cast (A' := [OwnSl 3 1 a3 r2.length c2 (flL r2), Box pt [.int .i64 t.facts, .slice at_ t.init.length ct, .slice at_2 t.goal.length ct2, .slice at_3 t.ops.length ct3], OwnSl 22 1 aout out.length cout csout, OwnSl 3 1 aadd add.length cadd (flL add)]) rfl ?_
    refine .freezeL (k := 0) rfl (fun h26 le26 q2132 q2131 => ?_)
    refine .cast (A' := [tru, Box pt [.int .i64 t.facts, .slice at_ t.init.length ct, .slice at_2 t.goal.length ct2, .slice at_3 t.ops.length ct3], OwnSl 22 1 aout out.length cout csout, OwnSl 3 1 aadd add.length cadd (flL add)]) rfl ?_
    refine bs2 (cs := #[.slice a3 r2.length c2]) (pv := [(0, .slice a3 r2.length c2)]) tS35 rfl rfl (by decide) (by decide) rfl rfl rfl (fun a4 _ => ?_)
    refine .cast (A' := [OwnSl 22 1 a4 (([r2] : List (List Int)).length) 1 [.slice a3 r2.length c2], tru, Box pt [.int .i64 t.facts, .slice at_ t.init.length ct, .slice at_2 t.goal.length ct2, .slice at_3 t.ops.length ct3], OwnSl 22 1 aout out.length cout csout, OwnSl 3 1 aadd add.length cadd (flL add)]) rfl ?_
    obtain ⟨q2134, hF⟩ := hF
    have q2135 : out.length + ([r2] : List (List Int)).length = ((out ++ ([r2] : List (List Int)))).length := len_app rfl rfl
    have q2136 := RepL.append (RepL.mono (le26) q1429) (show RepL h26 ([r2] : List (List Int)) [.slice a3 r2.length c2] from ⟨[.slice a3 r2.length c2], _, rfl, ⟨a3, c2, rfl, (q2132), (RSl.of q2131)⟩, rfl⟩)
    refine app (k := 3) (news := [.slice a3 r2.length c2]) (cs' := (csout ++ [.slice a3 r2.length c2])) (nm := ((out ++ ([r2] : List (List Int)))).length) tS35 rfl (by decide) rfl rfl rfl (RepL.len (show RepL h26 ([r2] : List (List Int)) [.slice a3 r2.length c2] from ⟨[.slice a3 r2.length c2], _, rfl, ⟨a3, c2, rfl, (q2132), (RSl.of q2131)⟩, rfl⟩)) (srcS (k := 0) rfl) (RepL.one (show RepL h26 ([r2] : List (List Int)) [.slice a3 r2.length c2] from ⟨[.slice a3 r2.length c2], _, rfl, ⟨a3, c2, rfl, (q2132), (RSl.of q2131)⟩, rfl⟩)) (room_of q2135 q2134).1 (room_of q2135 q2134).2 q2135 rfl rfl (fun a5 c3 => ?_)
    refine .cast (A' := [OwnSl 22 1 a4 (([r2] : List (List Int)).length) 1 [.slice a3 r2.length c2], tru, Box pt [.int .i64 t.facts, .slice at_ t.init.length ct, .slice at_2 t.goal.length ct2, .slice at_3 t.ops.length ct3], OwnSl 22 1 a5 ((out ++ ([r2] : List (List Int))).length) c3 (csout ++ [.slice a3 r2.length c2]), OwnSl 3 1 aadd add.length cadd (flL add)]) rfl ?_
    refine .v (asg rfl) rfl rfl rfl ?_
    refine .nil ?_
    refine .blkN ?_
    refine .seqN ?_
    refine .region ?_
    refine .v (bi rfl rfl rfl) rfl rfl rfl ?_
    refine .v (mv rfl) rfl rfl rfl ?_
    refine .nil ?_
    refine .sel0 [2, 3] (by decide) rfl ?_
    exact .round (IntKind.i64.wrap (t13 + 1), (out ++ ([r2] : List (List Int))), a5, c3, (csout ++ [.slice a3 r2.length c2]), h26) ⟨hF.1, q2136, (FH.le_trans (q1430) (le26))⟩ hF.2 (.cons rfl (.cons rfl (.cons rfl (.cons rfl (.cons rfl (.nil)))))) rfl (FH.le_refl _)
  replace hF := hF.2 q1788
  refine .exit ?_
  refine .seqX ?_
  refine .seqX ?_
  refine .blkX ?_
  refine .seqN ?_
  refine .seq ?_
  refine .region ?_
  refine .v (mv rfl) rfl rfl rfl ?_
  obtain ⟨q2137, hF⟩ := hF
  obtain ⟨r3, q2138⟩ : ∃ y_ : List (List Int), y_ = sp_normal out := ⟨_, rfl⟩
  replace hF := hF r3 q2138
  refine callX (k := 1) (v := .slice aout r3.length cout) (X' := OwnPX h19 22 1 aout cout r3) rfl Tryz.call84 rfl rfl (fun w g hx sg hd hs' => ?_) rfl ?_
  · rw [q2138]; exact c_normal hs' out aout cout q1429 (own_n (rfl).symm hx) sg hd q2137
  refine .openP (k := 1) rfl (fun cs q2139 => ?_)
  refine .cast (A' := [Box pt [.int .i64 t.facts, .slice at_ t.init.length ct, .slice at_2 t.goal.length ct2, .slice at_3 t.ops.length ct3], OwnSl 22 1 aout r3.length cout cs]) rfl ?_
  refine .v (asg rfl) rfl rfl rfl ?_
  refine .nil ?_
  refine .seqN ?_
  refine .freezeL (k := 1) rfl (fun h27 le27 q2141 q2140 => ?_)
  refine .cast (A' := [Box pt [.int .i64 t.facts, .slice at_ t.init.length ct, .slice at_2 t.goal.length ct2, .slice at_3 t.ops.length ct3], tru]) rfl ?_
  refine .ret ?_
  refine .res1 rfl (rvT rfl) (fun w' S => ⟨r3, (aout, cout), h27, hF, rfl, (FH.le_trans (q1430) (le27)), ⟨(show RSl h27 aout r3 from ⟨_, q2139.mono (le27), q2140⟩), (q2141)⟩, S.none⟩)

theorem c_worlds {h : FH} {w : World} (hs : Sub h w) (t : Task) (at_ : Option Addr) (ct : Nat) (_q1 : RSl h at_ t.init) (_q2 : t.init.length ≤ ct) (at_2 : Option Addr) (ct2 : Nat) (_q3 : RSl h at_2 t.goal) (_q4 : t.goal.length ≤ ct2) (at_3 : Option Addr) (ct3 : Nat) (_q5 : RSl h at_3 t.ops) (_q6 : t.ops.length ≤ ct3) (unknown : List Int) (aunknown : Option Addr) (cunknown : Nat) (_q7 : RSl h aunknown unknown) (_q8 : unknown.length ≤ cunknown) (hp : pre_worlds t unknown) : Calls Tryz.prog 48 #[.agg #[.int .i64 t.facts, .slice at_ t.init.length ct, .slice at_2 t.goal.length ct2, .slice at_3 t.ops.length ct3], .slice aunknown unknown.length cunknown] w fun e w' => ∃ (z : Option Addr × Nat) (h1 : FH), e = .returned (.slice z.1 (sp_worlds t unknown).length z.2) ∧ FH.le h h1 ∧ (RSl h1 z.1 (sp_worlds t unknown) ∧ (sp_worlds t unknown).length ≤ z.2) ∧ SH (Kp.all w h) h1 w' [] :=
  (w_worlds hs t at_ ct _q1 _q2 at_2 ct2 _q3 _q4 at_3 ct3 _q5 _q6 unknown aunknown cunknown _q7 _q8 (fun r => r = sp_worlds t unknown) (ok_worlds t unknown hp)).mono fun _ _ ⟨r, z, h1, hk, he, hl, hf, hS⟩ => by subst hk; exact ⟨z, h1, he, hl, hf, hS⟩

theorem w_initial {h : FH} {w : World} (hs : Sub h w) (t : Task) (at_ : Option Addr) (ct : Nat) (_q1 : RSl h at_ t.init) (_q2 : t.init.length ≤ ct) (at_2 : Option Addr) (ct2 : Nat) (_q3 : RSl h at_2 t.goal) (_q4 : t.goal.length ≤ ct2) (at_3 : Option Addr) (ct3 : Nat) (_q5 : RSl h at_3 t.ops) (_q6 : t.ops.length ≤ ct3) (unknown : List Int) (aunknown : Option Addr) (cunknown : Nat) (_q7 : RSl h aunknown unknown) (_q8 : unknown.length ≤ cunknown) (K : (List (List Int) × Fault) → Prop) (hF : F_initial t unknown K) : Calls Tryz.prog 20 #[.agg #[.int .i64 t.facts, .slice at_ t.init.length ct, .slice at_2 t.goal.length ct2, .slice at_3 t.ops.length ct3], .slice aunknown unknown.length cunknown] w fun e w' => ∃ (r : List (List Int) × Fault) (z : Option Addr × Nat) (h1 : FH), K r ∧ e = .returned (.tuple #[.slice z.1 r.1.length z.2, .agg #[.int .i64 r.2.code, .int .i64 r.2.index]]) ∧ FH.le h h1 ∧ (RSl h1 z.1 r.1 ∧ r.1.length ≤ z.2) ∧ SH (Kp.all w h) h1 w' [] := by
  refine enter (args := [.agg #[.int .i64 t.facts, .slice at_ t.init.length ct, .slice at_2 t.goal.length ct2, .slice at_3 t.ops.length ct3], .slice aunknown unknown.length cunknown]) Tryz.func20 rfl Tryz.ntmps20 rfl hs ?_
  refine .seq ?_
  refine .region ?_
  refine bx (vs := [.int .i64 t.facts, .slice at_ t.init.length ct, .slice at_2 t.goal.length ct2, .slice at_3 t.ops.length ct3]) rfl rfl rfl (fun pt => ?_)
  refine .v (asg rfl) rfl rfl rfl ?_
  refine al tZ27 rfl (fun pv => ?_)
  refine .nil ?_
  refine .seqN ?_
  refine .seq ?_
  refine .seq ?_
  refine .region ?_
  refine .v (ldA (cs := [.int .i64 t.facts, .slice at_ t.init.length ct, .slice at_2 t.goal.length ct2, .slice at_3 t.ops.length ct3]) rfl tA25 rfl (cellsB (off := 0) (k := 1) rfl (m := 4) rfl)) rfl rfl rfl ?_
  refine .v (mv rfl) rfl rfl rfl ?_
  obtain ⟨r2, q9⟩ : ∃ y_ : Fault, y_ = sp_unknownFault t unknown := ⟨_, rfl⟩
  replace hF := hF r2 q9
  refine .c (cl (v := .agg #[.int .i64 r2.code, .int .i64 r2.index]) Tryz.call45 rfl rfl (fun w S => (by rw [q9]; exact c_unknownFault S.sub t at_ ct _q1 _q2 at_2 ct2 _q3 _q4 at_3 ct3 _q5 _q6 unknown aunknown cunknown _q7 _q8 ))) rfl rfl rfl ?_
  refine al tZ27 rfl (fun pf => ?_)
  refine st (p := pf) (off := 0) (k := 0) (vs := [.int .i64 r2.code, .int .i64 r2.index]) rfl rfl rfl (fun w => (tA27 w).2) rfl rfl rfl rfl ?_
  refine .cast (A' := [Box pf [.int .i64 r2.code, .int .i64 r2.index], Box pv [.int .i64 0, .int .i64 0], Box pt [.int .i64 t.facts, .slice at_ t.init.length ct, .slice at_2 t.goal.length ct2, .slice at_3 t.ops.length ct3]]) rfl ?_
  refine .nil ?_
  refine .seqN ?_
  refine .seq ?_
  refine .region ?_
  refine .v (ldA (cs := [.int .i64 r2.code, .int .i64 r2.index]) rfl tA27 rfl (cellsB (off := 0) (k := 0) rfl (m := 2) rfl)) rfl rfl rfl ?_
  refine .v (bld (cs := #[.int .i64 0, .int .i64 0]) (pv := []) tB27 rfl rfl) rfl rfl rfl ?_
  refine .v (ne2 tE27 rfl rfl) rfl rfl rfl ?_
  refine .nil ?_
  refine .seqN ?_
  refine .cond rfl (fun q11 => ?_) (fun q11 => ?_)
  · replace hF := hF.1 q11
    refine .seq ?_
    refine .openL (by kernel_rfl) rfl (by kernel_rfl) (by kernel_rfl) ?_
    refine .v (ldA (cs := [.int .i64 r2.code, .int .i64 r2.index]) rfl tA27 rfl (cellsB (off := 0) (k := 0) rfl (m := 2) rfl)) rfl rfl rfl ?_
    refine .v (asg rfl) rfl rfl rfl ?_
    refine .tail ?_
    refine st (p := pv) (off := 0) (k := 1) (vs := [.int .i64 r2.code, .int .i64 r2.index]) rfl rfl rfl (fun w => (tA27 w).2) rfl rfl rfl rfl ?_
    refine .cast (A' := [Box pf [.int .i64 r2.code, .int .i64 r2.index], Box pv [.int .i64 r2.code, .int .i64 r2.index], Box pt [.int .i64 t.facts, .slice at_ t.init.length ct, .slice at_2 t.goal.length ct2, .slice at_3 t.ops.length ct3]]) rfl ?_
    refine .nil ?_
    refine .seqN ?_
    refine .ret ?_
    refine .seqR ?_
    refine .res2 rfl (rvT rfl) (rvC rfl tA27 (k := 1) rfl rfl) (fun w' S => ⟨(([] : List (List Int)), r2), (none, 0), h, hF, rfl, (FH.le_refl _), ⟨RSl.nil_, (Nat.le_refl 0)⟩, S.none⟩)
  replace hF := hF.2 q11
  refine .skip ?_
  refine .seqN ?_
  refine .seq ?_
  refine .region ?_
  refine .v (ldA (cs := [.int .i64 t.facts, .slice at_ t.init.length ct, .slice at_2 t.goal.length ct2, .slice at_3 t.ops.length ct3]) rfl tA25 rfl (cellsB (off := 0) (k := 2) rfl (m := 4) rfl)) rfl rfl rfl ?_
  refine .v (mv rfl) rfl rfl rfl ?_
  obtain ⟨q12, hF⟩ := hF
  obtain ⟨r3, q13⟩ : ∃ y_ : List (List Int), y_ = sp_worlds t unknown := ⟨_, rfl⟩
  replace hF := hF r3 q13
  refine clR (α := Option Addr × Nat) (Φ := fun h1 z => RSl h1 z.1 r3 ∧ r3.length ≤ z.2) (V := fun z => .slice z.1 r3.length z.2) Tryz.call48 rfl rfl (fun w S => (by rw [q13]; exact c_worlds S.sub t at_ ct _q1 _q2 at_2 ct2 _q3 _q4 at_3 ct3 _q5 _q6 unknown aunknown cunknown _q7 _q8 q12)) rfl (fun z h1 le1 hz => ?_)
  obtain ⟨a, c⟩ := z
  obtain ⟨q14, q15⟩ := hz
  refine .v (bld (cs := #[.int .i64 0, .int .i64 0]) (pv := []) tB27 rfl rfl) rfl rfl rfl ?_
  refine .v (asg rfl) rfl rfl rfl ?_
  refine st (p := pv) (off := 0) (k := 1) (vs := [.int .i64 0, .int .i64 0]) rfl rfl rfl (fun w => (tA27 w).2) rfl rfl rfl rfl ?_
  refine .cast (A' := [Box pf [.int .i64 r2.code, .int .i64 r2.index], Box pv [.int .i64 0, .int .i64 0], Box pt [.int .i64 t.facts, .slice at_ t.init.length ct, .slice at_2 t.goal.length ct2, .slice at_3 t.ops.length ct3]]) rfl ?_
  refine .nil ?_
  refine .seqN ?_
  refine .ret ?_
  refine .res2 rfl (rvT rfl) (rvC rfl tA27 (k := 1) rfl rfl) (fun w' S => ⟨(r3, (⟨0, 0⟩ : Fault)), (a, c), h1, hF, rfl, (le1), ⟨q14, q15⟩, S.none⟩)

theorem c_initial {h : FH} {w : World} (hs : Sub h w) (t : Task) (at_ : Option Addr) (ct : Nat) (_q1 : RSl h at_ t.init) (_q2 : t.init.length ≤ ct) (at_2 : Option Addr) (ct2 : Nat) (_q3 : RSl h at_2 t.goal) (_q4 : t.goal.length ≤ ct2) (at_3 : Option Addr) (ct3 : Nat) (_q5 : RSl h at_3 t.ops) (_q6 : t.ops.length ≤ ct3) (unknown : List Int) (aunknown : Option Addr) (cunknown : Nat) (_q7 : RSl h aunknown unknown) (_q8 : unknown.length ≤ cunknown) : Calls Tryz.prog 20 #[.agg #[.int .i64 t.facts, .slice at_ t.init.length ct, .slice at_2 t.goal.length ct2, .slice at_3 t.ops.length ct3], .slice aunknown unknown.length cunknown] w fun e w' => ∃ (z : Option Addr × Nat) (h1 : FH), e = .returned (.tuple #[.slice z.1 (sp_initial t unknown).1.length z.2, .agg #[.int .i64 (sp_initial t unknown).2.code, .int .i64 (sp_initial t unknown).2.index]]) ∧ FH.le h h1 ∧ (RSl h1 z.1 (sp_initial t unknown).1 ∧ (sp_initial t unknown).1.length ≤ z.2) ∧ SH (Kp.all w h) h1 w' [] :=
  (w_initial hs t at_ ct _q1 _q2 at_2 ct2 _q3 _q4 at_3 ct3 _q5 _q6 unknown aunknown cunknown _q7 _q8 (fun r => r = sp_initial t unknown) (ok_initial t unknown)).mono fun _ _ ⟨r, z, h1, hk, he, hl, hf, hS⟩ => by subst hk; exact ⟨z, h1, he, hl, hf, hS⟩

theorem w_bafter {h : FH} {w : World} (hs : Sub h w) (t : Task) (at_ : Option Addr) (ct : Nat) (_q1 : RSl h at_ t.init) (_q2 : t.init.length ≤ ct) (at_2 : Option Addr) (ct2 : Nat) (_q3 : RSl h at_2 t.goal) (_q4 : t.goal.length ≤ ct2) (at_3 : Option Addr) (ct3 : Nat) (_q5 : RSl h at_3 t.ops) (_q6 : t.ops.length ≤ ct3) (worlds : List (List Int)) (aworlds : Option Addr) (cworlds : Nat) (_q7 : RSl h aworlds worlds) (_q8 : worlds.length ≤ cworlds) (op : Int) (K : (List (List Int)) → Prop) (hF : F_bafter t worlds op K) : Calls Tryz.prog 60 #[.agg #[.int .i64 t.facts, .slice at_ t.init.length ct, .slice at_2 t.goal.length ct2, .slice at_3 t.ops.length ct3], .slice aworlds worlds.length cworlds, .int .i64 op] w fun e w' => ∃ (r : List (List Int)) (z : Option Addr × Nat) (h1 : FH), K r ∧ e = .returned (.slice z.1 r.length z.2) ∧ FH.le h h1 ∧ (RSl h1 z.1 r ∧ r.length ≤ z.2) ∧ SH (Kp.all w h) h1 w' [] := by
  refine enter (args := [.agg #[.int .i64 t.facts, .slice at_ t.init.length ct, .slice at_2 t.goal.length ct2, .slice at_3 t.ops.length ct3], .slice aworlds worlds.length cworlds, .int .i64 op]) Tryz.func60 rfl Tryz.ntmps60 rfl hs ?_
  refine .seq ?_
  refine .region ?_
  refine bx (vs := [.int .i64 t.facts, .slice at_ t.init.length ct, .slice at_2 t.goal.length ct2, .slice at_3 t.ops.length ct3]) rfl rfl rfl (fun pt => ?_)
  refine .v (asg rfl) rfl rfl rfl ?_
  refine .nil ?_
  refine .seqN ?_
  refine .seq ?_
  refine .region ?_
  refine .v (asg rfl) rfl rfl rfl ?_
  refine .nil ?_
  refine .seqN ?_
  refine .seq ?_
  refine .seq ?_
  refine .region ?_
  refine .v (mv rfl) rfl rfl rfl ?_
  refine .v (ln rfl tS35.is) rfl rfl rfl ?_
  refine .v (mv rfl) rfl rfl rfl ?_
  refine .nil ?_
  refine .seqN ?_
  refine .block ?_
  refine .nilSl 22 1 ?_
  refine .cast (A' := [OwnSl 22 1 none (([] : List (List Int)).length) 0 [], Box pt [.int .i64 t.facts, .slice at_ t.init.length ct, .slice at_2 t.goal.length ct2, .slice at_3 t.ops.length ct3]]) rfl ?_
  refine .sel0 [1, 0] (by decide) rfl ?_
  obtain ⟨I1, μ1, q222, q223⟩ := hF
  refine .loop' (σ := Int × List (List Int) × Option Addr × Nat × List Value × FH) (fun z => I1 z.1 z.2.1 ∧ RepL z.2.2.2.2.2 z.2.1 z.2.2.2.2.1 ∧ FH.le h z.2.2.2.2.2) (fun z => μ1 z.1 z.2.1) (fun z => [(2, .int .i64 op), (3, .pointer (some pt)), (7, .slice z.2.2.1 z.2.1.length z.2.2.2.1), (10, .slice aworlds worlds.length cworlds), (11, .int .i64 ((worlds.length : Nat) : Int)), (12, .int .i64 z.1)]) (fun z => [Box pt [.int .i64 t.facts, .slice at_ t.init.length ct, .slice at_2 t.goal.length ct2, .slice at_3 t.ops.length ct3], OwnSl 22 1 z.2.2.1 z.2.1.length z.2.2.2.1 z.2.2.2.2.1]) (fun z => z.2.2.2.2.2) (0, ([] : List (List Int)), none, 0, [], h) ⟨q222, (show RepL h ([] : List (List Int)) [] from rfl), (FH.le_refl _)⟩ (.cons rfl (.cons rfl (.cons rfl (.cons rfl (.cons rfl (.cons rfl (.nil))))))) rfl (FH.le_refl _) ?_
  rintro ⟨t12, out, aout, cout, csout, h19⟩ ⟨q222, q179, q180⟩
  have hF := q223 t12 out q222
  show J _ _ _ _ _ [(2, .int .i64 op), (3, .pointer (some pt)), (7, .slice aout out.length cout), (10, .slice aworlds worlds.length cworlds), (11, .int .i64 ((worlds.length : Nat) : Int)), (12, .int .i64 t12)] [Box pt [.int .i64 t.facts, .slice at_ t.init.length ct, .slice at_2 t.goal.length ct2, .slice at_3 t.ops.length ct3], OwnSl 22 1 aout out.length cout csout] h19
  refine .seq ?_
  refine .region ?_
  refine .v (bi rfl rfl rfl) rfl rfl rfl ?_
  refine .nil ?_
  refine .seqN ?_
  refine .seq ?_
  refine .cond rfl (fun q226 => ?_) (fun q226 => ?_)
  · replace hF := hF.1 q226
    refine .skip ?_
    refine .seqN ?_
    refine .seq ?_
    refine .block ?_
    refine .seq ?_
    refine .region ?_
    obtain ⟨q251, hF⟩ := hF
    refine .v (ix rfl rfl tS35 (_q7.ne (by decide) (inb_pos q251)) q251) rfl rfl rfl ?_
    obtain ⟨_, ⟨a, c, rfl, q252, q253⟩, q254⟩ := _q7.elem q251
    refine .v (ld1 (v := .slice a ((gt worlds t12).length) c) rfl tO22 (cellH ((fun q => (q254 q).mono (q180)) (by decide) 0 _ rfl))) rfl rfl rfl ?_
    refine .v (asg rfl) rfl rfl rfl ?_
    refine .nil ?_
    refine .seqN ?_
    refine .region ?_
    refine .v (mv rfl) rfl rfl rfl ?_
    refine .v (ldA (cs := [.int .i64 t.facts, .slice at_ t.init.length ct, .slice at_2 t.goal.length ct2, .slice at_3 t.ops.length ct3]) rfl tA25 rfl (cellsB (off := 0) (k := 0) rfl (m := 4) rfl)) rfl rfl rfl ?_
    refine .v (mv rfl) rfl rfl rfl ?_
    refine .v (mv rfl) rfl rfl rfl ?_
    obtain ⟨q255, hF⟩ := hF
    obtain ⟨r2, q256⟩ : ∃ y_ : List Int, y_ = sp_after t (gt worlds t12) op := ⟨_, rfl⟩
    replace hF := hF r2 q256
    refine clR (α := Option Addr × Nat) (Φ := fun h1 z => RSl h1 z.1 r2 ∧ r2.length ≤ z.2) (V := fun z => .slice z.1 r2.length z.2) Tryz.call93 rfl rfl (fun w S => (by rw [q256]; exact c_next S.sub t at_ ct (_q1.mono (q180)) _q2 at_2 ct2 (_q3.mono (q180)) _q4 at_3 ct3 (_q5.mono (q180)) _q6 (gt worlds t12) a c (q253.mono (q180)) q252 op q255)) rfl (fun z h26 le26 hz => ?_)
    obtain ⟨a2, c2⟩ := z
    obtain ⟨q257, q258⟩ := hz
    refine bs2 (cs := #[.slice a2 r2.length c2]) (pv := [(0, .slice a2 r2.length c2)]) tS35 rfl rfl (by decide) (by decide) rfl rfl rfl (fun a3 _ => ?_)
    refine .cast (A' := [OwnSl 22 1 a3 (([r2] : List (List Int)).length) 1 [.slice a2 r2.length c2], Box pt [.int .i64 t.facts, .slice at_ t.init.length ct, .slice at_2 t.goal.length ct2, .slice at_3 t.ops.length ct3], OwnSl 22 1 aout out.length cout csout]) rfl ?_
    obtain ⟨q260, hF⟩ := hF
    have q261 : out.length + ([r2] : List (List Int)).length = ((out ++ ([r2] : List (List Int)))).length := len_app rfl rfl
    have q262 := RepL.append (RepL.mono (le26) q179) (show RepL h26 ([r2] : List (List Int)) [.slice a2 r2.length c2] from ⟨[.slice a2 r2.length c2], _, rfl, ⟨a2, c2, rfl, q258, q257⟩, rfl⟩)
    refine app (k := 2) (news := [.slice a2 r2.length c2]) (cs' := (csout ++ [.slice a2 r2.length c2])) (nm := ((out ++ ([r2] : List (List Int)))).length) tS35 rfl (by decide) rfl rfl rfl (RepL.len (show RepL h26 ([r2] : List (List Int)) [.slice a2 r2.length c2] from ⟨[.slice a2 r2.length c2], _, rfl, ⟨a2, c2, rfl, q258, q257⟩, rfl⟩)) (srcS (k := 0) rfl) (RepL.one (show RepL h26 ([r2] : List (List Int)) [.slice a2 r2.length c2] from ⟨[.slice a2 r2.length c2], _, rfl, ⟨a2, c2, rfl, q258, q257⟩, rfl⟩)) (room_of q261 q260).1 (room_of q261 q260).2 q261 rfl rfl (fun a4 c3 => ?_)
    refine .cast (A' := [OwnSl 22 1 a3 (([r2] : List (List Int)).length) 1 [.slice a2 r2.length c2], Box pt [.int .i64 t.facts, .slice at_ t.init.length ct, .slice at_2 t.goal.length ct2, .slice at_3 t.ops.length ct3], OwnSl 22 1 a4 ((out ++ ([r2] : List (List Int))).length) c3 (csout ++ [.slice a2 r2.length c2])]) rfl ?_
    refine .v (asg rfl) rfl rfl rfl ?_
    refine .nil ?_
    refine .blkN ?_
    refine .seqN ?_
    refine .region ?_
    refine .v (bi rfl rfl rfl) rfl rfl rfl ?_
    refine .v (mv rfl) rfl rfl rfl ?_
    refine .nil ?_
    refine .sel0 [1, 2] (by decide) rfl ?_
    exact .round (IntKind.i64.wrap (t12 + 1), (out ++ ([r2] : List (List Int))), a4, c3, (csout ++ [.slice a2 r2.length c2]), h26) ⟨hF.1, q262, (FH.le_trans (q180) (le26))⟩ hF.2 (.cons rfl (.cons rfl (.cons rfl (.cons rfl (.cons rfl (.cons rfl (.nil))))))) rfl (FH.le_refl _)
  replace hF := hF.2 q226
  refine .exit ?_
  refine .seqX ?_
  refine .seqX ?_
  refine .blkX ?_
  refine .seqN ?_
  refine .seq ?_
  refine .region ?_
  refine .v (mv rfl) rfl rfl rfl ?_
  obtain ⟨q263, hF⟩ := hF
  obtain ⟨r3, q264⟩ : ∃ y_ : List (List Int), y_ = sp_normal out := ⟨_, rfl⟩
  replace hF := hF r3 q264
  refine callX (k := 1) (v := .slice aout r3.length cout) (X' := OwnPX h19 22 1 aout cout r3) rfl Tryz.call84 rfl rfl (fun w g hx sg hd hs' => ?_) rfl ?_
  · rw [q264]; exact c_normal hs' out aout cout q179 (own_n (rfl).symm hx) sg hd q263
  refine .openP (k := 1) rfl (fun cs q265 => ?_)
  refine .cast (A' := [Box pt [.int .i64 t.facts, .slice at_ t.init.length ct, .slice at_2 t.goal.length ct2, .slice at_3 t.ops.length ct3], OwnSl 22 1 aout r3.length cout cs]) rfl ?_
  refine .v (asg rfl) rfl rfl rfl ?_
  refine .nil ?_
  refine .seqN ?_
  refine .freezeL (k := 1) rfl (fun h27 le27 q267 q266 => ?_)
  refine .cast (A' := [Box pt [.int .i64 t.facts, .slice at_ t.init.length ct, .slice at_2 t.goal.length ct2, .slice at_3 t.ops.length ct3], tru]) rfl ?_
  refine .ret ?_
  refine .res1 rfl (rvT rfl) (fun w' S => ⟨r3, (aout, cout), h27, hF, rfl, (FH.le_trans (q180) (le27)), ⟨(show RSl h27 aout r3 from ⟨_, q265.mono (le27), q266⟩), (q267)⟩, S.none⟩)

theorem c_bafter {h : FH} {w : World} (hs : Sub h w) (t : Task) (at_ : Option Addr) (ct : Nat) (_q1 : RSl h at_ t.init) (_q2 : t.init.length ≤ ct) (at_2 : Option Addr) (ct2 : Nat) (_q3 : RSl h at_2 t.goal) (_q4 : t.goal.length ≤ ct2) (at_3 : Option Addr) (ct3 : Nat) (_q5 : RSl h at_3 t.ops) (_q6 : t.ops.length ≤ ct3) (worlds : List (List Int)) (aworlds : Option Addr) (cworlds : Nat) (_q7 : RSl h aworlds worlds) (_q8 : worlds.length ≤ cworlds) (op : Int) (hp : pre_bafter t worlds op) : Calls Tryz.prog 60 #[.agg #[.int .i64 t.facts, .slice at_ t.init.length ct, .slice at_2 t.goal.length ct2, .slice at_3 t.ops.length ct3], .slice aworlds worlds.length cworlds, .int .i64 op] w fun e w' => ∃ (z : Option Addr × Nat) (h1 : FH), e = .returned (.slice z.1 (sp_bafter t worlds op).length z.2) ∧ FH.le h h1 ∧ (RSl h1 z.1 (sp_bafter t worlds op) ∧ (sp_bafter t worlds op).length ≤ z.2) ∧ SH (Kp.all w h) h1 w' [] :=
  (w_bafter hs t at_ ct _q1 _q2 at_2 ct2 _q3 _q4 at_3 ct3 _q5 _q6 worlds aworlds cworlds _q7 _q8 op (fun r => r = sp_bafter t worlds op) (ok_bafter t worlds op hp)).mono fun _ _ ⟨r, z, h1, hk, he, hl, hf, hS⟩ => by subst hk; exact ⟨z, h1, he, hl, hf, hS⟩

theorem w_bsolves1 {h : FH} {w : World} (hs : Sub h w) (s_ : List Int) (as_ : Option Addr) (cs_ : Nat) (_q1 : RSl h as_ s_) (_q2 : s_.length ≤ cs_) (x : Task) (ax : Option Addr) (cx : Nat) (_q3 : RSl h ax x.init) (_q4 : x.init.length ≤ cx) (ax2 : Option Addr) (cx2 : Nat) (_q5 : RSl h ax2 x.goal) (_q6 : x.goal.length ≤ cx2) (ax3 : Option Addr) (cx3 : Nat) (_q7 : RSl h ax3 x.ops) (_q8 : x.ops.length ≤ cx3) (px : Addr) (_q9 : CellsAt h px [.int .i64 x.facts, .slice ax x.init.length cx, .slice ax2 x.goal.length cx2, .slice ax3 x.ops.length cx3]) (x2 : List Int) (ax22 : Option Addr) (cx22 : Nat) (_q10 : RSl h ax22 x2) (_q11 : x2.length ≤ cx22) (px2 : Addr) (_q12 : CellsAt h px2 [.slice ax22 x2.length cx22]) (K : Bool → Prop) (hF : F_bsolves1 s_ x x2 K) : Calls Tryz.prog 67 #[.slice as_ s_.length cs_, .pointer (some px), .pointer (some px2)] w fun e w' => ∃ r : Bool, K r ∧ e = .returned (.bool r) ∧ Below w.heap.size w w' := by
  refine enter (args := [.slice as_ s_.length cs_, .pointer (some px), .pointer (some px2)]) Tryz.func67 rfl Tryz.ntmps67 rfl hs ?_
  refine .seq ?_
  refine .region ?_
  refine .v (asg rfl) rfl rfl rfl ?_
  refine .nil ?_
  refine .seqN ?_
  refine .seq ?_
  refine .region ?_
  refine .v (ldA (cs := [.int .i64 x.facts, .slice ax x.init.length cx, .slice ax2 x.goal.length cx2, .slice ax3 x.ops.length cx3]) rfl tA25 rfl (cellsH (_q9.mono (FH.le_refl _)))) rfl rfl rfl ?_
  refine .v (mv rfl) rfl rfl rfl ?_
  refine .v (ld1 (v := .slice ax22 x2.length cx22) rfl tO22 (cellH (CellsAt.mono (FH.le_refl _) _q12 0 _ rfl))) rfl rfl rfl ?_
  obtain ⟨q13, hF⟩ := hF
  obtain ⟨r2, q14⟩ : ∃ y_ : Bool, y_ = sp_rworks x s_ x2 := ⟨_, rfl⟩
  replace hF := hF r2 q14
  refine .c (cl (v := .bool r2) Tryz.call68 rfl rfl (fun w S => (by rw [q14]; exact c_works S.sub x ax cx _q3 _q4 ax2 cx2 _q5 _q6 ax3 cx3 _q7 _q8 s_ as_ cs_ _q1 _q2 x2 ax22 cx22 _q10 _q11 q13))) rfl rfl rfl ?_
  refine .v (nt rfl) rfl rfl rfl ?_
  refine .v (asg rfl) rfl rfl rfl ?_
  refine .nil ?_
  refine .seqN ?_
  refine .ret ?_
  refine .res1 rfl (rvT rfl) (fun w' S => ⟨!r2, hF, rfl, S.below⟩)

theorem c_bsolves1 {h : FH} {w : World} (hs : Sub h w) (s_ : List Int) (as_ : Option Addr) (cs_ : Nat) (_q1 : RSl h as_ s_) (_q2 : s_.length ≤ cs_) (x : Task) (ax : Option Addr) (cx : Nat) (_q3 : RSl h ax x.init) (_q4 : x.init.length ≤ cx) (ax2 : Option Addr) (cx2 : Nat) (_q5 : RSl h ax2 x.goal) (_q6 : x.goal.length ≤ cx2) (ax3 : Option Addr) (cx3 : Nat) (_q7 : RSl h ax3 x.ops) (_q8 : x.ops.length ≤ cx3) (px : Addr) (_q9 : CellsAt h px [.int .i64 x.facts, .slice ax x.init.length cx, .slice ax2 x.goal.length cx2, .slice ax3 x.ops.length cx3]) (x2 : List Int) (ax22 : Option Addr) (cx22 : Nat) (_q10 : RSl h ax22 x2) (_q11 : x2.length ≤ cx22) (px2 : Addr) (_q12 : CellsAt h px2 [.slice ax22 x2.length cx22]) (hp : pre_bsolves1 s_ x x2) : Calls Tryz.prog 67 #[.slice as_ s_.length cs_, .pointer (some px), .pointer (some px2)] w fun e w' => e = .returned (.bool (sp_bsolves1 s_ x x2)) ∧ Below w.heap.size w w' :=
  (w_bsolves1 hs s_ as_ cs_ _q1 _q2 x ax cx _q3 _q4 ax2 cx2 _q5 _q6 ax3 cx3 _q7 _q8 px _q9 x2 ax22 cx22 _q10 _q11 px2 _q12 (fun r => r = sp_bsolves1 s_ x x2) (ok_bsolves1 s_ x x2 hp)).mono fun _ _ ⟨_, hk, he, hb⟩ => ⟨by rw [he, hk], hb⟩

theorem w_bsolves {h : FH} {w : World} (hs : Sub h w) (t : Task) (at_ : Option Addr) (ct : Nat) (_q1 : RSl h at_ t.init) (_q2 : t.init.length ≤ ct) (at_2 : Option Addr) (ct2 : Nat) (_q3 : RSl h at_2 t.goal) (_q4 : t.goal.length ≤ ct2) (at_3 : Option Addr) (ct3 : Nat) (_q5 : RSl h at_3 t.ops) (_q6 : t.ops.length ≤ ct3) (unknown : List Int) (aunknown : Option Addr) (cunknown : Nat) (_q7 : RSl h aunknown unknown) (_q8 : unknown.length ≤ cunknown) (plan : List Int) (aplan : Option Addr) (cplan : Nat) (_q9 : RSl h aplan plan) (_q10 : plan.length ≤ cplan) (K : (Bool × Fault) → Prop) (hF : F_bsolves t unknown plan K) : Calls Tryz.prog 29 #[.agg #[.int .i64 t.facts, .slice at_ t.init.length ct, .slice at_2 t.goal.length ct2, .slice at_3 t.ops.length ct3], .slice aunknown unknown.length cunknown, .slice aplan plan.length cplan] w fun e w' => ∃ r : Bool × Fault, K r ∧ e = .returned (.tuple #[.bool r.1, .agg #[.int .i64 r.2.code, .int .i64 r.2.index]]) ∧ Below w.heap.size w w' := by
  refine enter (args := [.agg #[.int .i64 t.facts, .slice at_ t.init.length ct, .slice at_2 t.goal.length ct2, .slice at_3 t.ops.length ct3], .slice aunknown unknown.length cunknown, .slice aplan plan.length cplan]) Tryz.func29 rfl Tryz.ntmps29 rfl hs ?_
  refine .seq ?_
  refine .region ?_
  refine bx (vs := [.int .i64 t.facts, .slice at_ t.init.length ct, .slice at_2 t.goal.length ct2, .slice at_3 t.ops.length ct3]) rfl rfl rfl (fun pt => ?_)
  refine bx (vs := [.slice aplan plan.length cplan]) rfl rfl rfl (fun pplan => ?_)
  refine .v (asg rfl) rfl rfl rfl ?_
  refine al tZ27 rfl (fun pv => ?_)
  refine .nil ?_
  refine .seqN ?_
  refine .seq ?_
  refine .seq ?_
  refine .region ?_
  refine .v (ldA (cs := [.int .i64 t.facts, .slice at_ t.init.length ct, .slice at_2 t.goal.length ct2, .slice at_3 t.ops.length ct3]) rfl tA25 rfl (cellsB (off := 0) (k := 2) rfl (m := 4) rfl)) rfl rfl rfl ?_
  refine .v (mv rfl) rfl rfl rfl ?_
  obtain ⟨r2, q11⟩ : ∃ y_ : Fault, y_ = sp_unknownFault t unknown := ⟨_, rfl⟩
  replace hF := hF r2 q11
  refine .c (cl (v := .agg #[.int .i64 r2.code, .int .i64 r2.index]) Tryz.call45 rfl rfl (fun w S => (by rw [q11]; exact c_unknownFault S.sub t at_ ct _q1 _q2 at_2 ct2 _q3 _q4 at_3 ct3 _q5 _q6 unknown aunknown cunknown _q7 _q8 ))) rfl rfl rfl ?_
  refine al tZ27 rfl (fun pf => ?_)
  refine st (p := pf) (off := 0) (k := 0) (vs := [.int .i64 r2.code, .int .i64 r2.index]) rfl rfl rfl (fun w => (tA27 w).2) rfl rfl rfl rfl ?_
  refine .cast (A' := [Box pf [.int .i64 r2.code, .int .i64 r2.index], Box pv [.int .i64 0, .int .i64 0], Box pplan [.slice aplan plan.length cplan], Box pt [.int .i64 t.facts, .slice at_ t.init.length ct, .slice at_2 t.goal.length ct2, .slice at_3 t.ops.length ct3]]) rfl ?_
  refine .nil ?_
  refine .seqN ?_
  refine .seq ?_
  refine .region ?_
  refine .v (ldA (cs := [.int .i64 r2.code, .int .i64 r2.index]) rfl tA27 rfl (cellsB (off := 0) (k := 0) rfl (m := 2) rfl)) rfl rfl rfl ?_
  refine .v (bld (cs := #[.int .i64 0, .int .i64 0]) (pv := []) tB27 rfl rfl) rfl rfl rfl ?_
  refine .v (ne2 tE27 rfl rfl) rfl rfl rfl ?_
  refine .nil ?_
  refine .seqN ?_
  refine .cond rfl (fun q13 => ?_) (fun q13 => ?_)
  · replace hF := hF.1 q13
    refine .seq ?_
    refine .openL (by kernel_rfl) rfl (by kernel_rfl) (by kernel_rfl) ?_
    refine .v (ldA (cs := [.int .i64 r2.code, .int .i64 r2.index]) rfl tA27 rfl (cellsB (off := 0) (k := 0) rfl (m := 2) rfl)) rfl rfl rfl ?_
    refine .v (asg rfl) rfl rfl rfl ?_
    refine .tail ?_
    refine st (p := pv) (off := 0) (k := 1) (vs := [.int .i64 r2.code, .int .i64 r2.index]) rfl rfl rfl (fun w => (tA27 w).2) rfl rfl rfl rfl ?_
    refine .cast (A' := [Box pf [.int .i64 r2.code, .int .i64 r2.index], Box pv [.int .i64 r2.code, .int .i64 r2.index], Box pplan [.slice aplan plan.length cplan], Box pt [.int .i64 t.facts, .slice at_ t.init.length ct, .slice at_2 t.goal.length ct2, .slice at_3 t.ops.length ct3]]) rfl ?_
    refine .nil ?_
    refine .seqN ?_
    refine .ret ?_
    refine .seqR ?_
    refine .res2 rfl (rvT rfl) (rvC rfl tA27 (k := 1) rfl rfl) (fun w' S => ⟨(false, r2), hF, rfl, S.below⟩)
  replace hF := hF.2 q13
  refine .skip ?_
  refine .seqN ?_
  refine .seq ?_
  refine .seq ?_
  refine .region ?_
  refine .v (fa rfl tF25_3) rfl rfl rfl ?_
  refine .v (ld1 rfl tO23 (cellB (off := 3) (k := 3) rfl rfl)) rfl rfl rfl ?_
  refine .v (ln rfl tS23.is) rfl rfl rfl ?_
  refine .v (ld1 rfl tO22 (cellB (off := 0) (k := 2) rfl rfl)) rfl rfl rfl ?_
  obtain ⟨q14, hF⟩ := hF
  obtain ⟨r3, q15⟩ : ∃ y_ : Fault, y_ = sp_steps ((t.ops.length : Nat) : Int) plan := ⟨_, rfl⟩
  replace hF := hF r3 q15
  refine .c (cl (v := .agg #[.int .i64 r3.code, .int .i64 r3.index]) Tryz.call65 rfl rfl (fun w S => (by rw [q15]; exact c_steps S.sub ((t.ops.length : Nat) : Int) plan aplan cplan _q9 _q10 q14))) rfl rfl rfl ?_
  refine al tZ27 rfl (fun pf2 => ?_)
  refine st (p := pf2) (off := 0) (k := 0) (vs := [.int .i64 r3.code, .int .i64 r3.index]) rfl rfl rfl (fun w => (tA27 w).2) rfl rfl rfl rfl ?_
  refine .cast (A' := [Box pf2 [.int .i64 r3.code, .int .i64 r3.index], Box pf [.int .i64 r2.code, .int .i64 r2.index], Box pv [.int .i64 0, .int .i64 0], Box pplan [.slice aplan plan.length cplan], Box pt [.int .i64 t.facts, .slice at_ t.init.length ct, .slice at_2 t.goal.length ct2, .slice at_3 t.ops.length ct3]]) rfl ?_
  refine .nil ?_
  refine .seqN ?_
  refine .seq ?_
  refine .region ?_
  refine .v (ldA (cs := [.int .i64 r3.code, .int .i64 r3.index]) rfl tA27 rfl (cellsB (off := 0) (k := 0) rfl (m := 2) rfl)) rfl rfl rfl ?_
  refine .v (bld (cs := #[.int .i64 0, .int .i64 0]) (pv := []) tB27 rfl rfl) rfl rfl rfl ?_
  refine .v (ne2 tE27 rfl rfl) rfl rfl rfl ?_
  refine .nil ?_
  refine .seqN ?_
  refine .cond rfl (fun q17 => ?_) (fun q17 => ?_)
  · replace hF := hF.1 q17
    refine .seq ?_
    refine .openL (by kernel_rfl) rfl (by kernel_rfl) (by kernel_rfl) ?_
    refine .v (ldA (cs := [.int .i64 r3.code, .int .i64 r3.index]) rfl tA27 rfl (cellsB (off := 0) (k := 0) rfl (m := 2) rfl)) rfl rfl rfl ?_
    refine .v (asg rfl) rfl rfl rfl ?_
    refine .tail ?_
    refine st (p := pv) (off := 0) (k := 2) (vs := [.int .i64 r3.code, .int .i64 r3.index]) rfl rfl rfl (fun w => (tA27 w).2) rfl rfl rfl rfl ?_
    refine .cast (A' := [Box pf2 [.int .i64 r3.code, .int .i64 r3.index], Box pf [.int .i64 r2.code, .int .i64 r2.index], Box pv [.int .i64 r3.code, .int .i64 r3.index], Box pplan [.slice aplan plan.length cplan], Box pt [.int .i64 t.facts, .slice at_ t.init.length ct, .slice at_2 t.goal.length ct2, .slice at_3 t.ops.length ct3]]) rfl ?_
    refine .nil ?_
    refine .seqN ?_
    refine .ret ?_
    refine .seqR ?_
    refine .res2 rfl (rvT rfl) (rvC rfl tA27 (k := 2) rfl rfl) (fun w' S => ⟨(false, r3), hF, rfl, S.below⟩)
  replace hF := hF.2 q17
  refine .skip ?_
  refine .seqN ?_
  refine .seq ?_
  refine .region ?_
  refine .v (ldA (cs := [.int .i64 t.facts, .slice at_ t.init.length ct, .slice at_2 t.goal.length ct2, .slice at_3 t.ops.length ct3]) rfl tA25 rfl (cellsB (off := 0) (k := 4) rfl (m := 4) rfl)) rfl rfl rfl ?_
  refine .v (mv rfl) rfl rfl rfl ?_
  obtain ⟨q18, hF⟩ := hF
  obtain ⟨r4, q19⟩ : ∃ y_ : List (List Int), y_ = sp_worlds t unknown := ⟨_, rfl⟩
  replace hF := hF r4 q19
  refine clR (α := Option Addr × Nat) (Φ := fun h1 z => RSl h1 z.1 r4 ∧ r4.length ≤ z.2) (V := fun z => .slice z.1 r4.length z.2) Tryz.call48 rfl rfl (fun w S => (by rw [q19]; exact c_worlds S.sub t at_ ct _q1 _q2 at_2 ct2 _q3 _q4 at_3 ct3 _q5 _q6 unknown aunknown cunknown _q7 _q8 q18)) rfl (fun z h1 le1 hz => ?_)
  obtain ⟨a, c⟩ := z
  obtain ⟨q20, q21⟩ := hz
  refine .v (mkf (vf := []) (vc := [.pointer (some pt), .pointer (some pplan)]) rfl rfl) rfl rfl rfl ?_
  obtain ⟨q22, hF⟩ := hF
  obtain ⟨r5, q23⟩ : ∃ y_ : Bool, y_ = sp_any r4 (fun y_ : List Int => sp_bsolves1 y_ t plan) (fun y_ : List Int => pre_bsolves1 y_ t plan) := ⟨_, rfl⟩
  replace hF := hF r5 q23
  refine .c (cl (v := .bool r5) Tryz.call66 rfl rfl (fun w S => (by rw [q23]; obtain ⟨h0_, l0_, S0_, b0_⟩ := freezeB S (k := 4) rfl; obtain ⟨h_, l1_, hs_, b1_⟩ := lookB S0_ (k := 3) rfl; have hl_ := (FH.le_trans l0_ l1_); exact c_containsR hs_ r4 a c (RSl.mono hl_ q20) q21 (fun y_ : List Int => sp_bsolves1 y_ t plan) (fun y_ : List Int => pre_bsolves1 y_ t plan) 67 #[] #[.pointer (some pt), .pointer (some pplan)] Tryz.call67 (fun x a_ c_ r_ l_ w' hD hs' => c_bsolves1 hs' x a_ c_ r_ l_ t at_ ct (RSl.mono hl_ (_q1.mono (le1))) _q2 at_2 ct2 (RSl.mono hl_ (_q3.mono (le1))) _q4 at_3 ct3 (RSl.mono hl_ (_q5.mono (le1))) _q6 pt (b0_.mono l1_) plan aplan cplan (RSl.mono hl_ (_q9.mono (le1))) _q10 pplan b1_ hD) q22))) rfl rfl rfl ?_
  refine .v (nt rfl) rfl rfl rfl ?_
  refine .v (bld (cs := #[.int .i64 0, .int .i64 0]) (pv := []) tB27 rfl rfl) rfl rfl rfl ?_
  refine .v (asg rfl) rfl rfl rfl ?_
  refine st (p := pv) (off := 0) (k := 2) (vs := [.int .i64 0, .int .i64 0]) rfl rfl rfl (fun w => (tA27 w).2) rfl rfl rfl rfl ?_
  refine .cast (A' := [Box pf2 [.int .i64 r3.code, .int .i64 r3.index], Box pf [.int .i64 r2.code, .int .i64 r2.index], Box pv [.int .i64 0, .int .i64 0], Box pplan [.slice aplan plan.length cplan], Box pt [.int .i64 t.facts, .slice at_ t.init.length ct, .slice at_2 t.goal.length ct2, .slice at_3 t.ops.length ct3]]) rfl ?_
  refine .nil ?_
  refine .seqN ?_
  refine .ret ?_
  refine .res2 rfl (rvT rfl) (rvC rfl tA27 (k := 2) rfl rfl) (fun w' S => ⟨(!r5, (⟨0, 0⟩ : Fault)), hF, rfl, S.below⟩)

theorem c_bsolves {h : FH} {w : World} (hs : Sub h w) (t : Task) (at_ : Option Addr) (ct : Nat) (_q1 : RSl h at_ t.init) (_q2 : t.init.length ≤ ct) (at_2 : Option Addr) (ct2 : Nat) (_q3 : RSl h at_2 t.goal) (_q4 : t.goal.length ≤ ct2) (at_3 : Option Addr) (ct3 : Nat) (_q5 : RSl h at_3 t.ops) (_q6 : t.ops.length ≤ ct3) (unknown : List Int) (aunknown : Option Addr) (cunknown : Nat) (_q7 : RSl h aunknown unknown) (_q8 : unknown.length ≤ cunknown) (plan : List Int) (aplan : Option Addr) (cplan : Nat) (_q9 : RSl h aplan plan) (_q10 : plan.length ≤ cplan) : Calls Tryz.prog 29 #[.agg #[.int .i64 t.facts, .slice at_ t.init.length ct, .slice at_2 t.goal.length ct2, .slice at_3 t.ops.length ct3], .slice aunknown unknown.length cunknown, .slice aplan plan.length cplan] w fun e w' => e = .returned (.tuple #[.bool (sp_bsolves t unknown plan).1, .agg #[.int .i64 (sp_bsolves t unknown plan).2.code, .int .i64 (sp_bsolves t unknown plan).2.index]]) ∧ Below w.heap.size w w' :=
  (w_bsolves hs t at_ ct _q1 _q2 at_2 ct2 _q3 _q4 at_3 ct3 _q5 _q6 unknown aunknown cunknown _q7 _q8 plan aplan cplan _q9 _q10 (fun r => r = sp_bsolves t unknown plan) (ok_bsolves t unknown plan)).mono fun _ _ ⟨_, hk, he, hb⟩ => ⟨by rw [he, hk], hb⟩

end Go.Proofs.YtojoehfldbimpaaGreatDoor.Pl

/- The walks: from what each function asks to what it does; printed from the code. No condition. -/
namespace Go.Proofs.YtojoehfldbimpaaGreatDoor.Pl
open Go Go.RowKit
end Go.Proofs.YtojoehfldbimpaaGreatDoor.Pl

/- The walks: from what each function asks to what it does; printed from the code. No condition. -/
namespace Go.Proofs.YtojoehfldbimpaaGreatDoor.Pl
open Go Go.RowKit
theorem w_able {h : FH} {w : World} (hs : Sub h w) (K : Task → Prop) (hF : F_able  K) : Calls Tryz.prog 54 #[] w fun e w' => ∃ (r : Task) (z : Option Addr × Nat × Option Addr × Nat × Option Addr × Nat) (h1 : FH), K r ∧ e = .returned (.agg #[.int .i64 r.facts, .slice z.1 r.init.length z.2.1, .slice z.2.2.1 r.goal.length z.2.2.2.1, .slice z.2.2.2.2.1 r.ops.length z.2.2.2.2.2]) ∧ FH.le h h1 ∧ (RSl h1 z.1 r.init ∧ r.init.length ≤ z.2.1 ∧ RSl h1 z.2.2.1 r.goal ∧ r.goal.length ≤ z.2.2.2.1 ∧ RSl h1 z.2.2.2.2.1 r.ops ∧ r.ops.length ≤ z.2.2.2.2.2) ∧ SH (Kp.all w h) h1 w' [] := by
  refine enter (args := []) Tryz.func54 rfl Tryz.ntmps54 rfl hs ?_
  refine .seq ?_
  refine .region ?_
  refine al tZ25 rfl (fun pv => ?_)
  refine .nil ?_
  refine .seqN ?_
  refine .seq ?_
  refine .region ?_
  refine bs2 (cs := #[.int .i64 0]) (pv := [(0, .int .i64 0)]) tS22 rfl rfl (by decide) (by decide) rfl rfl rfl (fun a _ => ?_)
  refine .cast (A' := [OwnSl 3 1 a (([0] : List Int).length) 1 (flL ([0] : List Int)), Box pv [.int .i64 0, .slice none 0 0, .slice none 0 0, .slice none 0 0]]) rfl ?_
  refine bs2 (cs := #[.int .i64 0]) (pv := [(0, .int .i64 0)]) tS22 rfl rfl (by decide) (by decide) rfl rfl rfl (fun a2 _ => ?_)
  refine .cast (A' := [OwnSl 3 1 a2 (([0] : List Int).length) 1 (flL ([0] : List Int)), OwnSl 3 1 a (([0] : List Int).length) 1 (flL ([0] : List Int)), Box pv [.int .i64 0, .slice none 0 0, .slice none 0 0, .slice none 0 0]]) rfl ?_
  refine .v (bld (cs := #[.slice none 0 0, .slice a2 (([0] : List Int).length) 1, .slice none 0 0, .int .i64 1]) (pv := [(1, .slice a2 (([0] : List Int).length) 1), (3, .int .i64 1)]) tB54 rfl rfl) rfl rfl rfl ?_
  refine .freezeL (k := 0) rfl (fun h1 le1 q4 q3 => ?_)
  refine .cast (A' := [tru, OwnSl 3 1 a (([0] : List Int).length) 1 (flL ([0] : List Int)), Box pv [.int .i64 0, .slice none 0 0, .slice none 0 0, .slice none 0 0]]) rfl ?_
  refine bs2 (cs := #[.slice none 0 0, .slice a2 (([0] : List Int).length) 1, .slice none 0 0, .int .i64 1]) (pv := [(0, .agg #[.slice none 0 0, .slice a2 (([0] : List Int).length) 1, .slice none 0 0, .int .i64 1])]) tS23 rfl rfl (by decide) (by decide) rfl rfl rfl (fun a3 _ => ?_)
  refine .cast (A' := [OwnSl 54 4 a3 (([(⟨[], ([0] : List Int), [], 1⟩ : Operator)] : List Operator).length) 1 [.slice none 0 0, .slice a2 (([0] : List Int).length) 1, .slice none 0 0, .int .i64 1], tru, OwnSl 3 1 a (([0] : List Int).length) 1 (flL ([0] : List Int)), Box pv [.int .i64 0, .slice none 0 0, .slice none 0 0, .slice none 0 0]]) rfl ?_
  refine .v (bld (cs := #[.int .i64 1, .slice none 0 0, .slice a (([0] : List Int).length) 1, .slice a3 (([(⟨[], ([0] : List Int), [], 1⟩ : Operator)] : List Operator).length) 1]) (pv := [(0, .int .i64 1), (2, .slice a (([0] : List Int).length) 1), (3, .slice a3 (([(⟨[], ([0] : List Int), [], 1⟩ : Operator)] : List Operator).length) 1)]) tB25 rfl rfl) rfl rfl rfl ?_
  refine st (p := pv) (off := 0) (k := 3) (vs := [.int .i64 1, .slice none 0 0, .slice a (([0] : List Int).length) 1, .slice a3 (([(⟨[], ([0] : List Int), [], 1⟩ : Operator)] : List Operator).length) 1]) rfl rfl rfl (fun w => (tA25 w).2) rfl rfl rfl rfl ?_
  refine .cast (A' := [OwnSl 54 4 a3 (([(⟨[], ([0] : List Int), [], 1⟩ : Operator)] : List Operator).length) 1 [.slice none 0 0, .slice a2 (([0] : List Int).length) 1, .slice none 0 0, .int .i64 1], tru, OwnSl 3 1 a (([0] : List Int).length) 1 (flL ([0] : List Int)), Box pv [.int .i64 1, .slice none 0 0, .slice a (([0] : List Int).length) 1, .slice a3 (([(⟨[], ([0] : List Int), [], 1⟩ : Operator)] : List Operator).length) 1]]) rfl ?_
  refine .nil ?_
  refine .seqN ?_
  refine .freezeL (k := 0) rfl (fun h2 le2 q7 q6 => ?_)
  refine .cast (A' := [tru, tru, OwnSl 3 1 a (([0] : List Int).length) 1 (flL ([0] : List Int)), Box pv [.int .i64 1, .slice none 0 0, .slice a (([0] : List Int).length) 1, .slice a3 (([(⟨[], ([0] : List Int), [], 1⟩ : Operator)] : List Operator).length) 1]]) rfl ?_
  refine .freezeL (k := 2) rfl (fun h3 le3 q9 q8 => ?_)
  refine .cast (A' := [tru, tru, tru, Box pv [.int .i64 1, .slice none 0 0, .slice a (([0] : List Int).length) 1, .slice a3 (([(⟨[], ([0] : List Int), [], 1⟩ : Operator)] : List Operator).length) 1]]) rfl ?_
  refine .ret ?_
  refine .res1 rfl (rvC rfl tA25 (k := 3) rfl rfl) (fun w' S => ⟨(⟨1, [], ([0] : List Int), ([(⟨[], ([0] : List Int), [], 1⟩ : Operator)] : List Operator)⟩ : Task), (none, 0, a, 1, a3, 1), h3, hF, rfl, (FH.le_trans (FH.le_trans (le1) (le2)) (le3)), ⟨RSl.nil_, (Nat.le_refl 0), (RSl.of q8), (q9), ((show RSl h2 a3 ([(⟨[], ([0] : List Int), [], 1⟩ : Operator)] : List Operator) from ⟨_, (show RepL h1 ([(⟨[], ([0] : List Int), [], 1⟩ : Operator)] : List Operator) [.slice none 0 0, .slice a2 (([0] : List Int).length) 1, .slice none 0 0, .int .i64 1] from ⟨[.slice none 0 0, .slice a2 (([0] : List Int).length) 1, .slice none 0 0, .int .i64 1], _, rfl, ⟨none, 0, a2, 1, none, 0, rfl, ⟨Nat.le_refl 0, RSl.nil_⟩, ⟨(q4), (RSl.of q3)⟩, ⟨Nat.le_refl 0, RSl.nil_⟩⟩, rfl⟩).mono (le2), q6⟩).mono (le3)), (q7)⟩, S.none⟩)

theorem c_able {h : FH} {w : World} (hs : Sub h w) : Calls Tryz.prog 54 #[] w fun e w' => ∃ (z : Option Addr × Nat × Option Addr × Nat × Option Addr × Nat) (h1 : FH), e = .returned (.agg #[.int .i64 (sp_able).facts, .slice z.1 (sp_able).init.length z.2.1, .slice z.2.2.1 (sp_able).goal.length z.2.2.2.1, .slice z.2.2.2.2.1 (sp_able).ops.length z.2.2.2.2.2]) ∧ FH.le h h1 ∧ (RSl h1 z.1 (sp_able).init ∧ (sp_able).init.length ≤ z.2.1 ∧ RSl h1 z.2.2.1 (sp_able).goal ∧ (sp_able).goal.length ≤ z.2.2.2.1 ∧ RSl h1 z.2.2.2.2.1 (sp_able).ops ∧ (sp_able).ops.length ≤ z.2.2.2.2.2) ∧ SH (Kp.all w h) h1 w' [] :=
  (w_able hs  (fun r => r = sp_able) (ok_able )).mono fun _ _ ⟨r, z, h1, hk, he, hl, hf, hS⟩ => by subst hk; exact ⟨z, h1, he, hl, hf, hS⟩

theorem w_succ {h : FH} {w : World} (hs : Sub h w) (t : Task) (at_ : Option Addr) (ct : Nat) (_q1 : RSl h at_ t.init) (_q2 : t.init.length ≤ ct) (at_2 : Option Addr) (ct2 : Nat) (_q3 : RSl h at_2 t.goal) (_q4 : t.goal.length ≤ ct2) (at_3 : Option Addr) (ct3 : Nat) (_q5 : RSl h at_3 t.ops) (_q6 : t.ops.length ≤ ct3) (worlds : List (List Int)) (aworlds : Option Addr) (cworlds : Nat) (_q7 : RSl h aworlds worlds) (_q8 : worlds.length ≤ cworlds) (K : Unit → Prop) (hF : F_succ t worlds K) : Calls Tryz.prog 81 #[.agg #[.int .i64 t.facts, .slice at_ t.init.length ct, .slice at_2 t.goal.length ct2, .slice at_3 t.ops.length ct3], .slice aworlds worlds.length cworlds] w fun e w' => ∃ (r : Unit) (z : Addr × Addr) (h1 : FH), K r ∧ e = .returned (.func (.func 103) #[] #[.pointer (some z.1), .pointer (some z.2)]) ∧ FH.le h h1 ∧ (CellsAt h1 z.1 [.int .i64 t.facts, .slice at_ t.init.length ct, .slice at_2 t.goal.length ct2, .slice at_3 t.ops.length ct3] ∧ CellsAt h1 z.2 [.slice aworlds worlds.length cworlds]) ∧ SH (Kp.all w h) h1 w' [] := by
  refine enter (args := [.agg #[.int .i64 t.facts, .slice at_ t.init.length ct, .slice at_2 t.goal.length ct2, .slice at_3 t.ops.length ct3], .slice aworlds worlds.length cworlds]) Tryz.func81 rfl Tryz.ntmps81 rfl hs ?_
  refine .seq ?_
  refine .region ?_
  refine bx (vs := [.int .i64 t.facts, .slice at_ t.init.length ct, .slice at_2 t.goal.length ct2, .slice at_3 t.ops.length ct3]) rfl rfl rfl (fun pt => ?_)
  refine bx (vs := [.slice aworlds worlds.length cworlds]) rfl rfl rfl (fun pworlds => ?_)
  refine .v (asg rfl) rfl rfl rfl ?_
  refine .nil ?_
  refine .seqN ?_
  refine .seq ?_
  refine .region ?_
  refine .v (mkf (vf := []) (vc := [.pointer (some pt), .pointer (some pworlds)]) rfl rfl) rfl rfl rfl ?_
  refine .v (asg rfl) rfl rfl rfl ?_
  refine .nil ?_
  refine .seqN ?_
  refine .freezeBx (k := 1) rfl (fun h1 le1 q9 => ?_)
  refine .cast (A' := [Box pworlds [.slice aworlds worlds.length cworlds], tru]) rfl ?_
  refine .freezeBx (k := 0) rfl (fun h2 le2 q10 => ?_)
  refine .cast (A' := [tru, tru]) rfl ?_
  refine .ret ?_
  refine .res1 rfl (rvT rfl) (fun w' S => ⟨(), (pt, pworlds), h2, hF, rfl, (FH.le_trans (le1) (le2)), ⟨(CellsAt.mono (le2) q9), (CellsAt.mono (FH.le_refl _) q10)⟩, S.none⟩)

theorem c_succ {h : FH} {w : World} (hs : Sub h w) (t : Task) (at_ : Option Addr) (ct : Nat) (_q1 : RSl h at_ t.init) (_q2 : t.init.length ≤ ct) (at_2 : Option Addr) (ct2 : Nat) (_q3 : RSl h at_2 t.goal) (_q4 : t.goal.length ≤ ct2) (at_3 : Option Addr) (ct3 : Nat) (_q5 : RSl h at_3 t.ops) (_q6 : t.ops.length ≤ ct3) (worlds : List (List Int)) (aworlds : Option Addr) (cworlds : Nat) (_q7 : RSl h aworlds worlds) (_q8 : worlds.length ≤ cworlds) : Calls Tryz.prog 81 #[.agg #[.int .i64 t.facts, .slice at_ t.init.length ct, .slice at_2 t.goal.length ct2, .slice at_3 t.ops.length ct3], .slice aworlds worlds.length cworlds] w fun e w' => ∃ (z : Addr × Addr) (h1 : FH), e = .returned (.func (.func 103) #[] #[.pointer (some z.1), .pointer (some z.2)]) ∧ FH.le h h1 ∧ (CellsAt h1 z.1 [.int .i64 t.facts, .slice at_ t.init.length ct, .slice at_2 t.goal.length ct2, .slice at_3 t.ops.length ct3] ∧ CellsAt h1 z.2 [.slice aworlds worlds.length cworlds]) ∧ SH (Kp.all w h) h1 w' [] :=
  (w_succ hs t at_ ct _q1 _q2 at_2 ct2 _q3 _q4 at_3 ct3 _q5 _q6 worlds aworlds cworlds _q7 _q8 (fun r => r = sp_succ t worlds) (ok_succ t worlds)).mono fun _ _ ⟨r, z, h1, hk, he, hl, hf, hS⟩ => by subst hk; exact ⟨z, h1, he, hl, hf, hS⟩

theorem w_small1 {h : FH} {w : World} (hs : Sub h w) (x : List (List Int)) (ax : Option Addr) (cx : Nat) (_q1 : RSl h ax x) (_q2 : x.length ≤ cx) (K : Bool → Prop) (hF : F_small1 x K) : Calls Tryz.prog 82 #[.slice ax x.length cx] w fun e w' => ∃ r : Bool, K r ∧ e = .returned (.bool r) ∧ Below w.heap.size w w' := by
  refine enter (args := [.slice ax x.length cx]) Tryz.func82 rfl Tryz.ntmps82 rfl hs ?_
  refine .seq ?_
  refine .region ?_
  refine .v (asg rfl) rfl rfl rfl ?_
  refine .nil ?_
  refine .seqN ?_
  refine .seq ?_
  refine .region ?_
  refine .v (asg rfl) rfl rfl rfl ?_
  refine .nil ?_
  refine .seqN ?_
  refine .ret ?_
  refine .res1 rfl (rvT rfl) (fun w' S => ⟨false, hF, rfl, S.below⟩)

theorem c_small1 {h : FH} {w : World} (hs : Sub h w) (x : List (List Int)) (ax : Option Addr) (cx : Nat) (_q1 : RSl h ax x) (_q2 : x.length ≤ cx) : Calls Tryz.prog 82 #[.slice ax x.length cx] w fun e w' => e = .returned (.bool (sp_small1 x)) ∧ Below w.heap.size w w' :=
  (w_small1 hs x ax cx _q1 _q2 (fun r => r = sp_small1 x) (ok_small1 x)).mono fun _ _ ⟨_, hk, he, hb⟩ => ⟨by rw [he, hk], hb⟩

end Go.Proofs.YtojoehfldbimpaaGreatDoor.Pl

/- The walks: from what each function asks to what it does; printed from the code. No condition. -/
namespace Go.Proofs.YtojoehfldbimpaaGreatDoor.Pl
open Go Go.RowKit
theorem w_ccheck {h : FH} {w : World} (hs : Sub h w) (t : Task) (at_ : Option Addr) (ct : Nat) (_q1 : RSl h at_ t.init) (_q2 : t.init.length ≤ ct) (at_2 : Option Addr) (ct2 : Nat) (_q3 : RSl h at_2 t.goal) (_q4 : t.goal.length ≤ ct2) (at_3 : Option Addr) (ct3 : Nat) (_q5 : RSl h at_3 t.ops) (_q6 : t.ops.length ≤ ct3) (unknown : List Int) (aunknown : Option Addr) (cunknown : Nat) (_q7 : RSl h aunknown unknown) (_q8 : unknown.length ≤ cunknown) (sensors : List Int) (asensors : Option Addr) (csensors : Nat) (_q9 : RSl h asensors sensors) (_q10 : sensors.length ≤ csensors) (K : Fault → Prop) (hF : F_ccheck t unknown sensors K) : Calls Tryz.prog 70 #[.agg #[.int .i64 t.facts, .slice at_ t.init.length ct, .slice at_2 t.goal.length ct2, .slice at_3 t.ops.length ct3], .slice aunknown unknown.length cunknown, .slice asensors sensors.length csensors] w fun e w' => ∃ r : Fault, K r ∧ e = .returned (.agg #[.int .i64 r.code, .int .i64 r.index]) ∧ Below w.heap.size w w' := by
  refine enter (args := [.agg #[.int .i64 t.facts, .slice at_ t.init.length ct, .slice at_2 t.goal.length ct2, .slice at_3 t.ops.length ct3], .slice aunknown unknown.length cunknown, .slice asensors sensors.length csensors]) Tryz.func70 rfl Tryz.ntmps70 rfl hs ?_
  refine .seq ?_
  refine .region ?_
  refine bx (vs := [.int .i64 t.facts, .slice at_ t.init.length ct, .slice at_2 t.goal.length ct2, .slice at_3 t.ops.length ct3]) rfl rfl rfl (fun pt => ?_)
  refine al tZ27 rfl (fun pv => ?_)
  refine .nil ?_
  refine .seqN ?_
  refine .seq ?_
  refine .seq ?_
  refine .region ?_
  refine .v (ldA (cs := [.int .i64 t.facts, .slice at_ t.init.length ct, .slice at_2 t.goal.length ct2, .slice at_3 t.ops.length ct3]) rfl tA25 rfl (cellsB (off := 0) (k := 1) rfl (m := 4) rfl)) rfl rfl rfl ?_
  refine .v (mv rfl) rfl rfl rfl ?_
  obtain ⟨r2, q11⟩ : ∃ y_ : Fault, y_ = sp_unknownFault t unknown := ⟨_, rfl⟩
  replace hF := hF r2 q11
  refine .c (cl (v := .agg #[.int .i64 r2.code, .int .i64 r2.index]) Tryz.call45 rfl rfl (fun w S => (by rw [q11]; exact c_unknownFault S.sub t at_ ct _q1 _q2 at_2 ct2 _q3 _q4 at_3 ct3 _q5 _q6 unknown aunknown cunknown _q7 _q8 ))) rfl rfl rfl ?_
  refine al tZ27 rfl (fun pf => ?_)
  refine st (p := pf) (off := 0) (k := 0) (vs := [.int .i64 r2.code, .int .i64 r2.index]) rfl rfl rfl (fun w => (tA27 w).2) rfl rfl rfl rfl ?_
  refine .cast (A' := [Box pf [.int .i64 r2.code, .int .i64 r2.index], Box pv [.int .i64 0, .int .i64 0], Box pt [.int .i64 t.facts, .slice at_ t.init.length ct, .slice at_2 t.goal.length ct2, .slice at_3 t.ops.length ct3]]) rfl ?_
  refine .nil ?_
  refine .seqN ?_
  refine .seq ?_
  refine .region ?_
  refine .v (ldA (cs := [.int .i64 r2.code, .int .i64 r2.index]) rfl tA27 rfl (cellsB (off := 0) (k := 0) rfl (m := 2) rfl)) rfl rfl rfl ?_
  refine .v (bld (cs := #[.int .i64 0, .int .i64 0]) (pv := []) tB27 rfl rfl) rfl rfl rfl ?_
  refine .v (ne2 tE27 rfl rfl) rfl rfl rfl ?_
  refine .nil ?_
  refine .seqN ?_
  refine .cond rfl (fun q13 => ?_) (fun q13 => ?_)
  · replace hF := hF.1 q13
    refine .seq ?_
    refine .region ?_
    refine .v (ldA (cs := [.int .i64 r2.code, .int .i64 r2.index]) rfl tA27 rfl (cellsB (off := 0) (k := 0) rfl (m := 2) rfl)) rfl rfl rfl ?_
    refine st (p := pv) (off := 0) (k := 1) (vs := [.int .i64 r2.code, .int .i64 r2.index]) rfl rfl rfl (fun w => (tA27 w).2) rfl rfl rfl rfl ?_
    refine .cast (A' := [Box pf [.int .i64 r2.code, .int .i64 r2.index], Box pv [.int .i64 r2.code, .int .i64 r2.index], Box pt [.int .i64 t.facts, .slice at_ t.init.length ct, .slice at_2 t.goal.length ct2, .slice at_3 t.ops.length ct3]]) rfl ?_
    refine .nil ?_
    refine .seqN ?_
    refine .ret ?_
    refine .seqR ?_
    refine .res1 rfl (rvC rfl tA27 (k := 1) rfl rfl) (fun w' S => ⟨r2, hF, rfl, S.below⟩)
  replace hF := hF.2 q13
  refine .skip ?_
  refine .seqN ?_
  refine .seq ?_
  refine .seq ?_
  refine .region ?_
  refine .v (mv rfl) rfl rfl rfl ?_
  refine .v (fa rfl tF25_0) rfl rfl rfl ?_
  refine .v (ld1 rfl tO3 (cellB (off := 0) (k := 2) rfl rfl)) rfl rfl rfl ?_
  obtain ⟨q14, hF⟩ := hF
  obtain ⟨r3, q15⟩ : ∃ y_ : Bool, y_ = sp_isSet sensors t.facts := ⟨_, rfl⟩
  replace hF := hF r3 q15
  refine .c (cl (v := .bool r3) Tryz.call61 rfl rfl (fun w S => (by rw [q15]; exact c_isSet S.sub sensors asensors csensors _q9 _q10 t.facts q14))) rfl rfl rfl ?_
  refine .v (nt rfl) rfl rfl rfl ?_
  refine .nil ?_
  refine .seqN ?_
  refine .cond rfl (fun q17 => ?_) (fun q17 => ?_)
  · replace hF := hF.1 q17
    refine .seq ?_
    refine .region ?_
    refine .v (bld (cs := #[.int .i64 5, .int .i64 (-9)]) (pv := [(0, .int .i64 5), (1, .int .i64 (-9))]) tB27 rfl rfl) rfl rfl rfl ?_
    refine st (p := pv) (off := 0) (k := 1) (vs := [.int .i64 5, .int .i64 (-9)]) rfl rfl rfl (fun w => (tA27 w).2) rfl rfl rfl rfl ?_
    refine .cast (A' := [Box pf [.int .i64 r2.code, .int .i64 r2.index], Box pv [.int .i64 5, .int .i64 (-9)], Box pt [.int .i64 t.facts, .slice at_ t.init.length ct, .slice at_2 t.goal.length ct2, .slice at_3 t.ops.length ct3]]) rfl ?_
    refine .nil ?_
    refine .seqN ?_
    refine .ret ?_
    refine .seqR ?_
    refine .res1 rfl (rvC rfl tA27 (k := 1) rfl rfl) (fun w' S => ⟨(⟨5, (-9)⟩ : Fault), hF, rfl, S.below⟩)
  replace hF := hF.2 q17
  refine .skip ?_
  refine .seqN ?_
  refine .seq ?_
  refine .region ?_
  refine .v (bld (cs := #[.int .i64 0, .int .i64 0]) (pv := []) tB27 rfl rfl) rfl rfl rfl ?_
  refine st (p := pv) (off := 0) (k := 1) (vs := [.int .i64 0, .int .i64 0]) rfl rfl rfl (fun w => (tA27 w).2) rfl rfl rfl rfl ?_
  refine .cast (A' := [Box pf [.int .i64 r2.code, .int .i64 r2.index], Box pv [.int .i64 0, .int .i64 0], Box pt [.int .i64 t.facts, .slice at_ t.init.length ct, .slice at_2 t.goal.length ct2, .slice at_3 t.ops.length ct3]]) rfl ?_
  refine .nil ?_
  refine .seqN ?_
  refine .ret ?_
  refine .res1 rfl (rvC rfl tA27 (k := 1) rfl rfl) (fun w' S => ⟨(⟨0, 0⟩ : Fault), hF, rfl, S.below⟩)

theorem c_ccheck {h : FH} {w : World} (hs : Sub h w) (t : Task) (at_ : Option Addr) (ct : Nat) (_q1 : RSl h at_ t.init) (_q2 : t.init.length ≤ ct) (at_2 : Option Addr) (ct2 : Nat) (_q3 : RSl h at_2 t.goal) (_q4 : t.goal.length ≤ ct2) (at_3 : Option Addr) (ct3 : Nat) (_q5 : RSl h at_3 t.ops) (_q6 : t.ops.length ≤ ct3) (unknown : List Int) (aunknown : Option Addr) (cunknown : Nat) (_q7 : RSl h aunknown unknown) (_q8 : unknown.length ≤ cunknown) (sensors : List Int) (asensors : Option Addr) (csensors : Nat) (_q9 : RSl h asensors sensors) (_q10 : sensors.length ≤ csensors) : Calls Tryz.prog 70 #[.agg #[.int .i64 t.facts, .slice at_ t.init.length ct, .slice at_2 t.goal.length ct2, .slice at_3 t.ops.length ct3], .slice aunknown unknown.length cunknown, .slice asensors sensors.length csensors] w fun e w' => e = .returned (.agg #[.int .i64 (sp_ccheck t unknown sensors).code, .int .i64 (sp_ccheck t unknown sensors).index]) ∧ Below w.heap.size w w' :=
  (w_ccheck hs t at_ ct _q1 _q2 at_2 ct2 _q3 _q4 at_3 ct3 _q5 _q6 unknown aunknown cunknown _q7 _q8 sensors asensors csensors _q9 _q10 (fun r => r = sp_ccheck t unknown sensors) (ok_ccheck t unknown sensors)).mono fun _ _ ⟨_, hk, he, hb⟩ => ⟨by rw [he, hk], hb⟩

set_option maxHeartbeats 8000000 in
theorem w_nodeCode {h : FH} {w : World} (hs : Sub h w) (t : Task) (at_ : Option Addr) (ct : Nat) (_q1 : RSl h at_ t.init) (_q2 : t.init.length ≤ ct) (at_2 : Option Addr) (ct2 : Nat) (_q3 : RSl h at_2 t.goal) (_q4 : t.goal.length ≤ ct2) (at_3 : Option Addr) (ct3 : Nat) (_q5 : RSl h at_3 t.ops) (_q6 : t.ops.length ≤ ct3) (sensors : List Int) (asensors : Option Addr) (csensors : Nat) (_q7 : RSl h asensors sensors) (_q8 : sensors.length ≤ csensors) (n_ : TNode) (i : Int) (K : Int → Prop) (hF : F_nodeCode t sensors n_ i K) : Calls Tryz.prog 77 #[.agg #[.int .i64 t.facts, .slice at_ t.init.length ct, .slice at_2 t.goal.length ct2, .slice at_3 t.ops.length ct3], .slice asensors sensors.length csensors, .agg #[.int .i64 n_.kind, .int .i64 n_.op, .int .i64 n_.fact, .int .i64 n_.yes, .int .i64 n_.no], .int .i64 i] w fun e w' => ∃ r : Int, K r ∧ e = .returned (.int .i64 r) ∧ Below w.heap.size w w' := by
  refine enter (args := [.agg #[.int .i64 t.facts, .slice at_ t.init.length ct, .slice at_2 t.goal.length ct2, .slice at_3 t.ops.length ct3], .slice asensors sensors.length csensors, .agg #[.int .i64 n_.kind, .int .i64 n_.op, .int .i64 n_.fact, .int .i64 n_.yes, .int .i64 n_.no], .int .i64 i]) Tryz.func77 rfl Tryz.ntmps77 rfl hs ?_
  refine .seq ?_
  refine .region ?_
  refine bx (vs := [.int .i64 t.facts, .slice at_ t.init.length ct, .slice at_2 t.goal.length ct2, .slice at_3 t.ops.length ct3]) rfl rfl rfl (fun pt => ?_)
  refine bx (vs := [.int .i64 n_.kind, .int .i64 n_.op, .int .i64 n_.fact, .int .i64 n_.yes, .int .i64 n_.no]) rfl rfl rfl (fun pn => ?_)
  refine .v (asg rfl) rfl rfl rfl ?_
  refine .nil ?_
  refine .seqN ?_
  refine .seq ?_
  refine .region ?_
  refine .v (fa rfl tF102_0) rfl rfl rfl ?_
  refine .v (ld1 rfl tO3 (cellB (off := 0) (k := 0) rfl rfl)) rfl rfl rfl ?_
  refine .v (bld (cs := #[.int .i64 n_.kind, .int .i64 0, .int .i64 0, .int .i64 0, .int .i64 0]) (pv := [(0, .int .i64 n_.kind)]) tB102 rfl rfl) rfl rfl rfl ?_
  refine al tZ102 rfl (fun pwant => ?_)
  refine st (p := pwant) (off := 0) (k := 0) (vs := [.int .i64 n_.kind, .int .i64 0, .int .i64 0, .int .i64 0, .int .i64 0]) rfl rfl rfl (fun w => (tA102 w).2) rfl rfl rfl rfl ?_
  refine .cast (A' := [Box pwant [.int .i64 n_.kind, .int .i64 0, .int .i64 0, .int .i64 0, .int .i64 0], Box pn [.int .i64 n_.kind, .int .i64 n_.op, .int .i64 n_.fact, .int .i64 n_.yes, .int .i64 n_.no], Box pt [.int .i64 t.facts, .slice at_ t.init.length ct, .slice at_2 t.goal.length ct2, .slice at_3 t.ops.length ct3]]) rfl ?_
  refine .nil ?_
  refine .seqN ?_
  refine .seq ?_
  refine .seq ?_
  refine .region ?_
  refine .v (fa rfl tF102_0) rfl rfl rfl ?_
  refine .v (ld1 rfl tO3 (cellB (off := 0) (k := 1) rfl rfl)) rfl rfl rfl ?_
  refine .nil ?_
  refine .seqN ?_
  refine .shareT (σ := Int × Int × Int × Int) (fun z => F_nodeCode_J1 n_ i K z.1 z.2.1 z.2.2.1 z.2.2.2) (fun _ => [(3, .int .i64 i), (6, .pointer (some pn)), (9, .pointer (some pwant))]) (fun z => [Box pn [.int .i64 n_.kind, .int .i64 n_.op, .int .i64 n_.fact, .int .i64 n_.yes, .int .i64 n_.no], Box pwant [.int .i64 n_.kind, .int .i64 z.1, .int .i64 z.2.1, .int .i64 z.2.2.1, .int .i64 z.2.2.2]]) (fun _ => h) ?_ (fun q21 => ?_)
  · rintro ⟨x, x2, x3, x4⟩ hF
    show J _ _ _ _ _ [(3, .int .i64 i), (6, .pointer (some pn)), (9, .pointer (some pwant))] [Box pn [.int .i64 n_.kind, .int .i64 n_.op, .int .i64 n_.fact, .int .i64 n_.yes, .int .i64 n_.no], Box pwant [.int .i64 n_.kind, .int .i64 x, .int .i64 x2, .int .i64 x3, .int .i64 x4]] h
    refine .seq ?_
    refine .share (σ := Bool) (fun z => F_nodeCode_J2 K z) (fun z => [(81, .bool z)]) (fun _ => []) (fun _ => h) ?_ (fun q26 => ?_)
    · rintro t81 hF
      show J _ _ _ _ _ [(81, .bool t81)] [] h
      refine .cond rfl (fun q28 => ?_) (fun q28 => ?_)
      · replace hF := hF.1 q28
        refine .seq ?_
        refine .region ?_
        refine .v (asg rfl) rfl rfl rfl ?_
        refine .nil ?_
        refine .seqN ?_
        refine .ret ?_
        refine .seqR ?_
        refine .res1 rfl (rvT rfl) (fun w' S => ⟨5, hF, rfl, S.below⟩)
      replace hF := hF.2 q28
      refine .skip ?_
      refine .seqN ?_
      refine .seq ?_
      refine .region ?_
      refine .v (asg rfl) rfl rfl rfl ?_
      refine .nil ?_
      refine .seqN ?_
      refine .ret ?_
      refine .res1 rfl (rvT rfl) (fun w' S => ⟨0, hF, rfl, S.below⟩)
    refine .region ?_
    refine .v (ldA (cs := [.int .i64 n_.kind, .int .i64 n_.op, .int .i64 n_.fact, .int .i64 n_.yes, .int .i64 n_.no]) rfl tA102 rfl (cellsB (off := 0) (k := 0) rfl (m := 5) rfl)) rfl rfl rfl ?_
    refine .v (ldA (cs := [.int .i64 n_.kind, .int .i64 x, .int .i64 x2, .int .i64 x3, .int .i64 x4]) rfl tA102 rfl (cellsB (off := 0) (k := 1) rfl (m := 5) rfl)) rfl rfl rfl ?_
    obtain ⟨x5, q29⟩ : ∃ y_ : Bool, y_ = (!((((n_.kind == n_.kind) && (n_.op == x)) && ((n_.fact == x2) && (n_.yes == x3))) && (n_.no == x4))) := ⟨_, rfl⟩
    replace hF := hF x5 q29
    refine .v (v := .bool x5) (by rw [q29]; exact ne5 tE102 rfl rfl) rfl rfl rfl ?_
    refine .v (mv rfl) rfl rfl rfl ?_
    rcases Bool.eq_false_or_eq_true (x5) with q30 | q30
    · replace hF := hF.1 q30
      refine .gS rfl rfl rfl q30 rfl rfl ?_
      refine .gS rfl rfl rfl q30 rfl rfl ?_
      refine .gS rfl rfl rfl q30 rfl rfl ?_
      refine .gS rfl rfl rfl q30 rfl rfl ?_
      refine .gU rfl rfl rfl rfl rfl ?_
      refine .gU rfl rfl rfl rfl rfl ?_
      refine .gU rfl rfl rfl rfl rfl ?_
      refine .gU rfl rfl rfl rfl rfl ?_
      refine .gU rfl rfl rfl rfl rfl ?_
      refine .gU rfl rfl rfl rfl rfl ?_
      refine .gS rfl rfl rfl q30 rfl rfl ?_
      refine .v (pkT rfl q30 rfl) rfl rfl rfl ?_
      refine .v (mv rfl) rfl rfl rfl ?_
      refine .gS rfl rfl rfl rfl rfl rfl ?_
      refine .gS rfl rfl rfl rfl rfl rfl ?_
      refine .gS rfl rfl rfl rfl rfl rfl ?_
      refine .gS rfl rfl rfl rfl rfl rfl ?_
      refine .gU rfl rfl rfl rfl rfl ?_
      refine .gU rfl rfl rfl rfl rfl ?_
      refine .gU rfl rfl rfl rfl rfl ?_
      refine .gU rfl rfl rfl rfl rfl ?_
      refine .gU rfl rfl rfl rfl rfl ?_
      refine .gU rfl rfl rfl rfl rfl ?_
      refine .gU rfl rfl rfl rfl rfl ?_
      refine .gS rfl rfl rfl rfl rfl rfl ?_
      refine .v (pkT rfl rfl rfl) rfl rfl rfl ?_
      refine .nil ?_
      refine .sel0 [] (by decide) rfl ?_
      exact .use q26 true hF (.cons rfl (.nil)) rfl (FH.le_refl _)
    replace hF := hF.2 q30
    refine .gv (fa rfl tF102_0) rfl rfl rfl q30 rfl rfl ?_
    refine .gv (ld1 rfl tO3 (cellB (off := 0) (k := 0) rfl rfl)) rfl rfl rfl q30 rfl rfl ?_
    refine .gv (bi rfl rfl rfl) rfl rfl rfl q30 rfl rfl ?_
    refine .gv (mv rfl) rfl rfl rfl q30 rfl rfl ?_
    rcases Bool.eq_false_or_eq_true (n_.kind != 1) with q31 | q31
    · replace hF := hF.1 q31
      refine .gv (fa rfl tF102_3) rfl rfl rfl q31 rfl rfl ?_
      refine .gv (ld1 rfl tO3 (cellB (off := 3) (k := 0) rfl rfl)) rfl rfl rfl q31 rfl rfl ?_
      refine .gv (fa rfl tF102_4) rfl rfl rfl q31 rfl rfl ?_
      refine .gv (ld1 rfl tO3 (cellB (off := 4) (k := 0) rfl rfl)) rfl rfl rfl q31 rfl rfl ?_
      refine .gv (mn rfl rfl) rfl rfl rfl q31 rfl rfl ?_
      refine .gv (bi rfl rfl rfl) rfl rfl rfl q31 rfl rfl ?_
      refine .gv (pkT rfl q31 rfl) rfl rfl rfl q30 rfl rfl ?_
      refine .v (pkF rfl q30 rfl) rfl rfl rfl ?_
      refine .v (mv rfl) rfl rfl rfl ?_
      rcases Bool.eq_false_or_eq_true (decide ((if n_.no < n_.yes then n_.no else n_.yes) < 0)) with q32 | q32
      · replace hF := hF.1 q32
        refine .gS rfl rfl rfl q32 rfl rfl ?_
        refine .gS rfl rfl rfl q32 rfl rfl ?_
        refine .gS rfl rfl rfl q32 rfl rfl ?_
        refine .gS rfl rfl rfl q32 rfl rfl ?_
        refine .gU rfl rfl rfl rfl rfl ?_
        refine .gU rfl rfl rfl rfl rfl ?_
        refine .gU rfl rfl rfl rfl rfl ?_
        refine .gU rfl rfl rfl rfl rfl ?_
        refine .gU rfl rfl rfl rfl rfl ?_
        refine .gU rfl rfl rfl rfl rfl ?_
        refine .gU rfl rfl rfl rfl rfl ?_
        refine .gS rfl rfl rfl q32 rfl rfl ?_
        refine .v (pkT rfl q32 rfl) rfl rfl rfl ?_
        refine .nil ?_
        refine .sel0 [] (by decide) rfl ?_
        exact .use q26 true hF (.cons rfl (.nil)) rfl (FH.le_refl _)
      replace hF := hF.2 q32
      refine .gv (fa rfl tF102_0) rfl rfl rfl q32 rfl rfl ?_
      refine .gv (ld1 rfl tO3 (cellB (off := 0) (k := 0) rfl rfl)) rfl rfl rfl q32 rfl rfl ?_
      refine .gv (bi rfl rfl rfl) rfl rfl rfl q32 rfl rfl ?_
      refine .gv (mv rfl) rfl rfl rfl q32 rfl rfl ?_
      refine .gv (fa rfl tF102_3) rfl rfl rfl q31 rfl rfl ?_
      refine .gv (ld1 rfl tO3 (cellB (off := 3) (k := 0) rfl rfl)) rfl rfl rfl q31 rfl rfl ?_
      refine .gv (fa rfl tF102_4) rfl rfl rfl q31 rfl rfl ?_
      refine .gv (ld1 rfl tO3 (cellB (off := 4) (k := 0) rfl rfl)) rfl rfl rfl q31 rfl rfl ?_
      refine .gv (mx rfl rfl) rfl rfl rfl q31 rfl rfl ?_
      refine .gv (mv rfl) rfl rfl rfl q31 rfl rfl ?_
      refine .gv (bi rfl rfl rfl) rfl rfl rfl q31 rfl rfl ?_
      refine .gv (pkT rfl q31 rfl) rfl rfl rfl q32 rfl rfl ?_
      refine .v (pkF rfl q32 rfl) rfl rfl rfl ?_
      refine .nil ?_
      refine .sel0 [] (by decide) rfl ?_
      exact .use q26 (decide (i ≤ (if n_.yes < n_.no then n_.no else n_.yes))) hF (.cons rfl (.nil)) rfl (FH.le_refl _)
    replace hF := hF.2 q31
    refine .gS rfl rfl rfl q31 rfl rfl ?_
    refine .gS rfl rfl rfl q31 rfl rfl ?_
    refine .gS rfl rfl rfl q31 rfl rfl ?_
    refine .gS rfl rfl rfl q31 rfl rfl ?_
    refine .gS rfl rfl rfl q31 rfl rfl ?_
    refine .gS rfl rfl rfl q31 rfl rfl ?_
    refine .gv (pkF rfl q31 rfl) rfl rfl rfl q30 rfl rfl ?_
    refine .v (pkF rfl q30 rfl) rfl rfl rfl ?_
    refine .v (mv rfl) rfl rfl rfl ?_
    refine .gv (fa rfl tF102_0) rfl rfl rfl rfl rfl rfl ?_
    refine .gv (ld1 rfl tO3 (cellB (off := 0) (k := 0) rfl rfl)) rfl rfl rfl rfl rfl rfl ?_
    refine .gv (bi rfl rfl rfl) rfl rfl rfl rfl rfl rfl ?_
    refine .gv (mv rfl) rfl rfl rfl rfl rfl rfl ?_
    refine .gS rfl rfl rfl q31 rfl rfl ?_
    refine .gS rfl rfl rfl q31 rfl rfl ?_
    refine .gS rfl rfl rfl q31 rfl rfl ?_
    refine .gS rfl rfl rfl q31 rfl rfl ?_
    refine .gS rfl rfl rfl q31 rfl rfl ?_
    refine .gS rfl rfl rfl q31 rfl rfl ?_
    refine .gS rfl rfl rfl q31 rfl rfl ?_
    refine .gv (pkF rfl q31 rfl) rfl rfl rfl rfl rfl rfl ?_
    refine .v (pkF rfl rfl rfl) rfl rfl rfl ?_
    refine .nil ?_
    refine .sel0 [] (by decide) rfl ?_
    exact .use q26 false hF (.cons rfl (.nil)) rfl (FH.le_refl _)
  refine .block ?_
  refine .seq ?_
  refine .region ?_
  refine .v (bi rfl rfl rfl) rfl rfl rfl ?_
  refine .v (asg rfl) rfl rfl rfl ?_
  refine .nil ?_
  refine .seqN ?_
  refine .cond rfl (fun q33 => ?_) (fun q33 => ?_)
  · replace hF := hF.1 q33
    refine .skip ?_
    refine .blkN ?_
    refine .sel0 [1, 0] (by decide) rfl ?_
    exact .use q21 (0, 0, 0, 0) hF (.cons rfl (.cons rfl (.cons rfl (.nil)))) rfl (FH.le_refl _)
  replace hF := hF.2 q33
  refine .seq ?_
  refine .region ?_
  refine .v (bi rfl rfl rfl) rfl rfl rfl ?_
  refine .v (asg rfl) rfl rfl rfl ?_
  refine .nil ?_
  refine .seqN ?_
  refine .cond rfl (fun q34 => ?_) (fun q34 => ?_)
  · replace hF := hF.1 q34
    refine .seq ?_
    refine .share (σ := Bool) (fun z => F_nodeCode_J3 n_ i K z) (fun z => [(3, .int .i64 i), (6, .pointer (some pn)), (9, .pointer (some pwant)), (29, .bool z)]) (fun _ => [Box pn [.int .i64 n_.kind, .int .i64 n_.op, .int .i64 n_.fact, .int .i64 n_.yes, .int .i64 n_.no], Box pwant [.int .i64 n_.kind, .int .i64 0, .int .i64 0, .int .i64 0, .int .i64 0]]) (fun _ => h) ?_ (fun q36 => ?_)
    · rintro t29 hF
      show J _ _ _ _ _ [(3, .int .i64 i), (6, .pointer (some pn)), (9, .pointer (some pwant)), (29, .bool t29)] [Box pn [.int .i64 n_.kind, .int .i64 n_.op, .int .i64 n_.fact, .int .i64 n_.yes, .int .i64 n_.no], Box pwant [.int .i64 n_.kind, .int .i64 0, .int .i64 0, .int .i64 0, .int .i64 0]] h
      refine .cond rfl (fun q38 => ?_) (fun q38 => ?_)
      · replace hF := hF.1 q38
        refine .seq ?_
        refine .region ?_
        refine .v (asg rfl) rfl rfl rfl ?_
        refine .nil ?_
        refine .seqN ?_
        refine .ret ?_
        refine .seqR ?_
        refine .blkR ?_
        refine .seqR ?_
        refine .res1 rfl (rvT rfl) (fun w' S => ⟨3, hF, rfl, S.below⟩)
      replace hF := hF.2 q38
      refine .skip ?_
      refine .seqN ?_
      refine .openA (s0 := [(3, .int .i64 i), (6, .pointer (some pn)), (9, .pointer (some pwant))]) [0, 1, 2, 3, 4] [(0, .pointer (some (pn.add 1))), (1, .int .i64 n_.op), (2, .pointer (some (pn.add 3))), (3, .int .i64 n_.yes), (4, .pointer (some (pwant.add 1)))] (by kernel_rfl) (.cons rfl (.cons rfl (.cons rfl (.nil)))) [3, 6, 9] [] rfl (by kernel_rfl) ?_
      refine .step [5] 5 rfl (by kernel_rfl) (by kernel_rfl) (.v [] rfl rfl rfl rfl rfl rfl (fun _ => fa rfl tF102_1) (.v [(30, .pointer (some (pn.add 1)))] rfl rfl rfl rfl rfl rfl (fun _ => ld1 rfl tO3 (cellB (off := 1) (k := 0) rfl rfl)) (.v [] rfl rfl rfl rfl rfl rfl (fun _ => fa rfl tF102_3) (.v [(32, .pointer (some (pn.add 3)))] rfl rfl rfl rfl rfl rfl (fun _ => ld1 rfl tO3 (cellB (off := 3) (k := 0) rfl rfl)) (.v [(30, .pointer (some (pn.add 1))), (31, .int .i64 n_.op)] rfl rfl rfl rfl rfl rfl (fun _ => fa rfl tF102_1) (.nil)))))) (.cons [(34, .pointer (some (pwant.add 1))), (31, .int .i64 n_.op), (30, .pointer (some (pn.add 1))), (31, .int .i64 n_.op)] rfl rfl (fun sL hL => ?_) (.nil))
      refine st (p := pwant) (off := 1) (k := 1) (vs := [.int .i64 n_.op]) rfl rfl rfl (fun w => (tO3 w).2) rfl rfl rfl rfl ?_
      refine .cast (A' := [Box pn [.int .i64 n_.kind, .int .i64 n_.op, .int .i64 n_.fact, .int .i64 n_.yes, .int .i64 n_.no], Box pwant [.int .i64 n_.kind, .int .i64 n_.op, .int .i64 0, .int .i64 0, .int .i64 0]]) rfl ?_
      refine .nil ?_
      refine .jaN (M := [4, 1, 0]) (C' := [2, 3, 6]) (pre := [(6, .pointer (some (pwant.add 3)))]) [3, 6, 9] hL rfl rfl rfl rfl rfl (by kernel_rfl) ?_
      refine .step [7] 7 rfl (by kernel_rfl) (by kernel_rfl) (.v [] rfl rfl rfl rfl rfl rfl (fun _ => fa rfl tF102_3) (.v [(32, .pointer (some (pn.add 3)))] rfl rfl rfl rfl rfl rfl (fun _ => ld1 rfl tO3 (cellB (off := 3) (k := 0) rfl rfl)) (.v [(30, .pointer (some (pn.add 1))), (31, .int .i64 n_.op), (32, .pointer (some (pn.add 3))), (33, .int .i64 n_.yes), (34, .pointer (some (pwant.add 1)))] rfl rfl rfl rfl rfl rfl (fun _ => fa rfl tF102_3) (.nil)))) (.cons [(35, .pointer (some (pwant.add 3))), (33, .int .i64 n_.yes), (30, .pointer (some (pn.add 1))), (31, .int .i64 n_.op), (32, .pointer (some (pn.add 3))), (33, .int .i64 n_.yes), (34, .pointer (some (pwant.add 1)))] rfl rfl (fun sL hL => ?_) (.nil))
      refine st (p := pwant) (off := 3) (k := 1) (vs := [.int .i64 n_.yes]) rfl rfl rfl (fun w => (tO3 w).2) rfl rfl rfl rfl ?_
      refine .cast (A' := [Box pn [.int .i64 n_.kind, .int .i64 n_.op, .int .i64 n_.fact, .int .i64 n_.yes, .int .i64 n_.no], Box pwant [.int .i64 n_.kind, .int .i64 n_.op, .int .i64 0, .int .i64 n_.yes, .int .i64 0]]) rfl ?_
      refine .nil ?_
      refine .jaN (M := [6, 3, 2]) (C' := []) (pre := []) [3, 6, 9] hL rfl rfl rfl rfl rfl (by kernel_rfl) ?_
      refine .last [(30, .pointer (some (pn.add 1))), (31, .int .i64 n_.op), (32, .pointer (some (pn.add 3))), (33, .int .i64 n_.yes), (34, .pointer (some (pwant.add 1))), (35, .pointer (some (pwant.add 3)))] rfl (by kernel_rfl) (.nil) rfl ?_
      refine .blkN ?_
      exact .use q21 (n_.op, 0, n_.yes, 0) hF (.cons rfl (.cons rfl (.cons rfl (.nil)))) rfl (FH.le_refl _)
    refine .region ?_
    refine .v (fa rfl tF102_1) rfl rfl rfl ?_
    refine .v (ld1 rfl tO3 (cellB (off := 1) (k := 1) rfl rfl)) rfl rfl rfl ?_
    refine .v (bi rfl rfl rfl) rfl rfl rfl ?_
    refine .v (mv rfl) rfl rfl rfl ?_
    rcases Bool.eq_false_or_eq_true (decide (n_.op < 0)) with q39 | q39
    · replace hF := hF.1 q39
      refine .gS rfl rfl rfl q39 rfl rfl ?_
      refine .gS rfl rfl rfl q39 rfl rfl ?_
      refine .gS rfl rfl rfl q39 rfl rfl ?_
      refine .gS rfl rfl rfl q39 rfl rfl ?_
      refine .gS rfl rfl rfl q39 rfl rfl ?_
      refine .gS rfl rfl rfl q39 rfl rfl ?_
      refine .v (pkT rfl q39 rfl) rfl rfl rfl ?_
      refine .nil ?_
      refine .sel0 [1, 0] (by decide) rfl ?_
      exact .use q36 true hF (.cons rfl (.cons rfl (.cons rfl (.cons rfl (.nil))))) rfl (FH.le_refl _)
    replace hF := hF.2 q39
    refine .gv (fa rfl tF102_1) rfl rfl rfl q39 rfl rfl ?_
    refine .gv (ld1 rfl tO3 (cellB (off := 1) (k := 1) rfl rfl)) rfl rfl rfl q39 rfl rfl ?_
    refine .gv (fa rfl tF25_3) rfl rfl rfl q39 rfl rfl ?_
    refine .gv (ld1 rfl tO23 (cellB (off := 3) (k := 2) rfl rfl)) rfl rfl rfl q39 rfl rfl ?_
    refine .gv (ln rfl tS23.is) rfl rfl rfl q39 rfl rfl ?_
    refine .gv (bi rfl rfl rfl) rfl rfl rfl q39 rfl rfl ?_
    refine .v (pkF rfl q39 rfl) rfl rfl rfl ?_
    refine .nil ?_
    refine .sel0 [1, 0] (by decide) rfl ?_
    exact .use q36 (decide (((t.ops.length : Nat) : Int) ≤ n_.op)) hF (.cons rfl (.cons rfl (.cons rfl (.cons rfl (.nil))))) rfl (FH.le_refl _)
  replace hF := hF.2 q34
  refine .seq ?_
  refine .region ?_
  refine .v (bi rfl rfl rfl) rfl rfl rfl ?_
  refine .v (asg rfl) rfl rfl rfl ?_
  refine .nil ?_
  refine .seqN ?_
  refine .cond rfl (fun q40 => ?_) (fun q40 => ?_)
  · replace hF := hF.1 q40
    refine .seq ?_
    refine .seq ?_
    refine .region ?_
    refine .v (mv rfl) rfl rfl rfl ?_
    refine .v (fa rfl tF102_2) rfl rfl rfl ?_
    refine .v (ld1 rfl tO3 (cellB (off := 2) (k := 1) rfl rfl)) rfl rfl rfl ?_
    obtain ⟨q41, hF⟩ := hF
    obtain ⟨r2, q42⟩ : ∃ y_ : Bool, y_ = sp_contains sensors n_.fact := ⟨_, rfl⟩
    replace hF := hF r2 q42
    refine .c (cl (v := .bool r2) Tryz.call101 rfl rfl (fun w S => (by rw [q42]; exact c_contains S.sub sensors asensors csensors _q7 _q8 n_.fact q41))) rfl rfl rfl ?_
    refine .v (nt rfl) rfl rfl rfl ?_
    refine .nil ?_
    refine .seqN ?_
    refine .cond rfl (fun q44 => ?_) (fun q44 => ?_)
    · replace hF := hF.1 q44
      refine .seq ?_
      refine .region ?_
      refine .v (asg rfl) rfl rfl rfl ?_
      refine .nil ?_
      refine .seqN ?_
      refine .ret ?_
      refine .seqR ?_
      refine .blkR ?_
      refine .seqR ?_
      refine .res1 rfl (rvT rfl) (fun w' S => ⟨6, hF, rfl, S.below⟩)
    replace hF := hF.2 q44
    refine .skip ?_
    refine .seqN ?_
    refine .openA (s0 := [(3, .int .i64 i), (6, .pointer (some pn)), (9, .pointer (some pwant))]) [0, 1, 2, 3, 4, 5, 6] [(0, .pointer (some (pn.add 2))), (1, .int .i64 n_.fact), (2, .pointer (some (pn.add 3))), (3, .int .i64 n_.yes), (4, .pointer (some (pn.add 4))), (5, .int .i64 n_.no), (6, .pointer (some (pwant.add 2)))] (by kernel_rfl) (.cons rfl (.cons rfl (.cons rfl (.nil)))) [3, 6, 9] [] rfl (by kernel_rfl) ?_
    refine .step [7] 7 rfl (by kernel_rfl) (by kernel_rfl) (.v [] rfl rfl rfl rfl rfl rfl (fun _ => fa rfl tF102_2) (.v [(43, .pointer (some (pn.add 2)))] rfl rfl rfl rfl rfl rfl (fun _ => ld1 rfl tO3 (cellB (off := 2) (k := 1) rfl rfl)) (.v [] rfl rfl rfl rfl rfl rfl (fun _ => fa rfl tF102_3) (.v [(45, .pointer (some (pn.add 3)))] rfl rfl rfl rfl rfl rfl (fun _ => ld1 rfl tO3 (cellB (off := 3) (k := 1) rfl rfl)) (.v [] rfl rfl rfl rfl rfl rfl (fun _ => fa rfl tF102_4) (.v [(47, .pointer (some (pn.add 4)))] rfl rfl rfl rfl rfl rfl (fun _ => ld1 rfl tO3 (cellB (off := 4) (k := 1) rfl rfl)) (.v [(43, .pointer (some (pn.add 2))), (44, .int .i64 n_.fact)] rfl rfl rfl rfl rfl rfl (fun _ => fa rfl tF102_2) (.nil)))))))) (.cons [(49, .pointer (some (pwant.add 2))), (44, .int .i64 n_.fact), (43, .pointer (some (pn.add 2))), (44, .int .i64 n_.fact)] rfl rfl (fun sL hL => ?_) (.nil))
    refine st (p := pwant) (off := 2) (k := 0) (vs := [.int .i64 n_.fact]) rfl rfl rfl (fun w => (tO3 w).2) rfl rfl rfl rfl ?_
    refine .cast (A' := [Box pwant [.int .i64 n_.kind, .int .i64 0, .int .i64 n_.fact, .int .i64 0, .int .i64 0], Box pn [.int .i64 n_.kind, .int .i64 n_.op, .int .i64 n_.fact, .int .i64 n_.yes, .int .i64 n_.no], Box pt [.int .i64 t.facts, .slice at_ t.init.length ct, .slice at_2 t.goal.length ct2, .slice at_3 t.ops.length ct3]]) rfl ?_
    refine .nil ?_
    refine .jaN (M := [6, 1, 0]) (C' := [2, 3, 4, 5, 8]) (pre := [(8, .pointer (some (pwant.add 3)))]) [3, 6, 9] hL rfl rfl rfl rfl rfl (by kernel_rfl) ?_
    refine .step [9] 9 rfl (by kernel_rfl) (by kernel_rfl) (.v [] rfl rfl rfl rfl rfl rfl (fun _ => fa rfl tF102_3) (.v [(45, .pointer (some (pn.add 3)))] rfl rfl rfl rfl rfl rfl (fun _ => ld1 rfl tO3 (cellB (off := 3) (k := 1) rfl rfl)) (.v [] rfl rfl rfl rfl rfl rfl (fun _ => fa rfl tF102_4) (.v [(47, .pointer (some (pn.add 4)))] rfl rfl rfl rfl rfl rfl (fun _ => ld1 rfl tO3 (cellB (off := 4) (k := 1) rfl rfl)) (.v [(43, .pointer (some (pn.add 2))), (44, .int .i64 n_.fact), (45, .pointer (some (pn.add 3))), (46, .int .i64 n_.yes), (49, .pointer (some (pwant.add 2)))] rfl rfl rfl rfl rfl rfl (fun _ => fa rfl tF102_3) (.nil)))))) (.cons [(50, .pointer (some (pwant.add 3))), (46, .int .i64 n_.yes), (43, .pointer (some (pn.add 2))), (44, .int .i64 n_.fact), (45, .pointer (some (pn.add 3))), (46, .int .i64 n_.yes), (49, .pointer (some (pwant.add 2)))] rfl rfl (fun sL hL => ?_) (.nil))
    refine st (p := pwant) (off := 3) (k := 0) (vs := [.int .i64 n_.yes]) rfl rfl rfl (fun w => (tO3 w).2) rfl rfl rfl rfl ?_
    refine .cast (A' := [Box pwant [.int .i64 n_.kind, .int .i64 0, .int .i64 n_.fact, .int .i64 n_.yes, .int .i64 0], Box pn [.int .i64 n_.kind, .int .i64 n_.op, .int .i64 n_.fact, .int .i64 n_.yes, .int .i64 n_.no], Box pt [.int .i64 t.facts, .slice at_ t.init.length ct, .slice at_2 t.goal.length ct2, .slice at_3 t.ops.length ct3]]) rfl ?_
    refine .nil ?_
    refine .jaN (M := [8, 3, 2]) (C' := [4, 5, 10]) (pre := [(10, .pointer (some (pwant.add 4)))]) [3, 6, 9] hL rfl rfl rfl rfl rfl (by kernel_rfl) ?_
    refine .step [11] 11 rfl (by kernel_rfl) (by kernel_rfl) (.v [] rfl rfl rfl rfl rfl rfl (fun _ => fa rfl tF102_4) (.v [(47, .pointer (some (pn.add 4)))] rfl rfl rfl rfl rfl rfl (fun _ => ld1 rfl tO3 (cellB (off := 4) (k := 1) rfl rfl)) (.v [(43, .pointer (some (pn.add 2))), (44, .int .i64 n_.fact), (45, .pointer (some (pn.add 3))), (46, .int .i64 n_.yes), (47, .pointer (some (pn.add 4))), (48, .int .i64 n_.no), (49, .pointer (some (pwant.add 2))), (50, .pointer (some (pwant.add 3)))] rfl rfl rfl rfl rfl rfl (fun _ => fa rfl tF102_4) (.nil)))) (.cons [(51, .pointer (some (pwant.add 4))), (48, .int .i64 n_.no), (43, .pointer (some (pn.add 2))), (44, .int .i64 n_.fact), (45, .pointer (some (pn.add 3))), (46, .int .i64 n_.yes), (47, .pointer (some (pn.add 4))), (48, .int .i64 n_.no), (49, .pointer (some (pwant.add 2))), (50, .pointer (some (pwant.add 3)))] rfl rfl (fun sL hL => ?_) (.nil))
    refine st (p := pwant) (off := 4) (k := 0) (vs := [.int .i64 n_.no]) rfl rfl rfl (fun w => (tO3 w).2) rfl rfl rfl rfl ?_
    refine .cast (A' := [Box pwant [.int .i64 n_.kind, .int .i64 0, .int .i64 n_.fact, .int .i64 n_.yes, .int .i64 n_.no], Box pn [.int .i64 n_.kind, .int .i64 n_.op, .int .i64 n_.fact, .int .i64 n_.yes, .int .i64 n_.no], Box pt [.int .i64 t.facts, .slice at_ t.init.length ct, .slice at_2 t.goal.length ct2, .slice at_3 t.ops.length ct3]]) rfl ?_
    refine .nil ?_
    refine .jaN (M := [10, 5, 4]) (C' := []) (pre := []) [3, 6, 9] hL rfl rfl rfl rfl rfl (by kernel_rfl) ?_
    refine .last [(43, .pointer (some (pn.add 2))), (44, .int .i64 n_.fact), (45, .pointer (some (pn.add 3))), (46, .int .i64 n_.yes), (47, .pointer (some (pn.add 4))), (48, .int .i64 n_.no), (49, .pointer (some (pwant.add 2))), (50, .pointer (some (pwant.add 3))), (51, .pointer (some (pwant.add 4)))] rfl (by kernel_rfl) (.nil) rfl ?_
    refine .blkN ?_
    refine .sel0 [1, 0] (by decide) rfl ?_
    exact .use q21 (0, n_.fact, n_.yes, n_.no) hF (.cons rfl (.cons rfl (.cons rfl (.nil)))) rfl (FH.le_refl _)
  replace hF := hF.2 q40
  refine .seq ?_
  refine .region ?_
  refine .v (asg rfl) rfl rfl rfl ?_
  refine .nil ?_
  refine .seqN ?_
  refine .ret ?_
  refine .blkR ?_
  refine .seqR ?_
  refine .res1 rfl (rvT rfl) (fun w' S => ⟨4, hF, rfl, S.below⟩)

theorem c_nodeCode {h : FH} {w : World} (hs : Sub h w) (t : Task) (at_ : Option Addr) (ct : Nat) (_q1 : RSl h at_ t.init) (_q2 : t.init.length ≤ ct) (at_2 : Option Addr) (ct2 : Nat) (_q3 : RSl h at_2 t.goal) (_q4 : t.goal.length ≤ ct2) (at_3 : Option Addr) (ct3 : Nat) (_q5 : RSl h at_3 t.ops) (_q6 : t.ops.length ≤ ct3) (sensors : List Int) (asensors : Option Addr) (csensors : Nat) (_q7 : RSl h asensors sensors) (_q8 : sensors.length ≤ csensors) (n_ : TNode) (i : Int) (hp : pre_nodeCode t sensors n_ i) : Calls Tryz.prog 77 #[.agg #[.int .i64 t.facts, .slice at_ t.init.length ct, .slice at_2 t.goal.length ct2, .slice at_3 t.ops.length ct3], .slice asensors sensors.length csensors, .agg #[.int .i64 n_.kind, .int .i64 n_.op, .int .i64 n_.fact, .int .i64 n_.yes, .int .i64 n_.no], .int .i64 i] w fun e w' => e = .returned (.int .i64 (sp_nodeCode t sensors n_ i)) ∧ Below w.heap.size w w' :=
  (w_nodeCode hs t at_ ct _q1 _q2 at_2 ct2 _q3 _q4 at_3 ct3 _q5 _q6 sensors asensors csensors _q7 _q8 n_ i (fun r => r = sp_nodeCode t sensors n_ i) (ok_nodeCode t sensors n_ i hp)).mono fun _ _ ⟨_, hk, he, hb⟩ => ⟨by rw [he, hk], hb⟩

set_option maxHeartbeats 8000000 in
theorem w_cvalidate {h : FH} {w : World} (hs : Sub h w) (t : Task) (at_ : Option Addr) (ct : Nat) (_q1 : RSl h at_ t.init) (_q2 : t.init.length ≤ ct) (at_2 : Option Addr) (ct2 : Nat) (_q3 : RSl h at_2 t.goal) (_q4 : t.goal.length ≤ ct2) (at_3 : Option Addr) (ct3 : Nat) (_q5 : RSl h at_3 t.ops) (_q6 : t.ops.length ≤ ct3) (sensors : List Int) (asensors : Option Addr) (csensors : Nat) (_q7 : RSl h asensors sensors) (_q8 : sensors.length ≤ csensors) (tree : List TNode) (atree : Option Addr) (ctree : Nat) (_q9 : RSl h atree tree) (_q10 : tree.length ≤ ctree) (K : Fault → Prop) (hF : F_cvalidate t sensors tree K) : Calls Tryz.prog 40 #[.agg #[.int .i64 t.facts, .slice at_ t.init.length ct, .slice at_2 t.goal.length ct2, .slice at_3 t.ops.length ct3], .slice asensors sensors.length csensors, .slice atree tree.length ctree] w fun e w' => ∃ r : Fault, K r ∧ e = .returned (.agg #[.int .i64 r.code, .int .i64 r.index]) ∧ Below w.heap.size w w' := by
  refine enter (args := [.agg #[.int .i64 t.facts, .slice at_ t.init.length ct, .slice at_2 t.goal.length ct2, .slice at_3 t.ops.length ct3], .slice asensors sensors.length csensors, .slice atree tree.length ctree]) Tryz.func40 rfl Tryz.ntmps40 rfl hs ?_
  refine .seq ?_
  refine .region ?_
  refine bx (vs := [.int .i64 t.facts, .slice at_ t.init.length ct, .slice at_2 t.goal.length ct2, .slice at_3 t.ops.length ct3]) rfl rfl rfl (fun pt => ?_)
  refine al tZ27 rfl (fun pv => ?_)
  refine .nil ?_
  refine .seqN ?_
  refine .seq ?_
  refine .seq ?_
  refine .region ?_
  refine .v (ldA (cs := [.int .i64 t.facts, .slice at_ t.init.length ct, .slice at_2 t.goal.length ct2, .slice at_3 t.ops.length ct3]) rfl tA25 rfl (cellsB (off := 0) (k := 1) rfl (m := 4) rfl)) rfl rfl rfl ?_
  refine .v (mv rfl) rfl rfl rfl ?_
  obtain ⟨r2, q11⟩ : ∃ y_ : Fault, y_ = sp_ccheck t [] sensors := ⟨_, rfl⟩
  replace hF := hF r2 q11
  refine .c (cl (v := .agg #[.int .i64 r2.code, .int .i64 r2.index]) Tryz.call70 rfl rfl (fun w S => (by rw [q11]; exact c_ccheck S.sub t at_ ct _q1 _q2 at_2 ct2 _q3 _q4 at_3 ct3 _q5 _q6 [] none 0 RSl.nil_ (Nat.le_refl 0) sensors asensors csensors _q7 _q8 ))) rfl rfl rfl ?_
  refine al tZ27 rfl (fun pf => ?_)
  refine st (p := pf) (off := 0) (k := 0) (vs := [.int .i64 r2.code, .int .i64 r2.index]) rfl rfl rfl (fun w => (tA27 w).2) rfl rfl rfl rfl ?_
  refine .cast (A' := [Box pf [.int .i64 r2.code, .int .i64 r2.index], Box pv [.int .i64 0, .int .i64 0], Box pt [.int .i64 t.facts, .slice at_ t.init.length ct, .slice at_2 t.goal.length ct2, .slice at_3 t.ops.length ct3]]) rfl ?_
  refine .nil ?_
  refine .seqN ?_
  refine .seq ?_
  refine .region ?_
  refine .v (ldA (cs := [.int .i64 r2.code, .int .i64 r2.index]) rfl tA27 rfl (cellsB (off := 0) (k := 0) rfl (m := 2) rfl)) rfl rfl rfl ?_
  refine .v (bld (cs := #[.int .i64 0, .int .i64 0]) (pv := []) tB27 rfl rfl) rfl rfl rfl ?_
  refine .v (ne2 tE27 rfl rfl) rfl rfl rfl ?_
  refine .nil ?_
  refine .seqN ?_
  refine .cond rfl (fun q13 => ?_) (fun q13 => ?_)
  · replace hF := hF.1 q13
    refine .seq ?_
    refine .region ?_
    refine .v (ldA (cs := [.int .i64 r2.code, .int .i64 r2.index]) rfl tA27 rfl (cellsB (off := 0) (k := 0) rfl (m := 2) rfl)) rfl rfl rfl ?_
    refine st (p := pv) (off := 0) (k := 1) (vs := [.int .i64 r2.code, .int .i64 r2.index]) rfl rfl rfl (fun w => (tA27 w).2) rfl rfl rfl rfl ?_
    refine .cast (A' := [Box pf [.int .i64 r2.code, .int .i64 r2.index], Box pv [.int .i64 r2.code, .int .i64 r2.index], Box pt [.int .i64 t.facts, .slice at_ t.init.length ct, .slice at_2 t.goal.length ct2, .slice at_3 t.ops.length ct3]]) rfl ?_
    refine .nil ?_
    refine .seqN ?_
    refine .ret ?_
    refine .seqR ?_
    refine .res1 rfl (rvC rfl tA27 (k := 1) rfl rfl) (fun w' S => ⟨r2, hF, rfl, S.below⟩)
  replace hF := hF.2 q13
  refine .skip ?_
  refine .seqN ?_
  refine .seq ?_
  refine .share (σ := Bool) (fun z => F_cvalidate_J1 t sensors tree K z) (fun z => [(1, .slice asensors sensors.length csensors), (2, .slice atree tree.length ctree), (3, .pointer (some pt)), (6, .pointer (some pv)), (25, .bool z)]) (fun _ => [Box pt [.int .i64 t.facts, .slice at_ t.init.length ct, .slice at_2 t.goal.length ct2, .slice at_3 t.ops.length ct3], Box pv [.int .i64 0, .int .i64 0]]) (fun _ => h) ?_ (fun q15 => ?_)
  · rintro t25 hF
    show J _ _ _ _ _ [(1, .slice asensors sensors.length csensors), (2, .slice atree tree.length ctree), (3, .pointer (some pt)), (6, .pointer (some pv)), (25, .bool t25)] [Box pt [.int .i64 t.facts, .slice at_ t.init.length ct, .slice at_2 t.goal.length ct2, .slice at_3 t.ops.length ct3], Box pv [.int .i64 0, .int .i64 0]] h
    refine .cond rfl (fun q17 => ?_) (fun q17 => ?_)
    · replace hF := hF.1 q17
      refine .seq ?_
      refine .region ?_
      refine .v (bld (cs := #[.int .i64 9, .int .i64 (-1)]) (pv := [(0, .int .i64 9), (1, .int .i64 (-1))]) tB27 rfl rfl) rfl rfl rfl ?_
      refine st (p := pv) (off := 0) (k := 1) (vs := [.int .i64 9, .int .i64 (-1)]) rfl rfl rfl (fun w => (tA27 w).2) rfl rfl rfl rfl ?_
      refine .cast (A' := [Box pt [.int .i64 t.facts, .slice at_ t.init.length ct, .slice at_2 t.goal.length ct2, .slice at_3 t.ops.length ct3], Box pv [.int .i64 9, .int .i64 (-1)]]) rfl ?_
      refine .nil ?_
      refine .seqN ?_
      refine .ret ?_
      refine .seqR ?_
      refine .res1 rfl (rvC rfl tA27 (k := 1) rfl rfl) (fun w' S => ⟨(⟨9, (-1)⟩ : Fault), hF, rfl, S.below⟩)
    replace hF := hF.2 q17
    refine .skip ?_
    refine .seqN ?_
    refine .seq ?_
    refine .seq ?_
    refine .region ?_
    refine .v (mv rfl) rfl rfl rfl ?_
    refine .v (ln rfl tS60.is) rfl rfl rfl ?_
    refine .v (mv rfl) rfl rfl rfl ?_
    refine .nil ?_
    refine .seqN ?_
    refine .block ?_
    obtain ⟨I1, μ1, q95, q96⟩ := hF
    refine .loop' (σ := Int) (fun z => I1 z) (fun z => μ1 z) (fun z => [(1, .slice asensors sensors.length csensors), (3, .pointer (some pt)), (6, .pointer (some pv)), (27, .slice atree tree.length ctree), (28, .int .i64 ((tree.length : Nat) : Int)), (29, .int .i64 z)]) (fun _ => [Box pt [.int .i64 t.facts, .slice at_ t.init.length ct, .slice at_2 t.goal.length ct2, .slice at_3 t.ops.length ct3], Box pv [.int .i64 0, .int .i64 0]]) (fun _ => h) 0 q95 (.cons rfl (.cons rfl (.cons rfl (.cons rfl (.cons rfl (.cons rfl (.nil))))))) rfl (FH.le_refl _) ?_
    rintro t29 q95
    have hF := q96 t29 q95
    show J _ _ _ _ _ [(1, .slice asensors sensors.length csensors), (3, .pointer (some pt)), (6, .pointer (some pv)), (27, .slice atree tree.length ctree), (28, .int .i64 ((tree.length : Nat) : Int)), (29, .int .i64 t29)] [Box pt [.int .i64 t.facts, .slice at_ t.init.length ct, .slice at_2 t.goal.length ct2, .slice at_3 t.ops.length ct3], Box pv [.int .i64 0, .int .i64 0]] h
    refine .seq ?_
    refine .region ?_
    refine .v (bi rfl rfl rfl) rfl rfl rfl ?_
    refine .nil ?_
    refine .seqN ?_
    refine .seq ?_
    refine .cond rfl (fun q99 => ?_) (fun q99 => ?_)
    · replace hF := hF.1 q99
      refine .skip ?_
      refine .seqN ?_
      refine .seq ?_
      refine .block ?_
      refine .seq ?_
      refine .region ?_
      refine .v (mv rfl) rfl rfl rfl ?_
      obtain ⟨q108, hF⟩ := hF
      refine .v (ix rfl rfl tS60 (_q9.ne (by decide) (inb_pos q108)) q108) rfl rfl rfl ?_
      refine .v (ldA (cs := [.int .i64 ((gt tree t29).kind), .int .i64 ((gt tree t29).op), .int .i64 ((gt tree t29).fact), .int .i64 ((gt tree t29).yes), .int .i64 ((gt tree t29).no)]) rfl tA102 rfl (cellsH (_q9.elemF q108 (by decide)))) rfl rfl rfl ?_
      refine al tZ102 rfl (fun pn => ?_)
      refine .v (asg rfl) rfl rfl rfl ?_
      refine st (p := pn) (off := 0) (k := 0) (vs := [.int .i64 ((gt tree t29).kind), .int .i64 ((gt tree t29).op), .int .i64 ((gt tree t29).fact), .int .i64 ((gt tree t29).yes), .int .i64 ((gt tree t29).no)]) rfl rfl rfl (fun w => (tA102 w).2) rfl rfl rfl rfl ?_
      refine .cast (A' := [Box pn [.int .i64 ((gt tree t29).kind), .int .i64 ((gt tree t29).op), .int .i64 ((gt tree t29).fact), .int .i64 ((gt tree t29).yes), .int .i64 ((gt tree t29).no)], Box pt [.int .i64 t.facts, .slice at_ t.init.length ct, .slice at_2 t.goal.length ct2, .slice at_3 t.ops.length ct3], Box pv [.int .i64 0, .int .i64 0]]) rfl ?_
      refine .nil ?_
      refine .seqN ?_
      refine .seq ?_
      refine .region ?_
      refine .v (ldA (cs := [.int .i64 t.facts, .slice at_ t.init.length ct, .slice at_2 t.goal.length ct2, .slice at_3 t.ops.length ct3]) rfl tA25 rfl (cellsB (off := 0) (k := 1) rfl (m := 4) rfl)) rfl rfl rfl ?_
      refine .v (mv rfl) rfl rfl rfl ?_
      refine .v (ldA (cs := [.int .i64 ((gt tree t29).kind), .int .i64 ((gt tree t29).op), .int .i64 ((gt tree t29).fact), .int .i64 ((gt tree t29).yes), .int .i64 ((gt tree t29).no)]) rfl tA102 rfl (cellsB (off := 0) (k := 0) rfl (m := 5) rfl)) rfl rfl rfl ?_
      refine .v (mv rfl) rfl rfl rfl ?_
      obtain ⟨q109, hF⟩ := hF
      obtain ⟨r3, q110⟩ : ∃ y_ : Int, y_ = sp_nodeCode t sensors (gt tree t29) t29 := ⟨_, rfl⟩
      replace hF := hF r3 q110
      refine .c (cl (v := .int .i64 r3) Tryz.call77 rfl rfl (fun w S => (by rw [q110]; exact c_nodeCode S.sub t at_ ct _q1 _q2 at_2 ct2 _q3 _q4 at_3 ct3 _q5 _q6 sensors asensors csensors _q7 _q8 (gt tree t29) t29 q109))) rfl rfl rfl ?_
      refine .v (asg rfl) rfl rfl rfl ?_
      refine .nil ?_
      refine .seqN ?_
      refine .seq ?_
      refine .region ?_
      refine .v (mv rfl) rfl rfl rfl ?_
      refine .v (bi rfl rfl rfl) rfl rfl rfl ?_
      refine .nil ?_
      refine .seqN ?_
      refine .cond rfl (fun q111 => ?_) (fun q111 => ?_)
      · replace hF := hF.1 q111
        refine .seq ?_
        refine .region ?_
        refine .v (mv rfl) rfl rfl rfl ?_
        refine .v (mv rfl) rfl rfl rfl ?_
        refine .v (bld (cs := #[.int .i64 r3, .int .i64 t29]) (pv := [(0, .int .i64 r3), (1, .int .i64 t29)]) tB27 rfl rfl) rfl rfl rfl ?_
        refine st (p := pv) (off := 0) (k := 2) (vs := [.int .i64 r3, .int .i64 t29]) rfl rfl rfl (fun w => (tA27 w).2) rfl rfl rfl rfl ?_
        refine .cast (A' := [Box pn [.int .i64 ((gt tree t29).kind), .int .i64 ((gt tree t29).op), .int .i64 ((gt tree t29).fact), .int .i64 ((gt tree t29).yes), .int .i64 ((gt tree t29).no)], Box pt [.int .i64 t.facts, .slice at_ t.init.length ct, .slice at_2 t.goal.length ct2, .slice at_3 t.ops.length ct3], Box pv [.int .i64 r3, .int .i64 t29]]) rfl ?_
        refine .nil ?_
        refine .seqN ?_
        refine .ret ?_
        refine .blkR ?_
        refine .seqR ?_
        refine .seqR ?_
        refine .blkR ?_
        refine .seqR ?_
        refine .res1 rfl (rvC rfl tA27 (k := 2) rfl rfl) (fun w' S => ⟨(⟨r3, t29⟩ : Fault), hF, rfl, S.below⟩)
      replace hF := hF.2 q111
      refine .skip ?_
      refine .blkN ?_
      refine .seqN ?_
      refine .region ?_
      refine .v (bi rfl rfl rfl) rfl rfl rfl ?_
      refine .v (mv rfl) rfl rfl rfl ?_
      refine .nil ?_
      refine .sel0 [1, 2] (by decide) rfl ?_
      exact .round (IntKind.i64.wrap (t29 + 1)) hF.1 hF.2 (.cons rfl (.cons rfl (.cons rfl (.cons rfl (.cons rfl (.cons rfl (.nil))))))) rfl (FH.le_refl _)
    replace hF := hF.2 q99
    refine .exit ?_
    refine .seqX ?_
    refine .seqX ?_
    refine .blkX ?_
    refine .seqN ?_
    refine .seq ?_
    refine .region ?_
    refine .v (bld (cs := #[.int .i64 0, .int .i64 0]) (pv := []) tB27 rfl rfl) rfl rfl rfl ?_
    refine st (p := pv) (off := 0) (k := 1) (vs := [.int .i64 0, .int .i64 0]) rfl rfl rfl (fun w => (tA27 w).2) rfl rfl rfl rfl ?_
    refine .cast (A' := [Box pt [.int .i64 t.facts, .slice at_ t.init.length ct, .slice at_2 t.goal.length ct2, .slice at_3 t.ops.length ct3], Box pv [.int .i64 0, .int .i64 0]]) rfl ?_
    refine .nil ?_
    refine .seqN ?_
    refine .ret ?_
    refine .res1 rfl (rvC rfl tA27 (k := 1) rfl rfl) (fun w' S => ⟨(⟨0, 0⟩ : Fault), hF, rfl, S.below⟩)
  refine .region ?_
  refine .v (mv rfl) rfl rfl rfl ?_
  refine .v (ln rfl tS60.is) rfl rfl rfl ?_
  refine .v (bi rfl rfl rfl) rfl rfl rfl ?_
  refine .v (mv rfl) rfl rfl rfl ?_
  rcases Bool.eq_false_or_eq_true (((tree.length : Nat) : Int) == 0) with q112 | q112
  · replace hF := hF.1 q112
    refine .gS rfl rfl rfl q112 rfl rfl ?_
    refine .gS rfl rfl rfl q112 rfl rfl ?_
    refine .gS rfl rfl rfl q112 rfl rfl ?_
    refine .v (pkT rfl q112 rfl) rfl rfl rfl ?_
    refine .nil ?_
    refine .sel0 [2, 1] (by decide) rfl ?_
    exact .use q15 true hF (.cons rfl (.cons rfl (.cons rfl (.cons rfl (.cons rfl (.nil)))))) rfl (FH.le_refl _)
  replace hF := hF.2 q112
  refine .gv (mv rfl) rfl rfl rfl q112 rfl rfl ?_
  refine .gv (ln rfl tS60.is) rfl rfl rfl q112 rfl rfl ?_
  refine .gv (bi rfl rfl rfl) rfl rfl rfl q112 rfl rfl ?_
  refine .v (pkF rfl q112 rfl) rfl rfl rfl ?_
  refine .nil ?_
  refine .sel0 [2, 1] (by decide) rfl ?_
  exact .use q15 (decide (60 < ((tree.length : Nat) : Int))) hF (.cons rfl (.cons rfl (.cons rfl (.cons rfl (.cons rfl (.nil)))))) rfl (FH.le_refl _)

theorem c_cvalidate {h : FH} {w : World} (hs : Sub h w) (t : Task) (at_ : Option Addr) (ct : Nat) (_q1 : RSl h at_ t.init) (_q2 : t.init.length ≤ ct) (at_2 : Option Addr) (ct2 : Nat) (_q3 : RSl h at_2 t.goal) (_q4 : t.goal.length ≤ ct2) (at_3 : Option Addr) (ct3 : Nat) (_q5 : RSl h at_3 t.ops) (_q6 : t.ops.length ≤ ct3) (sensors : List Int) (asensors : Option Addr) (csensors : Nat) (_q7 : RSl h asensors sensors) (_q8 : sensors.length ≤ csensors) (tree : List TNode) (atree : Option Addr) (ctree : Nat) (_q9 : RSl h atree tree) (_q10 : tree.length ≤ ctree) : Calls Tryz.prog 40 #[.agg #[.int .i64 t.facts, .slice at_ t.init.length ct, .slice at_2 t.goal.length ct2, .slice at_3 t.ops.length ct3], .slice asensors sensors.length csensors, .slice atree tree.length ctree] w fun e w' => e = .returned (.agg #[.int .i64 (sp_cvalidate t sensors tree).code, .int .i64 (sp_cvalidate t sensors tree).index]) ∧ Below w.heap.size w w' :=
  (w_cvalidate hs t at_ ct _q1 _q2 at_2 ct2 _q3 _q4 at_3 ct3 _q5 _q6 sensors asensors csensors _q7 _q8 tree atree ctree _q9 _q10 (fun r => r = sp_cvalidate t sensors tree) (ok_cvalidate t sensors tree)).mono fun _ _ ⟨_, hk, he, hb⟩ => ⟨by rw [he, hk], hb⟩

end Go.Proofs.YtojoehfldbimpaaGreatDoor.Pl

/- The walks: from what each function asks to what it does; printed from the code. No condition. -/
namespace Go.Proofs.YtojoehfldbimpaaGreatDoor.Pl
open Go Go.RowKit
set_option maxHeartbeats 8000000 in
theorem w_deep {h : FH} {w : World} (hs : Sub h w) (tree : List TNode) (atree : Option Addr) (ctree : Nat) (_q1 : RSl h atree tree) (_q2 : tree.length ≤ ctree) (K : Int → Prop) (hF : F_deep tree K) : Calls Tryz.prog 74 #[.slice atree tree.length ctree] w fun e w' => ∃ r : Int, K r ∧ e = .returned (.int .i64 r) ∧ Below w.heap.size w w' := by
  refine enter (args := [.slice atree tree.length ctree]) Tryz.func74 rfl Tryz.ntmps74 rfl hs ?_
  refine .seq ?_
  refine .region ?_
  refine .v (asg rfl) rfl rfl rfl ?_
  refine .nil ?_
  refine .seqN ?_
  refine .seq ?_
  refine .region ?_
  refine .v (mv rfl) rfl rfl rfl ?_
  refine .v (ln rfl tS60.is) rfl rfl rfl ?_
  obtain ⟨q3, hF⟩ := hF
  refine mk (m := (((tree.length : Nat) : Int)).toNat) (cs' := flL (List.replicate (((tree.length : Nat) : Int)).toNat (0 : Int))) tS22 rfl rfl (Int.toNat_of_nonneg q3.1).symm q3.2.1 q3.2.2 (flL_rep1 rfl _) rfl (fun a c => ?_)
  have q4 : (List.replicate (((tree.length : Nat) : Int)).toNat (0 : Int)).length = (((tree.length : Nat) : Int)).toNat := List.length_replicate
  refine .cast (A' := [OwnSl 3 1 a ((((tree.length : Nat) : Int)).toNat) c (flL (List.replicate (((tree.length : Nat) : Int)).toNat (0 : Int)))]) rfl ?_
  refine .v (asg rfl) rfl rfl rfl ?_
  refine .nil ?_
  refine .seqN ?_
  refine .seq ?_
  refine .seq ?_
  refine .region ?_
  refine .v (mv rfl) rfl rfl rfl ?_
  refine .v (ln rfl tS60.is) rfl rfl rfl ?_
  refine .v (mv rfl) rfl rfl rfl ?_
  refine .nil ?_
  refine .seqN ?_
  refine .block ?_
  obtain ⟨I1, μ1, q174, q175⟩ := hF
  refine .loop' (σ := Int × List Int) (fun z => I1 z.1 z.2 ∧ z.2.length = (((tree.length : Nat) : Int)).toNat) (fun z => μ1 z.1 z.2) (fun z => [(3, .slice a ((((tree.length : Nat) : Int)).toNat) c), (9, .slice atree tree.length ctree), (10, .int .i64 ((tree.length : Nat) : Int)), (11, .int .i64 z.1)]) (fun z => [OwnSl 3 1 a ((((tree.length : Nat) : Int)).toNat) c (flL z.2)]) (fun _ => h) (0, (List.replicate (((tree.length : Nat) : Int)).toNat (0 : Int))) ⟨q174, q4⟩ (.cons rfl (.cons rfl (.cons rfl (.cons rfl (.nil))))) rfl (FH.le_refl _) ?_
  rintro ⟨t11, d⟩ ⟨q174, q141⟩
  have hF := q175 t11 d q174
  show J _ _ _ _ _ [(3, .slice a ((((tree.length : Nat) : Int)).toNat) c), (9, .slice atree tree.length ctree), (10, .int .i64 ((tree.length : Nat) : Int)), (11, .int .i64 t11)] [OwnSl 3 1 a ((((tree.length : Nat) : Int)).toNat) c (flL d)] h
  refine .seq ?_
  refine .region ?_
  refine .v (bi rfl rfl rfl) rfl rfl rfl ?_
  refine .nil ?_
  refine .seqN ?_
  refine .seq ?_
  refine .cond rfl (fun q178 => ?_) (fun q178 => ?_)
  · replace hF := hF.1 q178
    refine .skip ?_
    refine .seqN ?_
    refine .share (σ := List Int) (fun z => F_deep_J1 d z t11 I1 μ1 ∧ z.length = (((tree.length : Nat) : Int)).toNat) (fun _ => [(3, .slice a ((((tree.length : Nat) : Int)).toNat) c), (9, .slice atree tree.length ctree), (10, .int .i64 ((tree.length : Nat) : Int)), (11, .int .i64 t11)]) (fun z => [OwnSl 3 1 a ((((tree.length : Nat) : Int)).toNat) c (flL z)]) (fun _ => h) ?_ (fun q193 => ?_)
    · rintro d3 ⟨hF, q192⟩
      show J _ _ _ _ _ [(3, .slice a ((((tree.length : Nat) : Int)).toNat) c), (9, .slice atree tree.length ctree), (10, .int .i64 ((tree.length : Nat) : Int)), (11, .int .i64 t11)] [OwnSl 3 1 a ((((tree.length : Nat) : Int)).toNat) c (flL d3)] h
      refine .region ?_
      refine .v (bi rfl rfl rfl) rfl rfl rfl ?_
      refine .v (mv rfl) rfl rfl rfl ?_
      refine .nil ?_
      exact .round (IntKind.i64.wrap (t11 + 1), d3) ⟨hF.1, q192⟩ hF.2 (.cons rfl (.cons rfl (.cons rfl (.cons rfl (.nil))))) rfl (FH.le_refl _)
    refine .block ?_
    refine .seq ?_
    refine .region ?_
    refine .v (mv rfl) rfl rfl rfl ?_
    obtain ⟨q194, hF⟩ := hF
    refine .v (ix rfl rfl tS60 (_q1.ne (by decide) (inb_pos q194)) q194) rfl rfl rfl ?_
    refine .v (ldA (cs := [.int .i64 ((gt tree t11).kind), .int .i64 ((gt tree t11).op), .int .i64 ((gt tree t11).fact), .int .i64 ((gt tree t11).yes), .int .i64 ((gt tree t11).no)]) rfl tA102 rfl (cellsH (_q1.elemF q194 (by decide)))) rfl rfl rfl ?_
    refine al tZ102 rfl (fun pn => ?_)
    refine .v (asg rfl) rfl rfl rfl ?_
    refine st (p := pn) (off := 0) (k := 0) (vs := [.int .i64 ((gt tree t11).kind), .int .i64 ((gt tree t11).op), .int .i64 ((gt tree t11).fact), .int .i64 ((gt tree t11).yes), .int .i64 ((gt tree t11).no)]) rfl rfl rfl (fun w => (tA102 w).2) rfl rfl rfl rfl ?_
    refine .cast (A' := [Box pn [.int .i64 ((gt tree t11).kind), .int .i64 ((gt tree t11).op), .int .i64 ((gt tree t11).fact), .int .i64 ((gt tree t11).yes), .int .i64 ((gt tree t11).no)], OwnSl 3 1 a ((((tree.length : Nat) : Int)).toNat) c (flL d)]) rfl ?_
    refine .nil ?_
    refine .seqN ?_
    refine .seq ?_
    refine .region ?_
    refine .v (fa rfl tF102_0) rfl rfl rfl ?_
    refine .v (ld1 rfl tO3 (cellB (off := 0) (k := 0) rfl rfl)) rfl rfl rfl ?_
    refine .nil ?_
    refine .seqN ?_
    refine .block ?_
    refine .seq ?_
    refine .region ?_
    refine .v (bi rfl rfl rfl) rfl rfl rfl ?_
    refine .v (asg rfl) rfl rfl rfl ?_
    refine .nil ?_
    refine .seqN ?_
    refine .cond rfl (fun q195 => ?_) (fun q195 => ?_)
    · replace hF := hF.1 q195
      refine .region ?_
      refine .v (mv rfl) rfl rfl rfl ?_
      refine .v (mv rfl) rfl rfl rfl ?_
      refine .v (mv rfl) rfl rfl rfl ?_
      refine .v (fa rfl tF102_3) rfl rfl rfl ?_
      refine .v (ld1 rfl tO3 (cellB (off := 3) (k := 0) rfl rfl)) rfl rfl rfl ?_
      obtain ⟨q196, hF⟩ := hF
      refine .v (ixS rfl rfl tS22 (k := 1) rfl (inb_n q196 q141)) rfl rfl rfl ?_
      refine .v (ld1 (v := .int .i64 (gt d ((gt tree t11).yes))) rfl tO3 (cellS (k := 1) rfl (flL_get q196 (j := 0) rfl))) rfl rfl rfl ?_
      refine .v (bi rfl rfl rfl) rfl rfl rfl ?_
      obtain ⟨q197, hF⟩ := hF
      refine .v (ixS rfl rfl tS22 (k := 1) rfl (inb_n q197 q141)) rfl rfl rfl ?_
      obtain ⟨d4, q198⟩ : ∃ y_ : List Int, y_ = (d.set (t11).toNat (IntKind.i64.wrap (1 + (gt d ((gt tree t11).yes))))) := ⟨_, rfl⟩
      replace hF := hF d4 q198
      refine stS (k := 1) (cs' := flL d4) rfl (fun _ => rfl) rfl rfl (fun w => (tO3 w).2) rfl rfl rfl (by rw [← q141]; exact inb_pos q197) (fl_room q197) (by rw [q198]; exact flL_set q197 (IntKind.i64.wrap (1 + (gt d ((gt tree t11).yes))))) ?_
      have q199 : d4.length = (((tree.length : Nat) : Int)).toNat := by rw [q198]; exact List.length_set.trans q141
      refine .cast (A' := [Box pn [.int .i64 ((gt tree t11).kind), .int .i64 ((gt tree t11).op), .int .i64 ((gt tree t11).fact), .int .i64 ((gt tree t11).yes), .int .i64 ((gt tree t11).no)], OwnSl 3 1 a ((((tree.length : Nat) : Int)).toNat) c (flL d4)]) rfl ?_
      refine .nil ?_
      refine .blkN ?_
      refine .blkN ?_
      refine .sel0 [1] (by decide) rfl ?_
      exact .use q193 d4 ⟨hF, q199⟩ (.cons rfl (.cons rfl (.cons rfl (.cons rfl (.nil))))) rfl (FH.le_refl _)
    replace hF := hF.2 q195
    refine .seq ?_
    refine .region ?_
    refine .v (bi rfl rfl rfl) rfl rfl rfl ?_
    refine .v (asg rfl) rfl rfl rfl ?_
    refine .nil ?_
    refine .seqN ?_
    refine .cond rfl (fun q200 => ?_) (fun q200 => ?_)
    · replace hF := hF.1 q200
      refine .openL (by kernel_rfl) rfl (by kernel_rfl) (by kernel_rfl) ?_
      refine .v (mv rfl) rfl rfl rfl ?_
      refine .v (mv rfl) rfl rfl rfl ?_
      refine .v (mv rfl) rfl rfl rfl ?_
      refine .v (fa rfl tF102_3) rfl rfl rfl ?_
      refine .v (ld1 rfl tO3 (cellB (off := 3) (k := 0) rfl rfl)) rfl rfl rfl ?_
      obtain ⟨q201, hF⟩ := hF
      refine .v (ixS rfl rfl tS22 (k := 1) rfl (inb_n q201 q141)) rfl rfl rfl ?_
      refine .v (ld1 (v := .int .i64 (gt d ((gt tree t11).yes))) rfl tO3 (cellS (k := 1) rfl (flL_get q201 (j := 0) rfl))) rfl rfl rfl ?_
      refine .v (mv rfl) rfl rfl rfl ?_
      refine .v (fa rfl tF102_4) rfl rfl rfl ?_
      refine .v (ld1 rfl tO3 (cellB (off := 4) (k := 0) rfl rfl)) rfl rfl rfl ?_
      obtain ⟨q202, hF⟩ := hF
      refine .v (ixS rfl rfl tS22 (k := 1) rfl (inb_n q202 q141)) rfl rfl rfl ?_
      refine .v (ld1 (v := .int .i64 (gt d ((gt tree t11).no))) rfl tO3 (cellS (k := 1) rfl (flL_get q202 (j := 0) rfl))) rfl rfl rfl ?_
      obtain ⟨x, q203⟩ : ∃ y_ : Int, y_ = (if (gt d ((gt tree t11).yes)) < (gt d ((gt tree t11).no)) then (gt d ((gt tree t11).no)) else (gt d ((gt tree t11).yes))) := ⟨_, rfl⟩
      replace hF := hF x q203
      refine .v (v := .int .i64 x) (by rw [q203]; exact mx rfl rfl) rfl rfl rfl ?_
      refine .v (bi rfl rfl rfl) rfl rfl rfl ?_
      obtain ⟨q204, hF⟩ := hF
      refine .v (ixS rfl rfl tS22 (k := 1) rfl (inb_n q204 q141)) rfl rfl rfl ?_
      refine .tail ?_
      obtain ⟨d5, q205⟩ : ∃ y_ : List Int, y_ = (d.set (t11).toNat (IntKind.i64.wrap (1 + x))) := ⟨_, rfl⟩
      replace hF := hF d5 q205
      refine stS (k := 1) (cs' := flL d5) rfl (fun _ => rfl) rfl rfl (fun w => (tO3 w).2) rfl rfl rfl (by rw [← q141]; exact inb_pos q204) (fl_room q204) (by rw [q205]; exact flL_set q204 (IntKind.i64.wrap (1 + x))) ?_
      have q206 : d5.length = (((tree.length : Nat) : Int)).toNat := by rw [q205]; exact List.length_set.trans q141
      refine .cast (A' := [Box pn [.int .i64 ((gt tree t11).kind), .int .i64 ((gt tree t11).op), .int .i64 ((gt tree t11).fact), .int .i64 ((gt tree t11).yes), .int .i64 ((gt tree t11).no)], OwnSl 3 1 a ((((tree.length : Nat) : Int)).toNat) c (flL d5)]) rfl ?_
      refine .nil ?_
      refine .blkN ?_
      refine .blkN ?_
      refine .sel0 [1] (by decide) rfl ?_
      exact .use q193 d5 ⟨hF, q206⟩ (.cons rfl (.cons rfl (.cons rfl (.cons rfl (.nil))))) rfl (FH.le_refl _)
    replace hF := hF.2 q200
    refine .skip ?_
    refine .blkN ?_
    refine .blkN ?_
    refine .sel0 [1] (by decide) rfl ?_
    exact .use q193 d ⟨hF, q141⟩ (.cons rfl (.cons rfl (.cons rfl (.cons rfl (.nil))))) rfl (FH.le_refl _)
  replace hF := hF.2 q178
  refine .exit ?_
  refine .seqX ?_
  refine .seqX ?_
  refine .blkX ?_
  refine .seqN ?_
  refine .seq ?_
  refine .region ?_
  refine .v (mv rfl) rfl rfl rfl ?_
  refine .v (mv rfl) rfl rfl rfl ?_
  refine .v (ln rfl tS22.is) rfl rfl rfl ?_
  obtain ⟨x2, q207⟩ : ∃ y_ : Int, y_ = (IntKind.i64.wrap ((((((tree.length : Nat) : Int)).toNat : Nat) : Int) - 1)) := ⟨_, rfl⟩
  replace hF := hF x2 q207
  refine .v (v := .int .i64 x2) (by rw [q207]; exact bi rfl rfl rfl) rfl rfl rfl ?_
  obtain ⟨q208, hF⟩ := hF
  refine .v (ixS rfl rfl tS22 (k := 0) rfl (inb_n q208 q141)) rfl rfl rfl ?_
  refine .v (ld1 (v := .int .i64 (gt d x2)) rfl tO3 (cellS (k := 0) rfl (flL_get q208 (j := 0) rfl))) rfl rfl rfl ?_
  refine .v (asg rfl) rfl rfl rfl ?_
  refine .nil ?_
  refine .seqN ?_
  refine .ret ?_
  refine .res1 rfl (rvT rfl) (fun w' S => ⟨(gt d x2), hF, rfl, S.below⟩)

theorem c_deep {h : FH} {w : World} (hs : Sub h w) (tree : List TNode) (atree : Option Addr) (ctree : Nat) (_q1 : RSl h atree tree) (_q2 : tree.length ≤ ctree) (hp : pre_deep tree) : Calls Tryz.prog 74 #[.slice atree tree.length ctree] w fun e w' => e = .returned (.int .i64 (sp_deep tree)) ∧ Below w.heap.size w w' :=
  (w_deep hs tree atree ctree _q1 _q2 (fun r => r = sp_deep tree) (ok_deep tree hp)).mono fun _ _ ⟨_, hk, he, hb⟩ => ⟨by rw [he, hk], hb⟩

theorem w_depth {h : FH} {w : World} (hs : Sub h w) (t : Task) (at_ : Option Addr) (ct : Nat) (_q1 : RSl h at_ t.init) (_q2 : t.init.length ≤ ct) (at_2 : Option Addr) (ct2 : Nat) (_q3 : RSl h at_2 t.goal) (_q4 : t.goal.length ≤ ct2) (at_3 : Option Addr) (ct3 : Nat) (_q5 : RSl h at_3 t.ops) (_q6 : t.ops.length ≤ ct3) (sensors : List Int) (asensors : Option Addr) (csensors : Nat) (_q7 : RSl h asensors sensors) (_q8 : sensors.length ≤ csensors) (tree : List TNode) (atree : Option Addr) (ctree : Nat) (_q9 : RSl h atree tree) (_q10 : tree.length ≤ ctree) (K : (Int × Fault) → Prop) (hF : F_depth t sensors tree K) : Calls Tryz.prog 37 #[.agg #[.int .i64 t.facts, .slice at_ t.init.length ct, .slice at_2 t.goal.length ct2, .slice at_3 t.ops.length ct3], .slice asensors sensors.length csensors, .slice atree tree.length ctree] w fun e w' => ∃ r : Int × Fault, K r ∧ e = .returned (.tuple #[.int .i64 r.1, .agg #[.int .i64 r.2.code, .int .i64 r.2.index]]) ∧ Below w.heap.size w w' := by
  refine enter (args := [.agg #[.int .i64 t.facts, .slice at_ t.init.length ct, .slice at_2 t.goal.length ct2, .slice at_3 t.ops.length ct3], .slice asensors sensors.length csensors, .slice atree tree.length ctree]) Tryz.func37 rfl Tryz.ntmps37 rfl hs ?_
  refine .seq ?_
  refine .region ?_
  refine bx (vs := [.int .i64 t.facts, .slice at_ t.init.length ct, .slice at_2 t.goal.length ct2, .slice at_3 t.ops.length ct3]) rfl rfl rfl (fun pt => ?_)
  refine .v (asg rfl) rfl rfl rfl ?_
  refine al tZ27 rfl (fun pv => ?_)
  refine .nil ?_
  refine .seqN ?_
  refine .seq ?_
  refine .seq ?_
  refine .region ?_
  refine .v (ldA (cs := [.int .i64 t.facts, .slice at_ t.init.length ct, .slice at_2 t.goal.length ct2, .slice at_3 t.ops.length ct3]) rfl tA25 rfl (cellsB (off := 0) (k := 1) rfl (m := 4) rfl)) rfl rfl rfl ?_
  refine .v (mv rfl) rfl rfl rfl ?_
  refine .v (mv rfl) rfl rfl rfl ?_
  obtain ⟨r2, q11⟩ : ∃ y_ : Fault, y_ = sp_cvalidate t sensors tree := ⟨_, rfl⟩
  replace hF := hF r2 q11
  refine .c (cl (v := .agg #[.int .i64 r2.code, .int .i64 r2.index]) Tryz.call40 rfl rfl (fun w S => (by rw [q11]; exact c_cvalidate S.sub t at_ ct _q1 _q2 at_2 ct2 _q3 _q4 at_3 ct3 _q5 _q6 sensors asensors csensors _q7 _q8 tree atree ctree _q9 _q10 ))) rfl rfl rfl ?_
  refine al tZ27 rfl (fun pf => ?_)
  refine st (p := pf) (off := 0) (k := 0) (vs := [.int .i64 r2.code, .int .i64 r2.index]) rfl rfl rfl (fun w => (tA27 w).2) rfl rfl rfl rfl ?_
  refine .cast (A' := [Box pf [.int .i64 r2.code, .int .i64 r2.index], Box pv [.int .i64 0, .int .i64 0], Box pt [.int .i64 t.facts, .slice at_ t.init.length ct, .slice at_2 t.goal.length ct2, .slice at_3 t.ops.length ct3]]) rfl ?_
  refine .nil ?_
  refine .seqN ?_
  refine .seq ?_
  refine .region ?_
  refine .v (ldA (cs := [.int .i64 r2.code, .int .i64 r2.index]) rfl tA27 rfl (cellsB (off := 0) (k := 0) rfl (m := 2) rfl)) rfl rfl rfl ?_
  refine .v (bld (cs := #[.int .i64 0, .int .i64 0]) (pv := []) tB27 rfl rfl) rfl rfl rfl ?_
  refine .v (ne2 tE27 rfl rfl) rfl rfl rfl ?_
  refine .nil ?_
  refine .seqN ?_
  refine .cond rfl (fun q13 => ?_) (fun q13 => ?_)
  · replace hF := hF.1 q13
    refine .seq ?_
    refine .openL (by kernel_rfl) rfl (by kernel_rfl) (by kernel_rfl) ?_
    refine .v (ldA (cs := [.int .i64 r2.code, .int .i64 r2.index]) rfl tA27 rfl (cellsB (off := 0) (k := 0) rfl (m := 2) rfl)) rfl rfl rfl ?_
    refine .v (asg rfl) rfl rfl rfl ?_
    refine .tail ?_
    refine st (p := pv) (off := 0) (k := 1) (vs := [.int .i64 r2.code, .int .i64 r2.index]) rfl rfl rfl (fun w => (tA27 w).2) rfl rfl rfl rfl ?_
    refine .cast (A' := [Box pf [.int .i64 r2.code, .int .i64 r2.index], Box pv [.int .i64 r2.code, .int .i64 r2.index], Box pt [.int .i64 t.facts, .slice at_ t.init.length ct, .slice at_2 t.goal.length ct2, .slice at_3 t.ops.length ct3]]) rfl ?_
    refine .nil ?_
    refine .seqN ?_
    refine .ret ?_
    refine .seqR ?_
    refine .res2 rfl (rvT rfl) (rvC rfl tA27 (k := 1) rfl rfl) (fun w' S => ⟨(0, r2), hF, rfl, S.below⟩)
  replace hF := hF.2 q13
  refine .skip ?_
  refine .seqN ?_
  refine .seq ?_
  refine .region ?_
  refine .v (mv rfl) rfl rfl rfl ?_
  obtain ⟨q14, hF⟩ := hF
  obtain ⟨r3, q15⟩ : ∃ y_ : Int, y_ = sp_deep tree := ⟨_, rfl⟩
  replace hF := hF r3 q15
  refine .c (cl (v := .int .i64 r3) Tryz.call74 rfl rfl (fun w S => (by rw [q15]; exact c_deep S.sub tree atree ctree _q9 _q10 q14))) rfl rfl rfl ?_
  refine .v (bld (cs := #[.int .i64 0, .int .i64 0]) (pv := []) tB27 rfl rfl) rfl rfl rfl ?_
  refine .v (asg rfl) rfl rfl rfl ?_
  refine st (p := pv) (off := 0) (k := 1) (vs := [.int .i64 0, .int .i64 0]) rfl rfl rfl (fun w => (tA27 w).2) rfl rfl rfl rfl ?_
  refine .cast (A' := [Box pf [.int .i64 r2.code, .int .i64 r2.index], Box pv [.int .i64 0, .int .i64 0], Box pt [.int .i64 t.facts, .slice at_ t.init.length ct, .slice at_2 t.goal.length ct2, .slice at_3 t.ops.length ct3]]) rfl ?_
  refine .nil ?_
  refine .seqN ?_
  refine .ret ?_
  refine .res2 rfl (rvT rfl) (rvC rfl tA27 (k := 1) rfl rfl) (fun w' S => ⟨(r3, (⟨0, 0⟩ : Fault)), hF, rfl, S.below⟩)

theorem c_depth {h : FH} {w : World} (hs : Sub h w) (t : Task) (at_ : Option Addr) (ct : Nat) (_q1 : RSl h at_ t.init) (_q2 : t.init.length ≤ ct) (at_2 : Option Addr) (ct2 : Nat) (_q3 : RSl h at_2 t.goal) (_q4 : t.goal.length ≤ ct2) (at_3 : Option Addr) (ct3 : Nat) (_q5 : RSl h at_3 t.ops) (_q6 : t.ops.length ≤ ct3) (sensors : List Int) (asensors : Option Addr) (csensors : Nat) (_q7 : RSl h asensors sensors) (_q8 : sensors.length ≤ csensors) (tree : List TNode) (atree : Option Addr) (ctree : Nat) (_q9 : RSl h atree tree) (_q10 : tree.length ≤ ctree) : Calls Tryz.prog 37 #[.agg #[.int .i64 t.facts, .slice at_ t.init.length ct, .slice at_2 t.goal.length ct2, .slice at_3 t.ops.length ct3], .slice asensors sensors.length csensors, .slice atree tree.length ctree] w fun e w' => e = .returned (.tuple #[.int .i64 (sp_depth t sensors tree).1, .agg #[.int .i64 (sp_depth t sensors tree).2.code, .int .i64 (sp_depth t sensors tree).2.index]]) ∧ Below w.heap.size w w' :=
  (w_depth hs t at_ ct _q1 _q2 at_2 ct2 _q3 _q4 at_3 ct3 _q5 _q6 sensors asensors csensors _q7 _q8 tree atree ctree _q9 _q10 (fun r => r = sp_depth t sensors tree) (ok_depth t sensors tree)).mono fun _ _ ⟨_, hk, he, hb⟩ => ⟨by rw [he, hk], hb⟩

set_option maxHeartbeats 8000000 in
theorem w_crun {h : FH} {w : World} (hs : Sub h w) (t : Task) (at_ : Option Addr) (ct : Nat) (_q1 : RSl h at_ t.init) (_q2 : t.init.length ≤ ct) (at_2 : Option Addr) (ct2 : Nat) (_q3 : RSl h at_2 t.goal) (_q4 : t.goal.length ≤ ct2) (at_3 : Option Addr) (ct3 : Nat) (_q5 : RSl h at_3 t.ops) (_q6 : t.ops.length ≤ ct3) (tree : List TNode) (atree : Option Addr) (ctree : Nat) (_q7 : RSl h atree tree) (_q8 : tree.length ≤ ctree) (s_ : List Int) (as_ : Option Addr) (cs_ : Nat) (_q9 : RSl h as_ s_) (_q10 : s_.length ≤ cs_) (K : (List Int × Bool) → Prop) (hF : F_crun t tree s_ K) : Calls Tryz.prog 75 #[.agg #[.int .i64 t.facts, .slice at_ t.init.length ct, .slice at_2 t.goal.length ct2, .slice at_3 t.ops.length ct3], .slice atree tree.length ctree, .slice as_ s_.length cs_] w fun e w' => ∃ (r : List Int × Bool) (z : Option Addr × Nat) (h1 : FH), K r ∧ e = .returned (.tuple #[.slice z.1 r.1.length z.2, .bool r.2]) ∧ FH.le h h1 ∧ (RSl h1 z.1 r.1 ∧ r.1.length ≤ z.2) ∧ SH (Kp.all w h) h1 w' [] := by
  refine enter (args := [.agg #[.int .i64 t.facts, .slice at_ t.init.length ct, .slice at_2 t.goal.length ct2, .slice at_3 t.ops.length ct3], .slice atree tree.length ctree, .slice as_ s_.length cs_]) Tryz.func75 rfl Tryz.ntmps75 rfl hs ?_
  refine .seq ?_
  refine .region ?_
  refine bx (vs := [.int .i64 t.facts, .slice at_ t.init.length ct, .slice at_2 t.goal.length ct2, .slice at_3 t.ops.length ct3]) rfl rfl rfl (fun pt => ?_)
  refine .v (asg rfl) rfl rfl rfl ?_
  refine .v (asg rfl) rfl rfl rfl ?_
  refine .nil ?_
  refine .seqN ?_
  refine .seq ?_
  refine .region ?_
  refine .v (asg rfl) rfl rfl rfl ?_
  refine .nil ?_
  refine .seqN ?_
  refine .seq ?_
  refine .seq ?_
  refine .region ?_
  refine .v (mv rfl) rfl rfl rfl ?_
  refine .v (mv rfl) rfl rfl rfl ?_
  refine .v (ln rfl tS60.is) rfl rfl rfl ?_
  refine .v (bi rfl rfl rfl) rfl rfl rfl ?_
  obtain ⟨q11, hF⟩ := hF
  refine .v (ix rfl rfl tS60 (_q7.ne (by decide) (inb_pos q11)) q11) rfl rfl rfl ?_
  refine .v (ldA (cs := [.int .i64 ((gt tree (IntKind.i64.wrap (((tree.length : Nat) : Int) - 1))).kind), .int .i64 ((gt tree (IntKind.i64.wrap (((tree.length : Nat) : Int) - 1))).op), .int .i64 ((gt tree (IntKind.i64.wrap (((tree.length : Nat) : Int) - 1))).fact), .int .i64 ((gt tree (IntKind.i64.wrap (((tree.length : Nat) : Int) - 1))).yes), .int .i64 ((gt tree (IntKind.i64.wrap (((tree.length : Nat) : Int) - 1))).no)]) rfl tA102 rfl (cellsH (_q7.elemF q11 (by decide)))) rfl rfl rfl ?_
  refine al tZ102 rfl (fun pn => ?_)
  refine st (p := pn) (off := 0) (k := 0) (vs := [.int .i64 ((gt tree (IntKind.i64.wrap (((tree.length : Nat) : Int) - 1))).kind), .int .i64 ((gt tree (IntKind.i64.wrap (((tree.length : Nat) : Int) - 1))).op), .int .i64 ((gt tree (IntKind.i64.wrap (((tree.length : Nat) : Int) - 1))).fact), .int .i64 ((gt tree (IntKind.i64.wrap (((tree.length : Nat) : Int) - 1))).yes), .int .i64 ((gt tree (IntKind.i64.wrap (((tree.length : Nat) : Int) - 1))).no)]) rfl rfl rfl (fun w => (tA102 w).2) rfl rfl rfl rfl ?_
  refine .cast (A' := [Box pn [.int .i64 ((gt tree (IntKind.i64.wrap (((tree.length : Nat) : Int) - 1))).kind), .int .i64 ((gt tree (IntKind.i64.wrap (((tree.length : Nat) : Int) - 1))).op), .int .i64 ((gt tree (IntKind.i64.wrap (((tree.length : Nat) : Int) - 1))).fact), .int .i64 ((gt tree (IntKind.i64.wrap (((tree.length : Nat) : Int) - 1))).yes), .int .i64 ((gt tree (IntKind.i64.wrap (((tree.length : Nat) : Int) - 1))).no)], Box pt [.int .i64 t.facts, .slice at_ t.init.length ct, .slice at_2 t.goal.length ct2, .slice at_3 t.ops.length ct3]]) rfl ?_
  refine .nil ?_
  refine .seqN ?_
  refine .block ?_
  refine .nilSl 3 1 ?_
  refine .cast (A' := [OwnSl 3 1 none (([] : List Int).length) 0 (flL ([] : List Int)), Box pn [.int .i64 ((gt tree (IntKind.i64.wrap (((tree.length : Nat) : Int) - 1))).kind), .int .i64 ((gt tree (IntKind.i64.wrap (((tree.length : Nat) : Int) - 1))).op), .int .i64 ((gt tree (IntKind.i64.wrap (((tree.length : Nat) : Int) - 1))).fact), .int .i64 ((gt tree (IntKind.i64.wrap (((tree.length : Nat) : Int) - 1))).yes), .int .i64 ((gt tree (IntKind.i64.wrap (((tree.length : Nat) : Int) - 1))).no)], Box pt [.int .i64 t.facts, .slice at_ t.init.length ct, .slice at_2 t.goal.length ct2, .slice at_3 t.ops.length ct3]]) rfl ?_
  refine .sel0 [2, 0, 1] (by decide) rfl ?_
  obtain ⟨I1, μ1, q314, q315⟩ := hF
  refine .loop' (σ := List Int × List Int × Int × Int × Int × Int × Int × Option Addr × Nat × Option Addr × Nat × Addr × FH) (fun z => I1 z.1 z.2.1 z.2.2.1 z.2.2.2.1 z.2.2.2.2.1 z.2.2.2.2.2.1 z.2.2.2.2.2.2.1 ∧ RSl z.2.2.2.2.2.2.2.2.2.2.2.2 z.2.2.2.2.2.2.2.1 z.1 ∧ z.1.length ≤ z.2.2.2.2.2.2.2.2.1 ∧ FH.le h z.2.2.2.2.2.2.2.2.2.2.2.2) (fun z => μ1 z.1 z.2.1 z.2.2.1 z.2.2.2.1 z.2.2.2.2.1 z.2.2.2.2.2.1 z.2.2.2.2.2.2.1) (fun z => [(1, .slice atree tree.length ctree), (2, .slice z.2.2.2.2.2.2.2.1 z.1.length z.2.2.2.2.2.2.2.2.1), (3, .pointer (some pt)), (8, .slice z.2.2.2.2.2.2.2.2.2.1 z.2.1.length z.2.2.2.2.2.2.2.2.2.2.1), (9, .pointer (some z.2.2.2.2.2.2.2.2.2.2.2.1))]) (fun z => [Box pt [.int .i64 t.facts, .slice at_ t.init.length ct, .slice at_2 t.goal.length ct2, .slice at_3 t.ops.length ct3], OwnSl 3 1 z.2.2.2.2.2.2.2.2.2.1 z.2.1.length z.2.2.2.2.2.2.2.2.2.2.1 (flL z.2.1), Box z.2.2.2.2.2.2.2.2.2.2.2.1 [.int .i64 z.2.2.1, .int .i64 z.2.2.2.1, .int .i64 z.2.2.2.2.1, .int .i64 z.2.2.2.2.2.1, .int .i64 z.2.2.2.2.2.2.1]]) (fun z => z.2.2.2.2.2.2.2.2.2.2.2.2) (s_, ([] : List Int), (gt tree (IntKind.i64.wrap (((tree.length : Nat) : Int) - 1))).kind, (gt tree (IntKind.i64.wrap (((tree.length : Nat) : Int) - 1))).op, (gt tree (IntKind.i64.wrap (((tree.length : Nat) : Int) - 1))).fact, (gt tree (IntKind.i64.wrap (((tree.length : Nat) : Int) - 1))).yes, (gt tree (IntKind.i64.wrap (((tree.length : Nat) : Int) - 1))).no, as_, cs_, none, 0, pn, h) ⟨q314, _q9, _q10, (FH.le_refl _)⟩ (.cons rfl (.cons rfl (.cons rfl (.cons rfl (.cons rfl (.nil)))))) rfl (FH.le_refl _) ?_
  rintro ⟨s_2, out, x, x2, x3, x4, x5, as2, cs, aout, cout, p, h23⟩ ⟨q314, q254, q255, q256⟩
  have hF := q315 s_2 out x x2 x3 x4 x5 q314
  show J _ _ _ _ _ [(1, .slice atree tree.length ctree), (2, .slice as2 s_2.length cs), (3, .pointer (some pt)), (8, .slice aout out.length cout), (9, .pointer (some p))] [Box pt [.int .i64 t.facts, .slice at_ t.init.length ct, .slice at_2 t.goal.length ct2, .slice at_3 t.ops.length ct3], OwnSl 3 1 aout out.length cout (flL out), Box p [.int .i64 x, .int .i64 x2, .int .i64 x3, .int .i64 x4, .int .i64 x5]] h23
  refine .seq ?_
  refine .seq ?_
  refine .region ?_
  refine .v (fa rfl tF102_0) rfl rfl rfl ?_
  refine .v (ld1 rfl tO3 (cellB (off := 0) (k := 2) rfl rfl)) rfl rfl rfl ?_
  refine .v (bi rfl rfl rfl) rfl rfl rfl ?_
  refine .nil ?_
  refine .seqN ?_
  refine .cond rfl (fun q317 => ?_) (fun q317 => ?_)
  · replace hF := hF.1 q317
    refine .skip ?_
    refine .seqN ?_
    refine .share (σ := List Int × List Int × Int × Int × Int × Int × Int × Option Addr × Nat × Option Addr × Nat × FH) (fun z => F_crun_J1 x x2 x3 s_2 out x4 x5 I1 μ1 z.1 z.2.1 z.2.2.1 z.2.2.2.1 z.2.2.2.2.1 z.2.2.2.2.2.1 z.2.2.2.2.2.2.1 ∧ RSl z.2.2.2.2.2.2.2.2.2.2.2 z.2.2.2.2.2.2.2.1 z.1 ∧ z.1.length ≤ z.2.2.2.2.2.2.2.2.1 ∧ FH.le h23 z.2.2.2.2.2.2.2.2.2.2.2) (fun z => [(1, .slice atree tree.length ctree), (2, .slice z.2.2.2.2.2.2.2.1 z.1.length z.2.2.2.2.2.2.2.2.1), (3, .pointer (some pt)), (8, .slice z.2.2.2.2.2.2.2.2.2.1 z.2.1.length z.2.2.2.2.2.2.2.2.2.2.1), (9, .pointer (some p))]) (fun z => [Box pt [.int .i64 t.facts, .slice at_ t.init.length ct, .slice at_2 t.goal.length ct2, .slice at_3 t.ops.length ct3], OwnSl 3 1 z.2.2.2.2.2.2.2.2.2.1 z.2.1.length z.2.2.2.2.2.2.2.2.2.2.1 (flL z.2.1), Box p [.int .i64 z.2.2.1, .int .i64 z.2.2.2.1, .int .i64 z.2.2.2.2.1, .int .i64 z.2.2.2.2.2.1, .int .i64 z.2.2.2.2.2.2.1]]) (fun z => z.2.2.2.2.2.2.2.2.2.2.2) ?_ (fun q345 => ?_)
    · rintro ⟨s_4, out3, x11, x12, x13, x14, x15, as4, cs3, aout3, cout3, h32⟩ ⟨hF, q342, q343, q344⟩
      show J _ _ _ _ _ [(1, .slice atree tree.length ctree), (2, .slice as4 s_4.length cs3), (3, .pointer (some pt)), (8, .slice aout3 out3.length cout3), (9, .pointer (some p))] [Box pt [.int .i64 t.facts, .slice at_ t.init.length ct, .slice at_2 t.goal.length ct2, .slice at_3 t.ops.length ct3], OwnSl 3 1 aout3 out3.length cout3 (flL out3), Box p [.int .i64 x11, .int .i64 x12, .int .i64 x13, .int .i64 x14, .int .i64 x15]] h32
      refine .seq ?_
      refine .region ?_
      refine .v (ldA (cs := [.int .i64 x11, .int .i64 x12, .int .i64 x13, .int .i64 x14, .int .i64 x15]) rfl tA102 rfl (cellsB (off := 0) (k := 2) rfl (m := 5) rfl)) rfl rfl rfl ?_
      refine .nil ?_
      refine .seqN ?_
      refine .region ?_
      refine al tZ102 rfl (fun pn2 => ?_)
      refine st (p := pn2) (off := 0) (k := 0) (vs := [.int .i64 x11, .int .i64 x12, .int .i64 x13, .int .i64 x14, .int .i64 x15]) rfl rfl rfl (fun w => (tA102 w).2) rfl rfl rfl rfl ?_
      refine .cast (A' := [Box pn2 [.int .i64 x11, .int .i64 x12, .int .i64 x13, .int .i64 x14, .int .i64 x15], Box pt [.int .i64 t.facts, .slice at_ t.init.length ct, .slice at_2 t.goal.length ct2, .slice at_3 t.ops.length ct3], OwnSl 3 1 aout3 out3.length cout3 (flL out3), Box p [.int .i64 x11, .int .i64 x12, .int .i64 x13, .int .i64 x14, .int .i64 x15]]) rfl ?_
      refine .nil ?_
      refine .sel0 [1, 2, 0] (by decide) rfl ?_
      exact .round (s_4, out3, x11, x12, x13, x14, x15, as4, cs3, aout3, cout3, pn2, h32) ⟨hF.1, q342, q343, (FH.le_trans (q256) (q344))⟩ hF.2 (.cons rfl (.cons rfl (.cons rfl (.cons rfl (.cons rfl (.nil)))))) rfl (FH.le_refl _)
    refine .block ?_
    refine .block ?_
    refine .share (σ := Bool) (fun z => F_crun_J2 t tree K x x2 z x3 s_2 out x4 x5 I1 μ1) (fun z => [(1, .slice atree tree.length ctree), (2, .slice as2 s_2.length cs), (3, .pointer (some pt)), (8, .slice aout out.length cout), (9, .pointer (some p)), (24, .bool z)]) (fun _ => [Box pt [.int .i64 t.facts, .slice at_ t.init.length ct, .slice at_2 t.goal.length ct2, .slice at_3 t.ops.length ct3], OwnSl 3 1 aout out.length cout (flL out), Box p [.int .i64 x, .int .i64 x2, .int .i64 x3, .int .i64 x4, .int .i64 x5]]) (fun _ => h23) ?_ (fun q349 => ?_)
    · rintro t24 hF
      show J _ _ _ _ _ [(1, .slice atree tree.length ctree), (2, .slice as2 s_2.length cs), (3, .pointer (some pt)), (8, .slice aout out.length cout), (9, .pointer (some p)), (24, .bool t24)] [Box pt [.int .i64 t.facts, .slice at_ t.init.length ct, .slice at_2 t.goal.length ct2, .slice at_3 t.ops.length ct3], OwnSl 3 1 aout out.length cout (flL out), Box p [.int .i64 x, .int .i64 x2, .int .i64 x3, .int .i64 x4, .int .i64 x5]] h23
      refine .cond rfl (fun q350 => ?_) (fun q350 => ?_)
      · replace hF := hF.1 q350
        refine .seq ?_
        refine .region ?_
        refine .v (mv rfl) rfl rfl rfl ?_
        refine .v (asg rfl) rfl rfl rfl ?_
        refine .v (asg rfl) rfl rfl rfl ?_
        refine .nil ?_
        refine .seqN ?_
        refine .freezeL (k := 1) rfl (fun h33 le33 q352 q351 => ?_)
        refine .cast (A' := [Box pt [.int .i64 t.facts, .slice at_ t.init.length ct, .slice at_2 t.goal.length ct2, .slice at_3 t.ops.length ct3], tru, Box p [.int .i64 x, .int .i64 x2, .int .i64 x3, .int .i64 x4, .int .i64 x5]]) rfl ?_
        refine .ret ?_
        refine .blkR ?_
        refine .blkR ?_
        refine .seqR ?_
        refine .seqR ?_
        refine .blkR ?_
        refine .seqR ?_
        refine .res2 rfl (rvT rfl) (rvT rfl) (fun w' S => ⟨(out, false), (aout, cout), h33, hF, rfl, (FH.le_trans (q256) (le33)), ⟨(RSl.of q351), (q352)⟩, S.none⟩)
      replace hF := hF.2 q350
      refine .seq ?_
      refine .region ?_
      refine .v (fa rfl tF102_0) rfl rfl rfl ?_
      refine .v (ld1 rfl tO3 (cellB (off := 0) (k := 2) rfl rfl)) rfl rfl rfl ?_
      refine .v (bi rfl rfl rfl) rfl rfl rfl ?_
      refine .v (asg rfl) rfl rfl rfl ?_
      refine .nil ?_
      refine .seqN ?_
      refine .cond rfl (fun q353 => ?_) (fun q353 => ?_)
      · replace hF := hF.1 q353
        refine .seq ?_
        refine .region ?_
        refine .v (mv rfl) rfl rfl rfl ?_
        refine .v (fa rfl tF102_1) rfl rfl rfl ?_
        refine .v (ld1 rfl tO3 (cellB (off := 1) (k := 2) rfl rfl)) rfl rfl rfl ?_
        refine bs2 (cs := #[.int .i64 x2]) (pv := [(0, .int .i64 x2)]) tS22 rfl rfl (by decide) (by decide) rfl rfl rfl (fun a _ => ?_)
        refine .cast (A' := [OwnSl 3 1 a (([x2] : List Int).length) 1 (flL ([x2] : List Int)), Box pt [.int .i64 t.facts, .slice at_ t.init.length ct, .slice at_2 t.goal.length ct2, .slice at_3 t.ops.length ct3], OwnSl 3 1 aout out.length cout (flL out), Box p [.int .i64 x, .int .i64 x2, .int .i64 x3, .int .i64 x4, .int .i64 x5]]) rfl ?_
        obtain ⟨q355, hF⟩ := hF
        have q356 : out.length + ([x2] : List Int).length = ((out ++ ([x2] : List Int))).length := len_app rfl rfl
        refine app (k := 2) (news := flL ([x2] : List Int)) (cs' := flL (out ++ ([x2] : List Int))) (nm := ((out ++ ([x2] : List Int))).length) tS22 rfl (by decide) rfl rfl rfl (by rw [flL_len]; rfl) (srcS (k := 0) rfl) (flL_one _) (room_of q356 q355).1 (room_of q356 q355).2 q356 (flL_append _ _).symm rfl (fun a2 c => ?_)
        refine .cast (A' := [OwnSl 3 1 a (([x2] : List Int).length) 1 (flL ([x2] : List Int)), Box pt [.int .i64 t.facts, .slice at_ t.init.length ct, .slice at_2 t.goal.length ct2, .slice at_3 t.ops.length ct3], OwnSl 3 1 a2 ((out ++ ([x2] : List Int)).length) c (flL (out ++ ([x2] : List Int))), Box p [.int .i64 x, .int .i64 x2, .int .i64 x3, .int .i64 x4, .int .i64 x5]]) rfl ?_
        refine .v (asg rfl) rfl rfl rfl ?_
        refine .nil ?_
        refine .seqN ?_
        refine .seq ?_
        refine .region ?_
        refine .v (ldA (cs := [.int .i64 t.facts, .slice at_ t.init.length ct, .slice at_2 t.goal.length ct2, .slice at_3 t.ops.length ct3]) rfl tA25 rfl (cellsB (off := 0) (k := 1) rfl (m := 4) rfl)) rfl rfl rfl ?_
        refine .v (mv rfl) rfl rfl rfl ?_
        refine .v (fa rfl tF102_1) rfl rfl rfl ?_
        refine .v (ld1 rfl tO3 (cellB (off := 1) (k := 3) rfl rfl)) rfl rfl rfl ?_
        obtain ⟨q357, hF⟩ := hF
        obtain ⟨r2, q358⟩ : ∃ y_ : List Int, y_ = sp_after t s_2 x2 := ⟨_, rfl⟩
        replace hF := hF r2 q358
        refine clR (α := Option Addr × Nat) (Φ := fun h1 z => RSl h1 z.1 r2 ∧ r2.length ≤ z.2) (V := fun z => .slice z.1 r2.length z.2) Tryz.call93 rfl rfl (fun w S => (by rw [q358]; exact c_next S.sub t at_ ct (_q1.mono (q256)) _q2 at_2 ct2 (_q3.mono (q256)) _q4 at_3 ct3 (_q5.mono (q256)) _q6 s_2 as2 cs q254 q255 x2 q357)) rfl (fun z h34 le34 hz => ?_)
        obtain ⟨a3, c2⟩ := z
        obtain ⟨q359, q360⟩ := hz
        refine .v (asg rfl) rfl rfl rfl ?_
        refine .nil ?_
        refine .seqN ?_
        refine .region ?_
        refine .v (mv rfl) rfl rfl rfl ?_
        refine .v (fa rfl tF102_3) rfl rfl rfl ?_
        refine .v (ld1 rfl tO3 (cellB (off := 3) (k := 3) rfl rfl)) rfl rfl rfl ?_
        obtain ⟨q361, hF⟩ := hF
        refine .v (ix rfl rfl tS60 (_q7.ne (by decide) (inb_pos q361)) q361) rfl rfl rfl ?_
        refine .v (ldA (cs := [.int .i64 ((gt tree x4).kind), .int .i64 ((gt tree x4).op), .int .i64 ((gt tree x4).fact), .int .i64 ((gt tree x4).yes), .int .i64 ((gt tree x4).no)]) rfl tA102 rfl (cellsH ((_q7.mono (FH.le_trans (q256) (le34))).elemF q361 (by decide)))) rfl rfl rfl ?_
        refine st (p := p) (off := 0) (k := 3) (vs := [.int .i64 ((gt tree x4).kind), .int .i64 ((gt tree x4).op), .int .i64 ((gt tree x4).fact), .int .i64 ((gt tree x4).yes), .int .i64 ((gt tree x4).no)]) rfl rfl rfl (fun w => (tA102 w).2) rfl rfl rfl rfl ?_
        refine .cast (A' := [OwnSl 3 1 a (([x2] : List Int).length) 1 (flL ([x2] : List Int)), Box pt [.int .i64 t.facts, .slice at_ t.init.length ct, .slice at_2 t.goal.length ct2, .slice at_3 t.ops.length ct3], OwnSl 3 1 a2 ((out ++ ([x2] : List Int)).length) c (flL (out ++ ([x2] : List Int))), Box p [.int .i64 ((gt tree x4).kind), .int .i64 ((gt tree x4).op), .int .i64 ((gt tree x4).fact), .int .i64 ((gt tree x4).yes), .int .i64 ((gt tree x4).no)]]) rfl ?_
        refine .nil ?_
        refine .blkN ?_
        refine .blkN ?_
        refine .sel0 [1, 2, 3] (by decide) rfl ?_
        exact .use q345 (r2, (out ++ ([x2] : List Int)), (gt tree x4).kind, (gt tree x4).op, (gt tree x4).fact, (gt tree x4).yes, (gt tree x4).no, a3, c2, a2, c, h34) ⟨hF, q359, q360, (le34)⟩ (.cons rfl (.cons rfl (.cons rfl (.cons rfl (.cons rfl (.nil)))))) rfl (FH.le_refl _)
      replace hF := hF.2 q353
      refine .seq ?_
      refine .region ?_
      refine .v (mv rfl) rfl rfl rfl ?_
      refine .v (fa rfl tF102_2) rfl rfl rfl ?_
      refine .v (ld1 rfl tO3 (cellB (off := 2) (k := 2) rfl rfl)) rfl rfl rfl ?_
      obtain ⟨q362, hF⟩ := hF
      obtain ⟨r3, q363⟩ : ∃ y_ : Bool, y_ = sp_contains s_2 x3 := ⟨_, rfl⟩
      replace hF := hF r3 q363
      refine .c (cl (v := .bool r3) Tryz.call101 rfl rfl (fun w S => (by rw [q363]; exact c_contains S.sub s_2 as2 cs q254 q255 x3 q362))) rfl rfl rfl ?_
      refine .v (asg rfl) rfl rfl rfl ?_
      refine .nil ?_
      refine .seqN ?_
      refine .cond rfl (fun q364 => ?_) (fun q364 => ?_)
      · replace hF := hF.1 q364
        refine .region ?_
        refine .v (mv rfl) rfl rfl rfl ?_
        refine .v (fa rfl tF102_3) rfl rfl rfl ?_
        refine .v (ld1 rfl tO3 (cellB (off := 3) (k := 2) rfl rfl)) rfl rfl rfl ?_
        obtain ⟨q365, hF⟩ := hF
        refine .v (ix rfl rfl tS60 (_q7.ne (by decide) (inb_pos q365)) q365) rfl rfl rfl ?_
        refine .v (ldA (cs := [.int .i64 ((gt tree x4).kind), .int .i64 ((gt tree x4).op), .int .i64 ((gt tree x4).fact), .int .i64 ((gt tree x4).yes), .int .i64 ((gt tree x4).no)]) rfl tA102 rfl (cellsH ((_q7.mono (q256)).elemF q365 (by decide)))) rfl rfl rfl ?_
        refine st (p := p) (off := 0) (k := 2) (vs := [.int .i64 ((gt tree x4).kind), .int .i64 ((gt tree x4).op), .int .i64 ((gt tree x4).fact), .int .i64 ((gt tree x4).yes), .int .i64 ((gt tree x4).no)]) rfl rfl rfl (fun w => (tA102 w).2) rfl rfl rfl rfl ?_
        refine .cast (A' := [Box pt [.int .i64 t.facts, .slice at_ t.init.length ct, .slice at_2 t.goal.length ct2, .slice at_3 t.ops.length ct3], OwnSl 3 1 aout out.length cout (flL out), Box p [.int .i64 ((gt tree x4).kind), .int .i64 ((gt tree x4).op), .int .i64 ((gt tree x4).fact), .int .i64 ((gt tree x4).yes), .int .i64 ((gt tree x4).no)]]) rfl ?_
        refine .nil ?_
        refine .blkN ?_
        refine .blkN ?_
        exact .use q345 (s_2, out, (gt tree x4).kind, (gt tree x4).op, (gt tree x4).fact, (gt tree x4).yes, (gt tree x4).no, as2, cs, aout, cout, h23) ⟨hF, q254, q255, (FH.le_refl _)⟩ (.cons rfl (.cons rfl (.cons rfl (.cons rfl (.cons rfl (.nil)))))) rfl (FH.le_refl _)
      replace hF := hF.2 q364
      refine .region ?_
      refine .v (mv rfl) rfl rfl rfl ?_
      refine .v (fa rfl tF102_4) rfl rfl rfl ?_
      refine .v (ld1 rfl tO3 (cellB (off := 4) (k := 2) rfl rfl)) rfl rfl rfl ?_
      obtain ⟨q366, hF⟩ := hF
      refine .v (ix rfl rfl tS60 (_q7.ne (by decide) (inb_pos q366)) q366) rfl rfl rfl ?_
      refine .v (ldA (cs := [.int .i64 ((gt tree x5).kind), .int .i64 ((gt tree x5).op), .int .i64 ((gt tree x5).fact), .int .i64 ((gt tree x5).yes), .int .i64 ((gt tree x5).no)]) rfl tA102 rfl (cellsH ((_q7.mono (q256)).elemF q366 (by decide)))) rfl rfl rfl ?_
      refine st (p := p) (off := 0) (k := 2) (vs := [.int .i64 ((gt tree x5).kind), .int .i64 ((gt tree x5).op), .int .i64 ((gt tree x5).fact), .int .i64 ((gt tree x5).yes), .int .i64 ((gt tree x5).no)]) rfl rfl rfl (fun w => (tA102 w).2) rfl rfl rfl rfl ?_
      refine .cast (A' := [Box pt [.int .i64 t.facts, .slice at_ t.init.length ct, .slice at_2 t.goal.length ct2, .slice at_3 t.ops.length ct3], OwnSl 3 1 aout out.length cout (flL out), Box p [.int .i64 ((gt tree x5).kind), .int .i64 ((gt tree x5).op), .int .i64 ((gt tree x5).fact), .int .i64 ((gt tree x5).yes), .int .i64 ((gt tree x5).no)]]) rfl ?_
      refine .nil ?_
      refine .blkN ?_
      refine .blkN ?_
      exact .use q345 (s_2, out, (gt tree x5).kind, (gt tree x5).op, (gt tree x5).fact, (gt tree x5).yes, (gt tree x5).no, as2, cs, aout, cout, h23) ⟨hF, q254, q255, (FH.le_refl _)⟩ (.cons rfl (.cons rfl (.cons rfl (.cons rfl (.cons rfl (.nil)))))) rfl (FH.le_refl _)
    refine .region ?_
    refine .v (fa rfl tF102_0) rfl rfl rfl ?_
    refine .v (ld1 rfl tO3 (cellB (off := 0) (k := 2) rfl rfl)) rfl rfl rfl ?_
    refine .v (bi rfl rfl rfl) rfl rfl rfl ?_
    refine .v (mv rfl) rfl rfl rfl ?_
    rcases Bool.eq_false_or_eq_true (x == 2) with q367 | q367
    · replace hF := hF.1 q367
      refine .gv (ldA (cs := [.int .i64 t.facts, .slice at_ t.init.length ct, .slice at_2 t.goal.length ct2, .slice at_3 t.ops.length ct3]) rfl tA25 rfl (cellsB (off := 0) (k := 0) rfl (m := 4) rfl)) rfl rfl rfl q367 rfl rfl ?_
      refine .gv (mv rfl) rfl rfl rfl q367 rfl rfl ?_
      refine .gv (fa rfl tF102_1) rfl rfl rfl q367 rfl rfl ?_
      refine .gv (ld1 rfl tO3 (cellB (off := 1) (k := 2) rfl rfl)) rfl rfl rfl q367 rfl rfl ?_
      obtain ⟨q368, hF⟩ := hF
      obtain ⟨r4, q369⟩ : ∃ y_ : Bool, y_ = sp_applies t s_2 x2 := ⟨_, rfl⟩
      replace hF := hF r4 q369
      refine .gc (cl (v := .bool r4) Tryz.call100 rfl rfl (fun w S => (by rw [q369]; exact c_can S.sub t at_ ct (_q1.mono (q256)) _q2 at_2 ct2 (_q3.mono (q256)) _q4 at_3 ct3 (_q5.mono (q256)) _q6 s_2 as2 cs q254 q255 x2 q368))) rfl rfl rfl q367 rfl rfl ?_
      refine .gv (nt rfl) rfl rfl rfl q367 rfl rfl ?_
      refine .v (pkT rfl q367 rfl) rfl rfl rfl ?_
      refine .v (asg rfl) rfl rfl rfl ?_
      refine .nil ?_
      exact .use q349 (!r4) hF (.cons rfl (.cons rfl (.cons rfl (.cons rfl (.cons rfl (.cons rfl (.nil))))))) rfl (FH.le_refl _)
    replace hF := hF.2 q367
    refine .gS rfl rfl rfl q367 rfl rfl ?_
    refine .gS rfl rfl rfl q367 rfl rfl ?_
    refine .gS rfl rfl rfl q367 rfl rfl ?_
    refine .gS rfl rfl rfl q367 rfl rfl ?_
    refine .gS rfl rfl rfl q367 rfl rfl ?_
    refine .gS rfl rfl rfl q367 rfl rfl ?_
    refine .v (pkF rfl q367 rfl) rfl rfl rfl ?_
    refine .v (asg rfl) rfl rfl rfl ?_
    refine .nil ?_
    exact .use q349 false hF (.cons rfl (.cons rfl (.cons rfl (.cons rfl (.cons rfl (.cons rfl (.nil))))))) rfl (FH.le_refl _)
  replace hF := hF.2 q317
  refine .exit ?_
  refine .seqX ?_
  refine .seqX ?_
  refine .blkX ?_
  refine .seqN ?_
  refine .seq ?_
  refine .region ?_
  refine .v (mv rfl) rfl rfl rfl ?_
  refine .v (mv rfl) rfl rfl rfl ?_
  refine .v (fa rfl tF25_2) rfl rfl rfl ?_
  refine .v (ld1 rfl tO22 (cellB (off := 2) (k := 0) rfl rfl)) rfl rfl rfl ?_
  obtain ⟨q370, hF⟩ := hF
  obtain ⟨r5, q371⟩ : ∃ y_ : Bool, y_ = sp_contains2 s_2 t.goal := ⟨_, rfl⟩
  replace hF := hF r5 q371
  refine .c (cl (v := .bool r5) Tryz.call88 rfl rfl (fun w S => (by rw [q371]; exact c_contains2 S.sub s_2 as2 cs q254 q255 t.goal at_2 ct2 (_q3.mono (q256)) _q4 q370))) rfl rfl rfl ?_
  refine .v (asg rfl) rfl rfl rfl ?_
  refine .v (asg rfl) rfl rfl rfl ?_
  refine .nil ?_
  refine .seqN ?_
  refine .freezeL (k := 1) rfl (fun h35 le35 q373 q372 => ?_)
  refine .cast (A' := [Box pt [.int .i64 t.facts, .slice at_ t.init.length ct, .slice at_2 t.goal.length ct2, .slice at_3 t.ops.length ct3], tru, Box p [.int .i64 x, .int .i64 x2, .int .i64 x3, .int .i64 x4, .int .i64 x5]]) rfl ?_
  refine .ret ?_
  refine .res2 rfl (rvT rfl) (rvT rfl) (fun w' S => ⟨(out, r5), (aout, cout), h35, hF, rfl, (FH.le_trans (q256) (le35)), ⟨(RSl.of q372), (q373)⟩, S.none⟩)

theorem c_crun {h : FH} {w : World} (hs : Sub h w) (t : Task) (at_ : Option Addr) (ct : Nat) (_q1 : RSl h at_ t.init) (_q2 : t.init.length ≤ ct) (at_2 : Option Addr) (ct2 : Nat) (_q3 : RSl h at_2 t.goal) (_q4 : t.goal.length ≤ ct2) (at_3 : Option Addr) (ct3 : Nat) (_q5 : RSl h at_3 t.ops) (_q6 : t.ops.length ≤ ct3) (tree : List TNode) (atree : Option Addr) (ctree : Nat) (_q7 : RSl h atree tree) (_q8 : tree.length ≤ ctree) (s_ : List Int) (as_ : Option Addr) (cs_ : Nat) (_q9 : RSl h as_ s_) (_q10 : s_.length ≤ cs_) (hp : pre_crun t tree s_) : Calls Tryz.prog 75 #[.agg #[.int .i64 t.facts, .slice at_ t.init.length ct, .slice at_2 t.goal.length ct2, .slice at_3 t.ops.length ct3], .slice atree tree.length ctree, .slice as_ s_.length cs_] w fun e w' => ∃ (z : Option Addr × Nat) (h1 : FH), e = .returned (.tuple #[.slice z.1 (sp_crun t tree s_).1.length z.2, .bool (sp_crun t tree s_).2]) ∧ FH.le h h1 ∧ (RSl h1 z.1 (sp_crun t tree s_).1 ∧ (sp_crun t tree s_).1.length ≤ z.2) ∧ SH (Kp.all w h) h1 w' [] :=
  (w_crun hs t at_ ct _q1 _q2 at_2 ct2 _q3 _q4 at_3 ct3 _q5 _q6 tree atree ctree _q7 _q8 s_ as_ cs_ _q9 _q10 (fun r => r = sp_crun t tree s_) (ok_crun t tree s_ hp)).mono fun _ _ ⟨r, z, h1, hk, he, hl, hf, hS⟩ => by subst hk; exact ⟨z, h1, he, hl, hf, hS⟩

theorem w_cRun {h : FH} {w : World} (hs : Sub h w) (t : Task) (at_ : Option Addr) (ct : Nat) (_q1 : RSl h at_ t.init) (_q2 : t.init.length ≤ ct) (at_2 : Option Addr) (ct2 : Nat) (_q3 : RSl h at_2 t.goal) (_q4 : t.goal.length ≤ ct2) (at_3 : Option Addr) (ct3 : Nat) (_q5 : RSl h at_3 t.ops) (_q6 : t.ops.length ≤ ct3) (sensors : List Int) (asensors : Option Addr) (csensors : Nat) (_q7 : RSl h asensors sensors) (_q8 : sensors.length ≤ csensors) (tree : List TNode) (atree : Option Addr) (ctree : Nat) (_q9 : RSl h atree tree) (_q10 : tree.length ≤ ctree) (s_ : List Int) (as_ : Option Addr) (cs_ : Nat) (_q11 : RSl h as_ s_) (_q12 : s_.length ≤ cs_) (K : (List Int × Bool × Fault) → Prop) (hF : F_cRun t sensors tree s_ K) : Calls Tryz.prog 38 #[.agg #[.int .i64 t.facts, .slice at_ t.init.length ct, .slice at_2 t.goal.length ct2, .slice at_3 t.ops.length ct3], .slice asensors sensors.length csensors, .slice atree tree.length ctree, .slice as_ s_.length cs_] w fun e w' => ∃ (r : List Int × Bool × Fault) (z : Option Addr × Nat) (h1 : FH), K r ∧ e = .returned (.tuple #[.slice z.1 r.1.length z.2, .bool r.2.1, .agg #[.int .i64 r.2.2.code, .int .i64 r.2.2.index]]) ∧ FH.le h h1 ∧ (RSl h1 z.1 r.1 ∧ r.1.length ≤ z.2) ∧ SH (Kp.all w h) h1 w' [] := by
  refine enter (args := [.agg #[.int .i64 t.facts, .slice at_ t.init.length ct, .slice at_2 t.goal.length ct2, .slice at_3 t.ops.length ct3], .slice asensors sensors.length csensors, .slice atree tree.length ctree, .slice as_ s_.length cs_]) Tryz.func38 rfl Tryz.ntmps38 rfl hs ?_
  refine .seq ?_
  refine .region ?_
  refine bx (vs := [.int .i64 t.facts, .slice at_ t.init.length ct, .slice at_2 t.goal.length ct2, .slice at_3 t.ops.length ct3]) rfl rfl rfl (fun pt => ?_)
  refine .v (asg rfl) rfl rfl rfl ?_
  refine .v (asg rfl) rfl rfl rfl ?_
  refine al tZ27 rfl (fun pv => ?_)
  refine .nil ?_
  refine .seqN ?_
  refine .seq ?_
  refine .seq ?_
  refine .region ?_
  refine .v (ldA (cs := [.int .i64 t.facts, .slice at_ t.init.length ct, .slice at_2 t.goal.length ct2, .slice at_3 t.ops.length ct3]) rfl tA25 rfl (cellsB (off := 0) (k := 1) rfl (m := 4) rfl)) rfl rfl rfl ?_
  refine .v (mv rfl) rfl rfl rfl ?_
  refine .v (mv rfl) rfl rfl rfl ?_
  obtain ⟨r2, q13⟩ : ∃ y_ : Fault, y_ = sp_cvalidate t sensors tree := ⟨_, rfl⟩
  replace hF := hF r2 q13
  refine .c (cl (v := .agg #[.int .i64 r2.code, .int .i64 r2.index]) Tryz.call40 rfl rfl (fun w S => (by rw [q13]; exact c_cvalidate S.sub t at_ ct _q1 _q2 at_2 ct2 _q3 _q4 at_3 ct3 _q5 _q6 sensors asensors csensors _q7 _q8 tree atree ctree _q9 _q10 ))) rfl rfl rfl ?_
  refine al tZ27 rfl (fun pf => ?_)
  refine st (p := pf) (off := 0) (k := 0) (vs := [.int .i64 r2.code, .int .i64 r2.index]) rfl rfl rfl (fun w => (tA27 w).2) rfl rfl rfl rfl ?_
  refine .cast (A' := [Box pf [.int .i64 r2.code, .int .i64 r2.index], Box pv [.int .i64 0, .int .i64 0], Box pt [.int .i64 t.facts, .slice at_ t.init.length ct, .slice at_2 t.goal.length ct2, .slice at_3 t.ops.length ct3]]) rfl ?_
  refine .nil ?_
  refine .seqN ?_
  refine .seq ?_
  refine .region ?_
  refine .v (ldA (cs := [.int .i64 r2.code, .int .i64 r2.index]) rfl tA27 rfl (cellsB (off := 0) (k := 0) rfl (m := 2) rfl)) rfl rfl rfl ?_
  refine .v (bld (cs := #[.int .i64 0, .int .i64 0]) (pv := []) tB27 rfl rfl) rfl rfl rfl ?_
  refine .v (ne2 tE27 rfl rfl) rfl rfl rfl ?_
  refine .nil ?_
  refine .seqN ?_
  refine .cond rfl (fun q15 => ?_) (fun q15 => ?_)
  · replace hF := hF.1 q15
    refine .seq ?_
    refine .openL (by kernel_rfl) rfl (by kernel_rfl) (by kernel_rfl) ?_
    refine .v (ldA (cs := [.int .i64 r2.code, .int .i64 r2.index]) rfl tA27 rfl (cellsB (off := 0) (k := 0) rfl (m := 2) rfl)) rfl rfl rfl ?_
    refine .v (asg rfl) rfl rfl rfl ?_
    refine .v (asg rfl) rfl rfl rfl ?_
    refine .tail ?_
    refine st (p := pv) (off := 0) (k := 1) (vs := [.int .i64 r2.code, .int .i64 r2.index]) rfl rfl rfl (fun w => (tA27 w).2) rfl rfl rfl rfl ?_
    refine .cast (A' := [Box pf [.int .i64 r2.code, .int .i64 r2.index], Box pv [.int .i64 r2.code, .int .i64 r2.index], Box pt [.int .i64 t.facts, .slice at_ t.init.length ct, .slice at_2 t.goal.length ct2, .slice at_3 t.ops.length ct3]]) rfl ?_
    refine .nil ?_
    refine .seqN ?_
    refine .ret ?_
    refine .seqR ?_
    refine .res3 rfl (rvT rfl) (rvT rfl) (rvC rfl tA27 (k := 1) rfl rfl) (fun w' S => ⟨(([] : List Int), false, r2), (none, 0), h, hF, rfl, (FH.le_refl _), ⟨RSl.nil_, (Nat.le_refl 0)⟩, S.none⟩)
  replace hF := hF.2 q15
  refine .skip ?_
  refine .seqN ?_
  refine .seq ?_
  refine .seq ?_
  refine .region ?_
  refine .v (mv rfl) rfl rfl rfl ?_
  refine .v (fa rfl tF25_0) rfl rfl rfl ?_
  refine .v (ld1 rfl tO3 (cellB (off := 0) (k := 2) rfl rfl)) rfl rfl rfl ?_
  obtain ⟨q16, hF⟩ := hF
  obtain ⟨r3, q17⟩ : ∃ y_ : Bool, y_ = sp_isSet s_ t.facts := ⟨_, rfl⟩
  replace hF := hF r3 q17
  refine .c (cl (v := .bool r3) Tryz.call61 rfl rfl (fun w S => (by rw [q17]; exact c_isSet S.sub s_ as_ cs_ _q11 _q12 t.facts q16))) rfl rfl rfl ?_
  refine .v (nt rfl) rfl rfl rfl ?_
  refine .nil ?_
  refine .seqN ?_
  refine .cond rfl (fun q19 => ?_) (fun q19 => ?_)
  · replace hF := hF.1 q19
    refine .seq ?_
    refine .region ?_
    refine .v (bld (cs := #[.int .i64 5, .int .i64 (-4)]) (pv := [(0, .int .i64 5), (1, .int .i64 (-4))]) tB27 rfl rfl) rfl rfl rfl ?_
    refine .v (asg rfl) rfl rfl rfl ?_
    refine .v (asg rfl) rfl rfl rfl ?_
    refine st (p := pv) (off := 0) (k := 1) (vs := [.int .i64 5, .int .i64 (-4)]) rfl rfl rfl (fun w => (tA27 w).2) rfl rfl rfl rfl ?_
    refine .cast (A' := [Box pf [.int .i64 r2.code, .int .i64 r2.index], Box pv [.int .i64 5, .int .i64 (-4)], Box pt [.int .i64 t.facts, .slice at_ t.init.length ct, .slice at_2 t.goal.length ct2, .slice at_3 t.ops.length ct3]]) rfl ?_
    refine .nil ?_
    refine .seqN ?_
    refine .ret ?_
    refine .seqR ?_
    refine .res3 rfl (rvT rfl) (rvT rfl) (rvC rfl tA27 (k := 1) rfl rfl) (fun w' S => ⟨(([] : List Int), false, (⟨5, (-4)⟩ : Fault)), (none, 0), h, hF, rfl, (FH.le_refl _), ⟨RSl.nil_, (Nat.le_refl 0)⟩, S.none⟩)
  replace hF := hF.2 q19
  refine .skip ?_
  refine .seqN ?_
  refine .seq ?_
  refine .region ?_
  refine .v (ldA (cs := [.int .i64 t.facts, .slice at_ t.init.length ct, .slice at_2 t.goal.length ct2, .slice at_3 t.ops.length ct3]) rfl tA25 rfl (cellsB (off := 0) (k := 2) rfl (m := 4) rfl)) rfl rfl rfl ?_
  refine .v (mv rfl) rfl rfl rfl ?_
  refine .v (mv rfl) rfl rfl rfl ?_
  obtain ⟨q20, hF⟩ := hF
  obtain ⟨r4, q21⟩ : ∃ y_ : List Int × Bool, y_ = sp_crun t tree s_ := ⟨_, rfl⟩
  replace hF := hF r4 q21
  refine clR (α := Option Addr × Nat) (Φ := fun h1 z => RSl h1 z.1 r4.1 ∧ r4.1.length ≤ z.2) (V := fun z => .tuple #[.slice z.1 r4.1.length z.2, .bool r4.2]) Tryz.call75 rfl rfl (fun w S => (by rw [q21]; exact c_crun S.sub t at_ ct _q1 _q2 at_2 ct2 _q3 _q4 at_3 ct3 _q5 _q6 tree atree ctree _q9 _q10 s_ as_ cs_ _q11 _q12 q20)) rfl (fun z h1 le1 hz => ?_)
  obtain ⟨a, c⟩ := z
  obtain ⟨q22, q23⟩ := hz
  refine .v (mv rfl) rfl rfl rfl ?_
  refine .v (ext rfl rfl) rfl rfl rfl ?_
  refine .v (ext rfl rfl) rfl rfl rfl ?_
  refine .v (asg rfl) rfl rfl rfl ?_
  refine .v (asg rfl) rfl rfl rfl ?_
  refine .nil ?_
  refine .seqN ?_
  refine .seq ?_
  refine .region ?_
  refine .v (mv rfl) rfl rfl rfl ?_
  refine .v (mv rfl) rfl rfl rfl ?_
  refine .v (bld (cs := #[.int .i64 0, .int .i64 0]) (pv := []) tB27 rfl rfl) rfl rfl rfl ?_
  refine .v (asg rfl) rfl rfl rfl ?_
  refine .v (asg rfl) rfl rfl rfl ?_
  refine st (p := pv) (off := 0) (k := 1) (vs := [.int .i64 0, .int .i64 0]) rfl rfl rfl (fun w => (tA27 w).2) rfl rfl rfl rfl ?_
  refine .cast (A' := [Box pf [.int .i64 r2.code, .int .i64 r2.index], Box pv [.int .i64 0, .int .i64 0], Box pt [.int .i64 t.facts, .slice at_ t.init.length ct, .slice at_2 t.goal.length ct2, .slice at_3 t.ops.length ct3]]) rfl ?_
  refine .nil ?_
  refine .seqN ?_
  refine .ret ?_
  refine .res3 rfl (rvT rfl) (rvT rfl) (rvC rfl tA27 (k := 1) rfl rfl) (fun w' S => ⟨(r4.1, r4.2, (⟨0, 0⟩ : Fault)), (a, c), h1, hF, rfl, (le1), ⟨q22, q23⟩, S.none⟩)

theorem c_cRun {h : FH} {w : World} (hs : Sub h w) (t : Task) (at_ : Option Addr) (ct : Nat) (_q1 : RSl h at_ t.init) (_q2 : t.init.length ≤ ct) (at_2 : Option Addr) (ct2 : Nat) (_q3 : RSl h at_2 t.goal) (_q4 : t.goal.length ≤ ct2) (at_3 : Option Addr) (ct3 : Nat) (_q5 : RSl h at_3 t.ops) (_q6 : t.ops.length ≤ ct3) (sensors : List Int) (asensors : Option Addr) (csensors : Nat) (_q7 : RSl h asensors sensors) (_q8 : sensors.length ≤ csensors) (tree : List TNode) (atree : Option Addr) (ctree : Nat) (_q9 : RSl h atree tree) (_q10 : tree.length ≤ ctree) (s_ : List Int) (as_ : Option Addr) (cs_ : Nat) (_q11 : RSl h as_ s_) (_q12 : s_.length ≤ cs_) : Calls Tryz.prog 38 #[.agg #[.int .i64 t.facts, .slice at_ t.init.length ct, .slice at_2 t.goal.length ct2, .slice at_3 t.ops.length ct3], .slice asensors sensors.length csensors, .slice atree tree.length ctree, .slice as_ s_.length cs_] w fun e w' => ∃ (z : Option Addr × Nat) (h1 : FH), e = .returned (.tuple #[.slice z.1 (sp_cRun t sensors tree s_).1.length z.2, .bool (sp_cRun t sensors tree s_).2.1, .agg #[.int .i64 (sp_cRun t sensors tree s_).2.2.code, .int .i64 (sp_cRun t sensors tree s_).2.2.index]]) ∧ FH.le h h1 ∧ (RSl h1 z.1 (sp_cRun t sensors tree s_).1 ∧ (sp_cRun t sensors tree s_).1.length ≤ z.2) ∧ SH (Kp.all w h) h1 w' [] :=
  (w_cRun hs t at_ ct _q1 _q2 at_2 ct2 _q3 _q4 at_3 ct3 _q5 _q6 sensors asensors csensors _q7 _q8 tree atree ctree _q9 _q10 s_ as_ cs_ _q11 _q12 (fun r => r = sp_cRun t sensors tree s_) (ok_cRun t sensors tree s_)).mono fun _ _ ⟨r, z, h1, hk, he, hl, hf, hS⟩ => by subst hk; exact ⟨z, h1, he, hl, hf, hS⟩

theorem w_split {h : FH} {w : World} (hs : Sub h w) (worlds : List (List Int)) (aworlds : Option Addr) (cworlds : Nat) (_q1 : RSl h aworlds worlds) (_q2 : worlds.length ≤ cworlds) (fact : Int) (K : (List (List Int) × List (List Int)) → Prop) (hF : F_split worlds fact K) : Calls Tryz.prog 97 #[.slice aworlds worlds.length cworlds, .int .i64 fact] w fun e w' => ∃ (r : List (List Int) × List (List Int)) (z : Option Addr × Nat × Option Addr × Nat) (h1 : FH), K r ∧ e = .returned (.tuple #[.slice z.1 r.1.length z.2.1, .slice z.2.2.1 r.2.length z.2.2.2]) ∧ FH.le h h1 ∧ (RSl h1 z.1 r.1 ∧ r.1.length ≤ z.2.1 ∧ RSl h1 z.2.2.1 r.2 ∧ r.2.length ≤ z.2.2.2) ∧ SH (Kp.all w h) h1 w' [] := by
  refine enter (args := [.slice aworlds worlds.length cworlds, .int .i64 fact]) Tryz.func97 rfl Tryz.ntmps97 rfl hs ?_
  refine .seq ?_
  refine .region ?_
  refine .v (asg rfl) rfl rfl rfl ?_
  refine .v (asg rfl) rfl rfl rfl ?_
  refine .nil ?_
  refine .seqN ?_
  refine .seq ?_
  refine .seq ?_
  refine .region ?_
  refine .v (mv rfl) rfl rfl rfl ?_
  refine .v (ln rfl tS35.is) rfl rfl rfl ?_
  refine .v (mv rfl) rfl rfl rfl ?_
  refine .nil ?_
  refine .seqN ?_
  refine .block ?_
  refine .nilSl 22 1 ?_
  refine .cast (A' := [OwnSl 22 1 none (([] : List (List Int)).length) 0 []]) rfl ?_
  refine .nilSl 22 1 ?_
  refine .cast (A' := [OwnSl 22 1 none (([] : List (List Int)).length) 0 [], OwnSl 22 1 none (([] : List (List Int)).length) 0 []]) rfl ?_
  refine .sel0 [1, 0] (by decide) rfl ?_
  obtain ⟨I1, μ1, q201, q202⟩ := hF
  refine .loop' (σ := Int × List (List Int) × List (List Int) × Option Addr × Nat × List Value × Option Addr × Nat × List Value) (fun z => I1 z.1 z.2.1 z.2.2.1 ∧ RepL h z.2.1 z.2.2.2.2.2.1 ∧ RepL h z.2.2.1 z.2.2.2.2.2.2.2.2) (fun z => μ1 z.1 z.2.1 z.2.2.1) (fun z => [(1, .int .i64 fact), (4, .slice z.2.2.2.1 z.2.1.length z.2.2.2.2.1), (5, .slice z.2.2.2.2.2.2.1 z.2.2.1.length z.2.2.2.2.2.2.2.1), (8, .slice aworlds worlds.length cworlds), (9, .int .i64 ((worlds.length : Nat) : Int)), (10, .int .i64 z.1)]) (fun z => [OwnSl 22 1 z.2.2.2.1 z.2.1.length z.2.2.2.2.1 z.2.2.2.2.2.1, OwnSl 22 1 z.2.2.2.2.2.2.1 z.2.2.1.length z.2.2.2.2.2.2.2.1 z.2.2.2.2.2.2.2.2]) (fun _ => h) (0, ([] : List (List Int)), ([] : List (List Int)), none, 0, [], none, 0, []) ⟨q201, (show RepL h ([] : List (List Int)) [] from rfl), (show RepL h ([] : List (List Int)) [] from rfl)⟩ (.cons rfl (.cons rfl (.cons rfl (.cons rfl (.cons rfl (.cons rfl (.nil))))))) rfl (FH.le_refl _) ?_
  rintro ⟨t10, yes, no, ayes, cyes, csyes, ano, cno, csno⟩ ⟨q201, q161, q162⟩
  have hF := q202 t10 yes no q201
  show J _ _ _ _ _ [(1, .int .i64 fact), (4, .slice ayes yes.length cyes), (5, .slice ano no.length cno), (8, .slice aworlds worlds.length cworlds), (9, .int .i64 ((worlds.length : Nat) : Int)), (10, .int .i64 t10)] [OwnSl 22 1 ayes yes.length cyes csyes, OwnSl 22 1 ano no.length cno csno] h
  refine .seq ?_
  refine .region ?_
  refine .v (bi rfl rfl rfl) rfl rfl rfl ?_
  refine .nil ?_
  refine .seqN ?_
  refine .seq ?_
  refine .cond rfl (fun q205 => ?_) (fun q205 => ?_)
  · replace hF := hF.1 q205
    refine .skip ?_
    refine .seqN ?_
    refine .share (σ := List (List Int) × List (List Int) × Option Addr × Nat × List Value × Option Addr × Nat × List Value) (fun z => F_split_J1 yes no t10 I1 μ1 z.1 z.2.1 ∧ RepL h z.1 z.2.2.2.2.1 ∧ RepL h z.2.1 z.2.2.2.2.2.2.2) (fun z => [(1, .int .i64 fact), (4, .slice z.2.2.1 z.1.length z.2.2.2.1), (5, .slice z.2.2.2.2.2.1 z.2.1.length z.2.2.2.2.2.2.1), (8, .slice aworlds worlds.length cworlds), (9, .int .i64 ((worlds.length : Nat) : Int)), (10, .int .i64 t10)]) (fun z => [OwnSl 22 1 z.2.2.1 z.1.length z.2.2.2.1 z.2.2.2.2.1, OwnSl 22 1 z.2.2.2.2.2.1 z.2.1.length z.2.2.2.2.2.2.1 z.2.2.2.2.2.2.2]) (fun _ => h) ?_ (fun q223 => ?_)
    · rintro ⟨yes3, no3, ayes3, cyes3, csyes3, ano3, cno3, csno3⟩ ⟨hF, q221, q222⟩
      show J _ _ _ _ _ [(1, .int .i64 fact), (4, .slice ayes3 yes3.length cyes3), (5, .slice ano3 no3.length cno3), (8, .slice aworlds worlds.length cworlds), (9, .int .i64 ((worlds.length : Nat) : Int)), (10, .int .i64 t10)] [OwnSl 22 1 ayes3 yes3.length cyes3 csyes3, OwnSl 22 1 ano3 no3.length cno3 csno3] h
      refine .region ?_
      refine .v (bi rfl rfl rfl) rfl rfl rfl ?_
      refine .v (mv rfl) rfl rfl rfl ?_
      refine .nil ?_
      exact .round (IntKind.i64.wrap (t10 + 1), yes3, no3, ayes3, cyes3, csyes3, ano3, cno3, csno3) ⟨hF.1, q221, q222⟩ hF.2 (.cons rfl (.cons rfl (.cons rfl (.cons rfl (.cons rfl (.cons rfl (.nil))))))) rfl (FH.le_refl _)
    refine .block ?_
    refine .seq ?_
    refine .region ?_
    obtain ⟨q224, hF⟩ := hF
    refine .v (ix rfl rfl tS35 (_q1.ne (by decide) (inb_pos q224)) q224) rfl rfl rfl ?_
    obtain ⟨_, ⟨a, c, rfl, q225, q226⟩, q227⟩ := _q1.elem q224
    refine .v (ld1 (v := .slice a ((gt worlds t10).length) c) rfl tO22 (cellH (q227 (by decide) 0 _ rfl))) rfl rfl rfl ?_
    refine .v (asg rfl) rfl rfl rfl ?_
    refine .nil ?_
    refine .seqN ?_
    refine .seq ?_
    refine .region ?_
    refine .v (mv rfl) rfl rfl rfl ?_
    refine .v (mv rfl) rfl rfl rfl ?_
    obtain ⟨q228, hF⟩ := hF
    obtain ⟨r2, q229⟩ : ∃ y_ : Bool, y_ = sp_contains (gt worlds t10) fact := ⟨_, rfl⟩
    replace hF := hF r2 q229
    refine .c (cl (v := .bool r2) Tryz.call101 rfl rfl (fun w S => (by rw [q229]; exact c_contains S.sub (gt worlds t10) a c q226 q225 fact q228))) rfl rfl rfl ?_
    refine .nil ?_
    refine .seqN ?_
    refine .cond rfl (fun q230 => ?_) (fun q230 => ?_)
    · replace hF := hF.1 q230
      refine .region ?_
      refine .v (mv rfl) rfl rfl rfl ?_
      refine .v (mv rfl) rfl rfl rfl ?_
      refine bs2 (cs := #[.slice a ((gt worlds t10).length) c]) (pv := [(0, .slice a ((gt worlds t10).length) c)]) tS35 rfl rfl (by decide) (by decide) rfl rfl rfl (fun a2 _ => ?_)
      refine .cast (A' := [OwnSl 22 1 a2 (([(gt worlds t10)] : List (List Int)).length) 1 [.slice a ((gt worlds t10).length) c], OwnSl 22 1 ayes yes.length cyes csyes, OwnSl 22 1 ano no.length cno csno]) rfl ?_
      obtain ⟨q232, hF⟩ := hF
      have q233 : yes.length + ([(gt worlds t10)] : List (List Int)).length = ((yes ++ ([(gt worlds t10)] : List (List Int)))).length := len_app rfl rfl
      have q234 := RepL.append q161 (show RepL h ([(gt worlds t10)] : List (List Int)) [.slice a ((gt worlds t10).length) c] from ⟨[.slice a ((gt worlds t10).length) c], _, rfl, ⟨a, c, rfl, q225, q226⟩, rfl⟩)
      refine app (k := 1) (news := [.slice a ((gt worlds t10).length) c]) (cs' := (csyes ++ [.slice a ((gt worlds t10).length) c])) (nm := ((yes ++ ([(gt worlds t10)] : List (List Int)))).length) tS35 rfl (by decide) rfl rfl rfl (RepL.len (show RepL h ([(gt worlds t10)] : List (List Int)) [.slice a ((gt worlds t10).length) c] from ⟨[.slice a ((gt worlds t10).length) c], _, rfl, ⟨a, c, rfl, q225, q226⟩, rfl⟩)) (srcS (k := 0) rfl) (RepL.one (show RepL h ([(gt worlds t10)] : List (List Int)) [.slice a ((gt worlds t10).length) c] from ⟨[.slice a ((gt worlds t10).length) c], _, rfl, ⟨a, c, rfl, q225, q226⟩, rfl⟩)) (room_of q233 q232).1 (room_of q233 q232).2 q233 rfl rfl (fun a3 c2 => ?_)
      refine .cast (A' := [OwnSl 22 1 a2 (([(gt worlds t10)] : List (List Int)).length) 1 [.slice a ((gt worlds t10).length) c], OwnSl 22 1 a3 ((yes ++ ([(gt worlds t10)] : List (List Int))).length) c2 (csyes ++ [.slice a ((gt worlds t10).length) c]), OwnSl 22 1 ano no.length cno csno]) rfl ?_
      refine .v (asg rfl) rfl rfl rfl ?_
      refine .nil ?_
      refine .blkN ?_
      refine .sel0 [1, 2] (by decide) rfl ?_
      exact .use q223 ((yes ++ ([(gt worlds t10)] : List (List Int))), no, a3, c2, (csyes ++ [.slice a ((gt worlds t10).length) c]), ano, cno, csno) ⟨hF, q234, q162⟩ (.cons rfl (.cons rfl (.cons rfl (.cons rfl (.cons rfl (.cons rfl (.nil))))))) rfl (FH.le_refl _)
    replace hF := hF.2 q230
    refine .region ?_
    refine .v (mv rfl) rfl rfl rfl ?_
    refine .v (mv rfl) rfl rfl rfl ?_
    refine bs2 (cs := #[.slice a ((gt worlds t10).length) c]) (pv := [(0, .slice a ((gt worlds t10).length) c)]) tS35 rfl rfl (by decide) (by decide) rfl rfl rfl (fun a4 _ => ?_)
    refine .cast (A' := [OwnSl 22 1 a4 (([(gt worlds t10)] : List (List Int)).length) 1 [.slice a ((gt worlds t10).length) c], OwnSl 22 1 ayes yes.length cyes csyes, OwnSl 22 1 ano no.length cno csno]) rfl ?_
    obtain ⟨q236, hF⟩ := hF
    have q237 : no.length + ([(gt worlds t10)] : List (List Int)).length = ((no ++ ([(gt worlds t10)] : List (List Int)))).length := len_app rfl rfl
    have q238 := RepL.append q162 (show RepL h ([(gt worlds t10)] : List (List Int)) [.slice a ((gt worlds t10).length) c] from ⟨[.slice a ((gt worlds t10).length) c], _, rfl, ⟨a, c, rfl, q225, q226⟩, rfl⟩)
    refine app (k := 2) (news := [.slice a ((gt worlds t10).length) c]) (cs' := (csno ++ [.slice a ((gt worlds t10).length) c])) (nm := ((no ++ ([(gt worlds t10)] : List (List Int)))).length) tS35 rfl (by decide) rfl rfl rfl (RepL.len (show RepL h ([(gt worlds t10)] : List (List Int)) [.slice a ((gt worlds t10).length) c] from ⟨[.slice a ((gt worlds t10).length) c], _, rfl, ⟨a, c, rfl, q225, q226⟩, rfl⟩)) (srcS (k := 0) rfl) (RepL.one (show RepL h ([(gt worlds t10)] : List (List Int)) [.slice a ((gt worlds t10).length) c] from ⟨[.slice a ((gt worlds t10).length) c], _, rfl, ⟨a, c, rfl, q225, q226⟩, rfl⟩)) (room_of q237 q236).1 (room_of q237 q236).2 q237 rfl rfl (fun a5 c3 => ?_)
    refine .cast (A' := [OwnSl 22 1 a4 (([(gt worlds t10)] : List (List Int)).length) 1 [.slice a ((gt worlds t10).length) c], OwnSl 22 1 ayes yes.length cyes csyes, OwnSl 22 1 a5 ((no ++ ([(gt worlds t10)] : List (List Int))).length) c3 (csno ++ [.slice a ((gt worlds t10).length) c])]) rfl ?_
    refine .v (asg rfl) rfl rfl rfl ?_
    refine .nil ?_
    refine .blkN ?_
    refine .sel0 [1, 2] (by decide) rfl ?_
    exact .use q223 (yes, (no ++ ([(gt worlds t10)] : List (List Int))), ayes, cyes, csyes, a5, c3, (csno ++ [.slice a ((gt worlds t10).length) c])) ⟨hF, q161, q238⟩ (.cons rfl (.cons rfl (.cons rfl (.cons rfl (.cons rfl (.cons rfl (.nil))))))) rfl (FH.le_refl _)
  replace hF := hF.2 q205
  refine .exit ?_
  refine .seqX ?_
  refine .seqX ?_
  refine .blkX ?_
  refine .seqN ?_
  refine .seq ?_
  refine .region ?_
  refine .v (mv rfl) rfl rfl rfl ?_
  refine .v (mv rfl) rfl rfl rfl ?_
  refine .v (asg rfl) rfl rfl rfl ?_
  refine .v (asg rfl) rfl rfl rfl ?_
  refine .nil ?_
  refine .seqN ?_
  refine .freezeL (k := 1) rfl (fun h1 le1 q240 q239 => ?_)
  refine .cast (A' := [OwnSl 22 1 ayes yes.length cyes csyes, tru]) rfl ?_
  refine .freezeL (k := 0) rfl (fun h2 le2 q242 q241 => ?_)
  refine .cast (A' := [tru, tru]) rfl ?_
  refine .ret ?_
  refine .res2 rfl (rvT rfl) (rvT rfl) (fun w' S => ⟨(yes, no), (ayes, cyes, ano, cno), h2, hF, rfl, (FH.le_trans (le1) (le2)), ⟨(show RSl h2 ayes yes from ⟨_, q161.mono (FH.le_trans (le1) (le2)), q241⟩), (q242), ((show RSl h1 ano no from ⟨_, q162.mono (le1), q239⟩).mono (le2)), (q240)⟩, S.none⟩)

theorem c_split {h : FH} {w : World} (hs : Sub h w) (worlds : List (List Int)) (aworlds : Option Addr) (cworlds : Nat) (_q1 : RSl h aworlds worlds) (_q2 : worlds.length ≤ cworlds) (fact : Int) (hp : pre_split worlds fact) : Calls Tryz.prog 97 #[.slice aworlds worlds.length cworlds, .int .i64 fact] w fun e w' => ∃ (z : Option Addr × Nat × Option Addr × Nat) (h1 : FH), e = .returned (.tuple #[.slice z.1 (sp_split worlds fact).1.length z.2.1, .slice z.2.2.1 (sp_split worlds fact).2.length z.2.2.2]) ∧ FH.le h h1 ∧ (RSl h1 z.1 (sp_split worlds fact).1 ∧ (sp_split worlds fact).1.length ≤ z.2.1 ∧ RSl h1 z.2.2.1 (sp_split worlds fact).2 ∧ (sp_split worlds fact).2.length ≤ z.2.2.2) ∧ SH (Kp.all w h) h1 w' [] :=
  (w_split hs worlds aworlds cworlds _q1 _q2 fact (fun r => r = sp_split worlds fact) (ok_split worlds fact hp)).mono fun _ _ ⟨r, z, h1, hk, he, hl, hf, hS⟩ => by subst hk; exact ⟨z, h1, he, hl, hf, hS⟩

end Go.Proofs.YtojoehfldbimpaaGreatDoor.Pl

/- The walks: from what each function asks to what it does; printed from the code. No condition. -/
namespace Go.Proofs.YtojoehfldbimpaaGreatDoor.Pl
open Go Go.RowKit
theorem w_trees {h : FH} {w : World} (hs : Sub h w) (a : List TNode) (aa : Option Addr) (ca : Nat) (_q1 : RSl h aa a) (_q2 : a.length ≤ ca) (b : List TNode) (ab : Option Addr) (cb : Nat) (_q3 : RSl h ab b) (_q4 : b.length ≤ cb) (K : Bool → Prop) (hF : F_trees a b K) : Calls Tryz.prog 35 #[.slice aa a.length ca, .slice ab b.length cb] w fun e w' => ∃ r : Bool, K r ∧ e = .returned (.bool r) ∧ Below w.heap.size w w' := by
  refine enter (args := [.slice aa a.length ca, .slice ab b.length cb]) Tryz.func35 rfl Tryz.ntmps35 rfl hs ?_
  refine .seq ?_
  refine .region ?_
  refine .v (asg rfl) rfl rfl rfl ?_
  refine .nil ?_
  refine .seqN ?_
  refine .seq ?_
  refine .seq ?_
  refine .region ?_
  refine .v (mv rfl) rfl rfl rfl ?_
  refine .v (ln rfl tS60.is) rfl rfl rfl ?_
  refine .v (mv rfl) rfl rfl rfl ?_
  refine .v (ln rfl tS60.is) rfl rfl rfl ?_
  refine .v (bi rfl rfl rfl) rfl rfl rfl ?_
  refine .nil ?_
  refine .seqN ?_
  refine .cond rfl (fun q6 => ?_) (fun q6 => ?_)
  · replace hF := hF.1 q6
    refine .seq ?_
    refine .region ?_
    refine .v (asg rfl) rfl rfl rfl ?_
    refine .nil ?_
    refine .seqN ?_
    refine .ret ?_
    refine .seqR ?_
    refine .res1 rfl (rvT rfl) (fun w' S => ⟨false, hF, rfl, S.below⟩)
  replace hF := hF.2 q6
  refine .skip ?_
  refine .seqN ?_
  refine .seq ?_
  refine .seq ?_
  refine .region ?_
  refine .v (asg rfl) rfl rfl rfl ?_
  refine .nil ?_
  refine .seqN ?_
  refine .block ?_
  obtain ⟨I1, μ1, q79, q80⟩ := hF
  refine .loop' (σ := Int) (fun z => I1 z) (fun z => μ1 z) (fun z => [(0, .slice aa a.length ca), (1, .slice ab b.length cb), (5, .int .i64 z)]) (fun _ => []) (fun _ => h) 0 q79 (.cons rfl (.cons rfl (.cons rfl (.nil)))) rfl (FH.le_refl _) ?_
  rintro i q79
  have hF := q80 i q79
  show J _ _ _ _ _ [(0, .slice aa a.length ca), (1, .slice ab b.length cb), (5, .int .i64 i)] [] h
  refine .seq ?_
  refine .seq ?_
  refine .region ?_
  refine .v (mv rfl) rfl rfl rfl ?_
  refine .v (mv rfl) rfl rfl rfl ?_
  refine .v (ln rfl tS60.is) rfl rfl rfl ?_
  refine .v (bi rfl rfl rfl) rfl rfl rfl ?_
  refine .nil ?_
  refine .seqN ?_
  refine .cond rfl (fun q82 => ?_) (fun q82 => ?_)
  · replace hF := hF.1 q82
    refine .skip ?_
    refine .seqN ?_
    refine .seq ?_
    refine .block ?_
    refine .seq ?_
    refine .open_ (by kernel_rfl) (by kernel_rfl) ?_
    refine .v (mv rfl) rfl rfl rfl ?_
    refine .v (mv rfl) rfl rfl rfl ?_
    obtain ⟨q91, hF⟩ := hF
    refine .v (ix rfl rfl tS60 (_q1.ne (by decide) (inb_pos q91)) q91) rfl rfl rfl ?_
    refine .v (ldA (cs := [.int .i64 ((gt a i).kind), .int .i64 ((gt a i).op), .int .i64 ((gt a i).fact), .int .i64 ((gt a i).yes), .int .i64 ((gt a i).no)]) rfl tA102 rfl (cellsH (_q1.elemF q91 (by decide)))) rfl rfl rfl ?_
    refine .v (mv rfl) rfl rfl rfl ?_
    refine .v (mv rfl) rfl rfl rfl ?_
    obtain ⟨q92, hF⟩ := hF
    refine .v (ix rfl rfl tS60 (_q3.ne (by decide) (inb_pos q92)) q92) rfl rfl rfl ?_
    refine .v (ldA (cs := [.int .i64 ((gt b i).kind), .int .i64 ((gt b i).op), .int .i64 ((gt b i).fact), .int .i64 ((gt b i).yes), .int .i64 ((gt b i).no)]) rfl tA102 rfl (cellsH (_q3.elemF q92 (by decide)))) rfl rfl rfl ?_
    obtain ⟨x, q93⟩ : ∃ y_ : Bool, y_ = (!((((((gt a i).kind) == ((gt b i).kind)) && (((gt a i).op) == ((gt b i).op))) && ((((gt a i).fact) == ((gt b i).fact)) && (((gt a i).yes) == ((gt b i).yes)))) && (((gt a i).no) == ((gt b i).no)))) := ⟨_, rfl⟩
    replace hF := hF x q93
    refine .v (v := .bool x) (by rw [q93]; exact ne5 tE102 rfl rfl) rfl rfl rfl ?_
    refine .fin ?_
    refine .seqN ?_
    refine .cond rfl (fun q94 => ?_) (fun q94 => ?_)
    · replace hF := hF.1 q94
      refine .seq ?_
      refine .region ?_
      refine .v (asg rfl) rfl rfl rfl ?_
      refine .nil ?_
      refine .seqN ?_
      refine .ret ?_
      refine .blkR ?_
      refine .seqR ?_
      refine .seqR ?_
      refine .blkR ?_
      refine .seqR ?_
      refine .res1 rfl (rvT rfl) (fun w' S => ⟨false, hF, rfl, S.below⟩)
    replace hF := hF.2 q94
    refine .skip ?_
    refine .blkN ?_
    refine .seqN ?_
    refine .region ?_
    refine .v (mv rfl) rfl rfl rfl ?_
    refine .v (bi rfl rfl rfl) rfl rfl rfl ?_
    refine .v (asg rfl) rfl rfl rfl ?_
    refine .nil ?_
    exact .round (IntKind.i64.wrap (i + 1)) hF.1 hF.2 (.cons rfl (.cons rfl (.cons rfl (.nil)))) rfl (FH.le_refl _)
  replace hF := hF.2 q82
  refine .exit ?_
  refine .seqX ?_
  refine .seqX ?_
  refine .blkX ?_
  refine .seqN ?_
  refine .seq ?_
  refine .region ?_
  refine .v (asg rfl) rfl rfl rfl ?_
  refine .nil ?_
  refine .seqN ?_
  refine .ret ?_
  refine .res1 rfl (rvT rfl) (fun w' S => ⟨true, hF, rfl, S.below⟩)

theorem c_trees {h : FH} {w : World} (hs : Sub h w) (a : List TNode) (aa : Option Addr) (ca : Nat) (_q1 : RSl h aa a) (_q2 : a.length ≤ ca) (b : List TNode) (ab : Option Addr) (cb : Nat) (_q3 : RSl h ab b) (_q4 : b.length ≤ cb) (hp : pre_trees a b) : Calls Tryz.prog 35 #[.slice aa a.length ca, .slice ab b.length cb] w fun e w' => e = .returned (.bool (sp_trees a b)) ∧ Below w.heap.size w w' :=
  (w_trees hs a aa ca _q1 _q2 b ab cb _q3 _q4 (fun r => r = sp_trees a b) (ok_trees a b hp)).mono fun _ _ ⟨_, hk, he, hb⟩ => ⟨by rw [he, hk], hb⟩

end Go.Proofs.YtojoehfldbimpaaGreatDoor.Pl

/- The library's contract on strconv.Itoa below 100, laid at this program. No condition. -/
namespace Go.Proofs
open Go.Shelf
def YtojoehfldbimpaaGreatDoor.lays171_ren : Go.Shelf.Ren := ⟨fun | 171 => 113 | 243 => 123 | 246 => 148 | 283 => 144 | 284 => 145 | 285 => 146 | 286 => 147 | 129 => 135 | 317 => 158 | 318 => 159 | 319 => 160 | 320 => 161 | 337 => 164 | 338 => 165 | n => n, fun | 3 => 3 | 9 => 9 | 2 => 2 | 4 => 4 | 171 => 155 | 0 => 0 | 53 => 137 | 37 => 110 | 5 => 5 | 173 => 157 | 212 => 171 | 51 => 148 | 20 => 20 | 213 => 172 | 46 => 131 | 232 => 177 | 233 => 178 | n => n, fun | 17 => 0 | 18 => 1 | 19 => 2 | n => n⟩
theorem YtojoehfldbimpaaGreatDoor.lays171 : Go.Proofs.Lays.n171 Tryz.prog YtojoehfldbimpaaGreatDoor.lays171_ren := {
  mixed := by kernel_rfl
  f129 := Tryz.func135.trans (congrArg some (by kernel_rfl))
  f171 := Tryz.func113.trans (congrArg some (by kernel_rfl))
  f243 := Tryz.func123.trans (congrArg some (by kernel_rfl))
  f246 := Tryz.func148.trans (congrArg some (by kernel_rfl))
  f283 := Tryz.func144.trans (congrArg some (by kernel_rfl))
  f284 := Tryz.func145.trans (congrArg some (by kernel_rfl))
  f285 := Tryz.func146.trans (congrArg some (by kernel_rfl))
  f286 := Tryz.func147.trans (congrArg some (by kernel_rfl))
  f317 := Tryz.func158.trans (congrArg some (by kernel_rfl))
  f318 := Tryz.func159.trans (congrArg some (by kernel_rfl))
  f319 := Tryz.func160.trans (congrArg some (by kernel_rfl))
  f320 := Tryz.func161.trans (congrArg some (by kernel_rfl))
  f337 := Tryz.func164.trans (congrArg some (by kernel_rfl))
  f338 := Tryz.func165.trans (congrArg some (by kernel_rfl))
  t0 := Tryz.underlying0
  a0 := Tryz.isAgg0
  z0 := Tryz.sizeOf0
  v0 := Tryz.zeroValue0
  t2 := Tryz.underlying2
  a2 := Tryz.isAgg2
  z2 := Tryz.sizeOf2
  v2 := Tryz.zeroValue2
  t3 := Tryz.underlying3
  a3 := Tryz.isAgg3
  z3 := Tryz.sizeOf3
  v3 := Tryz.zeroValue3
  t4 := Tryz.underlying4
  a4 := Tryz.isAgg4
  z4 := Tryz.sizeOf4
  v4 := Tryz.zeroValue4
  t5 := Tryz.underlying5
  a5 := Tryz.isAgg5
  z5 := Tryz.sizeOf5
  v5 := Tryz.zeroValue5
  t9 := Tryz.underlying9
  a9 := Tryz.isAgg9
  z9 := Tryz.sizeOf9
  v9 := Tryz.zeroValue9
  t20 := Tryz.underlying20
  a20 := Tryz.isAgg20
  z20 := Tryz.sizeOf20
  v20 := Tryz.zeroValue20
  t37 := Tryz.underlying110
  a37 := Tryz.isAgg110
  z37 := Tryz.sizeOf110
  v37 := Tryz.zeroValue110
  t46 := Tryz.underlying131
  a46 := Tryz.isAgg131
  z46 := Tryz.sizeOf131
  v46 := Tryz.zeroValue131
  t51 := Tryz.underlying148
  a51 := Tryz.isAgg148
  z51 := Tryz.sizeOf148
  v51 := Tryz.zeroValue148
  t53 := Tryz.underlying137
  a53 := Tryz.isAgg137
  z53 := Tryz.sizeOf137
  v53 := Tryz.zeroValue137
  t171 := Tryz.underlying155
  a171 := Tryz.isAgg155
  z171 := Tryz.sizeOf155
  v171 := Tryz.zeroValue155
  t173 := Tryz.underlying157
  a173 := Tryz.isAgg157
  z173 := Tryz.sizeOf157
  v173 := Tryz.zeroValue157
  t212 := Tryz.underlying171
  a212 := Tryz.isAgg171
  z212 := Tryz.sizeOf171
  v212 := Tryz.zeroValue171
  t213 := Tryz.underlying172
  a213 := Tryz.isAgg172
  z213 := Tryz.sizeOf172
  t232 := Tryz.underlying177
  a232 := Tryz.isAgg177
  z232 := Tryz.sizeOf177
  v232 := Tryz.zeroValue177
  t233 := Tryz.underlying178
  a233 := Tryz.isAgg178
  z233 := Tryz.sizeOf178
  v233 := Tryz.zeroValue178
  g17 := by kernel_rfl
  g18 := by kernel_rfl
  g19 := by kernel_rfl }
end Go.Proofs
namespace Go.Proofs.YtojoehfldbimpaaGreatDoor.Pl
open Go Go.RowKit
theorem c_itoa {h : FH} {w : World} (_ : Sub h w) (i : Int) (hp : pre_itoa i) : Calls Tryz.prog 113 #[.int .i64 i] w fun e w' => e = .returned (strV (sp_itoa i)) ∧ Below w.heap.size w w' := by
  obtain ⟨h0, h1⟩ := hp
  have key := Any.strconv_Itoa_small YtojoehfldbimpaaGreatDoor.lays171 i.toNat (by omega) w
  rw [show ((i.toNat : Nat) : Int) = i by omega] at key
  refine key.mono fun e w' ⟨he, hw⟩ => ⟨?_, by rw [hw]; exact Below.refl _ _⟩
  rw [he]
  unfold sp_itoa Lib.itoa
  rw [if_neg (by omega)]
end Go.Proofs.YtojoehfldbimpaaGreatDoor.Pl

