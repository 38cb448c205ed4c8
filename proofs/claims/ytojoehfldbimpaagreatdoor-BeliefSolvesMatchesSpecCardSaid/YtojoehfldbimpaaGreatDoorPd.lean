/- A second copy of a part of the program logic, in which draws are counted, and the walks of the functions that a sort calls. No condition. -/
import Derived.Test.YtojoehfldbimpaaGreatDoorT
import Derived.Test.YtojoehfldbimpaaGreatDoorK8
import Derived.Shelf.SlSortCmp.NoneTotal
namespace Go.Proofs.YtojoehfldbimpaaGreatDoor.Pl.Pd
open Go Go.RowKit
/-- what is counted of the draws -/
def dr (w : World) : Nat := w.drawn
theorem dr_drew (w : World) : dr w ≤ dr w.drew := by unfold dr; first | exact Nat.le_succ _ | exact Nat.le_refl _
/-- Below block number B the world w' is as w was; the streams are as they were; no block has gone; no draw is undone. -/
structure Below (B : Nat) (w w' : World) : Prop where
  os : w'.os = w.os
  tape : w'.tape = w.tape
  output : w'.output = w.output
  size : w.heap.size ≤ w'.heap.size
  block : ∀ k, k < B → w'.heap[k]? = w.heap[k]?
  drawn : dr w ≤ dr w'
theorem Below.refl (B : Nat) (w : World) : Below B w w := ⟨rfl, rfl, rfl, Nat.le_refl _, fun _ _ => rfl, Nat.le_refl _⟩
theorem Below.drew {B : Nat} {a w : World} (h : Below B a w) : Below B a w.drew := ⟨h.os, h.tape, h.output, h.size, h.block, Nat.le_trans h.drawn (dr_drew _)⟩
structure Kept (K : Kp) (w : World) : Prop where
  os : w.os = K.w.os
  tape : w.tape = K.w.tape
  output : w.output = K.w.output
  size : K.w.heap.size ≤ w.heap.size
  block : ∀ b, K.keep b → w.heap[b]? = K.w.heap[b]?
  drawn : dr K.w ≤ dr w
theorem Kept.start (w : World) (h : FH) : Kept (Kp.all w h) w := ⟨rfl, rfl, rfl, Nat.le_refl _, fun _ _ => rfl, Nat.le_refl _⟩
theorem Kept.below {w w' : World} {h : FH} (k : Kept (Kp.all w h) w') : Below w.heap.size w w' := ⟨k.os, k.tape, k.output, k.size, k.block, k.drawn⟩
structure SH (K : Kp) (h : FH) (w : World) (A : List Asrt) : Prop where
  kept : Kept K w
  sub : Sub h w
  fresh : ∀ b, h b ≠ none → K.h b ≠ none ∨ ¬ K.keep b
  parts : ∃ gs, Parts K h w A gs

section
variable {K : Kp} {h : FH} {w : World} {A : List Asrt}
theorem SH.start (w : World) (h : FH) (s : Sub h w) : SH (Kp.all w h) h w [] :=
  ⟨Kept.start w h, s, fun _ h => .inl h, [], rfl, by simp, by simp, by simp⟩
theorem SH.below {w0 : World} {h0 : FH} (s : SH (Kp.all w0 h0) h w A) : Below w0.heap.size w0 w := s.kept.below
theorem SH.anti {h' : FH} (hl : FH.le h h') (s : SH K h' w A) : SH K h w A := by
  obtain ⟨gs, p1, p2, p3, p4⟩ := s.parts
  refine ⟨s.kept, s.sub.anti hl, fun b hb => s.fresh b (by
    cases e : h b with
    | none => exact absurd e hb
    | some o => rw [hl b o e]; simp), gs, p1, p2, fun i g hi => ?_, p4⟩
  have o := p3 i g hi
  refine ⟨fun b => ?_, o.sub, o.free⟩
  rcases o.disj b with e | e
  · cases hb : h b with
    | none => exact .inl rfl
    | some x => rw [hl _ _ hb] at e; cases e
  · exact .inr e
/-- the world has grown, and all that was there is as it was -/
theorem SH.ext {w' : World} (s : SH K h w A) (hb : Below w.heap.size w w') : SH K h w' A := by
  obtain ⟨gs, p1, p2, p3, p4⟩ := s.parts
  refine ⟨⟨hb.os.trans s.kept.os, hb.tape.trans s.kept.tape, hb.output.trans s.kept.output, Nat.le_trans s.kept.size hb.size, fun b hk => ?_, Nat.le_trans s.kept.drawn hb.drawn⟩, s.sub.ext hb.block, s.fresh, gs, p1, p2, fun i g hi => ⟨(p3 i g hi).disj, (p3 i g hi).sub.ext hb.block, (p3 i g hi).free⟩, p4⟩
  rw [hb.block b (Nat.lt_of_lt_of_le (K.lt b hk) s.kept.size)]
  exact s.kept.block b hk
theorem SH.drop {X : Asrt} (s : SH K h w (X :: A)) : SH K h w A := by
  obtain ⟨gs, p1, p2, p3, p4⟩ := s.parts
  cases gs with
  | nil => simp at p1
  | cons g gs =>
    refine ⟨s.kept, s.sub, s.fresh, gs, by simpa using p1, fun i g1 Y hi hY => p2 (i + 1) g1 Y (by simpa using hi) (by simpa using hY), fun i g1 hi => p3 (i + 1) g1 (by simpa using hi), fun i j g1 g2 hij hi hj => p4 (i + 1) (j + 1) g1 g2 (by omega) (by simpa using hi) (by simpa using hj)⟩
end


section
variable {P : Program} {K : Kp} {n : Fr}
def J (P : Program) (K : Kp) (n : Fr) (c : Code) (Q : Exit → Act → World → Prop) (s : St) (A : List Asrt) (h : FH) : Prop :=
  ∀ a w, Holds n s a → SH K h w A → WC P n.ro c Q a w
def JL (P : Program) (K : Kp) (n : Fr) (ops : Array Oper) (l : List Oper) (Q : Exit → Act → World → Prop) (s : St) (A : List Asrt) (h : FH) : Prop :=
  ∀ a w, Holds n s a → SH K h w A → WL P n.ro ops Q l a w
def E (K : Kp) (n : Fr) (Q : Exit → Act → World → Prop) (e : Exit) (s : St) (A : List Asrt) (h : FH) : Prop :=
  ∀ a w, Holds n s a → SH K h w A → Q e a w
variable {Q : Exit → Act → World → Prop} {s s' : St} {A : List Asrt} {h h' : FH}
theorem J.up (hl : FH.le h h') {c : Code} (j : J P K n c Q s A h) : J P K n c Q s A h' := fun a w H S => j a w H (S.anti hl)
theorem J.sub (hs : SubSt s' s) {c : Code} (j : J P K n c Q s' A h) : J P K n c Q s A h := fun a w H S => j a w (H.sub hs) S
theorem J.drop {c : Code} {X : Asrt} (j : J P K n c Q s A h) : J P K n c Q s (X :: A) h := fun a w H S => j a w H S.drop
theorem J.seq {x y : Code} (j : J P K n x (Exit.then (fun a w => WC P n.ro y Q a w) Q) s A h) : J P K n (.seq x y) Q s A h := by
  obtain ⟨m, ro, dl⟩ := n
  cases ro with
  | none => exact fun a w H S => wp_seq (j a w H S)
  | some l => exact fun a w H S => wpIn_seq (j a w H S)
theorem J.cond {c : Operand} {x y : Code} {b : Bool} (hc : ev s c = some (.bool b)) (ht : b = true → J P K n x Q s A h) (hf : b = false → J P K n y Q s A h) : J P K n (.cond c x y) Q s A h := by
  obtain ⟨m, ro, dl⟩ := n
  cases ro with
  | none => exact fun a w H S => wp_cond_split (H.ev hc) (fun e => ht e a w H S) (fun e => hf e a w H S)
  | some l => exact fun a w H S => wpIn_cond_split (H.ev hc) (fun e => ht e a w H S) (fun e => hf e a w H S)
theorem J.block {id : Nat} {c : Code} (j : J P K n c (Exit.inBlock id Q) s A h) : J P K n (.block id c) Q s A h := by
  obtain ⟨m, ro, dl⟩ := n
  cases ro with
  | none => exact fun a w H S => wp_block (j a w H S)
  | some l => exact fun a w H S => wpIn_block (j a w H S)
theorem J.region {id : Nat} {l : List Oper} (j : JL P K n l.toArray l Q s A h) : J P K n (.region id l.toArray false) Q s A h := by
  obtain ⟨m, ro, dl⟩ := n
  cases ro with
  | none => exact fun a w H S => wp_region_lit (j a w H S)
  | some l => exact fun a w H S => wpIn_region_lit (j a w H S)
theorem J.skip (j : E K n Q .normal s A h) : J P K n .skip Q s A h := by
  obtain ⟨m, ro, dl⟩ := n
  cases ro with
  | none => exact fun a w H S => wp_skip (j a w H S)
  | some l => exact fun a w H S => wpIn_skip (j a w H S)
theorem J.exit {id : Nat} (j : E K n Q (.exit id) s A h) : J P K n (.exit id) Q s A h := by
  obtain ⟨m, ro, dl⟩ := n
  cases ro with
  | none => exact fun a w H S => wp_exit (j a w H S)
  | some l => exact fun a w H S => wpIn_exit (j a w H S)
theorem J.ret (j : E K n Q .ret s A h) : J P K n .ret Q s A h := by
  obtain ⟨m, ro, dl⟩ := n
  cases ro with
  | none => exact fun a w H S => wp_ret (j a w H S)
  | some l => exact fun a w H S => wpIn_ret (j a w H S)
theorem JL.nil {ops : Array Oper} (j : E K n Q .normal s A h) : JL P K n ops [] Q s A h := by
  obtain ⟨m, ro, dl⟩ := n
  cases ro with
  | none => exact fun a w H S => wpList_nil (P := P) (ops := ops) (j a w H S)
  | some l => exact fun a w H S => wpListIn_nil (F := FR l) (n := 0) (P := P) (ops := ops) (j a w H S)
theorem JL.up (hl : FH.le h h') {ops : Array Oper} {l : List Oper} (j : JL P K n ops l Q s A h) : JL P K n ops l Q s A h' := fun a w H S => j a w H (S.anti hl)
theorem JL.sub (hs : SubSt s' s) {ops : Array Oper} {l : List Oper} (j : JL P K n ops l Q s' A h) : JL P K n ops l Q s A h := fun a w H S => j a w (H.sub hs) S
theorem JL.drop {ops : Array Oper} {l : List Oper} {X : Asrt} (j : JL P K n ops l Q s A h) : JL P K n ops l Q s (X :: A) h := fun a w H S => j a w H S.drop
theorem E.up {e : Exit} (hl : FH.le h h') (j : E K n Q e s A h) : E K n Q e s A h' := fun a w H S => j a w H (S.anti hl)
theorem E.sub {e : Exit} (hs : SubSt s' s) (j : E K n Q e s' A h) : E K n Q e s A h := fun a w H S => j a w (H.sub hs) S
theorem E.drop {e : Exit} {X : Asrt} (j : E K n Q e s A h) : E K n Q e s (X :: A) h := fun a w H S => j a w H S.drop
theorem E.seqN {y : Code} (j : J P K n y Q s A h) : E K n (Exit.then (fun a w => WC P n.ro y Q a w) Q) .normal s A h := j
theorem E.seqR {F : Act → World → Prop} (j : E K n Q .ret s A h) : E K n (Exit.then F Q) .ret s A h := j
theorem E.seqX {F : Act → World → Prop} {i : Nat} (j : E K n Q (.exit i) s A h) : E K n (Exit.then F Q) (.exit i) s A h := j
theorem E.blkN {id : Nat} (j : E K n Q .normal s A h) : E K n (Exit.inBlock id Q) .normal s A h := j
theorem E.blkR {id : Nat} (j : E K n Q .ret s A h) : E K n (Exit.inBlock id Q) .ret s A h := j
theorem E.blkX {id : Nat} (j : E K n Q .normal s A h) : E K n (Exit.inBlock id Q) (.exit id) s A h := fun a w H S => by
  simp only [Exit.inBlock, if_true]; exact j a w H S
/-- a loop: a relation of a state to the frame, the slots and the memory, kept by every round, and a measure -/
theorem J.loopN {σ : Type} (I : σ → Prop) (μ : σ → Nat) (N : σ → Fr) (S : σ → St) (M : σ → List Asrt) (F : σ → FH) {c : Code} (x0 : σ) (hI : I x0) (hn : ∀ x, (N x).ro = n.ro) (h0 : N x0 = n)
    (round : ∀ x, I x → J P K (N x) c (Exit.then (fun a w => ∃ y, I y ∧ μ y < μ x ∧ Holds (N y) (S y) a ∧ SH K (F y) w (M y)) Q) (S x) (M x) (F x)) :
    J P K n (.loop c) Q (S x0) (M x0) (F x0) := fun a w H Sh => by
  refine WC.loop (fun a w => ∃ x, I x ∧ Holds (N x) (S x) a ∧ SH K (F x) w (M x)) (fun a w => leastOf fun k => ∃ x, μ x = k ∧ I x ∧ Holds (N x) (S x) a ∧ SH K (F x) w (M x)) ⟨x0, hI, by rw [h0]; exact H, Sh⟩ ?_
  intro a w hx
  have he : ∃ k, ∃ x, μ x = k ∧ I x ∧ Holds (N x) (S x) a ∧ SH K (F x) w (M x) := by obtain ⟨x, h⟩ := hx; exact ⟨μ x, x, rfl, h⟩
  obtain ⟨⟨x, h0, h1, h2, h3⟩, _⟩ := leastOf_spec he
  have hr := round x h1 a w h2 h3
  rw [hn] at hr
  refine WC.mono (fun e a' w' q => ?_) hr
  cases e with
  | normal =>
    obtain ⟨y, y1, y2, y3, y4⟩ := q
    refine ⟨⟨y, y1, y3, y4⟩, ?_⟩
    have hl := (leastOf_spec (p := fun k => ∃ x, μ x = k ∧ I x ∧ Holds (N x) (S x) a' ∧ SH K (F x) w' (M x)) ⟨μ y, y, rfl, y1, y3, y4⟩).2 (μ y) ⟨y, rfl, y1, y3, y4⟩
    exact Nat.lt_of_le_of_lt hl (by rw [← h0]; exact y2)
  | exit id => exact q
  | goto l => exact q
  | ret => exact q
  | panic ch => exact q
  | outgrown => exact q
theorem J.loop {σ : Type} (I : σ → Prop) (μ : σ → Nat) (S : σ → St) (M : σ → List Asrt) (F : σ → FH) {c : Code} (x0 : σ) (hI : I x0)
    (round : ∀ x, I x → J P K n c (Exit.then (fun a w => ∃ y, I y ∧ μ y < μ x ∧ Holds n (S y) a ∧ SH K (F y) w (M y)) Q) (S x) (M x) (F x)) :
    J P K n (.loop c) Q (S x0) (M x0) (F x0) := J.loopN I μ (fun _ => n) S M F x0 hI (fun _ => rfl) rfl round
/-- the end of a round -/
theorem E.round {σ : Type} {I : σ → Prop} {μ : σ → Nat} {S : σ → St} {M : σ → List Asrt} {F : σ → FH} {m : Nat} (y : σ) (hI : I y) (hμ : μ y < m) (hs : SubSt (S y) s) (hm : M y = A) (hf : FH.le (F y) h) :
    E K n (Exit.then (fun a w => ∃ y, I y ∧ μ y < m ∧ Holds n (S y) a ∧ SH K (F y) w (M y)) Q) .normal s A h :=
  fun a w H Sh => ⟨y, hI, hμ, H.sub hs, by rw [hm]; exact Sh.anti hf⟩
end
section
variable {P : Program}
variable {K : Kp} {n : Fr} {ops : Array Oper} {Q : Exit → Act → World → Prop} {s : St} {A : List Asrt} {h : FH} {rest : List Oper}
/-- an operation that gives a value and leaves the world alone; a call that gives a plain value -/
def VF (P : Program) (K : Kp) (n : Fr) (s : St) (A : List Asrt) (h : FH) (o : Oper) (v : Value) : Prop := ∀ a w, Holds n s a → SH K h w A → (execOp a.eval o).run P w = .ok (.value v) w
def CF (P : Program) (K : Kp) (n : Fr) (s : St) (A : List Asrt) (h : FH) (o : Oper) (v : Value) : Prop := ∀ a w, Holds n s a → SH K h w A →
  ∃ f args, (execOp a.eval o).run P w = .ok (.enter f args) w ∧ Calls P f args w fun e w' => e = .returned v ∧ Below w.heap.size w w'
theorem JL.v {o : Oper} {d : Nat} {v : Value} (hx : VF P K n s A h o v) (hg : o.guard = none) (hd : o.dst = some d) (hn : Nat.blt d n.sz = true)
    (k : JL P K n ops rest Q ((d, v) :: s) A h) : JL P K n ops (o :: rest) Q s A h :=
  fun a w H S => WL.val hg (hx a w H S) (k _ w (by rw [hd]; exact H.put v hn) S)
theorem JL.c {o : Oper} {d : Nat} {v : Value} (hx : CF P K n s A h o v) (hg : o.guard = none) (hd : o.dst = some d) (hn : Nat.blt d n.sz = true)
    (k : JL P K n ops rest Q ((d, v) :: s) A h) : JL P K n ops (o :: rest) Q s A h :=
  fun a w H S => by
    obtain ⟨f, args, hr, hc⟩ := hx a w H S
    exact WL.enter hg hr (hc.mono fun e w' ⟨he, hb⟩ => ⟨v, he, k _ w' (by rw [hd]; exact H.put v hn) (S.ext hb)⟩)
section ops
variable {dd : Option Tmp} {gd : Option (Nat × Bool)} {ty : TypeId} {pos : String} {af : Array Edge}
theorem mv {x : Operand} {v : Value} (hx : ev s x = some v) : VF P K n s A h ⟨dd, .move x, ty, pos, af, gd⟩ (v) :=
  (fun a w H _ => by simp [execOp, H.ev hx])
theorem asg {x : Operand} {v : Value} (hx : ev s x = some v) : VF P K n s A h ⟨dd, .assign x, ty, pos, af, gd⟩ (v) :=
  (fun a w H _ => by simp [execOp, H.ev hx])
theorem bi {op : BinOp} {x y : Operand} {t t' : TypeId} {ki : IntKind} {i j : Int} {v : Value} (hx : ev s x = some (.int ki i)) (hy : ev s y = some (.int ki j)) (hv : ibin op ki i j = some v) : VF P K n s A h ⟨dd, .binOp op t x y t', ty, pos, af, gd⟩ (v) :=
  (fun a w H _ => by
    obtain ⟨e1, e2⟩ := run_ibin (P := P) hv x y t w
    simp [execOp, H.ev hx, H.ev hy, e1, e2])
theorem ix {x y : Operand} {t e : TypeId} {a : Option Addr} {len cap sz by_ : Nat} {zs : List Value} {ki : IntKind} {i : Int} (hx : ev s x = some (.slice a len cap)) (hy : ev s y = some (.int ki i)) (ht : TSl P t e sz by_ zs) (ha : a ≠ none) (hi : 0 ≤ i ∧ i < len) : VF P K n s A h ⟨dd, .indexAddr t x y, ty, pos, af, gd⟩ (.pointer (some (ead a (i.toNat * sz)))) :=
  (fun ac w H _ => by
    obtain ⟨ii, z, h1, h2, h3, h4, h5⟩ := ht.info
    cases a with
    | none => exact absurd rfl ha
    | some p => simp [execOp, H.ev hx, H.ev hy, Instr.indexAt, asIntOf, run_underlying ht.und, sizeOf, typeInfo, h1, h3, hi, ead])
theorem ln {x : Operand} {t : TypeId} {a : Option Addr} {len cap : Nat} (hx : ev s x = some (.slice a len cap)) (ht : TIsSl P t) : VF P K n s A h ⟨dd, .call { callee := .builtin .len, args := #[x], argTypes := #[t] }, ty, pos, af, gd⟩ (.int .i64 (len : Int)) :=
  (fun ac w H _ => by
    obtain ⟨e, he⟩ := ht
    simp [execOp, resolve, invoke, builtin, H.ev hx, Builtin.len_, run_underlying he, goInt])
theorem ext {x : Operand} {vs : Array Value} {i : Nat} {v : Value} (hx : ev s x = some (.tuple vs)) (hv : vs[i]? = some v) : VF P K n s A h ⟨dd, .extract x i, ty, pos, af, gd⟩ (v) :=
  (fun ac w H _ => by simp [execOp, H.ev hx, Instr.extract, hv])
end ops
end
section
variable {P : Program} {K : Kp} {n : Fr} {ops : Array Oper} {Q : Exit → Act → World → Prop} {s : St} {A : List Asrt} {h : FH} {rest : List Oper} {d : Nat} {dd : Option Tmp} {gd : Option (Nat × Bool)} {ty : TypeId} {pos : String} {af : Array Edge}

theorem ld1 {x : Operand} {t : TypeId} {p : Addr} {v : Value} (hx : ev s x = some (.pointer (some p))) (ht : TOne P t) (hc : ∀ w, SH K h w A → w.cell? p = some v) : VF P K n s A h ⟨dd, .load t x, ty, pos, af, gd⟩ (v) :=
  (fun ac w H S => by
    simp [execOp, H.ev hx, Instr.loadAt, Instr.sureAddr, loadVar, (ht w).1, run_load, hc w S])
theorem cellH {p : Addr} {v : Value} (hv : h.cell p = some v) : ∀ w, SH K h w A → w.cell? p = some v := fun _ S => S.sub.cell hv
/-- a call that gives a plain value -/
theorem cl {f : FuncId} {x : Operand} {xs : Array Operand} {ts : Array TypeId} {first cap : Array Value} {vs : List Value} {v : Value} (hf : ∀ args w, (callFunc f args).run P w = .ok (.enter f args) w)
    (hx : ev s x = some (.func (.func f) first cap)) (hv : evs s xs.toList = some vs) (hc : ∀ w, SH K h w A → Calls P f (first.toList ++ vs ++ cap.toList).toArray w fun e w' => e = .returned v ∧ Below w.heap.size w w') : CF P K n s A h ⟨dd, .call { callee := .value x, args := xs, argTypes := ts }, ty, pos, af, gd⟩ v :=
  fun _ w H S => ⟨f, _, call_exec H hf hx hv rfl, hc w S⟩
end

section
variable {P : Program} {K : Kp} {n : Fr} {s : St} {A : List Asrt} {h : FH} {fn : Func} {R : Ending → World → Prop}
/-- what a result variable gives -/
def RV (P : Program) (K : Kp) (n : Fr) (s : St) (A : List Asrt) (h : FH) (r : ResultVar) (v : Value) : Prop := ∀ a w, Holds n s a → SH K h w A →
  (resOne a.tmps r).run P w = .ok v w
theorem rvT {t : Nat} {v : Value} (hv : get s t = some v) : RV P K n s A h (.tmp t) v := fun a w H _ => by simp only [resOne, H.getD hv]; rfl
theorem E.res1 {m_ : Nat} {ro_ : Option (Option Nat)} {r : ResultVar} {v : Value} (hr : fn.results = #[r]) (h1 : RV P K ⟨m_, ro_, []⟩ s A h r v) (k : ∀ w, SH K h w A → R (.returned v) w) : E K ⟨m_, ro_, []⟩ (bodyPost P fn R) .ret s A h := fun a w H S => by
  refine ⟨H.defers, v, ?_, k w S⟩
  have e1 := h1 a w H S
  simp only [results_eq, hr, Sem.run_bind, List.mapM_toArray, List.mapM_cons, List.mapM_nil, e1, Sem.run_map, Result.andThen_ok, Sem.run_pure]
  rfl
theorem enter {f : FuncId} {c : Code} {args : List Value} {w : World} (hf : P.funcs[f]? = some fn) (hb : fn.body = some c) {n : Nat} (hn : fn.ntmps = n) (hle : Nat.ble args.length n = true) (hs : Sub h w)
    (j : J P (Kp.all w h) ⟨n, none, []⟩ c (bodyPost P fn R) (start 0 args) [] h) : Calls P f args.toArray w R := by
  have hl : args.length ≤ n := by simpa using hle
  refine calls_of_wp hf hb (j _ w ⟨rfl, ?_, fun t v e => ?_⟩ (SH.start w h hs))
  · simp [hn]; omega
  · obtain ⟨_, h2⟩ := get_start 0 args t v e
    simp only [Nat.sub_zero] at h2
    have hlt : t < args.length := (List.getElem?_eq_some_iff.1 h2).1
    rw [Array.getElem?_append_left (by simpa using hlt)]
    simpa using h2
end
section
variable {P : Program} {K : Kp} {n : Fr} {ops : Array Oper} {Q : Exit → Act → World → Prop} {s : St} {A : List Asrt} {h : FH}
/-- a loop from a state that is named -/
theorem J.loop' {σ : Type} (I : σ → Prop) (μ : σ → Nat) (S : σ → St) (M : σ → List Asrt) (F : σ → FH) {c : Code} (x0 : σ) (hI : I x0) (hs : SubSt (S x0) s) (hm : M x0 = A) (hf : FH.le (F x0) h)
    (round : ∀ x, I x → J P K n c (Exit.then (fun a w => ∃ y, I y ∧ μ y < μ x ∧ Holds n (S y) a ∧ SH K (F y) w (M y)) Q) (S x) (M x) (F x)) :
    J P K n (.loop c) Q s A h := by
  subst hm
  exact .up hf (.sub hs (.loop I μ S M F x0 hI round))
end

section
variable {P : Program} {K : Kp} {n : Fr} {ops : Array Oper} {Q : Exit → Act → World → Prop} {s : St} {A : List Asrt} {h : FH} {rest : List Oper} {R : Act → Prop}
def QL (P : Program) (K : Kp) (n : Fr) (ops : Array Oper) (l : List Oper) (R : Act → Prop) (s : St) (A : List Asrt) (h : FH) : Prop := ∀ a, Holds n s a → wpQuiet P ops (fun w => SH K h w A) R l a
theorem QL.nil (hr : ∀ a, Holds n s a → R a) : QL P K n ops [] R s A h := fun a H => wpQuiet_nil (hr a H)
theorem QL.v {o : Oper} {d : Nat} {v : Value} (hx : VF P K n s A h o v) (hg : o.guard = none) (hd : o.dst = some d) (hn : Nat.blt d n.sz = true) (k : QL P K n ops rest R ((d, v) :: s) A h) : QL P K n ops (o :: rest) R s A h :=
  fun a H => wpQuiet_step fun Kc hK => by
    rw [if_pos (by simp [Region.wanted, hg])]
    refine ⟨v, fun w hw => ?_, hK _ (k _ ?_)⟩
    · unfold Oper.quietAt; rw [hx a w H hw]; exact ⟨rfl, rfl⟩
    · rw [hd]; exact H.put v hn
theorem QL.c {o : Oper} {d : Nat} {v : Value} (hx : CF P K n s A h o v) (hg : o.guard = none) (hd : o.dst = some d) (hn : Nat.blt d n.sz = true) (k : QL P K n ops rest R ((d, v) :: s) A h) : QL P K n ops (o :: rest) R s A h :=
  fun a H => wpQuiet_step fun Kc hK => by
    rw [if_pos (by simp [Region.wanted, hg])]
    refine ⟨v, fun w hw => ?_, hK _ (k _ ?_)⟩
    · obtain ⟨f, args, hr, hc⟩ := hx a w H hw
      unfold Oper.quietAt; rw [hr]
      exact ⟨rfl, hc.mono fun e w' ⟨he, hb⟩ => ⟨he, SH.ext hw hb⟩⟩
    · rw [hd]; exact H.put v hn
theorem SH.drew {w : World} (S : SH K h w A) : SH K h { w with drawn := w.drawn + 1 } A := S.ext ((Below.refl _ _).drew)
end

section
variable {P : Program} {K : Kp} {n : Fr} {ops : Array Oper} {Q : Exit → Act → World → Prop} {s : St} {A A' : List Asrt} {h : FH} {l : List Oper} {c : Code} {ex : Exit}
/-- what stands first takes another's place -/
theorem SH.move {w : World} {X : Asrt} (S : SH K h w (X :: A)) (k : Nat) : SH K h w (A.set k X) := by
  obtain ⟨gs, p1, p2, p3, p4⟩ := S.parts
  cases gs with
  | nil => simp at p1
  | cons g0 gs =>
    have hl : gs.length = A.length := by simpa using p1
    refine ⟨S.kept, S.sub, S.fresh, gs.set k g0, by simp [hl], fun i g Y hi hY => ?_, fun i g hi => ?_, fun i j g g2 hij hi hj => ?_⟩
    · rcases list_set_get hi with ⟨rfl, rfl, _⟩ | ⟨hne, hi'⟩
      · rcases list_set_get hY with ⟨_, rfl, _⟩ | ⟨hne, _⟩
        · exact p2 0 g Y rfl rfl
        · exact absurd rfl hne
      · rcases list_set_get hY with ⟨rfl, _, _⟩ | ⟨_, hY'⟩
        · exact absurd rfl hne
        · exact p2 (i + 1) g Y (by simpa using hi') (by simpa using hY')
    · rcases list_set_get hi with ⟨rfl, rfl, _⟩ | ⟨hne, hi'⟩
      · exact p3 0 g rfl
      · exact p3 (i + 1) g (by simpa using hi')
    · rcases list_set_get hi with ⟨rfl, rfl, _⟩ | ⟨hne, hi'⟩
      · rcases list_set_get hj with ⟨rfl, rfl, _⟩ | ⟨hne2, hj'⟩
        · exact absurd rfl hij
        · exact p4 0 (j + 1) g g2 (by omega) rfl (by simpa using hj')
      · rcases list_set_get hj with ⟨rfl, rfl, _⟩ | ⟨hne2, hj'⟩
        · exact p4 (i + 1) 0 g g2 (by omega) (by simpa using hi') rfl
        · exact p4 (i + 1) (j + 1) g g2 (by omega) (by simpa using hi') (by simpa using hj')
theorem JL.move {X : Asrt} (k : Nat) (j : JL P K n ops l Q s (A.set k X) h) : JL P K n ops l Q s (X :: A) h := fun a w H S => j a w H (S.move k)
end
section
variable {P : Program} {K : Kp} {n : Fr} {ops : Array Oper} {Q : Exit → Act → World → Prop} {s : St} {A A' : List Asrt} {h : FH} {rest : List Oper}
theorem SH.none {w : World} (S : SH K h w A) : SH K h w [] := by
  induction A with
  | nil => exact S
  | cons x r ih => exact ih S.drop
end
section
variable {P : Program} {K : Kp} {m_ : Nat} {dl_ : List Nat} {ops : Array Oper} {Q : Exit → Act → World → Prop} {s : St} {A : List Asrt} {h : FH}
def JA (P : Program) (K : Kp) (n : Fr) (ops : Array Oper) (Q : Exit → Act → World → Prop) (X D C : List Nat) (val s0 : St) (A : List Asrt) (h : FH) : Prop :=
  dstOk ops (s0.map (·.1)) X = true → ∀ (fuel : Nat) (listed : Array Bool) (a : Act) (w : World) (sL : St), Known ops D C val s0 listed sL → listed.toList.count false ≤ fuel → Holds n sL a → SH K h w A → wpAny P .any ops Q fuel listed a w
/-- what the operations give that only read -/
def QA (P : Program) (K : Kp) (n : Fr) (ops : Array Oper) (val s0 : St) (A : List Asrt) (h : FH) (C : List Nat) : Prop :=
  ∀ i ∈ C, ∃ o d v si, ops[i]? = some o ∧ o.dst = some d ∧ Nat.blt d n.sz = true ∧ get val i = some v ∧ dl ops val o = si ∧ ((gdT ops si o ∧ ((∀ sL, VF P K n (si ++ (s0 ++ sL)) A h o v) ∨ (∀ sL, CF P K n (si ++ (s0 ++ sL)) A h o v))) ∨ (gdF ops si o ∧ v = undef))
section
variable {val s0 : St} {i d g t : Nat} {C : List Nat} {o : Oper} {u : Value} {want b : Bool}
theorem QA.nil : QA P K ⟨m_, none, dl_⟩ ops val s0 A h [] := fun i hi => by cases hi
theorem QA.cons (si : St) (ho : ops[i]? = some o) (hd : o.dst = some d) (hn : Nat.blt d m_ = true) (hv : get val i = some u) (hs : dl ops val o = si) (hx : (gdT ops si o ∧ ((∀ sL, VF P K ⟨m_, none, dl_⟩ (si ++ (s0 ++ sL)) A h o u) ∨ (∀ sL, CF P K ⟨m_, none, dl_⟩ (si ++ (s0 ++ sL)) A h o u))) ∨ (gdF ops si o ∧ u = undef)) (r : QA P K ⟨m_, none, dl_⟩ ops val s0 A h C) : QA P K ⟨m_, none, dl_⟩ ops val s0 A h (i :: C) := fun j hj => by
  rcases List.mem_cons.1 hj with rfl | hj
  · exact ⟨o, d, u, si, ho, hd, hn, hv, hs, hx⟩
  · exact r j hj
theorem QA.v (si : St) (ho : ops[i]? = some o) (hg : o.guard = none) (hd : o.dst = some d) (hn : Nat.blt d m_ = true) (hv : get val i = some u) (hs : dl ops val o = si) (hx : ∀ sL, VF P K ⟨m_, none, dl_⟩ (si ++ (s0 ++ sL)) A h o u) (r : QA P K ⟨m_, none, dl_⟩ ops val s0 A h C) : QA P K ⟨m_, none, dl_⟩ ops val s0 A h (i :: C) :=
  .cons si ho hd hn hv hs (.inl ⟨gdT_none hg, .inl hx⟩) r
theorem QA.c (si : St) (ho : ops[i]? = some o) (hg : o.guard = none) (hd : o.dst = some d) (hn : Nat.blt d m_ = true) (hv : get val i = some u) (hs : dl ops val o = si) (hx : ∀ sL, CF P K ⟨m_, none, dl_⟩ (si ++ (s0 ++ sL)) A h o u) (r : QA P K ⟨m_, none, dl_⟩ ops val s0 A h C) : QA P K ⟨m_, none, dl_⟩ ops val s0 A h (i :: C) :=
  .cons si ho hd hn hv hs (.inl ⟨gdT_none hg, .inr hx⟩) r
end
/-- what is known when one more operation has been done -/
def After (P : Program) (K : Kp) (n : Fr) (ops : Array Oper) (Q : Exit → Act → World → Prop) (X D C : List Nat) (val s0 : St) (i : Nat) (o : Oper) (sL : St) : Act → World → Prop := fun a w =>
  ∃ (M C' : List Nat) (pre s1 : St) (A' : List Asrt) (h' : FH), ((∀ t v, get s1 t = some v → get s0 t = some v) ∧ (∀ d, o.dst = some d → ∀ p ∈ s1, Nat.beq p.1 d = false) ∧ dstOk ops (s1.map (·.1)) X = true) ∧ ancOk ops [i] M = true ∧ (∀ j ∈ C, j ∈ M ∨ j ∈ C') ∧ (∀ j, j ∈ D ∨ j ∈ C → get (pre ++ val) j = get val j) ∧
    (match o.dst with | some d => ∃ v, get (pre ++ val) i = some v ∧ Holds n ((d, v) :: sL) a | none => Holds n sL a) ∧ SH K h' w A' ∧ JA P K n ops Q X (i :: (M ++ D)) C' (pre ++ val) s1 A' h'
def HA (P : Program) (K : Kp) (n : Fr) (ops : Array Oper) (Q : Exit → Act → World → Prop) (X D C : List Nat) (val s0 : St) (A : List Asrt) (h : FH) (H : List Nat) : Prop :=
  ∀ i ∈ H, ∃ o si, ops[i]? = some o ∧ dl ops val o = si ∧ ∀ sL, (∀ t v, get (si ++ s0) t = some v → get sL t = some v) → JL P K n ops [o] (Exit.then (After P K n ops Q X D C val s0 i o sL) Q) (si ++ (s0 ++ sL)) A h
theorem HA.nil {X D C : List Nat} {val s0 : St} : HA P K ⟨m_, none, dl_⟩ ops Q X D C val s0 A h [] := fun i hi => by cases hi
theorem HA.cons {X D C H : List Nat} {val s0 : St} {i : Nat} {o : Oper} (si : St) (ho : ops[i]? = some o) (hs : dl ops val o = si) (hx : ∀ sL, (∀ t v, get (si ++ s0) t = some v → get sL t = some v) → JL P K ⟨m_, none, dl_⟩ ops [o] (Exit.then (After P K ⟨m_, none, dl_⟩ ops Q X D C val s0 i o sL) Q) (si ++ (s0 ++ sL)) A h) (r : HA P K ⟨m_, none, dl_⟩ ops Q X D C val s0 A h H) : HA P K ⟨m_, none, dl_⟩ ops Q X D C val s0 A h (i :: H) := fun j hj => by
  rcases List.mem_cons.1 hj with rfl | hj
  · exact ⟨o, si, ho, hs, hx⟩
  · exact r j hj
end
section
variable {P : Program} {K : Kp} {n : Fr} {ops : Array Oper} {Q : Exit → Act → World → Prop} {s : St} {A : List Asrt} {h : FH} {rest : List Oper} {fn : Func} {R : Ending → World → Prop}
end
theorem w_isNaN1 {h : FH} {w : World} (hs : Sub h w) (x : Int) (K : Bool → Prop) (hF : F_isNaN1 x K) : Calls Tryz.prog 122 #[.int .i64 x] w fun e w' => ∃ r : Bool, K r ∧ e = .returned (.bool r) ∧ Below w.heap.size w w' := by
  refine enter (args := [.int .i64 x]) Tryz.func122 rfl Tryz.ntmps122 rfl hs ?_
  refine .seq ?_
  refine .region ?_
  refine .v (asg rfl) rfl rfl rfl ?_
  refine .nil ?_
  refine .seqN ?_
  refine .seq ?_
  refine .region ?_
  refine .v (mv rfl) rfl rfl rfl ?_
  refine .v (mv rfl) rfl rfl rfl ?_
  refine .v (bi rfl rfl rfl) rfl rfl rfl ?_
  refine .v (asg rfl) rfl rfl rfl ?_
  refine .nil ?_
  refine .seqN ?_
  refine .ret ?_
  refine .res1 rfl (rvT rfl) (fun w' S => ⟨x != x, hF, rfl, S.below⟩)

theorem c_isNaN1 {h : FH} {w : World} (hs : Sub h w) (x : Int) : Calls Tryz.prog 122 #[.int .i64 x] w fun e w' => e = .returned (.bool (sp_isNaN1 x)) ∧ Below w.heap.size w w' :=
  (w_isNaN1 hs x (fun r => r = sp_isNaN1 x) (ok_isNaN1 x)).mono fun _ _ ⟨_, hk, he, hb⟩ => ⟨by rw [he, hk], hb⟩


theorem w_compare {h : FH} {w : World} (hs : Sub h w) (x : Int) (y : Int) (K : Int → Prop) (hF : F_compare x y K) : Calls Tryz.prog 111 #[.int .i64 x, .int .i64 y] w fun e w' => ∃ r : Int, K r ∧ e = .returned (.int .i64 r) ∧ Below w.heap.size w w' := by
  refine enter (args := [.int .i64 x, .int .i64 y]) Tryz.func111 rfl Tryz.ntmps111 rfl hs ?_
  refine .seq ?_
  refine .region ?_
  refine .v (asg rfl) rfl rfl rfl ?_
  refine .nil ?_
  refine .seqN ?_
  refine .seq ?_
  refine .region ?_
  refine .v (mv rfl) rfl rfl rfl ?_
  obtain ⟨r2, q1⟩ : ∃ y_ : Bool, y_ = sp_isNaN1 x := ⟨_, rfl⟩
  replace hF := hF r2 q1
  refine .c (cl (v := .bool r2) Tryz.call122 rfl rfl (fun w S => (by rw [q1]; exact c_isNaN1 S.sub x ))) rfl rfl rfl ?_
  refine .v (asg rfl) rfl rfl rfl ?_
  refine .nil ?_
  refine .seqN ?_
  refine .seq ?_
  refine .region ?_
  refine .v (mv rfl) rfl rfl rfl ?_
  obtain ⟨r3, q2⟩ : ∃ y_ : Bool, y_ = sp_isNaN1 y := ⟨_, rfl⟩
  replace hF := hF r3 q2
  refine .c (cl (v := .bool r3) Tryz.call122 rfl rfl (fun w S => (by rw [q2]; exact c_isNaN1 S.sub y ))) rfl rfl rfl ?_
  refine .v (asg rfl) rfl rfl rfl ?_
  refine .nil ?_
  refine .seqN ?_
  refine .seq ?_
  refine .seq ?_
  refine .region ?_
  refine .v (mv rfl) rfl rfl rfl ?_
  refine .nil ?_
  refine .seqN ?_
  refine .cond rfl (fun q6 => ?_) (fun q6 => ?_)
  · replace hF := hF.1 q6
    refine .seq ?_
    refine .seq ?_
    refine .region ?_
    refine .v (mv rfl) rfl rfl rfl ?_
    refine .nil ?_
    refine .seqN ?_
    refine .cond rfl (fun q8 => ?_) (fun q8 => ?_)
    · replace hF := hF.1 q8
      refine .seq ?_
      refine .region ?_
      refine .v (asg rfl) rfl rfl rfl ?_
      refine .nil ?_
      refine .seqN ?_
      refine .ret ?_
      refine .seqR ?_
      refine .seqR ?_
      refine .res1 rfl (rvT rfl) (fun w' S => ⟨0, hF, rfl, S.below⟩)
    replace hF := hF.2 q8
    refine .skip ?_
    refine .seqN ?_
    refine .seq ?_
    refine .region ?_
    refine .v (asg rfl) rfl rfl rfl ?_
    refine .nil ?_
    refine .seqN ?_
    refine .ret ?_
    refine .seqR ?_
    refine .res1 rfl (rvT rfl) (fun w' S => ⟨(-1), hF, rfl, S.below⟩)
  replace hF := hF.2 q6
  refine .skip ?_
  refine .seqN ?_
  refine .seq ?_
  refine .seq ?_
  refine .region ?_
  refine .v (mv rfl) rfl rfl rfl ?_
  refine .nil ?_
  refine .seqN ?_
  refine .cond rfl (fun q10 => ?_) (fun q10 => ?_)
  · replace hF := hF.1 q10
    refine .seq ?_
    refine .region ?_
    refine .v (asg rfl) rfl rfl rfl ?_
    refine .nil ?_
    refine .seqN ?_
    refine .ret ?_
    refine .seqR ?_
    refine .res1 rfl (rvT rfl) (fun w' S => ⟨1, hF, rfl, S.below⟩)
  replace hF := hF.2 q10
  refine .skip ?_
  refine .seqN ?_
  refine .seq ?_
  refine .seq ?_
  refine .region ?_
  refine .v (mv rfl) rfl rfl rfl ?_
  refine .v (mv rfl) rfl rfl rfl ?_
  refine .v (bi rfl rfl rfl) rfl rfl rfl ?_
  refine .nil ?_
  refine .seqN ?_
  refine .cond rfl (fun q12 => ?_) (fun q12 => ?_)
  · replace hF := hF.1 q12
    refine .seq ?_
    refine .region ?_
    refine .v (asg rfl) rfl rfl rfl ?_
    refine .nil ?_
    refine .seqN ?_
    refine .ret ?_
    refine .seqR ?_
    refine .res1 rfl (rvT rfl) (fun w' S => ⟨(-1), hF, rfl, S.below⟩)
  replace hF := hF.2 q12
  refine .skip ?_
  refine .seqN ?_
  refine .seq ?_
  refine .seq ?_
  refine .region ?_
  refine .v (mv rfl) rfl rfl rfl ?_
  refine .v (mv rfl) rfl rfl rfl ?_
  refine .v (bi rfl rfl rfl) rfl rfl rfl ?_
  refine .nil ?_
  refine .seqN ?_
  refine .cond rfl (fun q14 => ?_) (fun q14 => ?_)
  · replace hF := hF.1 q14
    refine .seq ?_
    refine .region ?_
    refine .v (asg rfl) rfl rfl rfl ?_
    refine .nil ?_
    refine .seqN ?_
    refine .ret ?_
    refine .seqR ?_
    refine .res1 rfl (rvT rfl) (fun w' S => ⟨1, hF, rfl, S.below⟩)
  replace hF := hF.2 q14
  refine .skip ?_
  refine .seqN ?_
  refine .seq ?_
  refine .region ?_
  refine .v (asg rfl) rfl rfl rfl ?_
  refine .nil ?_
  refine .seqN ?_
  refine .ret ?_
  refine .res1 rfl (rvT rfl) (fun w' S => ⟨0, hF, rfl, S.below⟩)

theorem c_compare {h : FH} {w : World} (hs : Sub h w) (x : Int) (y : Int) : Calls Tryz.prog 111 #[.int .i64 x, .int .i64 y] w fun e w' => e = .returned (.int .i64 (sp_compare x y)) ∧ Below w.heap.size w w' :=
  (w_compare hs x y (fun r => r = sp_compare x y) (ok_compare x y)).mono fun _ _ ⟨_, hk, he, hb⟩ => ⟨by rw [he, hk], hb⟩


set_option maxHeartbeats 8000000 in
theorem w_scompare {h : FH} {w : World} (hs : Sub h w) (s1 : List Int) (as1 : Option Addr) (cs1 : Nat) (_q1 : RSl h as1 s1) (_q2 : s1.length ≤ cs1) (s2 : List Int) (as2 : Option Addr) (cs2 : Nat) (_q3 : RSl h as2 s2) (_q4 : s2.length ≤ cs2) (K : Int → Prop) (hF : F_scompare s1 s2 K) : Calls Tryz.prog 92 #[.slice as1 s1.length cs1, .slice as2 s2.length cs2] w fun e w' => ∃ r : Int, K r ∧ e = .returned (.int .i64 r) ∧ Below w.heap.size w w' := by
  refine enter (args := [.slice as1 s1.length cs1, .slice as2 s2.length cs2]) Tryz.func92 rfl Tryz.ntmps92 rfl hs ?_
  refine .seq ?_
  refine .region ?_
  refine .v (asg rfl) rfl rfl rfl ?_
  refine .nil ?_
  refine .seqN ?_
  refine .seq ?_
  refine .seq ?_
  refine .region ?_
  refine .v (mv rfl) rfl rfl rfl ?_
  refine .v (ln rfl tS22.is) rfl rfl rfl ?_
  refine .v (mv rfl) rfl rfl rfl ?_
  refine .nil ?_
  refine .seqN ?_
  refine .block ?_
  obtain ⟨I1, μ1, q112, q113⟩ := hF
  refine .loop' (σ := Int) (fun z => I1 z) (fun z => μ1 z) (fun z => [(0, .slice as1 s1.length cs1), (1, .slice as2 s2.length cs2), (9, .slice as1 s1.length cs1), (10, .int .i64 ((s1.length : Nat) : Int)), (11, .int .i64 z)]) (fun _ => []) (fun _ => h) 0 q112 (.cons rfl (.cons rfl (.cons rfl (.cons rfl (.cons rfl (.nil)))))) rfl (FH.le_refl _) ?_
  rintro t11 q112
  have hF := q113 t11 q112
  show J _ _ _ _ _ [(0, .slice as1 s1.length cs1), (1, .slice as2 s2.length cs2), (9, .slice as1 s1.length cs1), (10, .int .i64 ((s1.length : Nat) : Int)), (11, .int .i64 t11)] [] h
  refine .seq ?_
  refine .region ?_
  refine .v (bi rfl rfl rfl) rfl rfl rfl ?_
  refine .nil ?_
  refine .seqN ?_
  refine .seq ?_
  refine .cond rfl (fun q116 => ?_) (fun q116 => ?_)
  · replace hF := hF.1 q116
    refine .skip ?_
    refine .seqN ?_
    refine .seq ?_
    refine .block ?_
    refine .seq ?_
    refine .region ?_
    refine .v (mv rfl) rfl rfl rfl ?_
    obtain ⟨q129, hF⟩ := hF
    refine .v (ix rfl rfl tS22 (_q1.ne (by decide) (inb_pos q129)) q129) rfl rfl rfl ?_
    refine .v (ld1 (v := .int .i64 (gt s1 t11)) rfl tO3 (cellH (_q1.elemF q129 (by decide) 0 _ rfl))) rfl rfl rfl ?_
    refine .v (asg rfl) rfl rfl rfl ?_
    refine .v (asg rfl) rfl rfl rfl ?_
    refine .nil ?_
    refine .seqN ?_
    refine .seq ?_
    refine .seq ?_
    refine .region ?_
    refine .v (mv rfl) rfl rfl rfl ?_
    refine .v (mv rfl) rfl rfl rfl ?_
    refine .v (ln rfl tS22.is) rfl rfl rfl ?_
    refine .v (bi rfl rfl rfl) rfl rfl rfl ?_
    refine .nil ?_
    refine .seqN ?_
    refine .cond rfl (fun q131 => ?_) (fun q131 => ?_)
    · replace hF := hF.1 q131
      refine .seq ?_
      refine .region ?_
      refine .v (asg rfl) rfl rfl rfl ?_
      refine .nil ?_
      refine .seqN ?_
      refine .ret ?_
      refine .seqR ?_
      refine .blkR ?_
      refine .seqR ?_
      refine .seqR ?_
      refine .blkR ?_
      refine .seqR ?_
      refine .res1 rfl (rvT rfl) (fun w' S => ⟨1, hF, rfl, S.below⟩)
    replace hF := hF.2 q131
    refine .skip ?_
    refine .seqN ?_
    refine .seq ?_
    refine .region ?_
    refine .v (mv rfl) rfl rfl rfl ?_
    refine .v (mv rfl) rfl rfl rfl ?_
    obtain ⟨q132, hF⟩ := hF
    refine .v (ix rfl rfl tS22 (_q3.ne (by decide) (inb_pos q132)) q132) rfl rfl rfl ?_
    refine .v (ld1 (v := .int .i64 (gt s2 t11)) rfl tO3 (cellH (_q3.elemF q132 (by decide) 0 _ rfl))) rfl rfl rfl ?_
    refine .v (asg rfl) rfl rfl rfl ?_
    refine .nil ?_
    refine .seqN ?_
    refine .seq ?_
    refine .region ?_
    refine .v (mv rfl) rfl rfl rfl ?_
    refine .v (mv rfl) rfl rfl rfl ?_
    obtain ⟨r2, q133⟩ : ∃ y_ : Int, y_ = sp_compare (gt s1 t11) (gt s2 t11) := ⟨_, rfl⟩
    replace hF := hF r2 q133
    refine .c (cl (v := .int .i64 r2) Tryz.call111 rfl rfl (fun w S => (by rw [q133]; exact c_compare S.sub (gt s1 t11) (gt s2 t11) ))) rfl rfl rfl ?_
    refine .v (asg rfl) rfl rfl rfl ?_
    refine .nil ?_
    refine .seqN ?_
    refine .seq ?_
    refine .region ?_
    refine .v (mv rfl) rfl rfl rfl ?_
    refine .v (bi rfl rfl rfl) rfl rfl rfl ?_
    refine .nil ?_
    refine .seqN ?_
    refine .cond rfl (fun q134 => ?_) (fun q134 => ?_)
    · replace hF := hF.1 q134
      refine .seq ?_
      refine .region ?_
      refine .v (mv rfl) rfl rfl rfl ?_
      refine .v (asg rfl) rfl rfl rfl ?_
      refine .nil ?_
      refine .seqN ?_
      refine .ret ?_
      refine .blkR ?_
      refine .seqR ?_
      refine .seqR ?_
      refine .blkR ?_
      refine .seqR ?_
      refine .res1 rfl (rvT rfl) (fun w' S => ⟨r2, hF, rfl, S.below⟩)
    replace hF := hF.2 q134
    refine .skip ?_
    refine .blkN ?_
    refine .seqN ?_
    refine .region ?_
    refine .v (bi rfl rfl rfl) rfl rfl rfl ?_
    refine .v (mv rfl) rfl rfl rfl ?_
    refine .nil ?_
    exact .round (IntKind.i64.wrap (t11 + 1)) hF.1 hF.2 (.cons rfl (.cons rfl (.cons rfl (.cons rfl (.cons rfl (.nil)))))) rfl (FH.le_refl _)
  replace hF := hF.2 q116
  refine .exit ?_
  refine .seqX ?_
  refine .seqX ?_
  refine .blkX ?_
  refine .seqN ?_
  refine .seq ?_
  refine .seq ?_
  refine .region ?_
  refine .v (mv rfl) rfl rfl rfl ?_
  refine .v (ln rfl tS22.is) rfl rfl rfl ?_
  refine .v (mv rfl) rfl rfl rfl ?_
  refine .v (ln rfl tS22.is) rfl rfl rfl ?_
  refine .v (bi rfl rfl rfl) rfl rfl rfl ?_
  refine .nil ?_
  refine .seqN ?_
  refine .cond rfl (fun q136 => ?_) (fun q136 => ?_)
  · replace hF := hF.1 q136
    refine .seq ?_
    refine .region ?_
    refine .v (asg rfl) rfl rfl rfl ?_
    refine .nil ?_
    refine .seqN ?_
    refine .ret ?_
    refine .seqR ?_
    refine .res1 rfl (rvT rfl) (fun w' S => ⟨(-1), hF, rfl, S.below⟩)
  replace hF := hF.2 q136
  refine .skip ?_
  refine .seqN ?_
  refine .seq ?_
  refine .region ?_
  refine .v (asg rfl) rfl rfl rfl ?_
  refine .nil ?_
  refine .seqN ?_
  refine .ret ?_
  refine .res1 rfl (rvT rfl) (fun w' S => ⟨0, hF, rfl, S.below⟩)

theorem c_scompare {h : FH} {w : World} (hs : Sub h w) (s1 : List Int) (as1 : Option Addr) (cs1 : Nat) (_q1 : RSl h as1 s1) (_q2 : s1.length ≤ cs1) (s2 : List Int) (as2 : Option Addr) (cs2 : Nat) (_q3 : RSl h as2 s2) (_q4 : s2.length ≤ cs2) (hp : pre_scompare s1 s2) : Calls Tryz.prog 92 #[.slice as1 s1.length cs1, .slice as2 s2.length cs2] w fun e w' => e = .returned (.int .i64 (sp_scompare s1 s2)) ∧ Below w.heap.size w w' :=
  (w_scompare hs s1 as1 cs1 _q1 _q2 s2 as2 cs2 _q3 _q4 (fun r => r = sp_scompare s1 s2) (ok_scompare s1 s2 hp)).mono fun _ _ ⟨_, hk, he, hb⟩ => ⟨by rw [he, hk], hb⟩

end Go.Proofs.YtojoehfldbimpaaGreatDoor.Pl.Pd

