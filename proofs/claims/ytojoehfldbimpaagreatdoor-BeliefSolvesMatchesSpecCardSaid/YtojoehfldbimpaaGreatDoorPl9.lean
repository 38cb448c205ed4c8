/- The rules of the program logic for loops over functions: the function that is ranged over is walked where it is called, each of its calls of yield is the loop's body. No condition. -/
import Derived.Test.YtojoehfldbimpaaGreatDoorPl7
namespace Go.Proofs.YtojoehfldbimpaaGreatDoor.Pl
open Go Go.RowKit
/-- the blocks for the deferred calls of rounds: no round has deferred one -/
def MkA (dl : List Nat) : Asrt := fun g => dl.Nodup ∧ ∀ D ∈ dl, g D = some (.deferred (some []))
/-- the record of a loop over a function -/
def LA0 (l : Nat) (ps : Array Tmp) (assign body : Code) (m : Nat) (s : St) (st : LoopState) (pd : Option Code) : Asrt := fun g =>
  ∃ r : Loop, g = FH.one l (.loop r) ∧ r.state = st ∧ r.pending = pd ∧ r.params = ps ∧ r.assign = assign ∧ r.body = body ∧ r.tmps.size = m ∧ ∀ t v, get s t = some v → r.tmps[t]? = some v
section
variable {P : Program} {K : Kp} {n : Fr} {ops : Array Oper} {Q : Exit → Act → World → Prop} {s : St} {A : List Asrt} {h : FH} {rest : List Oper}
theorem putObj_heap (w : World) (l : Nat) (o : Obj) (b : Nat) : (w.putObj l o).heap[b]? = if l = b ∧ b < w.heap.size then some o else w.heap[b]? := by
  unfold World.putObj
  simp only [Array.getElem?_setIfInBounds]
  by_cases h : l = b
  · subst h
    by_cases h2 : l < w.heap.size
    · simp [h2]
    · simp [h2]
  · simp [h]
theorem putObj_size (w : World) (l : Nat) (o : Obj) : (w.putObj l o).heap.size = w.heap.size := by simp [World.putObj]
theorem SH.loopO {w : World} {k l : Nat} {X : Asrt} (S : SH K h w A) (hk : A[k]? = some X) (hX : ∀ g, X g → ∃ r : Loop, g = FH.one l (.loop r)) :
    ∃ r : Loop, X (FH.one l (.loop r)) ∧ w.heap[l]? = some (.loop r) ∧ ∀ (X' : Asrt) (r' : Loop), X' (FH.one l (.loop r')) → SH K h (w.putObj l (.loop r')) (A.set k X') := by
  obtain ⟨g, hg, own, up⟩ := S.upd hk
  obtain ⟨r, rfl⟩ := hX g hg
  have hl : w.heap[l]? = some (.loop r) := own.sub l _ (FH.one_self _ _)
  have hlt : l < w.heap.size := (Array.getElem?_eq_some_iff.1 hl).1
  refine ⟨r, hg, hl, fun X' r' hx' => up X' _ _ hx' (Sub.one (by rw [putObj_heap, if_pos ⟨rfl, hlt⟩])) (fun b hb => .inl ?_) (fun b hb hn => ?_) rfl rfl rfl (by rw [putObj_size]; exact Nat.le_refl _) (Nat.le_refl _)⟩
  · rw [FH.one_ne hb, FH.one_self]; simp
  · rw [putObj_heap, if_neg fun e => ?_]
    rw [← e.1, FH.one_self] at hn
    cases hn
theorem LA0.loop {l : Nat} {ps : Array Tmp} {assign body : Code} {m : Nat} {st : LoopState} {pd : Option Code} : ∀ g, LA0 l ps assign body m s st pd g → ∃ r : Loop, g = FH.one l (.loop r) := fun _ ⟨r, hr, _⟩ => ⟨r, hr⟩
theorem LA0.turn {l : Nat} {ps : Array Tmp} {assign body : Code} {m : Nat} {st st' : LoopState} {pd pd' : Option Code} {r : Loop} (hr : LA0 l ps assign body m s st pd (FH.one l (.loop r))) : LA0 l ps assign body m s st' pd' (FH.one l (.loop { r with state := st', pending := pd' })) := by
  obtain ⟨r0, e, _, _, h3, h4, h5, h6, h7⟩ := hr
  have e2 := congrFun e l
  rw [FH.one_self, FH.one_self] at e2
  injection e2 with e2
  injection e2 with e2
  subst e2
  exact ⟨_, rfl, rfl, rfl, h3, h4, h5, h6, h7⟩
theorem LA0.rec {l : Nat} {ps : Array Tmp} {assign body : Code} {m : Nat} {st : LoopState} {pd : Option Code} {r : Loop} (hr : LA0 l ps assign body m s st pd (FH.one l (.loop r))) : r.state = st ∧ r.pending = pd ∧ r.params = ps ∧ r.assign = assign ∧ r.body = body ∧ r.tmps.size = m ∧ ∀ t v, get s t = some v → r.tmps[t]? = some v := by
  obtain ⟨r0, e, h1⟩ := hr
  have e2 := congrFun e l
  rw [FH.one_self, FH.one_self] at e2
  injection e2 with e2
  injection e2 with e2
  subst e2
  exact h1
/-- the end of a round, in a frame whose marks have grown -/
theorem E.roundN {σ : Type} {I : σ → Prop} {μ : σ → Nat} {N : σ → Fr} {S : σ → St} {M : σ → List Asrt} {F : σ → FH} {m : Nat} (y : σ) (hI : I y) (hμ : μ y < m) (hn : N y = n) (hs : SubSt (S y) s) (hm : M y = A) (hf : FH.le (F y) h) :
    E K n (Exit.then (fun a w => ∃ y, I y ∧ μ y < m ∧ Holds (N y) (S y) a ∧ SH K (F y) w (M y)) Q) .normal s A h :=
  fun a w H Sh => ⟨y, hI, hμ, by rw [hn]; exact H.sub hs, by rw [hm]; exact Sh.anti hf⟩
/-- what is asked when the function that is ranged over has ended -/
def RP (P : Program) (l : Nat) (Q : Exit → Act → World → Prop) (a' : Act) : Ending → World → Prop := rangePost Fence.wide 0 P l Q a'
/-- a loop over a function, begun -/
theorem J.mk0 {m : Nat} {ro : Option (Option Nat)} {c : Code} (j : J P K ⟨m, ro, []⟩ c Q s (MkA [] :: A) h) : J P K ⟨m, ro, []⟩ c Q s A h := fun a w H S =>
  j a w H (S.push (Below.refl _ _) (g := fun _ => none) ⟨List.nodup_nil, fun _ hD => by cases hD⟩ (fun _ _ x => by cases x) (fun _ x => absurd rfl x))
theorem J.rangeF {m : Nat} {dl : List Nat} {g : Operand} {ps : Array Tmp} {assign body : Code} {gf : FuncId} {fnG : Func} {cG : Code} {mG k : Nat} {caps : List Value}
    (hg : ev s g = some (.func (.func gf) #[] caps.toArray)) (hk : A[k]? = some (MkA dl)) (hf : P.funcs[gf]? = some fnG) (hb : fnG.body = some cG) (hn : fnG.ntmps = mG) (hle : Nat.ble (1 + caps.length) mG = true) (eg : ∀ args w, (callFunc gf args).run P w = .ok (.enter gf args) w)
    (kk : ∀ (l D : Nat) (LA : LoopState → Option Code → Asrt) (a' : Act), LA = LA0 l ps assign body m s → Holds ⟨m, none, D :: dl⟩ s a' →
      J P K ⟨mG, some none, []⟩ cG (bodyPost P fnG (RP P l Q a')) (start 0 ((.func (.yield l) #[] #[]) :: caps)) (LA .ready none :: A.set k (MkA (D :: dl))) h) :
    J P K ⟨m, none, dl⟩ (.rangeFunc g ps assign body) Q s A h := fun a w H S => by
  refine (wpIn_wide (n := 0)).1 (wpIn_rangeFunc fun fn _ => ?_)
  have S1 : SH K h (w.alloc (.deferred (some []))) (A.set k (MkA (w.heap.size :: dl))) := by
    obtain ⟨g0, hg0, own, up⟩ := S.upd hk
    refine up _ (g0.join (FH.one w.heap.size (.deferred (some [])))) _ ⟨List.nodup_cons.2 ⟨fun hD => ?_, hg0.1⟩, fun D hD => ?_⟩ (Sub.join (own.sub.ext (below_alloc w _).block) (Sub.one (heap_alloc_new w _))) (fun b hb => ?_) (fun b hb _ => (below_alloc w _).block b hb) rfl rfl rfl (below_alloc w _).size (Nat.le_refl _)
    · have := own.sub.lt (hg0.2 _ hD); omega
    · rcases List.mem_cons.1 hD with e | hD
      · subst e
        unfold FH.join
        cases e2 : g0 w.heap.size with
        | none => simp only; exact FH.one_self _ _
        | some o => have := own.sub.lt e2; omega
      · exact FH.le_join_left _ _ _ _ (hg0.2 D hD)
    · unfold FH.join at hb
      cases e2 : g0 b with
      | none =>
        rw [e2] at hb
        exact .inr (by rw [FH.one_ne hb]; exact Nat.le_refl _)
      | some o => exact .inl (by simp)
  have hsz : (w.alloc (.deferred (some []))).heap.size = w.heap.size + 1 := by simp
  have S2 : SH K h ((w.alloc (.deferred (some []))).alloc (.loop { state := .ready, pending := none, fn, tmps := a.tmps, params := ps, assign, body, defers := w.heap.size })) (LA0 (w.heap.size + 1) ps assign body m s .ready none :: A.set k (MkA (w.heap.size :: dl))) := by
    exact S1.new ⟨{ state := .ready, pending := none, fn, tmps := a.tmps, params := ps, assign, body, defers := w.heap.size }, by rw [hsz], rfl, rfl, rfl, rfl, rfl, H.size, H.slots⟩
  have hE := run_enterLoop_outer (P := P) (w := w) fn a.tmps ps assign body
  generalize ((w.alloc (.deferred (some []))).alloc (.loop { state := .ready, pending := none, fn, tmps := a.tmps, params := ps, assign, body, defers := w.heap.size })) = W2 at hE S2
  refine ⟨w.heap.size + 1, [mark w.heap.size], W2, { target := .fn (.func gf) caps.toArray, args := #[.func (.yield (w.heap.size + 1)) #[] #[]] }, W2, gf, #[.func (.yield (w.heap.size + 1)) #[] #[]] ++ caps.toArray, W2, hE, ?_, fun _ _ => trivial, ?_, fun x => (by cases x), ?_⟩
  · simp only [resolve, H.ev hg]
    simp [go_sem]
  · simp [invoke, go_sem, eg]
  · refine callsIn_wide.2 (calls_of_wp hf hb ((wpIn_wide (n := 0)).1 ?_))
    refine kk (w.heap.size + 1) w.heap.size _ { tmps := a.tmps, defers := [mark w.heap.size] ++ a.defers } rfl ⟨?_, H.size, H.slots⟩ { tmps := (#[.func (.yield (w.heap.size + 1)) #[] #[]] ++ caps.toArray) ++ Array.replicate (fnG.ntmps - (#[Value.func (.yield (w.heap.size + 1)) #[] #[]] ++ caps.toArray).size) undef, defers := [] } W2 ⟨rfl, ?_, fun t v e => ?_⟩ S2
    · show [mark w.heap.size] ++ a.defers = _
      rw [H.defers]; rfl
    · have hle' : 1 + caps.length ≤ mG := by simpa using hle
      simp [hn]; omega
    · have hle' : 1 + caps.length ≤ mG := by simpa using hle
      obtain ⟨_, h2⟩ := get_start 0 ((.func (.yield (w.heap.size + 1)) #[] #[]) :: caps) t v e
      simp only [Nat.sub_zero] at h2
      have hlt : t < ((Value.func (.yield (w.heap.size + 1)) #[] #[]) :: caps).length := (List.getElem?_eq_some_iff.1 h2).1
      rw [Array.getElem?_append_left (by simpa using hlt)]
      simpa using h2
/-- the function that is ranged over has returned -/
theorem range_done {m l k : Nat} {dl : List Nat} {ps : Array Tmp} {assign body : Code} {LA : LoopState → Option Code → Asrt} {a' : Act} {v : Value} (hLA : LA = LA0 l ps assign body m s) (hk : A[k]? = some (LA .ready none)) (Ha : Holds ⟨m, none, dl⟩ s a')
    (j : E K ⟨m, none, dl⟩ Q .normal s (A.set k tru) h) : ∀ w, SH K h w A → RP P l Q a' (.returned v) w := fun w S => by
  subst hLA
  obtain ⟨r, hr, hl, up⟩ := S.loopO hk LA0.loop
  obtain ⟨h1, h2, _⟩ := LA0.rec hr
  exact ⟨_, _, run_endLoop hl (by rw [h1]; decide), by rw [h2]; exact j a' _ Ha (up tru _ trivial)⟩
theorem range_jump {m l k : Nat} {dl : List Nat} {ps : Array Tmp} {assign body c : Code} {LA : LoopState → Option Code → Asrt} {a' : Act} {v : Value} (hLA : LA = LA0 l ps assign body m s) (hk : A[k]? = some (LA .done (some c))) (Ha : Holds ⟨m, none, dl⟩ s a')
    (j : J P K ⟨m, none, dl⟩ c Q s (A.set k tru) h) : ∀ w, SH K h w A → RP P l Q a' (.returned v) w := fun w S => by
  subst hLA
  obtain ⟨r, hr, hl, up⟩ := S.loopO hk LA0.loop
  obtain ⟨h1, h2, _⟩ := LA0.rec hr
  exact ⟨_, _, run_endLoop hl (by rw [h1]; decide), by rw [h2]; exact (wpIn_wide (n := 0)).2 (j a' _ Ha (up tru _ trivial))⟩
/-! ### a round -/
def binds : List (Tmp × Value) → St → St
  | [], s => s
  | (p, v) :: r, s => binds r ((p, v) :: s)
theorem binds_get : ∀ (l : List (Tmp × Value)) (s : St) (ts : Array Value), (∀ p ∈ l, p.1 < ts.size) → (∀ t v, get s t = some v → ts[t]? = some v) → (l.foldl (fun (t : Array Value) (p : Tmp × Value) => t.setIfInBounds p.1 p.2) ts).size = ts.size ∧ ∀ t v, get (binds l s) t = some v → (l.foldl (fun (t : Array Value) (p : Tmp × Value) => t.setIfInBounds p.1 p.2) ts)[t]? = some v
  | [], s, ts, _, h => ⟨rfl, h⟩
  | (p, u) :: r, s, ts, hp, h => by
    have hlt := hp (p, u) List.mem_cons_self
    obtain ⟨h1, h2⟩ := binds_get r ((p, u) :: s) (ts.setIfInBounds p u) (fun q hq => by rw [Array.size_setIfInBounds]; exact hp q (List.mem_cons_of_mem _ hq)) (fun t v e => by
      simp only [get] at e
      cases hb : Nat.beq p t with
      | true =>
        have := Nat.eq_of_beq_eq_true hb
        subst this
        simp only [hb, cond_true] at e
        obtain rfl := Option.some.inj e
        simp only [] at hlt
        simp [hlt]
      | false =>
        simp only [hb, cond_false] at e
        rw [Array.getElem?_setIfInBounds_ne (fun e' => by subst e'; simp at hb)]
        exact h t v e)
    exact ⟨by rw [List.foldl_cons, h1, Array.size_setIfInBounds], h2⟩
/-- the rest of the function that is ranged over, behind a call of yield -/
def QY (P : Program) (ro : Option (Option Nat)) (ops : Array Oper) (rest : List Oper) (Q : Exit → Act → World → Prop) (aG : Act) (d : Nat) : Ending → World → Prop
  | .returned v, w => WL P ro ops Q rest (aG.put (some d) v) w
  | _, _ => False
def RA (P : Program) (body : Code) (l : Nat) (QB : Exit → Act → World → Prop) : Exit → Act → World → Prop :=
  Exit.then (fun a₁ w₁ => ∃ w₂, (Instr.beginRound l).run P w₁ = .ok () w₂ ∧ WC P (some (some l)) body QB a₁ w₂) (fun _ _ _ => False)
def QB (P : Program) (l : Nat) (R : Ending → World → Prop) : Exit → Act → World → Prop := roundPost P l R
/-- yield is called: a round begins -/
theorem JL.yld {d m l k : Nat} {x0 : Option Nat} {ty : TypeId} {pos : String} {af : Array Edge} {x : Operand} {xs : Array Operand} {ts : Array TypeId} {vs : List Value} {ps : Array Tmp} {assign body : Code} {LA : LoopState → Option Code → Asrt} {s0 : St} {mG : Nat} {dG : List Nat}
    (hLA : LA = LA0 l ps assign body m s0) (hk : A[k]? = some (LA .ready none)) (hx : ev s x = some (.func (.yield l) #[] #[])) (hv : evs s xs.toList = some vs) (hp : vs.length = ps.size) (hps : ps.toList.all (fun p => Nat.blt p m) = true)
    (kk : ∀ aG, Holds ⟨mG, some x0, dG⟩ s aG → J P K ⟨m, some (some l), []⟩ assign (RA P body l (QB P l (QY P (some x0) ops rest Q aG d))) (binds (ps.toList.zip vs) s0) A h) :
    JL P K ⟨mG, some x0, dG⟩ ops (⟨some d, .call { callee := .value x, args := xs, argTypes := ts }, ty, pos, af, none⟩ :: rest) Q s A h := fun a w H S => by
  subst hLA
  obtain ⟨r, hr, hl, _⟩ := S.loopO hk LA0.loop
  obtain ⟨h1, h2, h3, h4, h5, h6, h7⟩ := LA0.rec hr
  refine wpListIn_plain rfl fun Kc hK => ⟨fun _ _ => trivial, ?_⟩
  have hsem : (Oper.semAt x0 a.eval ⟨some d, .call { callee := .value x, args := xs, argTypes := ts }, ty, pos, af, none⟩).run P w = .ok (.round l r.fn ((r.params.zip vs.toArray).foldl (fun tmps (t, a) => tmps.setIfInBounds t a) r.tmps) r.assign r.body) w := by
    rw [Oper.semAt_eq _ _ _ (fun c e => by cases e)]
    have hy := run_yield (P := P) (args := vs.toArray) hl (by rw [h3]; simpa using hp)
    have hxs : xs.map a.eval = vs.toArray := by rw [← Array.toArray_toList (xs := xs), List.map_toArray, H.evs hv]
    simp only [execOp, resolve, H.ev hx, Deferred.ofValue, Sem.run_bind, Sem.run_pure, Result.andThen_ok, invoke, hxs, Array.empty_append, hy]
  show Oper.uponIn (FR x0) 0 P _ a _ Q ((Oper.semAt x0 a.eval _).run P w)
  rw [hsem]
  refine ⟨fun h => (by cases h), ?_⟩
  have hz : (r.params.zip vs.toArray).foldl (fun tmps (p : Tmp × Value) => tmps.setIfInBounds p.1 p.2) r.tmps = (ps.toList.zip vs).foldl (fun (t : Array Value) (p : Tmp × Value) => t.setIfInBounds p.1 p.2) r.tmps := by
    rw [h3, ← Array.foldl_toList, Array.toList_zip]
  have hb := binds_get (ps.toList.zip vs) s0 r.tmps (fun p hp => by
    have := List.all_eq_true.1 hps p.1 (List.of_mem_zip hp).1
    rw [h6]; simpa using this) h7
  have hj := kk a H { tmps := (r.params.zip vs.toArray).foldl (fun tmps (p : Tmp × Value) => tmps.setIfInBounds p.1 p.2) r.tmps, defers := [] } w ⟨rfl, by rw [hz, hb.1, h6], fun t v e => by rw [hz]; exact hb.2 t v e⟩ S
  refine RoundIn.mono (roundIn_of_wpIn (n := 0) trivial ?_) (R := QY P (some x0) ops rest Q a d) (fun e w' he => ?_)
  · rw [h4, h5]
    exact hj
  · cases e with
    | returned v => exact hK _ _ he
    | panicked c => exact he.elim
    | outgrown => exact he.elim
/-- the loop's variables have their values: the body begins -/
theorem E.begin_ {m l k : Nat} {ps : Array Tmp} {assign body : Code} {LA : LoopState → Option Code → Asrt} {s0 : St} {R : Ending → World → Prop} (hLA : LA = LA0 l ps assign body m s0) (hk : A[k]? = some (LA .ready none))
    (j : J P K ⟨m, some (some l), []⟩ body (QB P l R) s (A.set k (LA .busy none)) h) : E K ⟨m, some (some l), []⟩ (RA P body l (QB P l R)) .normal s A h := fun a w H S => by
  subst hLA
  obtain ⟨r, hr, hl, up⟩ := S.loopO hk LA0.loop
  obtain ⟨h1, h2, _⟩ := LA0.rec hr
  have hp : ({ r with state := .busy, pending := none } : Loop) = { r with state := .busy } := by rw [← h2]
  exact ⟨_, run_beginRound hl h1, j a _ H (up _ _ (by rw [← hp]; exact LA0.turn hr))⟩
theorem round_end {m l k mG d : Nat} {x0 : Option Nat} {dG : List Nat} {ps : Array Tmp} {assign body : Code} {LA : LoopState → Option Code → Asrt} {s0 sG : St} {aG : Act} {QG : Exit → Act → World → Prop} {ops : Array Oper} {rest : List Oper} (jump : Option Code)
    (hLA : LA = LA0 l ps assign body m s0) (hk : A[k]? = some (LA .busy none)) (HG : Holds ⟨mG, some x0, dG⟩ sG aG) (hd : Nat.blt d mG = true)
    (j : JL P K ⟨mG, some x0, dG⟩ ops rest QG ((d, .bool jump.isNone) :: sG) (A.set k (LA (if jump.isNone then .ready else .done) jump)) h) :
    ∀ w, SH K h w A → ∃ v w', (Instr.endRound l jump).run P w = .ok v w' ∧ QY P (some x0) ops rest QG aG d (.returned v) w' := fun w S => by
  subst hLA
  obtain ⟨r, hr, hl, up⟩ := S.loopO hk LA0.loop
  exact ⟨_, _, run_endRound jump hl, j _ _ (HG.put (.bool jump.isNone) hd) (up _ _ (LA0.turn hr))⟩
theorem E.rdN {m l k mG d : Nat} {x0 : Option Nat} {dG : List Nat} {ps : Array Tmp} {assign body : Code} {LA : LoopState → Option Code → Asrt} {s0 sG : St} {aG : Act} {QG : Exit → Act → World → Prop} {ops : Array Oper} {rest : List Oper}
    (hLA : LA = LA0 l ps assign body m s0) (hk : A[k]? = some (LA .busy none)) (HG : Holds ⟨mG, some x0, dG⟩ sG aG) (hd : Nat.blt d mG = true)
    (j : JL P K ⟨mG, some x0, dG⟩ ops rest QG ((d, .bool true) :: sG) (A.set k (LA .ready none)) h) : E K n (QB P l (QY P (some x0) ops rest QG aG d)) .normal s A h := fun _ w _ S =>
  round_end none hLA hk HG hd j w S
theorem E.rdR {m l k mG d : Nat} {x0 : Option Nat} {dG : List Nat} {ps : Array Tmp} {assign body : Code} {LA : LoopState → Option Code → Asrt} {s0 sG : St} {aG : Act} {QG : Exit → Act → World → Prop} {ops : Array Oper} {rest : List Oper}
    (hLA : LA = LA0 l ps assign body m s0) (hk : A[k]? = some (LA .busy none)) (HG : Holds ⟨mG, some x0, dG⟩ sG aG) (hd : Nat.blt d mG = true)
    (j : JL P K ⟨mG, some x0, dG⟩ ops rest QG ((d, .bool false) :: sG) (A.set k (LA .done (some .ret))) h) : E K n (QB P l (QY P (some x0) ops rest QG aG d)) .ret s A h := fun _ w _ S =>
  round_end (some .ret) hLA hk HG hd j w S
/-! ### a function that holds a loop over a function -/
theorem enterM {fn : Func} {R : Ending → World → Prop} {f : FuncId} {c : Code} {args : List Value} {w : World} {m : Nat} (hf : P.funcs[f]? = some fn) (hb : fn.body = some c) (hn : fn.ntmps = m) (hle : Nat.ble args.length m = true) (hs : Sub h w)
    (j : J P (Kp.all w h) ⟨m, none, []⟩ c (bodyPostM Fence.wide 0 P fn R) (start 0 args) [MkA []] h) : Calls P f args.toArray w R := by
  have hl : args.length ≤ m := by simpa using hle
  refine callsIn_wide.1 (callsIn_of_wp_marks (n := 0) hf hb trivial ((wpIn_wide (n := 0)).2 (J.mk0 j _ w ⟨rfl, ?_, fun t v e => ?_⟩ (SH.start w h hs))))
  · simp [hn]; omega
  · obtain ⟨_, h2⟩ := get_start 0 args t v e
    simp only [Nat.sub_zero] at h2
    have hlt : t < args.length := (List.getElem?_eq_some_iff.1 h2).1
    rw [Array.getElem?_append_left (by simpa using hlt)]
    simpa using h2
theorem leaves_marks {fn : Func} {R : Ending → World → Prop} {m k : Nat} : ∀ (dl : List Nat) (A : List Asrt) (a : Act) (w : World), A[k]? = some (MkA dl) → Holds ⟨m, none, []⟩ s { tmps := a.tmps, defers := [] } → SH K h w A → E K ⟨m, none, []⟩ (bodyPost P fn R) .ret s (A.set k tru) h →
    LeavesInM Fence.wide 0 P fn a.tmps R (dl.map mark) .returning w
  | [], A, a, w, hk, H, S, j => (j _ w H (S.forget k)).2
  | D :: dl, A, a, w, hk, H, S, j => by
    obtain ⟨g, ⟨hd, hg⟩, own, up⟩ := S.upd hk
    have hD := hg D List.mem_cons_self
    have hw := own.sub D _ hD
    have hlt : D < w.heap.size := (Array.getElem?_eq_some_iff.1 hw).1
    obtain ⟨hn1, hn2⟩ := List.nodup_cons.1 hd
    refine ⟨fun e => (by cases e), .inl ⟨D, w.putObj D (.deferred none), rfl, run_takeDeferred hw, ?_⟩⟩
    have S' := up (MkA dl) (fun b => if b = D then some (.deferred none) else g b) (w.putObj D (.deferred none)) ⟨hn2, fun D' hD' => by
      have : D' ≠ D := fun e => hn1 (e ▸ hD')
      simp only [this, if_false]
      exact hg D' (List.mem_cons_of_mem _ hD')⟩ (fun b o hb => by
      by_cases e : b = D
      · subst e
        simp only [if_true] at hb
        rw [putObj_heap, if_pos ⟨rfl, hlt⟩]; exact hb
      · simp only [e, if_false] at hb
        rw [putObj_heap, if_neg (fun q => e q.1.symm)]
        exact own.sub b o hb) (fun b hb => by
      by_cases e : b = D
      · subst e; exact .inl (by rw [hD]; simp)
      · simp only [e, if_false] at hb; exact .inl hb) (fun b hb hn => by
      rw [putObj_heap, if_neg fun q => ?_]
      rw [← q.1, hD] at hn; cases hn) rfl rfl rfl (by rw [putObj_size]; exact Nat.le_refl _) (Nat.le_refl _)
    have hk' : (A.set k (MkA dl))[k]? = some (MkA dl) := by
      rw [List.getElem?_set_self (List.getElem?_eq_some_iff.1 hk).1]
    exact leaves_marks dl _ a _ hk' H S' (by rw [List.set_set]; exact j)
/-- the result of a function that holds loops over functions -/
theorem E.resM {fn : Func} {R : Ending → World → Prop} {m k : Nat} {dl : List Nat} (hk : A[k]? = some (MkA dl)) (j : E K ⟨m, none, []⟩ (bodyPost P fn R) .ret s (A.set k tru) h) : E K ⟨m, none, dl⟩ (bodyPostM Fence.wide 0 P fn R) .ret s A h := fun a w H S => by
  show LeavesInM Fence.wide 0 P fn a.tmps R a.defers .returning w
  rw [H.defers]
  exact leaves_marks dl A a w hk ⟨rfl, H.size, H.slots⟩ S j
end
end Go.Proofs.YtojoehfldbimpaaGreatDoor.Pl

