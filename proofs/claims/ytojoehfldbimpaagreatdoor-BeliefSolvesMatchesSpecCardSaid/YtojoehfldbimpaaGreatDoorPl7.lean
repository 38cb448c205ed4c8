/- Regions whose order Go leaves open, and that do more than read: every order is followed, the ones that only read wherever they come. No condition. -/
import Derived.Test.YtojoehfldbimpaaGreatDoorPl6
namespace Go.Proofs.YtojoehfldbimpaaGreatDoor.Pl
open Go Go.RowKit
section
variable {P : Program} {K : Kp} {m_ : Nat} {dl_ : List Nat} {ops : Array Oper} {Q : Exit → Act → World → Prop} {s : St} {A : List Asrt} {h : FH}
def depsOf (o : Oper) : List Nat := (o.after.toList.filter (Region.binds .any)).map (·.on)
def dl (ops : Array Oper) (val : St) (o : Oper) : St := (depsOf o).filterMap fun j => match (ops[j]?).bind (·.dst), get val j with
  | some d, some v => some (d, v)
  | _, _ => none
/-- the dsts are all different, and none of them is a slot that is named -/
def dstOk (ops : Array Oper) (keys X : List Nat) : Bool :=
  ((List.range ops.size).all fun i => (List.range ops.size).all fun j => i == j || (match (ops[i]?).bind (·.dst), (ops[j]?).bind (·.dst) with | some x, some y => !(Nat.beq x y) | _, _ => true)) &&
  ((List.range ops.size).all fun i => X.contains i || match (ops[i]?).bind (·.dst) with | some x => keys.all fun p => !(Nat.beq p x) | none => true) &&
  (List.range ops.size).all fun i => match ops[i]? with | some o => (depsOf o).all fun j => decide (j < i) | none => true
def enOk (ops : Array Oper) (D C H : List Nat) : Bool :=
  (List.range ops.size).all fun i => D.contains i || C.contains i || H.contains i || (match ops[i]? with | some o => !((depsOf o).all fun j => D.contains j || C.contains j) | none => true)
def lst (l : Array Bool) (i : Nat) : Prop := l.getD i false = true
structure Known (ops : Array Oper) (D C : List Nat) (val s0 : St) (listed : Array Bool) (sL : St) : Prop where
  size : listed.size = ops.size
  done : ∀ i ∈ D, lst listed i
  only : ∀ i, lst listed i → i ∈ D ∨ i ∈ C
  base : ∀ t v, get s0 t = some v → get sL t = some v
  vals : ∀ i o d v, lst listed i → ops[i]? = some o → o.dst = some d → get val i = some v → get sL d = some v
  closed : ∀ i o, lst listed i → ops[i]? = some o → ∀ j ∈ depsOf o, lst listed j
/-- each of the list is waited for, by the first or by one ahead of it -/
def ancOk (ops : Array Oper) : List Nat → List Nat → Bool
  | _, [] => true
  | acc, j :: r => (acc.any fun k => match ops[k]? with | some o => (depsOf o).contains j | none => false) && ancOk ops (j :: acc) r
theorem anc_done {listed : Array Bool} : ∀ (M acc : List Nat), (∀ k ∈ acc, ∀ o, ops[k]? = some o → ∀ j ∈ depsOf o, lst listed j) → (∀ i o, lst listed i → ops[i]? = some o → ∀ j ∈ depsOf o, lst listed j) → ancOk ops acc M = true → ∀ j ∈ M, lst listed j
  | [], _, _, _, _ => fun j hj => by cases hj
  | m :: r, acc, ha, hc, hok => fun j hj => by
    simp only [ancOk, Bool.and_eq_true, List.any_eq_true] at hok
    obtain ⟨⟨k, hk, hk2⟩, hr⟩ := hok
    have hm : lst listed m := by
      cases hok2 : ops[k]? with
      | none => rw [hok2] at hk2; cases hk2
      | some o => rw [hok2] at hk2; exact ha k hk o hok2 m (by simpa using hk2)
    rcases List.mem_cons.1 hj with rfl | hj
    · exact hm
    · refine anc_done r (m :: acc) (fun k' hk' o ho => ?_) hc hr j hj
      rcases List.mem_cons.1 hk' with rfl | hk'
      · exact hc _ o hm ho
      · exact ha k' hk' o ho
def JA (P : Program) (K : Kp) (n : Fr) (ops : Array Oper) (Q : Exit → Act → World → Prop) (X D C : List Nat) (val s0 : St) (A : List Asrt) (h : FH) : Prop :=
  dstOk ops (s0.map (·.1)) X = true → ∀ (fuel : Nat) (listed : Array Bool) (a : Act) (w : World) (sL : St), Known ops D C val s0 listed sL → listed.toList.count false ≤ fuel → Holds n sL a → SH K h w A → wpAny P .any ops Q fuel listed a w
/-- the guard of an operation holds, or fails -/
def gdT (ops : Array Oper) (si : St) (o : Oper) : Prop := match o.guard with | none => True | some (g, w) => ∃ t, (ops[g]?).bind (·.dst) = some t ∧ get si t = some (.bool w)
def gdF (ops : Array Oper) (si : St) (o : Oper) : Prop := match o.guard with | none => False | some (g, w) => ∃ t v, (ops[g]?).bind (·.dst) = some t ∧ get si t = some v ∧ (v = .bool (!w) ∨ v = undef)
/-- what the operations give that only read -/
def QA (P : Program) (K : Kp) (n : Fr) (ops : Array Oper) (val s0 : St) (A : List Asrt) (h : FH) (C : List Nat) : Prop :=
  ∀ i ∈ C, ∃ o d v si, ops[i]? = some o ∧ o.dst = some d ∧ Nat.blt d n.sz = true ∧ get val i = some v ∧ dl ops val o = si ∧ ((gdT ops si o ∧ ((∀ sL, VF P K n (si ++ (s0 ++ sL)) A h o v) ∨ (∀ sL, CF P K n (si ++ (s0 ++ sL)) A h o v))) ∨ (gdF ops si o ∧ v = undef))
section
variable {val s0 : St} {i d g t : Nat} {C : List Nat} {o : Oper} {u : Value} {want b : Bool}
theorem QA.nil : QA P K ⟨m_, none, dl_⟩ ops val s0 A h [] := fun i hi => by cases hi
theorem QA.cons (si : St) (ho : ops[i]? = some o) (hd : o.dst = some d) (hn : Nat.blt d m_ = true) (hv : get val i = some u) (hs : dl ops val o = si) (hx : (gdT ops si o ∧ ((∀ sL, VF P K ⟨m_, none, dl_⟩ (si ++ (s0 ++ sL)) A h o u) ∨ (∀ sL, CF P K ⟨m_, none, dl_⟩ (si ++ (s0 ++ sL)) A h o u))) ∨ (gdF ops si o ∧ u = undef)) (r : QA P K ⟨m_, none, dl_⟩ ops val s0 A h C) : QA P K ⟨m_, none, dl_⟩ ops val s0 A h (i :: C) := fun j hj => by
  rcases List.mem_cons.1 hj with rfl | hj
  · exact ⟨o, d, u, si, ho, hd, hn, hv, hs, hx⟩
  · exact r j hj
theorem gdT_none {si : St} (hg : o.guard = none) : gdT ops si o := by unfold gdT; rw [hg]; trivial
theorem QA.v (si : St) (ho : ops[i]? = some o) (hg : o.guard = none) (hd : o.dst = some d) (hn : Nat.blt d m_ = true) (hv : get val i = some u) (hs : dl ops val o = si) (hx : ∀ sL, VF P K ⟨m_, none, dl_⟩ (si ++ (s0 ++ sL)) A h o u) (r : QA P K ⟨m_, none, dl_⟩ ops val s0 A h C) : QA P K ⟨m_, none, dl_⟩ ops val s0 A h (i :: C) :=
  .cons si ho hd hn hv hs (.inl ⟨gdT_none hg, .inl hx⟩) r
theorem QA.c (si : St) (ho : ops[i]? = some o) (hg : o.guard = none) (hd : o.dst = some d) (hn : Nat.blt d m_ = true) (hv : get val i = some u) (hs : dl ops val o = si) (hx : ∀ sL, CF P K ⟨m_, none, dl_⟩ (si ++ (s0 ++ sL)) A h o u) (r : QA P K ⟨m_, none, dl_⟩ ops val s0 A h C) : QA P K ⟨m_, none, dl_⟩ ops val s0 A h (i :: C) :=
  .cons si ho hd hn hv hs (.inl ⟨gdT_none hg, .inr hx⟩) r
theorem gdT_some {si : St} (hg : o.guard = some (g, want)) (ht : (ops[g]?).bind (·.dst) = some t) (hv : get si t = some (.bool b)) (hb : b = want) : gdT ops si o := by unfold gdT; rw [hg]; subst hb; exact ⟨t, ht, hv⟩
theorem QA.gv (si : St) (ho : ops[i]? = some o) (hg : o.guard = some (g, want)) (ht : (ops[g]?).bind (·.dst) = some t) (hgv : get si t = some (.bool b)) (hb : b = want) (hd : o.dst = some d) (hn : Nat.blt d m_ = true) (hv : get val i = some u) (hs : dl ops val o = si) (hx : ∀ sL, VF P K ⟨m_, none, dl_⟩ (si ++ (s0 ++ sL)) A h o u) (r : QA P K ⟨m_, none, dl_⟩ ops val s0 A h C) : QA P K ⟨m_, none, dl_⟩ ops val s0 A h (i :: C) :=
  .cons si ho hd hn hv hs (.inl ⟨gdT_some hg ht hgv hb, .inl hx⟩) r
theorem QA.gc (si : St) (ho : ops[i]? = some o) (hg : o.guard = some (g, want)) (ht : (ops[g]?).bind (·.dst) = some t) (hgv : get si t = some (.bool b)) (hb : b = want) (hd : o.dst = some d) (hn : Nat.blt d m_ = true) (hv : get val i = some u) (hs : dl ops val o = si) (hx : ∀ sL, CF P K ⟨m_, none, dl_⟩ (si ++ (s0 ++ sL)) A h o u) (r : QA P K ⟨m_, none, dl_⟩ ops val s0 A h C) : QA P K ⟨m_, none, dl_⟩ ops val s0 A h (i :: C) :=
  .cons si ho hd hn hv hs (.inl ⟨gdT_some hg ht hgv hb, .inr hx⟩) r
theorem QA.gS (si : St) (ho : ops[i]? = some o) (hg : o.guard = some (g, want)) (ht : (ops[g]?).bind (·.dst) = some t) (hgv : get si t = some (.bool b)) (hb : b = !want) (hd : o.dst = some d) (hn : Nat.blt d m_ = true) (hv : get val i = some undef) (hs : dl ops val o = si) (r : QA P K ⟨m_, none, dl_⟩ ops val s0 A h C) : QA P K ⟨m_, none, dl_⟩ ops val s0 A h (i :: C) :=
  .cons si ho hd hn hv hs (.inr ⟨by unfold gdF; rw [hg]; exact ⟨t, _, ht, hgv, .inl (by rw [hb])⟩, rfl⟩) r
theorem QA.gU (si : St) (ho : ops[i]? = some o) (hg : o.guard = some (g, want)) (ht : (ops[g]?).bind (·.dst) = some t) (hgv : get si t = some undef) (hd : o.dst = some d) (hn : Nat.blt d m_ = true) (hv : get val i = some undef) (hs : dl ops val o = si) (r : QA P K ⟨m_, none, dl_⟩ ops val s0 A h C) : QA P K ⟨m_, none, dl_⟩ ops val s0 A h (i :: C) :=
  .cons si ho hd hn hv hs (.inr ⟨by unfold gdF; rw [hg]; exact ⟨t, _, ht, hgv, .inr rfl⟩, rfl⟩) r
end
/-- what is known when one more operation has been done -/
def After (P : Program) (K : Kp) (n : Fr) (ops : Array Oper) (Q : Exit → Act → World → Prop) (X D C : List Nat) (val s0 : St) (i : Nat) (o : Oper) (sL : St) : Act → World → Prop := fun a w =>
  ∃ (M C' : List Nat) (pre s1 : St) (A' : List Asrt) (h' : FH), ((∀ t v, get s1 t = some v → get s0 t = some v) ∧ (∀ d, o.dst = some d → ∀ p ∈ s1, Nat.beq p.1 d = false) ∧ dstOk ops (s1.map (·.1)) X = true) ∧ ancOk ops [i] M = true ∧ (∀ j ∈ C, j ∈ M ∨ j ∈ C') ∧ (∀ j, j ∈ D ∨ j ∈ C → get (pre ++ val) j = get val j) ∧
    (match o.dst with | some d => ∃ v, get (pre ++ val) i = some v ∧ Holds n ((d, v) :: sL) a | none => Holds n sL a) ∧ SH K h' w A' ∧ JA P K n ops Q X (i :: (M ++ D)) C' (pre ++ val) s1 A' h'
def HA (P : Program) (K : Kp) (n : Fr) (ops : Array Oper) (Q : Exit → Act → World → Prop) (X D C : List Nat) (val s0 : St) (A : List Asrt) (h : FH) (H : List Nat) : Prop :=
  ∀ i ∈ H, ∃ o si, ops[i]? = some o ∧ dl ops val o = si ∧ ∀ sL, (∀ t v, get (si ++ s0) t = some v → get sL t = some v) → JL P K n ops [o] (Exit.then (After P K n ops Q X D C val s0 i o sL) Q) (si ++ (s0 ++ sL)) A h
theorem HA.nil {X D C : List Nat} {val s0 : St} : HA P K ⟨m_, none, dl_⟩ ops Q X D C val s0 A h [] := fun i hi => by cases hi
theorem HA.cons {X D C H : List Nat} {val s0 : St} {i : Nat} {o : Oper} (si : St) (ho : ops[i]? = some o) (hs : dl ops val o = si) (hx : ∀ sL, (∀ t v, get (si ++ s0) t = some v → get sL t = some v) → JL P K ⟨m_, none, dl_⟩ ops [o] (Exit.then (After P K ⟨m_, none, dl_⟩ ops Q X D C val s0 i o sL) Q) (si ++ (s0 ++ sL)) A h) (r : HA P K ⟨m_, none, dl_⟩ ops Q X D C val s0 A h H) : HA P K ⟨m_, none, dl_⟩ ops Q X D C val s0 A h (i :: H) := fun j hj => by
  rcases List.mem_cons.1 hj with rfl | hj
  · exact ⟨o, si, ho, hs, hx⟩
  · exact r j hj
theorem get_append {x y : St} {t : Nat} {v : Value} : get (x ++ y) t = some v ↔ get x t = some v ∨ (get x t = none ∧ get y t = some v) := by
  induction x with
  | nil => simp [Pl.get]
  | cons p r ih =>
    obtain ⟨k, u⟩ := p
    simp only [List.cons_append, Pl.get]
    cases Nat.beq k t with
    | true => simp
    | false => simpa using ih
theorem Holds.join {x sL : St} {a : Act} (H : Holds ⟨m_, none, dl_⟩ sL a) (hx : ∀ t v, get x t = some v → get sL t = some v) : Holds ⟨m_, none, dl_⟩ (x ++ sL) a := ⟨H.defers, H.size, fun t v e => by
  rcases get_append.1 e with q | ⟨_, q⟩
  · exact H.slots t v (hx t v q)
  · exact H.slots t v q⟩
theorem preOk {D C : List Nat} {pre val : St} (hp : (pre.all fun p => !(D.contains p.1) && !(C.contains p.1)) = true) : ∀ j, j ∈ D ∨ j ∈ C → get (pre ++ val) j = get val j := fun j hj => by
  induction pre with
  | nil => rfl
  | cons p r ih =>
    obtain ⟨k, u⟩ := p
    simp only [List.all_cons, Bool.and_eq_true, Bool.not_eq_true', List.contains_eq_mem, decide_eq_false_iff_not] at hp
    have hk : Nat.beq k j = false := by
      cases hb : Nat.beq k j with
      | false => rfl
      | true =>
        have := Nat.eq_of_beq_eq_true hb
        subst this
        rcases hj with q | q
        · exact absurd q hp.1.1
        · exact absurd q hp.1.2
    simp only [List.cons_append, Pl.get, hk, cond_false]
    refine ih ?_
    simpa only [List.all_eq_true, Bool.and_eq_true, Bool.not_eq_true', List.contains_eq_mem, decide_eq_false_iff_not] using hp.2
theorem E.ja {X D C C' M : List Nat} {val s0 si sL pre : St} {i d : Nat} {o : Oper} {v : Value} {A' : List Asrt} {h' : FH} (s1 : St) (keys : List Nat) (hL : ∀ t v, get (si ++ s0) t = some v → get sL t = some v) (hd : o.dst = some d) (hM : ancOk ops [i] M = true) (hC : (C.all fun j => M.contains j || C'.contains j) = true) (hp : (pre.all fun p => !(D.contains p.1) && !(C.contains p.1)) = true) (hv : get (pre ++ val) i = some v)
    (h1 : SubSt s1 s0) (hk : s1.map (·.1) = keys) (hkd : (keys.all fun p => !(Nat.beq p d)) = true) (hok : dstOk ops keys X = true) (j : JA P K ⟨m_, none, dl_⟩ ops Q X (i :: (M ++ D)) C' (pre ++ val) s1 A' h') : E K ⟨m_, none, dl_⟩ (Exit.then (After P K ⟨m_, none, dl_⟩ ops Q X D C val s0 i o sL) Q) .normal ((d, v) :: (si ++ (s0 ++ sL))) A' h' := fun a w H S => by
  subst hk
  refine ⟨M, C', pre, s1, A', h', ⟨fun t v e => h1.get e, fun d' hd' p hp' => ?_, hok⟩, hM, by simpa using hC, preOk hp, ?_, S, j⟩
  · rw [hd] at hd'; cases hd'
    simp only [List.all_map, List.all_eq_true, Function.comp, Bool.not_eq_true'] at hkd
    exact hkd p hp'
  rw [hd]
  refine ⟨v, hv, H.defers, H.size, fun t u e => H.slots t u ?_⟩
  simp only [Pl.get] at e ⊢
  cases hb : Nat.beq d t with
  | true => rw [hb] at e; exact e
  | false =>
    rw [hb] at e
    simp only [cond_false] at e ⊢
    rw [← List.append_assoc]
    cases hq : get (si ++ s0) t with
    | none => exact get_append.2 (.inr ⟨hq, e⟩)
    | some u' =>
      have := hL t u' hq
      rw [e] at this
      rw [Option.some.inj this]
      exact get_append.2 (.inl hq)
theorem E.jaN {X D C C' M : List Nat} {val s0 si sL pre : St} {i : Nat} {o : Oper} {A' : List Asrt} {h' : FH} (keys : List Nat) (hL : ∀ t v, get (si ++ s0) t = some v → get sL t = some v) (hd : o.dst = none) (hM : ancOk ops [i] M = true) (hC : (C.all fun j => M.contains j || C'.contains j) = true) (hp : (pre.all fun p => !(D.contains p.1) && !(C.contains p.1)) = true)
    (hk : s0.map (·.1) = keys) (hok : dstOk ops keys X = true) (j : JA P K ⟨m_, none, dl_⟩ ops Q X (i :: (M ++ D)) C' (pre ++ val) s0 A' h') : E K ⟨m_, none, dl_⟩ (Exit.then (After P K ⟨m_, none, dl_⟩ ops Q X D C val s0 i o sL) Q) .normal (si ++ (s0 ++ sL)) A' h' := fun a w H S => by
  subst hk
  refine ⟨M, C', pre, s0, A', h', ⟨fun t v e => e, fun d' hd' => (by rw [hd] at hd'; cases hd'), hok⟩, hM, by simpa using hC, preOk hp, ?_, S, j⟩
  rw [hd]
  refine ⟨H.defers, H.size, fun t u e => H.slots t u ?_⟩
  rw [← List.append_assoc]
  cases hq : get (si ++ s0) t with
  | none => exact get_append.2 (.inr ⟨hq, e⟩)
  | some u' =>
    have := hL t u' hq
    rw [e] at this
    rw [Option.some.inj this]
    exact get_append.2 (.inl hq)
theorem op_of_list {i : Nat} {o : Oper} {X K' : Act → World → Prop} {a : Act} {w : World} (ho : ops[i]? = some o) (hk : ∀ a w, X a w → K' a w) (hl : wpList P ops (Exit.then X Q) [o] a w) : wpOp P ops Q i K' a w := by
  unfold wpOp
  rw [ho]
  unfold wpList at hl
  simp only
  split
  · rename_i hw
    rw [if_pos hw] at hl
    rcases hl with hh | ⟨hh, a', w', hx⟩
    · refine .inl ?_
      unfold Oper.wp at hh ⊢
      generalize (execOp a.eval o).run P w = r' at hh ⊢
      cases r' with
      | ok nx w' =>
        cases nx <;> simp only [Oper.upon] at hh ⊢ <;>
          first
            | exact hk _ _ hh
            | exact Calls.mono hh (fun e w'' he => by
                cases e with
                | returned v => exact hk _ _ he
                | panicked c => exact he
                | outgrown => obtain ⟨a1, w1, q⟩ := he; exact ⟨a1, w1, q⟩)
            | exact Rows.mono hh (fun _ _ he => hk _ _ he)
      | halt x w' => cases x <;> simp only [Oper.upon] at hh ⊢ <;> exact hh
    · exact .inr ⟨hh, a', w', hx⟩
  · rename_i hw
    rw [if_neg hw] at hl
    exact hk _ _ hl
theorem lst_set {l : Array Bool} {i j : Nat} (hi : i < l.size) : lst (l.setIfInBounds i true) j ↔ j = i ∨ lst l j := by
  unfold lst
  by_cases e : i = j
  · subst e; simp [hi]
  · rw [getD_set_ne false e]
    constructor
    · exact .inr
    · rintro (q | q)
      · exact absurd q.symm e
      · exact q
theorem count_set {l : List Bool} {i : Nat} (hi : l[i]? = some false) : (l.set i true).count false + 1 = l.count false := by
  induction l generalizing i with
  | nil => simp at hi
  | cons b r ih =>
    cases i with
    | zero => simp at hi; subst hi; simp
    | succ i =>
      simp at hi
      have := ih hi
      simp only [List.set_cons_succ, List.count_cons]
      omega
theorem all_of_stuck {X : List Nat} {s0 : St} {listed : Array Bool} (hok : dstOk ops (s0.map (·.1)) X = true) (hs : listed.size = ops.size) (hr : Region.ready .any ops listed = []) : ∀ i, i < ops.size → lst listed i := by
  intro i
  induction i using Nat.strongRecOn with
  | _ i ih =>
    intro hi
    cases e : listed.getD i false with
    | true => exact e
    | false =>
      exfalso
      have hx : i ∈ Region.ready .any ops listed := by
        rw [mem_ready]
        refine ⟨by have hi' : i < listed.size := by omega
                   simp [hi'] at e ⊢; exact e, ops[i], by simp [hi], fun e' he hb => ?_⟩
        simp only [dstOk, Bool.and_eq_true, List.all_eq_true, List.mem_range] at hok
        have h1 := hok.2 i hi
        rw [show ops[i]? = some ops[i] from by simp [hi]] at h1
        simp only [List.all_eq_true, decide_eq_true_eq] at h1
        have hlt := h1 e'.on (by
          unfold depsOf
          exact List.mem_map.2 ⟨e', List.mem_filter.2 ⟨by simpa using he, hb⟩, rfl⟩)
        exact ih _ hlt (by omega)
      rw [hr] at hx; cases hx
theorem Known.put {X D C : List Nat} {val s0 sL : St} {listed : Array Bool} {i d : Nat} {o : Oper} {v : Value} (hok : dstOk ops (s0.map (·.1)) X = true) (k : Known ops D C val s0 listed sL) (ho : ops[i]? = some o) (hd : o.dst = some d) (hv : get val i = some v) (hiC : i ∈ C) (hiX : i ∉ X) (hdn : ∀ e ∈ depsOf o, lst listed e) : Known ops D C val s0 (listed.setIfInBounds i true) ((d, v) :: sL) := by
  have hi : i < ops.size := (Array.getElem?_eq_some_iff.1 ho).1
  have hil : i < listed.size := by rw [k.size]; exact hi
  simp only [dstOk, Bool.and_eq_true, List.all_eq_true, List.mem_range] at hok
  refine ⟨by simpa using k.size, fun j hj => (lst_set hil).2 (.inr (k.done j hj)), fun j hj => ?_, fun t u e => ?_, fun j oj dj u hj hoj hdj hu => ?_, fun j oj hj hoj e he => ?_⟩
  · rcases (lst_set hil).1 hj with rfl | hj
    · exact .inr hiC
    · exact k.only j hj
  · have h2 := hok.1.2 i hi
    rw [ho] at h2
    simp only [List.contains_eq_mem, hiX, decide_false, Bool.false_or, Option.bind_some, hd, List.all_eq_true, Bool.not_eq_true', List.mem_map, forall_exists_index, and_imp, forall_apply_eq_imp_iff₂] at h2
    simp only [Pl.get]
    cases hb : Nat.beq d t with
    | false => simpa using k.base t u e
    | true =>
      exfalso
      have ht := Nat.eq_of_beq_eq_true hb
      subst ht
      have : ∀ (l : St), get l d = some u → ∃ p ∈ l, Nat.beq p.1 d = true := by
        intro l
        induction l with
        | nil => intro h; cases h
        | cons p r ih =>
          intro h
          obtain ⟨k', u'⟩ := p
          simp only [Pl.get] at h
          cases hb : Nat.beq k' d with
          | true => exact ⟨_, List.mem_cons_self, hb⟩
          | false =>
            rw [hb] at h
            obtain ⟨p, hp, hq⟩ := ih h
            exact ⟨p, List.mem_cons_of_mem _ hp, hq⟩
      obtain ⟨p, hp, hq⟩ := this s0 e
      rw [h2 p hp] at hq; cases hq
  · simp only [Pl.get]
    rcases (lst_set hil).1 hj with rfl | hj
    · rw [ho] at hoj; cases hoj
      rw [hd] at hdj; cases hdj
      rw [hv] at hu; cases hu
      simp
    · by_cases hij : j = i
      · subst hij
        rw [ho] at hoj; cases hoj
        rw [hd] at hdj; cases hdj
        rw [hv] at hu; cases hu
        simp
      · have hjl : j < ops.size := (Array.getElem?_eq_some_iff.1 hoj).1
        have h3 := hok.1.1 i hi j hjl
        rw [ho, hoj] at h3
        simp only [Option.bind_some, hd, hdj, Bool.or_eq_true, beq_iff_eq, Bool.not_eq_true'] at h3
        rcases h3 with q | q
        · exact absurd q.symm hij
        · rw [q]; simpa using k.vals j oj dj u hj hoj hdj hu
  · refine (lst_set hil).2 (.inr ?_)
    rcases (lst_set hil).1 hj with rfl | hj2
    · rw [ho] at hoj; cases hoj
      exact hdn e he
    · exact k.closed j oj hj2 hoj e he
theorem JA.core {X D C H : List Nat} {val s0 : St} (hX : (C.all fun j => !(X.contains j)) = true) (hen : enOk ops D C H = true) (hq : QA P K ⟨m_, none, dl_⟩ ops val s0 A h C) (hh : HA P K ⟨m_, none, dl_⟩ ops Q X D C val s0 A h H)
    (he : ∀ listed a w sL, Known ops D C val s0 listed sL → (∀ i, i < ops.size → lst listed i) → Holds ⟨m_, none, dl_⟩ sL a → SH K h w A → Q .normal a w) : JA P K ⟨m_, none, dl_⟩ ops Q X D C val s0 A h := by
  intro hok fuel
  induction fuel with
  | zero =>
    intro listed a w sL k hc Hd S
    have hall : ∀ i, i < ops.size → lst listed i := fun i hi => by
      have hi' : i < listed.size := by rw [k.size]; exact hi
      cases e : listed[i] with
      | true => unfold lst; simp [hi', e]
      | false =>
        exfalso
        have : 0 < listed.toList.count false := List.count_pos_iff.2 (by rw [← e]; simp)
        omega
    refine ⟨?_, he listed a w sL k hall Hd S⟩
    cases hr : Region.ready .any ops listed with
    | nil => rfl
    | cons x xs =>
      exfalso
      have hx : x ∈ Region.ready .any ops listed := by rw [hr]; simp
      obtain ⟨h0, ox, hox, _⟩ := mem_ready.1 hx
      have hlt := (Array.getElem?_eq_some_iff.1 hox).1
      have h1 := hall x hlt
      have hx' : x < listed.size := by rw [k.size]; exact hlt
      unfold lst at h1
      simp [hx'] at h0 h1
      rw [h0] at h1; cases h1
  | succ fuel ih =>
    intro listed a w sL k hc Hd S
    refine ⟨fun hr => he listed a w sL k (all_of_stuck (s0 := s0) hok k.size hr) Hd S, fun i hi => ?_⟩
    obtain ⟨h0, o, ho, hdeps⟩ := mem_ready.1 hi
    have hlt := (Array.getElem?_eq_some_iff.1 ho).1
    have hil : i < listed.size := by rw [k.size]; exact hlt
    have hf : listed.toList[i]? = some false := by simp [hil] at h0 ⊢; exact h0
    have hcnt : (listed.setIfInBounds i true).toList.count false ≤ fuel := by
      have := count_set hf
      rw [Array.toList_setIfInBounds]; omega
    have hnot : ¬ lst listed i := by
      unfold lst; simp [hil] at h0 ⊢; exact h0
    have hdone : ∀ j ∈ depsOf o, lst listed j := fun j hj => by
      unfold depsOf at hj
      obtain ⟨e, he', rfl⟩ := List.mem_map.1 hj
      obtain ⟨h1, h2⟩ := List.mem_filter.1 he'
      exact hdeps e (by simpa using h1) h2
    have hdl : ∀ t v, get (dl ops val o) t = some v → get sL t = some v := by
      have key : ∀ (l : List Nat), (∀ j ∈ l, lst listed j) → ∀ t v, get (l.filterMap fun j => match (ops[j]?).bind (·.dst), get val j with | some d, some v => some (d, v) | _, _ => none) t = some v → get sL t = some v := by
        intro l
        induction l with
        | nil => intro _ t v e; cases e
        | cons j r ihl =>
          intro hl t v e
          cases hd : (ops[j]?).bind (·.dst) with
          | none => simp only [List.filterMap_cons, hd] at e; exact ihl (fun j hj => hl j (List.mem_cons_of_mem _ hj)) t v e
          | some d =>
            cases hv : get val j with
            | none => simp only [List.filterMap_cons, hd, hv] at e; exact ihl (fun j hj => hl j (List.mem_cons_of_mem _ hj)) t v e
            | some u =>
              simp only [List.filterMap_cons, hd, hv, Pl.get] at e
              obtain ⟨oj, hoj, hdj⟩ := Option.bind_eq_some_iff.1 hd
              cases hb : Nat.beq d t with
              | false => rw [hb] at e; exact ihl (fun j hj => hl j (List.mem_cons_of_mem _ hj)) t v e
              | true =>
                rw [hb] at e
                have ht := Nat.eq_of_beq_eq_true hb
                subst ht
                simp only [cond_true] at e
                rw [← e]
                exact k.vals j oj d u (hl j List.mem_cons_self) hoj hdj hv
      exact key _ hdone
    have hcons : ∀ t v, get (dl ops val o ++ s0) t = some v → get sL t = some v := fun t v e => by
      rcases get_append.1 e with q | ⟨_, q⟩
      · exact hdl t v q
      · exact k.base t v q
    have Hd' : Holds ⟨m_, none, dl_⟩ (dl ops val o ++ (s0 ++ sL)) a := by
      rw [← List.append_assoc]; exact Hd.join hcons
    by_cases hiC : i ∈ C
    · obtain ⟨o', d, v, si, ho', hd, hn, hv, hs, hx⟩ := hq i hiC
      rw [ho] at ho'; cases ho'
      subst hs
      have k' := k.put (o := o) hok ho hd hv hiC (by
        simp only [List.all_eq_true, Bool.not_eq_true', List.contains_eq_mem, decide_eq_false_iff_not] at hX
        exact hX i hiC) hdone
      have hyd : ∀ t v, get (dl ops val o) t = some v → a.tmps[t]? = some v := fun t v e => Hd.slots t v (hdl t v e)
      unfold wpOp
      rw [ho]
      simp only
      rcases hx with ⟨hgt, hx⟩ | ⟨hgf, rfl⟩
      · have hw : Region.wanted o (yielded ops a.tmps) = true := by
          unfold gdT at hgt
          unfold Region.wanted
          cases hgd : o.guard with
          | none => rfl
          | some gw =>
            rw [hgd] at hgt
            obtain ⟨t, h1, h2⟩ := hgt
            have : yielded ops a.tmps gw.1 = some gw.2 := by unfold yielded; rw [h1]; simp [hyd _ _ h2]
            simp [this]
        rw [if_pos hw]
        refine .inl ?_
        rcases hx with hx | hx
        · unfold Oper.wp
          rw [hx sL a w Hd' S]
          show wpAny P .any ops Q fuel _ _ w
          refine ih _ _ w _ k' hcnt ?_ S
          rw [hd]; exact Hd.put v hn
        · obtain ⟨f, args, hr, hcall⟩ := hx sL a w Hd' S
          unfold Oper.wp
          rw [hr]
          refine hcall.mono fun e w' ⟨he', hb⟩ => ?_
          subst he'
          show wpAny P .any ops Q fuel _ _ w'
          refine ih _ _ w' _ k' hcnt ?_ (S.ext hb)
          rw [hd]; exact Hd.put v hn
      · have hw : ¬ Region.wanted o (yielded ops a.tmps) = true := by
          unfold gdF at hgf
          unfold Region.wanted
          cases hgd : o.guard with
          | none => rw [hgd] at hgf; exact hgf.elim
          | some gw =>
            rw [hgd] at hgf
            obtain ⟨t, u, h1, h2, h3⟩ := hgf
            have hy : yielded ops a.tmps gw.1 ≠ some gw.2 := by
              unfold yielded; rw [h1]
              rcases h3 with rfl | rfl
              · simp [hyd _ _ h2]
              · simp [hyd _ _ h2, undef]
            simpa using hy
        rw [if_neg hw]
        refine ih _ _ w _ k' hcnt ?_ S
        rw [hd]; exact Hd.put undef hn
    · have hiH : i ∈ H := by
        simp only [enOk, List.all_eq_true, List.mem_range] at hen
        have h1 := hen i hlt
        rw [ho] at h1
        simp only [List.contains_eq_mem, Bool.or_eq_true, decide_eq_true_eq, Bool.not_eq_true'] at h1
        rcases h1 with ((q | q) | q) | q
        · exact absurd (k.done i q) hnot
        · exact absurd q hiC
        · exact q
        · exfalso
          have : ((depsOf o).all fun j => decide (j ∈ D) || decide (j ∈ C)) = true := by
            rw [List.all_eq_true]
            intro j hj
            rcases k.only j (hdone j hj) with q' | q' <;> simp [q']
          rw [this] at q; cases q
      obtain ⟨o', si, ho', hs, hx⟩ := hh i hiH
      rw [ho] at ho'; cases ho'
      subst hs
      refine op_of_list ho (fun a' w' hA => ?_) (hx sL hcons a w Hd' S)
      obtain ⟨M, C', pre, s1, A', h', ⟨hs1, hsd, hok1⟩, hM, hC, hp, hd, S', j⟩ := hA
      have hMd : ∀ j ∈ M, lst listed j := anc_done M [i] (fun k' hk' o' ho' => by
        rw [List.mem_singleton] at hk'; subst hk'
        rw [ho] at ho'; cases ho'
        exact hdone) k.closed hM
      have hclosed : ∀ j oj, lst (listed.setIfInBounds i true) j → ops[j]? = some oj → ∀ e ∈ depsOf oj, lst (listed.setIfInBounds i true) e := fun j oj hj hoj e he => by
        refine (lst_set hil).2 (.inr ?_)
        rcases (lst_set hil).1 hj with rfl | hj2
        · rw [ho] at hoj; cases hoj
          exact hdone e he
        · exact k.closed j oj hj2 hoj e he
      have hval : ∀ j, lst listed j → get (pre ++ val) j = get val j := fun j hj => hp j (k.only j hj)
      have hdone' : ∀ j ∈ i :: (M ++ D), lst (listed.setIfInBounds i true) j := fun j hj => by
        rcases List.mem_cons.1 hj with rfl | hj
        · exact (lst_set hil).2 (.inl rfl)
        · rcases List.mem_append.1 hj with hj | hj
          · exact (lst_set hil).2 (.inr (hMd j hj))
          · exact (lst_set hil).2 (.inr (k.done j hj))
      have honly' : ∀ j, lst (listed.setIfInBounds i true) j → j ∈ i :: (M ++ D) ∨ j ∈ C' := fun j hj => by
        rcases (lst_set hil).1 hj with rfl | hj
        · exact .inl List.mem_cons_self
        · rcases k.only j hj with q | q
          · exact .inl (List.mem_cons_of_mem _ (List.mem_append.2 (.inr q)))
          · rcases hC j q with q' | q'
            · exact .inl (List.mem_cons_of_mem _ (List.mem_append.2 (.inl q')))
            · exact .inr q'
      cases hdo : o.dst with
      | none =>
        rw [hdo] at hd
        refine j hok1 fuel _ a' w' sL ⟨by simpa using k.size, hdone', honly', fun t v e => k.base t v (hs1 t v e), fun j oj dj u hj hoj hdj hu => ?_, hclosed⟩ hcnt hd S'
        rcases (lst_set hil).1 hj with rfl | hj
        · rw [ho] at hoj; cases hoj
          rw [hdo] at hdj; cases hdj
        · exact k.vals j oj dj u hj hoj hdj (by rw [← hval j hj]; exact hu)
      | some d =>
        rw [hdo] at hd
        obtain ⟨v, hv, hH⟩ := hd
        refine j hok1 fuel _ a' w' _ ⟨by simpa using k.size, hdone', honly', fun t u e => ?_, fun j oj dj u hj hoj hdj hu => ?_, hclosed⟩ hcnt hH S'
        · have hin : ∀ (l : St), get l t = some u → (∀ p ∈ l, Nat.beq p.1 d = false) → Nat.beq d t = false := by
            intro l
            induction l with
            | nil => intro h; cases h
            | cons p r ih =>
              intro h hall
              obtain ⟨k', u'⟩ := p
              simp only [Pl.get] at h
              cases hb : Nat.beq k' t with
              | true =>
                have := Nat.eq_of_beq_eq_true hb
                subst this
                have h2 := hall (k', u') List.mem_cons_self
                cases hc : Nat.beq d k' with
                | false => rfl
                | true =>
                  have := Nat.eq_of_beq_eq_true hc
                  subst this
                  simp at h2
              | false =>
                rw [hb] at h
                exact ih h (fun p hp => hall p (List.mem_cons_of_mem _ hp))
          have hne := hin s1 e (hsd d hdo)
          simp only [Pl.get, hne, cond_false]
          exact k.base t u (hs1 t u e)
        · simp only [Pl.get]
          rcases (lst_set hil).1 hj with rfl | hj2
          · rw [ho] at hoj; cases hoj
            rw [hdo] at hdj; cases hdj
            rw [hv] at hu; cases hu
            simp
          · by_cases hij : j = i
            · exact absurd (hij ▸ hj2) hnot
            · have hjl : j < ops.size := (Array.getElem?_eq_some_iff.1 hoj).1
              have hok2 := hok
              simp only [dstOk, Bool.and_eq_true, List.all_eq_true, List.mem_range] at hok2
              have h3 := hok2.1.1 i hlt j hjl
              rw [ho, hoj] at h3
              simp only [Option.bind_some, hdo, hdj, Bool.or_eq_true, beq_iff_eq, Bool.not_eq_true'] at h3
              rcases h3 with q | q
              · exact absurd q.symm hij
              · rw [q]; simpa using k.vals j oj dj u hj2 hoj hdj (by rw [← hval j hj2]; exact hu)
/-- some operation is still to come that does more than read -/
theorem JA.step {X D C : List Nat} {val s0 : St} (H : List Nat) (m : Nat) (hX : (C.all fun j => !(X.contains j)) = true) (hen : enOk ops D C H = true) (hm : (decide (m < ops.size) && !(D.contains m) && !(C.contains m)) = true) (hq : QA P K ⟨m_, none, dl_⟩ ops val s0 A h C) (hh : HA P K ⟨m_, none, dl_⟩ ops Q X D C val s0 A h H) : JA P K ⟨m_, none, dl_⟩ ops Q X D C val s0 A h :=
  JA.core hX hen hq hh fun listed a w sL k hall _ _ => by
    exfalso
    simp only [Bool.and_eq_true, decide_eq_true_eq, Bool.not_eq_true', List.contains_eq_mem, decide_eq_false_iff_not] at hm
    rcases k.only m (hall m hm.1.1) with q | q
    · exact hm.1.2 q
    · exact hm.2 q
def outl (ops : Array Oper) (val : St) : St := (List.range ops.size).filterMap fun j => match (ops[j]?).bind (·.dst), get val j with
  | some d, some v => some (d, v)
  | _, _ => none
/-- all that is still to come only reads -/
theorem JA.last {X D C : List Nat} {val s0 : St} (so : St) (hX : (C.all fun j => !(X.contains j)) = true) (hen : enOk ops D C [] = true) (hq : QA P K ⟨m_, none, dl_⟩ ops val s0 A h C) (ho : outl ops val = so) (he : E K ⟨m_, none, dl_⟩ Q .normal (so ++ s0) A h) : JA P K ⟨m_, none, dl_⟩ ops Q X D C val s0 A h :=
  JA.core hX hen hq HA.nil fun listed a w sL k hall Hd S => by
    refine he a w ⟨Hd.defers, Hd.size, fun t v e => Hd.slots t v ?_⟩ S
    rcases get_append.1 e with q | ⟨_, q⟩
    · subst ho
      have key : ∀ (l : List Nat), (∀ j ∈ l, lst listed j) → get (l.filterMap fun j => match (ops[j]?).bind (·.dst), get val j with | some d, some v => some (d, v) | _, _ => none) t = some v → get sL t = some v := by
        intro l
        induction l with
        | nil => intro _ e; cases e
        | cons j r ihl =>
          intro hl e
          cases hd : (ops[j]?).bind (·.dst) with
          | none => simp only [List.filterMap_cons, hd] at e; exact ihl (fun j hj => hl j (List.mem_cons_of_mem _ hj)) e
          | some d =>
            cases hv : get val j with
            | none => simp only [List.filterMap_cons, hd, hv] at e; exact ihl (fun j hj => hl j (List.mem_cons_of_mem _ hj)) e
            | some u =>
              simp only [List.filterMap_cons, hd, hv, Pl.get] at e
              obtain ⟨oj, hoj, hdj⟩ := Option.bind_eq_some_iff.1 hd
              cases hb : Nat.beq d t with
              | false => rw [hb] at e; exact ihl (fun j hj => hl j (List.mem_cons_of_mem _ hj)) e
              | true =>
                rw [hb] at e
                have ht := Nat.eq_of_beq_eq_true hb
                subst ht
                simp only [cond_true] at e
                rw [← e]
                exact k.vals j oj d u (hl j List.mem_cons_self) hoj hdj hv
      exact key _ (fun j hj => hall j (List.mem_range.1 hj)) q
    · exact k.base t v q
/-- a region whose order is left open -/
theorem J.openA {id : Nat} {l : List Oper} {s0 : St} (C : List Nat) (val : St) (hm : P.follows .mixedOrders = true) (hs : SubSt s0 s) (keys X : List Nat) (hk : s0.map (·.1) = keys) (hok : dstOk l.toArray keys X = true) (j : JA P K ⟨m_, none, dl_⟩ l.toArray Q X [] C val s0 A h) : J P K ⟨m_, none, dl_⟩ (.region id l.toArray true) Q s A h := fun a w H S => by
  subst hk
  exact wp_region_any hm (j hok _ _ a _ s ⟨by simp, fun i hi => (by cases hi), fun i hi => by
    unfold lst at hi
    simp only [Array.getD_eq_getD_getElem?, Array.getElem?_replicate] at hi
    split at hi <;> simp at hi, fun t v e => hs.get e, fun i o d v hi => by
    unfold lst at hi
    simp only [Array.getD_eq_getD_getElem?, Array.getElem?_replicate] at hi
    split at hi <;> simp at hi, fun i o hi => by
    unfold lst at hi
    simp only [Array.getD_eq_getD_getElem?, Array.getElem?_replicate] at hi
    split at hi <;> simp at hi⟩ (by simp) H S.drew)
end
/-! ### a slice of the caller's own that the callee writes -/
section
variable {P : Program} {K : Kp} {n : Fr} {ops : Array Oper} {Q : Exit → Act → World → Prop} {s : St} {A : List Asrt} {h : FH} {rest : List Oper} {fn : Func} {R : Ending → World → Prop}
/-- what a call must leave as it was that may write what lies in g -/
def Kp.ex (w : World) (h g : FH) : Kp := ⟨w, h, fun b => b < w.heap.size ∧ g b = none, fun _ h => h.1⟩
theorem SH.startX {X : Asrt} {w : World} {g : FH} (hs : Sub h w) (sg : Sub g w) (hd : Disj h g) (hx : X g) : SH (Kp.ex w h g) h w [X] := by
  refine ⟨⟨rfl, rfl, rfl, Nat.le_refl _, fun _ _ => rfl, Nat.le_refl _⟩, hs, fun b hb => .inl hb, [g], rfl, fun i g' Y hi hY => ?_, fun i g' hi => ?_, fun i j g1 g2 hij hi hj => ?_⟩
  · cases i with
    | zero => simp at hi hY; subst hi; subst hY; exact hx
    | succ i => simp at hi
  · cases i with
    | zero => simp at hi; subst hi; exact ⟨hd, sg, fun b hb hk => hb hk.2⟩
    | succ i => simp at hi
  · cases i with
    | zero => cases j with
      | zero => exact absurd rfl hij
      | succ j => simp at hj
    | succ i => simp at hi
theorem enterX {X : Asrt} {g : FH} {f : FuncId} {c : Code} {args : List Value} {w : World} (hf : P.funcs[f]? = some fn) (hb : fn.body = some c) {n : Nat} (hn : fn.ntmps = n) (hle : Nat.ble args.length n = true) (hs : Sub h w) (sg : Sub g w) (hd : Disj h g) (hx : X g)
    (j : J P (Kp.ex w h g) ⟨n, none, []⟩ c (bodyPost P fn R) (start 0 args) [X] h) : Calls P f args.toArray w R := by
  have hl : args.length ≤ n := by simpa using hle
  refine calls_of_wp hf hb (j _ w ⟨rfl, ?_, fun t v e => ?_⟩ (SH.startX hs sg hd hx))
  · simp [hn]; omega
  · obtain ⟨_, h2⟩ := get_start 0 args t v e
    simp only [Nat.sub_zero] at h2
    have hlt : t < args.length := (List.getElem?_eq_some_iff.1 h2).1
    rw [Array.getElem?_append_left (by simpa using hlt)]
    simpa using h2
theorem backX {k : Nat} {X' : Asrt} {w w' : World} {g h1 : FH} (up : ∀ (X' : Asrt) (g' : FH) (w' : World), X' g' → Sub g' w' → (∀ b, g' b ≠ none → g b ≠ none ∨ w.heap.size ≤ b) →
      (∀ b, b < w.heap.size → g b = none → w'.heap[b]? = w.heap[b]?) → w'.os = w.os → w'.tape = w.tape → w'.output = w.output → w.heap.size ≤ w'.heap.size → dr w ≤ dr w' → SH K h w' (A.set k X')) (S : SH (Kp.ex w h1 g) h1 w' [X']) : SH K h w' (A.set k X') := by
  obtain ⟨gs, p1, p2, p3, _⟩ := S.parts
  obtain ⟨g', rfl⟩ : ∃ g', gs = [g'] := by
    match gs, p1 with
    | [g'], _ => exact ⟨g', rfl⟩
  have own := p3 0 g' rfl
  refine up X' g' w' (p2 0 g' X' rfl rfl) own.sub (fun b hb => ?_) (fun b hb hn => S.kept.block b ⟨hb, hn⟩) S.kept.os S.kept.tape S.kept.output S.kept.size S.kept.drawn
  have := own.free b hb
  by_cases c : g b = none
  · exact .inr (Nat.le_of_not_lt fun q => this ⟨q, c⟩)
  · exact .inl c
/-- a call that writes a slice of the call's own -/
theorem callX {d : Nat} {ty : TypeId} {pos : String} {af : Array Edge} {k : Nat} {X X' : Asrt} {f : FuncId} {x : Operand} {xs : Array Operand} {ts : Array TypeId} {first cap : Array Value} {vs : List Value} {v : Value} (hk : A[k]? = some X) (hf : ∀ args w, (callFunc f args).run P w = .ok (.enter f args) w)
    (hx : ev s x = some (.func (.func f) first cap)) (hv : evs s xs.toList = some vs) (hc : ∀ w g, X g → Sub g w → Disj h g → Sub h w → Calls P f (first.toList ++ vs ++ cap.toList).toArray w fun e w' => e = .returned v ∧ SH (Kp.ex w h g) h w' [X']) (hn : Nat.blt d n.sz = true)
    (kk : JL P K n ops rest Q ((d, v) :: s) (A.set k X') h) : JL P K n ops (⟨some d, .call { callee := .value x, args := xs, argTypes := ts }, ty, pos, af, none⟩ :: rest) Q s A h :=
  JL.callW rfl rfl hn (fun _ _ H _ => call_exec H hf hx hv rfl) (fun w S => by
    obtain ⟨g, hX, own, up⟩ := S.upd hk
    exact (hc w g hX own.sub own.disj S.sub).mono fun _ _ ⟨he, sr⟩ => ⟨v, A.set k X', h, he, backX up sr, kk⟩)
theorem own_n {e : TypeId} {sz m m' c : Nat} {a : Option Addr} {cs : List Value} {g : FH} (hm : m = m') (hx : OwnSl e sz a m c cs g) : OwnSl e sz a m' c cs g := by subst hm; exact hx
end
end Go.Proofs.YtojoehfldbimpaaGreatDoor.Pl

