/- The rules of the program logic for ways that meet again, and for statements whose order Go leaves open. No condition. -/
import Derived.Test.YtojoehfldbimpaaGreatDoorPl3
namespace Go.Proofs.YtojoehfldbimpaaGreatDoor.Pl
open Go Go.RowKit

/-! ### ways that meet again -/
section
variable {P : Program} {K : Kp} {n : Fr} {ops : Array Oper} {Q : Exit → Act → World → Prop} {s : St} {A : List Asrt} {h : FH}
/-- a loop from a state that is named, in which the frame's own marks grow -/
theorem J.loopN' {σ : Type} (I : σ → Prop) (μ : σ → Nat) (N : σ → Fr) (S : σ → St) (M : σ → List Asrt) (F : σ → FH) {c : Code} (x0 : σ) (hI : I x0) (hn : ∀ x, (N x).ro = n.ro) (h0 : N x0 = n) (hs : SubSt (S x0) s) (hm : M x0 = A) (hf : FH.le (F x0) h)
    (round : ∀ x, I x → J P K (N x) c (Exit.then (fun a w => ∃ y, I y ∧ μ y < μ x ∧ Holds (N y) (S y) a ∧ SH K (F y) w (M y)) Q) (S x) (M x) (F x)) :
    J P K n (.loop c) Q s A h := by
  subst hm
  exact .up hf (.sub hs (.loopN I μ N S M F x0 hI hn h0 round))
/-- a loop from a state that is named -/
theorem J.loop' {σ : Type} (I : σ → Prop) (μ : σ → Nat) (S : σ → St) (M : σ → List Asrt) (F : σ → FH) {c : Code} (x0 : σ) (hI : I x0) (hs : SubSt (S x0) s) (hm : M x0 = A) (hf : FH.le (F x0) h)
    (round : ∀ x, I x → J P K n c (Exit.then (fun a w => ∃ y, I y ∧ μ y < μ x ∧ Holds n (S y) a ∧ SH K (F y) w (M y)) Q) (S x) (M x) (F x)) :
    J P K n (.loop c) Q s A h := by
  subst hm
  exact .up hf (.sub hs (.loop I μ S M F x0 hI round))
end

/-! ### an order that is left open: operations that leave the world alone, or only make it grow -/
section
variable {P : Program} {K : Kp} {n : Fr} {ops : Array Oper} {Q : Exit → Act → World → Prop} {s : St} {A : List Asrt} {h : FH} {rest : List Oper} {R : Act → Prop}
def QL (P : Program) (K : Kp) (n : Fr) (ops : Array Oper) (l : List Oper) (R : Act → Prop) (s : St) (A : List Asrt) (h : FH) : Prop := ∀ a, Holds n s a → wpQuiet P ops (fun w => SH K h w A) R l a
theorem QL.nil (hr : ∀ a, Holds n s a → R a) : QL P K n ops [] R s A h := fun a H => wpQuiet_nil (hr a H)
theorem QL.v {o : Oper} {d : Nat} {v : Value} (hx : VF P K n s A h o v) (hg : o.guard = none) (hd : o.dst = some d) (hn : Nat.blt d n.sz = true) (k : QL P K n ops rest R ((d, v) :: s) A h) : QL P K n ops (o :: rest) R s A h :=
  fun a H => wpQuiet_step fun Kc hK => by
    rw [if_pos (by simp [Region.wanted, hg])]
    refine ⟨v, fun w hw => ?_, hK _ (k _ ?_)⟩
    · unfold Oper.quietAt; rw [hx a w H hw]; exact ⟨rfl, rfl⟩
    · rw [hd]; exact H.put v hn
theorem QL.c {o : Oper} {d : Nat} {v : Value} (hx : CF P K n s A h o v) (hg : o.guard = none) (hd : o.dst = some d) (hn : Nat.blt d n.sz = true) (k : QL P K n ops rest R ((d, v) :: s) A h) : QL P K n ops (o :: rest) R s A h :=
  fun a H => wpQuiet_step fun Kc hK => by
    rw [if_pos (by simp [Region.wanted, hg])]
    refine ⟨v, fun w hw => ?_, hK _ (k _ ?_)⟩
    · obtain ⟨f, args, hr, hc⟩ := hx a w H hw
      unfold Oper.quietAt; rw [hr]
      exact ⟨rfl, hc.mono fun e w' ⟨he, hb⟩ => ⟨he, SH.ext hw hb⟩⟩
    · rw [hd]; exact H.put v hn
theorem QL.gv {o : Oper} {g t d : Nat} {want b : Bool} {v : Value} (hx : VF P K n s A h o v) (hg : o.guard = some (g, want)) (ht : (ops[g]?).bind (·.dst) = some t) (hv : get s t = some (.bool b)) (hb : b = want) (hd : o.dst = some d) (hn : Nat.blt d n.sz = true)
    (k : QL P K n ops rest R ((d, v) :: s) A h) : QL P K n ops (o :: rest) R s A h :=
  fun a H => wpQuiet_step fun Kc hK => by
    have hy : yielded ops a.tmps g = some b := by unfold yielded; rw [ht]; simp [H.slots t _ hv]
    rw [if_pos (by simp [Region.wanted, hg, hy, hb])]
    refine ⟨v, fun w hw => ?_, hK _ (k _ ?_)⟩
    · unfold Oper.quietAt; rw [hx a w H hw]; exact ⟨rfl, rfl⟩
    · rw [hd]; exact H.put v hn
theorem QL.gc {o : Oper} {g t d : Nat} {want b : Bool} {v : Value} (hx : CF P K n s A h o v) (hg : o.guard = some (g, want)) (ht : (ops[g]?).bind (·.dst) = some t) (hv : get s t = some (.bool b)) (hb : b = want) (hd : o.dst = some d) (hn : Nat.blt d n.sz = true)
    (k : QL P K n ops rest R ((d, v) :: s) A h) : QL P K n ops (o :: rest) R s A h :=
  fun a H => wpQuiet_step fun Kc hK => by
    have hy : yielded ops a.tmps g = some b := by unfold yielded; rw [ht]; simp [H.slots t _ hv]
    rw [if_pos (by simp [Region.wanted, hg, hy, hb])]
    refine ⟨v, fun w hw => ?_, hK _ (k _ ?_)⟩
    · obtain ⟨f, args, hr, hc⟩ := hx a w H hw
      unfold Oper.quietAt; rw [hr]
      exact ⟨rfl, hc.mono fun e w' ⟨he, hb⟩ => ⟨he, SH.ext hw hb⟩⟩
    · rw [hd]; exact H.put v hn
theorem QL.gS {o : Oper} {g t d : Nat} {want b : Bool} (hg : o.guard = some (g, want)) (ht : (ops[g]?).bind (·.dst) = some t) (hv : get s t = some (.bool b)) (hb : b = !want) (hd : o.dst = some d) (hn : Nat.blt d n.sz = true)
    (k : QL P K n ops rest R ((d, undef) :: s) A h) : QL P K n ops (o :: rest) R s A h :=
  fun a H => wpQuiet_step fun Kc hK => by
    have hy : yielded ops a.tmps g = some b := by unfold yielded; rw [ht]; simp [H.slots t _ hv]
    rw [if_neg (by simp [Region.wanted, hg, hy, hb])]
    refine hK _ (k _ ?_)
    rw [hd]; exact H.put undef hn
theorem QL.gU {o : Oper} {g t d : Nat} {want : Bool} (hg : o.guard = some (g, want)) (ht : (ops[g]?).bind (·.dst) = some t) (hv : get s t = some undef) (hd : o.dst = some d) (hn : Nat.blt d n.sz = true)
    (k : QL P K n ops rest R ((d, undef) :: s) A h) : QL P K n ops (o :: rest) R s A h :=
  fun a H => wpQuiet_step fun Kc hK => by
    have hy : yielded ops a.tmps g = none := by unfold yielded; rw [ht]; simp [H.slots t _ hv, undef]
    rw [if_neg (by simp [Region.wanted, hg, hy])]
    refine hK _ (k _ ?_)
    rw [hd]; exact H.put undef hn
theorem SH.drew {w : World} (S : SH K h w A) : SH K h { w with drawn := w.drawn + 1 } A := S.ext ((Below.refl _ _).drew)
/-- a region whose order is left open: it only reads, and makes plain calls -/
theorem J.open_ {m_ : Nat} {dl_ : List Nat} {id : Nat} {l : List Oper} (hm : P.follows .mixedOrders = true) (hB : Region.lexB .any l.toArray = true) (j : QL P K ⟨m_, none, dl_⟩ l.toArray l (fun a => ∀ w, SH K h w A → Q .normal a w) s A h) : J P K ⟨m_, none, dl_⟩ (.region id l.toArray true) Q s A h := fun a w H S =>
  wp_region_quiet (C := fun w => SH K h w A) hm hB S.drew (by simpa using j a H)
theorem QL.fin (j : E K n Q .normal s A h) : QL P K n ops [] (fun a => ∀ w, SH K h w A → Q .normal a w) s A h := QL.nil fun a H w S => j a w H S

/-! ### the same, with one last operation that waits for all the others -/
def tailB (H : Array Oper) (o : Oper) : Bool :=
  ((List.range H.size).all fun i => o.after.any fun e => Region.binds .any e && e.on == i) && (o.after.all fun e => !Region.binds .any e || decide (e.on < H.size)) && o.guard.isNone &&
  (List.range H.size).all fun i => match H[i]? with
    | some x => (x.after.all fun e => !Region.binds .any e || decide (e.on < i)) && (match x.guard with | some (j, _) => decide (j < H.size) | none => true)
    | none => false
theorem getD_push {l : Array Bool} {i : Nat} {b d : Bool} (hi : i < l.size) : (l.push b).getD i d = l.getD i d := by simp [Array.getD_eq_getD_getElem?, Array.getElem?_push, show i ≠ l.size by omega]
theorem set_push {l : Array Bool} {i : Nat} (hi : i < l.size) : (l.push false).setIfInBounds i true = (l.setIfInBounds i true).push false := by
  apply Array.ext_getElem?
  intro j
  simp only [Array.getElem?_setIfInBounds, Array.getElem?_push, Array.size_push, Array.size_setIfInBounds]
  by_cases h1 : i = j
  · subst h1
    have h2 : i ≠ l.size := by omega
    have h3 : i < l.size + 1 := by omega
    simp [h2, h3, hi]
  · simp [h1]
section tail
variable {H : Array Oper} {o : Oper}
theorem tail_ready {l : Array Bool} (hT : tailB H o = true) (hl : l.size = H.size) (j : Nat) (hj : j < H.size) : j ∈ Region.ready .any (H.push o) (l.push false) ↔ j ∈ Region.ready .any H l := by
  rw [mem_ready, mem_ready]
  have e0 : (H.push o)[j]? = H[j]? := by rw [Array.getElem?_push]; simp [show j ≠ H.size by omega]
  rw [e0, getD_push (by omega)]
  have hB : ∀ x, H[j]? = some x → ∀ e ∈ x.after, Region.binds .any e = true → e.on < j := fun x hx e he hb => by
    simp only [tailB, Bool.and_eq_true, List.all_eq_true, List.mem_range] at hT
    have h1 := hT.2 j hj
    rw [hx] at h1
    simp only [Bool.and_eq_true, Array.all_eq_true_iff_forall_mem, Bool.or_eq_true, Bool.not_eq_true', decide_eq_true_eq] at h1
    rcases h1.1 e he with q | q
    · rw [hb] at q; cases q
    · exact q
  constructor
  · rintro ⟨h0, x, hx, ha⟩
    refine ⟨h0, x, hx, fun e he hb => ?_⟩
    have := ha e he hb
    rwa [getD_push (by have := hB x hx e he hb; omega)] at this
  · rintro ⟨h0, x, hx, ha⟩
    refine ⟨h0, x, hx, fun e he hb => ?_⟩
    rw [getD_push (by have := hB x hx e he hb; omega)]
    exact ha e he hb
theorem tail_last {l : Array Bool} (hT : tailB H o = true) (hl : l.size = H.size) : H.size ∈ Region.ready .any (H.push o) (l.push false) ↔ ∀ i, i < H.size → l.getD i false = true := by
  rw [mem_ready]
  have e0 : (H.push o)[H.size]? = some o := by simp
  have e1 : (l.push false).getD H.size true = false := by rw [← hl]; simp
  simp only [e0, e1, true_and, Option.some.injEq, exists_eq_left']
  simp only [tailB, Bool.and_eq_true, List.all_eq_true, List.mem_range, Array.all_eq_true_iff_forall_mem, Bool.or_eq_true, Bool.not_eq_true', decide_eq_true_eq] at hT
  obtain ⟨⟨⟨h1, h2⟩, _⟩, _⟩ := hT
  constructor
  · intro ha i hi
    obtain ⟨e, he, hb⟩ := Array.any_eq_true'.1 (h1 i hi)
    simp only [Bool.and_eq_true, beq_iff_eq] at hb
    have := ha e he hb.1
    rwa [hb.2, getD_push (by omega)] at this
  · intro ha e he hb
    rcases h2 e he with q | q
    · rw [hb] at q; cases q
    · rw [getD_push (by omega)]; exact ha _ q
theorem tail_stuck {l : Array Bool} (hT : tailB H o = true) (hl : l.size = H.size) (hr : Region.ready .any H l = []) : ∀ i, i < H.size → l.getD i false = true := by
  intro i
  induction i using Nat.strongRecOn with
  | _ i ih =>
    intro hi
    cases e : l.getD i false with
    | true => rfl
    | false =>
      exfalso
      have hx : i ∈ Region.ready .any H l := by
        rw [mem_ready]
        refine ⟨by have hi' : i < l.size := by omega
                   simp [hi'] at e ⊢; exact e, H[i], by simp [hi], fun e' he hb => ?_⟩
        simp only [tailB, Bool.and_eq_true, List.all_eq_true, List.mem_range] at hT
        have h1 := hT.2 i hi
        rw [show H[i]? = some H[i] from by simp [hi]] at h1
        simp only [Bool.and_eq_true, Array.all_eq_true_iff_forall_mem, Bool.or_eq_true, Bool.not_eq_true', decide_eq_true_eq] at h1
        rcases h1.1 e' he with q | q
        · rw [hb] at q; cases q
        · exact ih _ q (by omega)
      rw [hr] at hx; cases hx
theorem tail_any {C : World → Prop} (hT : tailB H o = true) (hQ : ∀ a w, C w → R a → wpList P (H.push o) Q [o] a w) : ∀ (fuel : Nat) (l : Array Bool) (a : Act) (w : World), l.size = H.size → C w → wpAnyQ P .any H C R fuel l a → wpAny P .any (H.push o) Q (fuel + 1) (l.push false) a w := by
  have hgo : o.guard = none := by
    simp only [tailB, Bool.and_eq_true] at hT
    exact Option.isNone_iff_eq_none.1 hT.1.2
  have fin : ∀ (fuel : Nat) (l : Array Bool) (a : Act) (w : World), l.size = H.size → C w → R a → (∀ i, i < H.size → l.getD i false = true) → wpAny P .any (H.push o) Q (fuel + 1) (l.push false) a w := by
    intro fuel l a w hl hw hR hall
    have hm := (tail_last hT hl).2 hall
    have done : ∀ l' : Array Bool, l' = (l.push false).setIfInBounds H.size true → Region.ready .any (H.push o) l' = [] := by
      intro l' e
      cases hr : Region.ready .any (H.push o) l' with
      | nil => rfl
      | cons x xs =>
        exfalso
        have hx : x ∈ Region.ready .any (H.push o) l' := by rw [hr]; simp
        obtain ⟨h0, ox, hox, _⟩ := mem_ready.1 hx
        have hxs : x < H.size + 1 := by have := (Array.getElem?_eq_some_iff.1 hox).1; simpa using this
        by_cases hxe : x = H.size
        · subst hxe; rw [e] at h0; simp [← hl] at h0
        · rw [e, getD_set_ne true (Ne.symm hxe), getD_push (by omega)] at h0
          have := hall x (by omega)
          have hx' : x < l.size := by omega
          simp [hx'] at h0 this
          rw [h0] at this; cases this
    refine ⟨fun h0 => (by rw [h0] at hm; cases hm), fun i hi => ?_⟩
    have hie : i = H.size := by
      rcases Nat.lt_or_ge i H.size with hlt | hge
      · have h1 := (tail_ready hT hl i hlt).1 hi
        obtain ⟨h0, _⟩ := mem_ready.1 h1
        have := hall i hlt
        have hx' : i < l.size := by omega
        simp [hx'] at h0 this
        rw [h0] at this; cases this
      · obtain ⟨_, ox, hox, _⟩ := mem_ready.1 hi
        have := (Array.getElem?_eq_some_iff.1 hox).1
        simp at this; omega
    subst hie
    have hwp := hQ a w hw hR
    unfold wpList at hwp
    have hwant : Region.wanted o (yielded (H.push o) a.tmps) = true := by simp [Region.wanted, hgo]
    rw [if_pos hwant] at hwp
    unfold wpOp
    simp only [show (H.push o)[H.size]? = some o from by simp, if_pos hwant]
    refine hwp.imp (fun q => Oper.wp_mono (fun a' w' q' => ?_) q) id
    have hn : Q .normal a' w' := q'
    cases fuel with
    | zero => exact ⟨done _ rfl, hn⟩
    | succ f => exact ⟨fun _ => hn, fun j hj => (by rw [done _ rfl] at hj; cases hj)⟩
  intro fuel
  induction fuel with
  | zero => intro l a w hl hw hh; exact fin 0 l a w hl hw hh.2 (tail_stuck hT hl hh.1)
  | succ fuel ih =>
    intro l a w hl hw hh
    by_cases hr : Region.ready .any H l = []
    · exact fin _ l a w hl hw (hh.1 hr) (tail_stuck hT hl hr)
    · have notall : ¬ ∀ i, i < H.size → l.getD i false = true := fun hall => by
        cases hr2 : Region.ready .any H l with
        | nil => exact hr hr2
        | cons x xs =>
          have hx : x ∈ Region.ready .any H l := by rw [hr2]; simp
          obtain ⟨h0, ox, hox, _⟩ := mem_ready.1 hx
          have hlt := (Array.getElem?_eq_some_iff.1 hox).1
          have := hall x hlt
          have hx' : x < l.size := by omega
          simp [hx'] at h0 this
          rw [h0] at this; cases this
      refine ⟨fun h0 => ?_, fun i hi => ?_⟩
      · cases hr2 : Region.ready .any H l with
        | nil => exact absurd hr2 hr
        | cons x xs =>
          have hx : x ∈ Region.ready .any H l := by rw [hr2]; simp
          obtain ⟨_, ox, hox, _⟩ := mem_ready.1 hx
          have := (tail_ready hT hl x (Array.getElem?_eq_some_iff.1 hox).1).2 hx
          rw [h0] at this; cases this
      · have hlt : i < H.size := by
          rcases Nat.lt_or_ge i H.size with q | q
          · exact q
          · exfalso
            obtain ⟨_, ox, hox, _⟩ := mem_ready.1 hi
            have h1 := (Array.getElem?_eq_some_iff.1 hox).1
            have : i = H.size := by simp at h1; omega
            subst this
            exact notall ((tail_last hT hl).1 hi)
        have hi' := (tail_ready hT hl i hlt).1 hi
        have h1 := hh.2 i hi'
        rw [set_push (by omega)]
        have step : ∀ a' w', C w' → wpAnyQ P .any H C R fuel (l.setIfInBounds i true) a' → wpAny P .any (H.push o) Q (fuel + 1) ((l.setIfInBounds i true).push false) a' w' := fun a' w' hw' q => ih _ a' w' (by simp [hl]) hw' q
        unfold qOp at h1
        unfold wpOp
        have e0 : (H.push o)[i]? = H[i]? := by rw [Array.getElem?_push]; simp [show i ≠ H.size by omega]
        rw [e0]
        have e1 : H[i]? = some H[i] := by simp [hlt]
        simp only [e1] at h1 ⊢
        have hy : Region.wanted H[i] (yielded (H.push o) a.tmps) = Region.wanted H[i] (yielded H a.tmps) := by
          unfold Region.wanted
          cases hg : H[i].guard with
          | none => rfl
          | some jw =>
            obtain ⟨j, want⟩ := jw
            simp only [tailB, Bool.and_eq_true, List.all_eq_true, List.mem_range] at hT
            have h2 := hT.2 i hlt
            rw [e1] at h2
            simp only [Bool.and_eq_true, hg, decide_eq_true_eq] at h2
            have e2 : (H.push o)[j]? = H[j]? := by rw [Array.getElem?_push]; simp [show j ≠ H.size by omega]
            simp only [yielded, e2]
        rw [hy]
        split
        · rename_i hw1; rw [if_pos hw1] at h1; exact .inl (Oper.wp_of_quiet hw step h1)
        · rename_i hw1; rw [if_neg hw1] at h1; exact step _ _ hw h1
end tail
theorem toArray_push (l : List Oper) (o : Oper) : (l ++ [o]).toArray = l.toArray.push o := by simp
/-- a region whose order is left open, and whose last operation waits for all the others -/
theorem J.openT {m_ : Nat} {dl_ : List Nat} {id : Nat} {l : List Oper} (lh : List Oper) (o : Oper) (hl : lh ++ [o] = l) (hm : P.follows .mixedOrders = true) (hB : Region.lexB .any lh.toArray = true) (hT : tailB lh.toArray o = true)
    (j : QL P K ⟨m_, none, dl_⟩ lh.toArray lh (fun a => ∀ w, SH K h w A → wpList P l.toArray Q [o] a w) s A h) : J P K ⟨m_, none, dl_⟩ (.region id l.toArray true) Q s A h := fun a w H S => by
  subst hl
  rw [toArray_push]
  refine wp_region_any hm ?_
  have hB' := hB
  simp only [Region.lexB, Bool.and_eq_true] at hB'
  have hq := wpAnyQ_lex (C := fun w => SH K h w A) (md := .any) hB'.1 lh 0 (Array.replicate lh.toArray.size false) a (by simp) (by simpa using hB'.2) (j a H)
  have ht := tail_any (C := fun w => SH K h w A) hT (fun a w hw hR => by rw [← toArray_push]; exact hR w hw) _ (Array.replicate lh.toArray.size false) a _ (by simp) S.drew hq
  have e1 : (lh.toArray.push o).size = lh.length + 1 := by simp
  have e2 : Array.replicate (lh.length + 1) false = (Array.replicate lh.toArray.size false).push false := by simp [Array.replicate_succ]
  rw [e1, e2]
  exact ht
theorem QL.tail {m_ : Nat} {dl_ : List Nat} {o : Oper} {ops' : Array Oper} (j : JL P K ⟨m_, none, dl_⟩ ops' [o] Q s A h) : QL P K ⟨m_, none, dl_⟩ ops [] (fun a => ∀ w, SH K h w A → wpList P ops' Q [o] a w) s A h := QL.nil fun a H w S => j a w H S
end
end Go.Proofs.YtojoehfldbimpaaGreatDoor.Pl

