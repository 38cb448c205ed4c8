/- The check of all orders. Plain Lean. No condition. -/
import Derived.Test.YtihbfbofbdkmbaaOk8
namespace Go.Proofs.Ytihbfbofbdkmbaa.Pl
open Go Go.RowKit
def run (t : Task) (s : List Int) (l : List Int) : List Int := l.foldl (sp_after t) s
theorem run_cons (t : Task) (s : List Int) (op : Int) (l : List Int) : run t s (op :: l) = run t (sp_after t s op) l := rfl
theorem ends_run {t : Task} : ∀ {plan s : List Int}, (sp_ends t s plan).2 = true → (sp_ends t s plan).1 = run t s plan
  | [], _, _ => rfl
  | op :: r, s, h => by
    rw [sp_ends] at h ⊢
    split at h
    · rename_i h1
      rw [if_pos h1, ends_run h, run_cons]
    · exact absurd h (by decide)
theorem ends_ok {t : Task} : ∀ {plan s : List Int}, (sp_ends t s plan).2 = true ↔ ∀ d op r, plan = d ++ op :: r → sp_applies t (run t s d) op = true
  | [], s => ⟨fun _ d op r h => by simp at h, fun _ => rfl⟩
  | x :: l, s => by
    rw [sp_ends]
    constructor
    · intro h
      split at h
      · rename_i h1
        intro d op r e
        cases d with
        | nil =>
          simp only [List.nil_append, List.cons.injEq] at e
          rw [← e.1]; exact h1
        | cons y d =>
          simp only [List.cons_append, List.cons.injEq] at e
          rw [← e.1, run_cons]
          exact ends_ok.1 h d op r e.2
      · exact absurd h (by decide)
    · intro h
      rw [if_pos (show sp_applies t s x = true from h [] x l rfl)]
      refine ends_ok.2 fun d op r e => ?_
      have := h (x :: d) op r (by rw [e]; rfl)
      rwa [run_cons] at this
theorem works_iff {t : Task} {plan s : List Int} : sp_rworks t s plan = true ↔ (∀ d op r, plan = d ++ op :: r → ∀ f ∈ (gt t.ops op).pre, f ∈ run t s d) ∧ ∀ f ∈ t.goal, f ∈ run t s plan := by
  rw [sp_rworks, Bool.and_eq_true]
  constructor
  · rintro ⟨h1, h2⟩
    rw [ends_run h1, subset_iff] at h2
    exact ⟨fun d op r e => subset_iff.1 (ends_ok.1 h1 d op r e), h2⟩
  · rintro ⟨h1, h2⟩
    have h3 : (sp_ends t s plan).2 = true := ends_ok.2 fun d op r e => subset_iff.2 (h1 d op r e)
    exact ⟨h3, by rw [ends_run h3, subset_iff]; exact h2⟩
/-- which steps add a fact, which take it away -/
def Ad (t : Task) (steps : List Int) (f x : Int) : Prop := f ∈ (gt t.ops (gt steps x)).add
def De (t : Task) (steps : List Int) (f x : Int) : Prop := f ∈ (gt t.ops (gt steps x)).del
theorem run_tr {t : Task} (hf : 0 ≤ t.facts) {steps : List Int} {f : Int} (h : 0 ≤ f ∧ f < t.facts) : ∀ (d s : List Int), (f ∈ run t s (d.map fun i => gt steps i)) = Tr (Ad t steps f) (De t steps f) (f ∈ s) d
  | [], s => rfl
  | x :: d, s => by
    rw [List.map_cons, run_cons, run_tr hf h d, Tr]
    congr 1
    rw [mem_after hf, and_iff_right h]; rfl
theorem gt_out {α : Type} [Inhabited α] {xs : List α} {i : Int} (h : ¬ i.toNat < xs.length) : gt xs i = default := by
  unfold gt
  rw [List.getD_eq_getElem?_getD, List.getElem?_eq_none (by omega)]; rfl
theorem TaskOK.apart {t : Task} (h : TaskOK t) (i f : Int) (ha : f ∈ (gt t.ops i).add) : f ∉ (gt t.ops i).del := fun hd => by
  by_cases q : i.toNat < t.ops.length
  · have e : gt t.ops i = gt t.ops ((i.toNat : Nat) : Int) := by unfold gt; rw [Int.toNat_natCast]
    rw [e] at ha hd
    have := (h.op (i := ((i.toNat : Nat) : Int)) ⟨by omega, by omega⟩).2.2.2
    have h2 : sp_meets (gt t.ops ((i.toNat : Nat) : Int)).add (gt t.ops ((i.toNat : Nat) : Int)).del = true := List.any_eq_true.2 ⟨f, ha, by simpa using hd⟩
    rw [h2] at this
    exact absurd this (by decide)
  · rw [gt_out q] at ha
    cases ha
theorem ok_earlier : ∀ (p : PPlan) (i : Int) (j : Int), pre_earlier p i j → F_earlier p i j (fun r => r = sp_earlier p i j) := fun p i j ⟨hp, hi, hj⟩ => by
  unfold F_earlier sp_earlier
  simp only [beq_iff_eq, beq_eq_false_iff_ne, ne_eq]
  refine ⟨fun h => by simp [h], fun h => ⟨⟨hi.1, by rw [hp.rows]; exact hi.2⟩, ⟨hj.1, ?_⟩, by simp [h]⟩⟩
  have := hp.row i.toNat (by omega)
  rw [Int.toNat_of_nonneg hi.1] at this
  rw [this]; omega
theorem ok_later : ∀ (p : PPlan) (i : Int) (j : Int), pre_later p i j → F_later p i j (fun r => r = sp_later p i j) := fun p i j ⟨hp, hi, hj⟩ => by
  unfold F_later sp_later
  simp only [beq_iff_eq, beq_eq_false_iff_ne, ne_eq, decide_eq_true_eq, decide_eq_false_iff_not]
  refine ⟨fun h => by simp [h], fun h => ⟨fun h2 => ⟨⟨hj.1, by rw [hp.rows]; exact h2⟩, ⟨hi.1, ?_⟩, by simp [h, h2]⟩, fun h2 => by simp [h, h2]⟩⟩
  have := hp.row j.toNat (by omega)
  rw [Int.toNat_of_nonneg hj.1] at this
  rw [this]; exact hi.2
theorem PlanOK.at {p : PPlan} (hp : PlanOK p) {i : Int} (hi : 0 ≤ i ∧ i < p.steps.length) : inb p.t.ops (gt p.steps i) ∧ (gt p.t.ops (gt p.steps i)).add.length ≤ 1000 ∧ (gt p.t.ops (gt p.steps i)).del.length ≤ 1000 := by
  have h1 := hp.ops i.toNat (by omega)
  have h2 := hp.sets i.toNat (by omega)
  rw [Int.toNat_of_nonneg hi.1] at h1 h2
  exact ⟨h1, h2⟩
theorem ok_adds : ∀ (p : PPlan) (i : Int) (fact : Int), pre_adds p i fact → F_adds p i fact (fun r => r = sp_adds p i fact) := fun p i f ⟨hp, hi⟩ => by
  obtain ⟨h1, h2, h3⟩ := hp.at hi
  exact ⟨⟨hi.1, hi.2⟩, h1, h2, fun r hr => hr⟩
theorem ok_deletes : ∀ (p : PPlan) (i : Int) (fact : Int), pre_adds p i fact → F_deletes p i fact (fun r => r = sp_deletes p i fact) := fun p i f ⟨hp, hi⟩ => by
  obtain ⟨h1, h2, h3⟩ := hp.at hi
  exact ⟨⟨hi.1, hi.2⟩, h1, h3, fun r hr => hr⟩
theorem any_succ {f : Nat → Bool} {k : Nat} : (List.range (k + 1)).any f = ((List.range k).any f || f k) := by
  rw [List.range_succ, List.any_append]; simp
theorem ok_certain : ∀ (p : PPlan) (fact : Int) (j : Int), pre_certain p fact j → F_certain p fact j (fun r => r = sp_certain p fact j) := fun p f j ⟨hp, hj⟩ => by
  have h7 := hp.len
  refine ⟨hp.init, fun r hr => ?_⟩
  rw [show r = decide (f ∈ p.t.init) from hr]
  refine ⟨fun made t => ∃ k : Nat, t = k ∧ k ≤ p.steps.length ∧ made = (decide (f ∈ p.t.init) || (List.range k).any (cMade p f j)), fun _ t => (p.steps.length - t).toNat, ⟨0, rfl, Nat.zero_le _, by simp⟩, ?_⟩
  rintro made _ ⟨k, rfl, k1, k2⟩
  unfold F_certain_L1 F_certain_J1
  rw [w64 (by omega)]
  simp only [decide_eq_true_eq, decide_eq_false_iff_not, forall_eq, bne_iff_ne, ne_eq, bne_eq_false_iff_eq, Bool.not_eq_true', Bool.not_eq_false']
  refine ⟨fun h => ?_, fun h => ⟨fun q => ?_, fun q => ?_⟩⟩
  · have next : ∀ made' : Bool, made' = (made || cMade p f j k) → (∃ k' : Nat, (k : Int) + 1 = k' ∧ k' ≤ p.steps.length ∧ made' = (decide (f ∈ p.t.init) || (List.range k').any (cMade p f j))) ∧ ((p.steps.length : Int) - (k + 1)).toNat < ((p.steps.length : Int) - k).toNat := fun made' e => by
      refine ⟨⟨k + 1, by omega, by omega, ?_⟩, by omega⟩
      rw [e, k2, any_succ, Bool.or_assoc]
    have hk : (0 : Int) ≤ k ∧ (k : Int) < p.steps.length := ⟨by omega, h⟩
    refine ⟨fun q => next true (by rw [q]; rfl), fun q => ⟨fun q2 => ⟨⟨hp, hk, hj⟩, fun q3 => ⟨⟨hp, hk⟩, next _ ?_⟩, fun q3 => next false ?_⟩, fun q2 => next false ?_⟩⟩
    · simp [q, cMade, q2, q3]
    · simp [q, cMade, q3]
    · simp [q, cMade, q2]
  · have e : k = p.steps.length := by omega
    rw [sp_certain, ← e, ← k2, q, Bool.false_and]
  · have e : k = p.steps.length := by omega
    have hs : sp_certain p f j = (List.range p.steps.length).all (cOne p f j) := by rw [sp_certain, ← e, ← k2, q, Bool.true_and]
    rw [hs]
    clear k1 k2 h e
    refine ⟨fun t => ∃ k : Nat, t = k ∧ k ≤ p.steps.length ∧ ∀ i, i < k → cOne p f j i = true, fun t => (p.steps.length - t).toNat, ⟨0, rfl, Nat.zero_le _, fun i hi => by omega⟩, ?_⟩
    rintro _ ⟨k, rfl, k1, k2⟩
    unfold F_certain_L2 F_certain_J3 F_certain_J2
    rw [w64 (by omega)]
    simp only [decide_eq_true_eq, decide_eq_false_iff_not, forall_eq, Bool.not_eq_true', Bool.not_eq_false']
    refine ⟨fun h => ?_, fun h => ?_⟩
    · have hk : (0 : Int) ≤ k ∧ (k : Int) < p.steps.length := ⟨by omega, h⟩
      have good : cOne p f j k = true → (∃ k' : Nat, (k : Int) + 1 = k' ∧ k' ≤ p.steps.length ∧ ∀ i, i < k' → cOne p f j i = true) ∧ ((p.steps.length : Int) - (k + 1)).toNat < ((p.steps.length : Int) - k).toNat := fun e => by
        refine ⟨⟨k + 1, by omega, by omega, fun i hi => ?_⟩, by omega⟩
        rcases Nat.lt_or_ge i k with g | g
        · exact k2 i g
        · rw [show i = k by omega]; exact e
      refine ⟨⟨hp, hk⟩, fun q2 => ⟨fun _ => good ?_, fun g => absurd g (by decide)⟩, fun q2 => ⟨⟨hp, hk, hj⟩, fun q3 => good ?_, fun q3 => ?_⟩⟩
      · rw [cOne, q2]; rfl
      · rw [cOne, q3]; simp
      · have hone : cOne p f j k = (List.range p.steps.length).any (cRep p f j k) := by rw [cOne, q2, q3]; simp
        refine ⟨fun rep t => ∃ w : Nat, t = w ∧ w ≤ p.steps.length ∧ rep = (List.range w).any (cRep p f j k), fun _ t => (p.steps.length - t).toNat, ⟨0, rfl, Nat.zero_le _, by simp⟩, ?_⟩
        rintro rep _ ⟨w, rfl, w1, w2⟩
        unfold F_certain_L3 F_certain_J4 F_certain_J2
        rw [w64 (n := (w : Int) + 1) (by omega), w64 (n := (k : Int) + 1) (by omega)]
        simp only [decide_eq_true_eq, decide_eq_false_iff_not, forall_eq, bne_iff_ne, ne_eq, bne_eq_false_iff_eq, Bool.not_eq_true', Bool.not_eq_false']
        refine ⟨fun h2 => ?_, fun h2 => ⟨fun q4 => ?_, fun q4 => good ?_⟩⟩
        · have next : ∀ rep' : Bool, rep' = (rep || cRep p f j k w) → (∃ w' : Nat, (w : Int) + 1 = w' ∧ w' ≤ p.steps.length ∧ rep' = (List.range w').any (cRep p f j k)) ∧ ((p.steps.length : Int) - (w + 1)).toNat < ((p.steps.length : Int) - w).toNat := fun rep' e => by
            refine ⟨⟨w + 1, by omega, by omega, ?_⟩, by omega⟩
            rw [e, w2, any_succ]
          have hw : (0 : Int) ≤ w ∧ (w : Int) < p.steps.length := ⟨by omega, h2⟩
          have hrow := hp.row k (by omega)
          refine ⟨fun q4 => next true (by rw [q4]; rfl), fun q4 => ⟨fun q5 => ⟨⟨hp, hw⟩, fun q6 => ⟨⟨hk.1, by rw [hp.rows]; exact hk.2⟩, ⟨hw.1, by rw [hrow]; exact hw.2⟩, fun q7 => ⟨⟨hp, hw, hj⟩, next _ ?_⟩, fun q7 => next false ?_⟩, fun q6 => next false ?_⟩, fun q5 => next false ?_⟩⟩
          · simp [q4, cRep, q5, q6, q7]
          · simp [q4, cRep, q7]
          · simp [q4, cRep, q6]
          · simp [q4, cRep, q5]
        · have e : w = p.steps.length := by omega
          subst e
          cases e : (List.range p.steps.length).all (cOne p f j)
          · rfl
          · have := List.all_eq_true.1 e k (List.mem_range.2 (by omega))
            rw [hone, ← w2, q4] at this
            exact absurd this (by decide)
        · have e : w = p.steps.length := by omega
          subst e
          rw [hone, ← w2, q4]
    · have e : k = p.steps.length := by omega
      subst e
      exact (List.all_eq_true.2 fun i hi => k2 i (List.mem_range.1 hi)).symm
theorem ok_pcheck1 : ∀ (fact : Int) (x : PPlan) (x2 : Int), pre_pcheck1 fact x x2 → F_pcheck1 fact x x2 (fun r => r = sp_pcheck1 fact x x2) := fun f p j hp => by
  refine ⟨hp, fun r hr => ?_⟩
  rw [hr]; rfl
end Go.Proofs.Ytihbfbofbdkmbaa.Pl
