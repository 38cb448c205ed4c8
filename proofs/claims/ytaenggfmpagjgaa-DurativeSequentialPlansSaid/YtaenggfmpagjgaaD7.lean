/- The laws of operators that take time: performing operators one after the other, later starts, the last end. Plain Lean. No condition. -/
import Derived.Test.YtaenggfmpagjgaaD6
namespace Go.Proofs.Ytaenggfmpagjgaa.Pl
open Go Go.RowKit
theorem overOK_none {t : TTask} {l : List Occ} {run : List Bool} {s : List Int} (h : ∀ i : Nat, i < l.length → gt run (i : Int) = false) : overOK t l run s = true := overOK_iff.2 fun i hi => by
  unfold overAt; rw [h i hi]; rfl
theorem overOK_one {t : TTask} {l : List Occ} {run : List Bool} {s : List Int} {k : Nat} (hk : k < l.length) (h1 : gt run (k : Int) = true) (h : ∀ i : Nat, i < l.length → i ≠ k → gt run (i : Int) = false) : overOK t l run s = sp_subset (opOf t l (k : Int)).over s := by
  rw [Bool.eq_iff_iff, overOK_iff]
  constructor
  · intro g
    have := g k hk
    unfold overAt at this
    rw [h1] at this
    exact this
  · intro g i hi
    unfold overAt
    by_cases c : i = k
    · rw [c, h1]; exact g
    · rw [h i hi c]; rfl
theorem rworks_cons (U : Task) (s : List Int) (op : Int) (r : List Int) : sp_rworks U s (op :: r) = if sp_applies U s op = true then sp_rworks U (sp_after U s op) r else false := by
  unfold sp_rworks
  rw [show sp_ends U s (op :: r) = if sp_applies U s op = true then sp_ends U (sp_after U s op) r else ([], false) from rfl]
  split <;> rfl
theorem line_run {t : TTask} {plan : List Int} (ok : LineOK t plan) : ∀ (m k : Nat) (s : List Int) (run : List Bool) (last : Int), k + m = plan.length → sp_isSet s t.facts = true → run.length = plan.length → (∀ i : Nat, i < plan.length → gt run (i : Int) = false) →
    runH t (lineN t plan plan.length) (hapsD t (lineN t plan plan.length) k m) s run last =
      if sp_rworks (sp_sequenced t) s (plan.drop k) = true then (if m = 0 then last else durSum t plan plan.length, true) else (0, false)
  | 0, k, s, run, last, hk, hs, hr, hz => by
    rw [List.drop_of_length_le (by omega)]
    rfl
  | m + 1, k, s, run, last, hk, hs, hr, hz => by
    have hn := ok.task.facts
    have hkl : k < plan.length := by omega
    have hi := ok.op hkl
    obtain ⟨so, _⟩ := ok.task.op hi
    have hin : inb run (k : Int) := ⟨by omega, by rw [hr]; omega⟩
    have hL : (lineN t plan plan.length).length = plan.length := lineN_len _ _ _
    have hop : opOf t (lineN t plan plan.length) (k : Int) = gt t.ops (gt plan (k : Int)) := opOf_lineN hkl
    have g1 : ∀ (b : Bool) (i : Nat), gt (run.set k b) (i : Int) = if i = k then b else gt run (i : Int) := fun b i => by
      have := gt_setI (x := b) hin (j := (i : Int)) (by omega)
      rw [Int.toNat_natCast] at this
      rw [this]
      by_cases c : i = k
      · rw [if_pos c, if_pos (by omega)]
      · rw [if_neg c, if_neg (by omega)]
    have hd : plan.drop k = gt plan (k : Int) :: plan.drop (k + 1) := by
      have h2 := drop_gt (xs := plan) (i := (k : Int)) ⟨by omega, by omega⟩
      rwa [Int.toNat_natCast, show ((k : Int) + 1).toNat = k + 1 by omega] at h2
    have s1 := changed_set (n := t.facts) hn.1 s (gt t.ops (gt plan (k : Int))).addStart (gt t.ops (gt plan (k : Int))).delStart
    have s2 := changed_set (n := t.facts) hn.1 (sp_changed t.facts s (gt t.ops (gt plan (k : Int))).addStart (gt t.ops (gt plan (k : Int))).delStart) (gt t.ops (gt plan (k : Int))).addEnd (gt t.ops (gt plan (k : Int))).delEnd
    have ih := line_run ok m (k + 1) _ ((run.set k true).set k false) (durSum t plan (k + 1)) (by omega) s2 (by rw [List.length_set, List.length_set, hr]) (fun i hi => by
      rw [List.set_set, g1]
      split
      · rfl
      · exact hz i hi)
    have p0 : ∀ tm, hpre t (lineN t plan plan.length) ⟨tm, (k : Int), false⟩ = (gt t.ops (gt plan (k : Int))).atStart := fun tm => by rw [← hop]; rfl
    have p1 : ∀ tm, hpre t (lineN t plan plan.length) ⟨tm, (k : Int), true⟩ = (gt t.ops (gt plan (k : Int))).atEnd := fun tm => by rw [← hop]; rfl
    have n0 : ∀ tm, hnext t (lineN t plan plan.length) s ⟨tm, (k : Int), false⟩ = sp_changed t.facts s (gt t.ops (gt plan (k : Int))).addStart (gt t.ops (gt plan (k : Int))).delStart := fun tm => by rw [← hop]; rfl
    have n1 : ∀ tm s, hnext t (lineN t plan plan.length) s ⟨tm, (k : Int), true⟩ = sp_changed t.facts s (gt t.ops (gt plan (k : Int))).addEnd (gt t.ops (gt plan (k : Int))).delEnd := fun tm s => by rw [← hop]; rfl
    have o1 : overOK t (lineN t plan plan.length) (run.set k true) (sp_changed t.facts s (gt t.ops (gt plan (k : Int))).addStart (gt t.ops (gt plan (k : Int))).delStart) = sp_subset (gt t.ops (gt plan (k : Int))).over (sp_changed t.facts s (gt t.ops (gt plan (k : Int))).addStart (gt t.ops (gt plan (k : Int))).delStart) := by
      rw [← hop]
      refine overOK_one (by omega) ?_ fun i hi hne => ?_
      · rw [g1, if_pos rfl]
      · rw [g1, if_neg hne]; exact hz i (by omega)
    have o2 : ∀ s, overOK t (lineN t plan plan.length) ((run.set k true).set k false) s = true := fun s => overOK_none fun i hi => by
      rw [List.set_set, g1]
      split
      · rfl
      · exact hz i (by omega)
    have ap := seq_applies (t := t) hn.1 so hs
    have ea : sp_applies (sp_sequenced t) s (gt plan (k : Int)) = sp_subset (seqOp t (gt t.ops (gt plan (k : Int)))).pre s := by
      unfold sp_applies
      rw [show gt (sp_sequenced t).ops (gt plan (k : Int)) = seqOp t (gt t.ops (gt plan (k : Int))) from gt_mapO hi]
    have er : sp_rworks (sp_sequenced t) s (plan.drop k) = if sp_subset (seqOp t (gt t.ops (gt plan (k : Int)))).pre s = true then sp_rworks (sp_sequenced t) (sp_changed t.facts (sp_changed t.facts s (gt t.ops (gt plan (k : Int))).addStart (gt t.ops (gt plan (k : Int))).delStart) (gt t.ops (gt plan (k : Int))).addEnd (gt t.ops (gt plan (k : Int))).delEnd) (plan.drop (k + 1)) else false := by
      rw [hd, rworks_cons, ea, seq_after hn.1 hi so hs]
    rw [hapsD_succ, hap2_line hkl, List.cons_append, List.cons_append, List.nil_append]
    show runH t _ (_ :: _ :: _) s run last = _
    rw [runH_cons, p0, n0]
    show (if _ = true then if overOK t _ (run.set ((k : Int)).toNat true) _ = true then runH t _ (_ :: _) _ (run.set ((k : Int)).toNat true) _ else _ else _) = _
    rw [Int.toNat_natCast, o1, runH_cons, p1, n1]
    show (if _ = true then if _ = true then (if _ = true then if overOK t _ ((run.set k true).set ((k : Int)).toNat false) _ = true then runH t _ _ _ ((run.set k true).set ((k : Int)).toNat false) (durSum t plan (k + 1)) else _ else _) else _ else _) = _
    rw [Int.toNat_natCast, o2, if_pos rfl, ih, er]
    by_cases c : sp_subset (seqOp t (gt t.ops (gt plan (k : Int)))).pre s = true
    · obtain ⟨c1, c2, c3⟩ := ap.1 c
      rw [if_pos c, if_pos c1, if_pos c2, if_pos c3]
      by_cases c4 : sp_rworks (sp_sequenced t) (sp_changed t.facts (sp_changed t.facts s (gt t.ops (gt plan (k : Int))).addStart (gt t.ops (gt plan (k : Int))).delStart) (gt t.ops (gt plan (k : Int))).addEnd (gt t.ops (gt plan (k : Int))).delEnd) (plan.drop (k + 1)) = true
      · rw [if_pos c4, if_pos c4, if_neg (show ¬ (m + 1 = 0) by omega)]
        by_cases c5 : m = 0
        · rw [if_pos c5, show k + 1 = plan.length by omega]
        · rw [if_neg c5]
      · rw [if_neg c4, if_neg c4]
    · rw [if_neg c]
      have : ¬ (sp_subset (gt t.ops (gt plan (k : Int))).atStart s = true ∧ sp_subset (gt t.ops (gt plan (k : Int))).over (sp_changed t.facts s (gt t.ops (gt plan (k : Int))).addStart (gt t.ops (gt plan (k : Int))).delStart) = true ∧ sp_subset (gt t.ops (gt plan (k : Int))).atEnd (sp_changed t.facts s (gt t.ops (gt plan (k : Int))).addStart (gt t.ops (gt plan (k : Int))).delStart) = true) := fun g => c (ap.2 g)
      rw [if_neg (show ¬ (false = true) by decide)]
      by_cases c1 : sp_subset (gt t.ops (gt plan (k : Int))).atStart s = true
      · rw [if_pos c1]
        by_cases c2 : sp_subset (gt t.ops (gt plan (k : Int))).over (sp_changed t.facts s (gt t.ops (gt plan (k : Int))).addStart (gt t.ops (gt plan (k : Int))).delStart) = true
        · rw [if_pos c2, if_neg fun c3 => this ⟨c1, c2, c3⟩]
        · rw [if_neg c2]
      · rw [if_neg c1]
theorem line_timed {t : TTask} {plan : List Int} (ok : LineOK t plan) : sp_timedR t (lineN t plan plan.length) = if sp_rsolves (sp_sequenced t) plan = true then (durSum t plan plan.length, true) else (0, false) := by
  have h := line_run ok plan.length 0 t.init (List.replicate plan.length false) 0 (by omega) ok.task.init (List.length_replicate) fun i _ => gt_falses
  rw [← haps_D, ← happenings_line ok, List.drop_zero] at h
  rw [sp_timedR, lineN_len, h]
  show (if sp_rworks (sp_sequenced t) t.init plan = true then _ else _) = if sp_rworks (sp_sequenced t) t.init plan = true then _ else _
  by_cases c : plan.length = 0
  · rw [if_pos c, c]; rfl
  · rw [if_neg c]
/-! ### the last end -/
theorem runH_last {t : TTask} {l : List Occ} : ∀ (R : List Hap) (s : List Int) (run : List Bool) (last : Int), (runH t l R s run last).2 = true → (runH t l R s run last).1 = ((R.map Hap.time).getLast?).getD last
  | [], s, run, last, h => by
    unfold runH at *
    split at h
    · rename_i g; rw [if_pos g]; rfl
    · cases h
  | x :: r, s, run, last, h => by
    rw [runH_cons] at *
    split at h
    · rename_i g
      rw [if_pos g]
      split at h
      · rename_i g2
        rw [if_pos g2, runH_last r _ _ _ h, List.map_cons]
        cases r with
        | nil => rfl
        | cons y r => rw [List.map_cons, List.getLast?_cons_cons, ← List.map_cons, List.getLast?_eq_some_getLast (by simp)]; rfl
      · cases h
    · cases h
def endOf (t : TTask) (l : List Occ) (i : Nat) : Int := (gt l (i : Int)).start + (opOf t l (i : Int)).dur
theorem last_end {t : TTask} {l : List Occ} (ok : SchedOK t l) {n : Int} (h : sp_timedR t l = (n, true)) : (l.length = 0 → n = 0) ∧ (0 < l.length → ∃ i : Nat, i < l.length ∧ n = endOf t l i) ∧ ∀ i : Nat, i < l.length → endOf t l i ≤ n := by
  have h1 := runH_last (t := t) (l := l) (sp_happenings t l) t.init (List.replicate l.length false) 0 (by rw [show runH t l _ _ _ _ = sp_timedR t l from rfl, h])
  rw [show runH t l _ _ _ _ = sp_timedR t l from rfl, h] at h1
  have hlen := happenings_len t l
  have hsrt := happenings_lt t l
  cases hc : l.length with
  | zero =>
    have : sp_happenings t l = [] := List.length_eq_zero_iff.1 (by omega)
    rw [this] at h1
    exact ⟨fun _ => h1, fun g => by omega, fun i hi => by omega⟩
  | succ c =>
    have hne : sp_happenings t l ≠ [] := fun e => by rw [e] at hlen; simp at hlen; omega
    obtain ⟨r, x, e⟩ : ∃ r x, sp_happenings t l = r ++ [x] := ⟨_, _, (List.dropLast_concat_getLast hne).symm⟩
    have hx : n = x.time := by
      rw [e, List.map_append, List.map_singleton, List.getLast?_concat] at h1
      exact h1
    rw [e] at hsrt
    have hle : ∀ y ∈ sp_happenings t l, y.time ≤ x.time := fun y hy => by
      rw [e] at hy
      rcases List.mem_append.1 hy with hy | hy
      · have := (List.pairwise_append.1 hsrt).2.2 y hy x (List.mem_singleton_self _)
        unfold hlt at this
        rw [hcmp_lt] at this
        omega
      · rw [List.mem_singleton.1 hy]; exact Int.le_refl _
    have hends : ∀ i : Nat, i < l.length → endOf t l i ≤ n := fun i hi => by
      rw [hx]
      exact hle ⟨endOf t l i, i, true⟩ (mem_happenings.2 ⟨i, hi, .inr rfl⟩)
    refine ⟨fun g => by omega, fun _ => ?_, fun i hi => hends i (by omega)⟩
    obtain ⟨i, hi, g⟩ := mem_happenings.1 (show x ∈ sp_happenings t l by rw [e]; simp)
    refine ⟨i, by omega, ?_⟩
    rcases g with g | g
    · have g1 := hends i hi
      obtain ⟨_, d1, _⟩ := ok.sets (i := (i : Int)) ⟨by omega, by omega⟩
      unfold endOf at g1
      rw [hx, g] at g1
      have g2 : (gt l (i : Int)).start + (opOf t l (i : Int)).dur ≤ (gt l (i : Int)).start := g1
      omega
    · rw [hx, g]; rfl
/-! ### later starts -/
def sh (by_ : Int) (x : Occ) : Occ := ⟨x.op, x.start + by_⟩
def shH (by_ : Int) (h : Hap) : Hap := ⟨h.time + by_, h.index, h.ending⟩
theorem gt_sh_op {l : List Occ} {by_ : Int} (i : Int) : (gt (l.map (sh by_)) i).op = (gt l i).op := by
  unfold gt
  rw [List.getD_eq_getElem?_getD, List.getD_eq_getElem?_getD, List.getElem?_map]
  cases l[i.toNat]? <;> rfl
theorem gt_sh {l : List Occ} {by_ : Int} {i : Int} (h : inb l i) : gt (l.map (sh by_)) i = sh by_ (gt l i) := by
  rw [gt_of (show inb (l.map (sh by_)) i from ⟨h.1, by rw [List.length_map]; exact h.2⟩), gt_of h, List.getElem_map]
theorem opOf_sh {t : TTask} {l : List Occ} {by_ : Int} (i : Int) : opOf t (l.map (sh by_)) i = opOf t l i := by
  unfold opOf; rw [gt_sh_op]
theorem sh_lt {by_ : Int} {a b : Hap} : hlt (shH by_ a) (shH by_ b) ↔ hlt a b := by
  unfold hlt
  rw [hcmp_lt, hcmp_lt]
  have e : ∀ a, sp_rank (shH by_ a) = sp_rank a := fun _ => rfl
  rw [e, e]
  show (a.time + by_ < b.time + by_ ∨ (a.time + by_ = b.time + by_ ∧ _)) ↔ _
  have e1 : (a.time + by_ < b.time + by_) ↔ a.time < b.time := by omega
  have e2 : (a.time + by_ = b.time + by_) ↔ a.time = b.time := by omega
  rw [e1, e2]; exact Iff.rfl
theorem happenings_sh (t : TTask) (l : List Occ) (by_ : Int) : sp_happenings t (l.map (sh by_)) = (sp_happenings t l).map (shH by_) := by
  refine hlt_ext (happenings_lt _ _) (List.pairwise_map.2 ((happenings_lt t l).imp fun h => sh_lt.2 h)) fun x => ?_
  rw [mem_happenings, List.mem_map, List.length_map]
  constructor
  · rintro ⟨i, hi, e⟩
    rw [gt_sh ⟨by omega, by omega⟩, opOf_sh] at e
    rcases e with e | e
    · exact ⟨⟨(gt l (i : Int)).start, i, false⟩, mem_happenings.2 ⟨i, hi, .inl rfl⟩, e.symm⟩
    · refine ⟨⟨(gt l (i : Int)).start + (opOf t l (i : Int)).dur, i, true⟩, mem_happenings.2 ⟨i, hi, .inr rfl⟩, ?_⟩
      rw [e]
      show (⟨(gt l (i : Int)).start + (opOf t l (i : Int)).dur + by_, i, true⟩ : Hap) = ⟨(gt l (i : Int)).start + by_ + (opOf t l (i : Int)).dur, i, true⟩
      rw [show (gt l (i : Int)).start + (opOf t l (i : Int)).dur + by_ = (gt l (i : Int)).start + by_ + (opOf t l (i : Int)).dur by omega]
  · rintro ⟨y, hy, rfl⟩
    obtain ⟨i, hi, e⟩ := mem_happenings.1 hy
    refine ⟨i, hi, ?_⟩
    rw [gt_sh ⟨by omega, by omega⟩, opOf_sh]
    rcases e with rfl | rfl
    · exact .inl rfl
    · refine .inr ?_
      show (⟨(gt l (i : Int)).start + (opOf t l (i : Int)).dur + by_, i, true⟩ : Hap) = ⟨(gt l (i : Int)).start + by_ + (opOf t l (i : Int)).dur, i, true⟩
      rw [show (gt l (i : Int)).start + (opOf t l (i : Int)).dur + by_ = (gt l (i : Int)).start + by_ + (opOf t l (i : Int)).dur by omega]
theorem overOK_sh {t : TTask} {l : List Occ} {by_ : Int} (run : List Bool) (s : List Int) : overOK t (l.map (sh by_)) run s = overOK t l run s := by
  unfold overOK overAt
  rw [List.length_map]
  simp only [opOf_sh]
theorem runH_sh {t : TTask} {l : List Occ} {by_ : Int} : ∀ (R : List Hap) (s : List Int) (run : List Bool) (last last' : Int),
    runH t (l.map (sh by_)) (R.map (shH by_)) s run last' = if (runH t l R s run last).2 = true then (if R = [] then last' else (runH t l R s run last).1 + by_, true) else (0, false)
  | [], s, run, last, last' => by
    rw [List.map_nil]
    unfold runH
    split <;> rfl
  | x :: r, s, run, last, last' => by
    have e1 : hpre t (l.map (sh by_)) (shH by_ x) = hpre t l x := by unfold hpre; rw [opOf_sh]; rfl
    have e2 : hnext t (l.map (sh by_)) s (shH by_ x) = hnext t l s x := by unfold hnext hadd hdel; rw [opOf_sh]; rfl
    rw [List.map_cons, runH_cons, runH_cons, e1, e2, overOK_sh]
    show (if _ = true then if overOK t l (run.set x.index.toNat (!x.ending)) _ = true then runH t _ _ _ (run.set x.index.toNat (!x.ending)) (x.time + by_) else _ else _) = _
    rw [runH_sh r (hnext t l s x) (run.set x.index.toNat (!x.ending)) x.time (x.time + by_)]
    by_cases c1 : sp_subset (hpre t l x) s = true
    · rw [if_pos c1, if_pos c1]
      by_cases c2 : overOK t l (run.set x.index.toNat (!x.ending)) (hnext t l s x) = true
      · rw [if_pos c2, if_pos c2]
        by_cases c3 : (runH t l r (hnext t l s x) (run.set x.index.toNat (!x.ending)) x.time).2 = true
        · rw [if_pos c3, if_pos c3, if_neg (show ¬ (x :: r = []) from List.cons_ne_nil _ _)]
          by_cases c4 : r = []
          · subst c4
            rw [if_pos rfl, runH_last [] _ _ _ c3]; rfl
          · rw [if_neg c4]
        · rw [if_neg c3, if_neg c3]
      · rw [if_neg c2, if_neg c2]; rfl
    · rw [if_neg c1, if_neg c1]; rfl
theorem timed_sh (t : TTask) (l : List Occ) (by_ : Int) : sp_timedR t (l.map (sh by_)) = if (sp_timedR t l).2 = true then (if l = [] then 0 else (sp_timedR t l).1 + by_, true) else (0, false) := by
  have h := runH_sh (t := t) (l := l) (by_ := by_) (sp_happenings t l) t.init (List.replicate l.length false) 0 0
  rw [← happenings_sh] at h
  unfold sp_timedR
  rw [List.length_map, h]
  have e : sp_happenings t l = [] ↔ l = [] := by
    rw [← List.length_eq_zero_iff, ← List.length_eq_zero_iff, happenings_len]; omega
  by_cases c : l = []
  · rw [if_pos (e.2 c), if_pos c]
  · rw [if_neg fun g => c (e.1 g), if_neg c]
theorem sched_sh {t : TTask} {l : List Occ} {by_ : Int} (h0 : 0 ≤ by_ ∧ by_ ≤ 1000) (h : ∀ i : Nat, i < l.length → 0 ≤ (gt l (i : Int)).start ∧ (gt l (i : Int)).start ≤ 1000) : sp_scheduleFault t (l.map (sh by_)) = sp_scheduleFault t l := by
  have e : ∀ i : Nat, i < l.length → occFault t (l.map (sh by_)) i = occFault t l i := fun i hi => by
    have := h i hi
    unfold occFault
    rw [gt_sh ⟨by omega, by omega⟩]
    show (if 0 ≤ (gt l (i : Int)).op ∧ (gt l (i : Int)).op < t.ops.length ∧ 0 ≤ (gt l (i : Int)).start + by_ ∧ (gt l (i : Int)).start + by_ ≤ 1000000 then _ else _) = _
    by_cases c : 0 ≤ (gt l (i : Int)).op ∧ (gt l (i : Int)).op < t.ops.length
    · rw [if_pos ⟨c.1, c.2, by omega, by omega⟩, if_pos ⟨c.1, c.2, by omega, by omega⟩]
    · rw [if_neg fun g => c ⟨g.1, g.2.1⟩, if_neg fun g => c ⟨g.1, g.2.1⟩]
  have e2 : ffirst (occFault t (l.map (sh by_))) l.length = ffirst (occFault t l) l.length := by
    by_cases c : ∃ k, k < l.length ∧ occFault t l k ≠ ⟨0, 0⟩
    · obtain ⟨k, ⟨k1, k2⟩, k3⟩ := least c
      have hz : ∀ j, j < k → occFault t l j = ⟨0, 0⟩ := fun j hj => Classical.byContradiction fun g => by
        have := k3 j ⟨by omega, g⟩; omega
      rw [ffirst_hit k1 hz k2, ffirst_hit k1 (fun j hj => by rw [e j (by omega)]; exact hz j hj) (by rw [e k k1]; exact k2), e k k1]
    · have hz : ∀ j, j < l.length → occFault t l j = ⟨0, 0⟩ := fun j hj => Classical.byContradiction fun g => c ⟨j, hj, g⟩
      rw [ffirst_none hz, ffirst_none fun j hj => by rw [e j hj]; exact hz j hj]
  unfold sp_scheduleFault
  rw [List.length_map, e2]
end Go.Proofs.Ytaenggfmpagjgaa.Pl
