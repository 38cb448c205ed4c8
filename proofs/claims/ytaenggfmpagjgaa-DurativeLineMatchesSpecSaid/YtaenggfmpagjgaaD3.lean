/- What happens, in order; checking a schedule. Plain Lean. No condition. -/
import Derived.Test.YtaenggfmpagjgaaD2
namespace Go.Proofs.Ytaenggfmpagjgaa.Pl
open Go Go.RowKit
theorem haps_succ (t : TTask) (l : List Occ) (n : Nat) : haps t l (n + 1) = haps t l n ++ hap2 t l n := by
  unfold haps
  rw [List.range_succ, List.flatMap_append, List.flatMap_singleton]
theorem haps_len (t : TTask) (l : List Occ) (n : Nat) : (haps t l n).length = 2 * n := by
  induction n with
  | zero => rfl
  | succ n ih => rw [haps_succ, List.length_append, ih]; simp only [hap2, List.length_cons, List.length_nil]; omega
theorem mem_haps {t : TTask} {l : List Occ} {n : Nat} {h : Hap} : h ∈ haps t l n ↔ ∃ i : Nat, i < n ∧ (h = ⟨(gt l i).start, i, false⟩ ∨ h = ⟨(gt l i).start + (opOf t l i).dur, i, true⟩) := by
  unfold haps hap2
  rw [List.mem_flatMap]
  simp only [List.mem_range, List.mem_cons, List.not_mem_nil, or_false]
theorem haps_nodup (t : TTask) (l : List Occ) (n : Nat) : (haps t l n).Nodup := by
  induction n with
  | zero => exact List.nodup_nil
  | succ n ih =>
    rw [haps_succ]
    refine List.nodup_append.2 ⟨ih, ?_, ?_⟩
    · simp [hap2]
    · intro a ha b hb e
      subst e
      obtain ⟨i, hi, e⟩ := mem_haps.1 ha
      have h1 : a.index = i := by rcases e with rfl | rfl <;> rfl
      have h2 : a.index = n := by
        simp only [hap2, List.mem_cons, List.not_mem_nil, or_false] at hb
        rcases hb with rfl | rfl <;> rfl
      omega
theorem happenings_lt (t : TTask) (l : List Occ) : (sp_happenings t l).Pairwise hlt := sortHap_lt (haps_nodup t l _)
theorem happenings_len (t : TTask) (l : List Occ) : (sp_happenings t l).length = 2 * l.length := by rw [sp_happenings, sortHap_len, haps_len]
theorem mem_happenings {t : TTask} {l : List Occ} {h : Hap} : h ∈ sp_happenings t l ↔ ∃ i : Nat, i < l.length ∧ (h = ⟨(gt l i).start, i, false⟩ ∨ h = ⟨(gt l i).start + (opOf t l i).dur, i, true⟩) := by
  rw [sp_happenings, mem_sortHap, mem_haps]
theorem happenings_idx {t : TTask} {l : List Occ} {h : Hap} (hm : h ∈ sp_happenings t l) : inb l h.index := by
  obtain ⟨i, hi, e⟩ := mem_happenings.1 hm
  have h1 : h.index = i := by rcases e with rfl | rfl <;> rfl
  rw [h1]
  exact ⟨by omega, by omega⟩
theorem SchedOK.op {t : TTask} {l : List Occ} (ok : SchedOK t l) {i : Int} (hi : inb l i) : inb t.ops (gt l i).op ∧ 0 ≤ (gt l i).start ∧ (gt l i).start ≤ 1000000 := by
  have := ok.occ i.toNat (by have := hi.2; have := hi.1; omega)
  rwa [Int.toNat_of_nonneg hi.1] at this
theorem SchedOK.sets {t : TTask} {l : List Occ} (ok : SchedOK t l) {i : Int} (hi : inb l i) : SetsOK (opOf t l i) t.facts ∧ 1 ≤ (opOf t l i).dur ∧ (opOf t l i).dur ≤ 1000 := ok.task.op (ok.op hi).1
theorem ok_happenings : ∀ (t : TTask) (l : List Occ), pre_happenings t l → F_happenings t l (fun r => r = sp_happenings t l) := fun t l hp => by
  have ok := schedOK_of hp
  have hlen := ok.len
  refine ⟨fun i out => ∃ k : Nat, i = k ∧ k ≤ l.length ∧ out = haps t l k, fun i _ => (l.length - i).toNat, ⟨0, rfl, by omega, rfl⟩, ?_⟩
  rintro _ _ ⟨k, rfl, k1, rfl⟩
  unfold F_happenings_L1
  simp only [decide_eq_true_eq, decide_eq_false_iff_not, forall_eq]
  refine ⟨fun h => ?_, fun h => ?_⟩
  · have hi : inb l (k : Int) := ⟨by omega, h⟩
    obtain ⟨o1, o2, o3⟩ := ok.op hi
    obtain ⟨_, d1, d2⟩ := ok.sets hi
    have d1' : 1 ≤ (gt t.ops (gt l (k : Int)).op).dur := d1
    have d2' : (gt t.ops (gt l (k : Int)).op).dur ≤ 1000 := d2
    rw [w64 (n := (k : Int) + 1) (by omega), w64 (n := (gt l (k : Int)).start + (gt t.ops (gt l (k : Int)).op).dur) (by omega)]
    have e : haps t l k ++ ([⟨(gt l (k : Int)).start, (k : Int), false⟩, ⟨(gt l (k : Int)).start + (gt t.ops (gt l (k : Int)).op).dur, (k : Int), true⟩] : List Hap) = haps t l (k + 1) := (haps_succ t l k).symm
    rw [e, haps_len]
    exact ⟨hi, o1, ⟨by simp only [maxLen]; omega, by omega⟩, ⟨k + 1, by omega, by omega, rfl⟩, by omega⟩
  · have e : k = l.length := by omega
    subst e
    refine ⟨?_, rfl⟩
    show (haps t l l.length).length ≤ 1000
    rw [haps_len]; omega
theorem mem_changed {n : Int} (hn : 0 ≤ n) {s add del : List Int} {x : Int} : x ∈ sp_changed n s add del ↔ (0 ≤ x ∧ x < n) ∧ (x ∈ add ∨ (x ∈ s ∧ x ∉ del)) := by
  rw [sp_changed, List.mem_filter, mem_allS, decide_eq_true_eq, Int.toNat_of_nonneg hn]
theorem changed_set {n : Int} (hn : 0 ≤ n) (s add del : List Int) : sp_isSet (sp_changed n s add del) n = true :=
  decide_eq_true ⟨(allS_sorted _).filter _, fun _ hx => ((mem_changed hn).1 hx).1⟩
theorem update_changed {n : Int} (hn : 0 ≤ n) {s add del : List Int} (hs : sp_isSet s n = true) (ha : sp_isSet add n = true) : sp_update s add del = sp_changed n s add del := by
  refine sorted_ext _ _ (update_sorted _ _ _) (set_sorted (changed_set hn s add del)) fun x => ?_
  rw [mem_update, mem_changed hn]
  constructor
  · rintro (⟨a, b⟩ | a)
    · exact ⟨set_rng hs x a, .inr ⟨a, b⟩⟩
    · exact ⟨set_rng ha x a, .inl a⟩
  · rintro ⟨_, a | a⟩
    · exact .inr a
    · exact .inl a
theorem ok_changed : ∀ (facts : Int) (s_ : List Int) (add : List Int) (del : List Int), pre_changed facts s_ add del → F_changed facts s_ add del (fun r => r = sp_changed facts s_ add del) := fun n s add del ⟨n0, n1, h1, h2, h3⟩ => by
  refine ⟨fun i out => ∃ k : Nat, i = k ∧ (k : Int) ≤ n ∧ out = (allS k).filter fun p => decide (p ∈ add ∨ (p ∈ s ∧ p ∉ del)), fun i _ => (n - i).toNat, ⟨0, rfl, by omega, rfl⟩, ?_⟩
  rintro _ out ⟨k, rfl, k1, k2⟩
  have hlen : out.length ≤ k := by rw [k2]; exact Nat.le_trans (List.length_filter_le _ _) (by rw [allS_len]; exact Nat.le_refl _)
  have step : ∀ b : Bool, (b = true ↔ ((k : Int) ∈ add ∨ ((k : Int) ∈ s ∧ (k : Int) ∉ del))) → (k : Int) < n → F_changed_J2 b out (k : Int) (fun i out => ∃ k : Nat, i = k ∧ (k : Int) ≤ n ∧ out = (allS k).filter fun p => decide (p ∈ add ∨ (p ∈ s ∧ p ∉ del))) (fun i _ => (n - i).toNat) := fun b hb h => by
    unfold F_changed_J2 F_changed_J1
    rw [w64 (n := (k : Int) + 1) (by omega)]
    refine ⟨fun q => ⟨⟨by rw [List.length_append]; simp only [maxLen, List.length_singleton]; omega, by rw [List.length_append]; simp only [List.length_singleton]; omega⟩, ⟨k + 1, by omega, by omega, ?_⟩, by dsimp only; omega⟩, fun q => ⟨⟨k + 1, by omega, by omega, ?_⟩, by dsimp only; omega⟩⟩
    · rw [allS_succ, List.filter_append, ← k2, filter1_pos (p := fun p => decide (p ∈ add ∨ (p ∈ s ∧ p ∉ del))) (decide_eq_true (hb.1 q))]
    · rw [allS_succ, List.filter_append, ← k2, filter1_neg (p := fun p => decide (p ∈ add ∨ (p ∈ s ∧ p ∉ del))) (decide_eq_false fun g => by rw [hb.2 g] at q; cases q), List.append_nil]
  unfold F_changed_L1
  simp only [decide_eq_true_eq, decide_eq_false_iff_not, forall_eq, sp_has]
  refine ⟨fun h => ⟨h2, fun q => step true (by simp [q]) h, fun q => ⟨h1, fun q2 => ⟨h3, step _ ?_ h⟩, fun q2 => step false ?_ h⟩⟩, fun h => ?_⟩
  · simp [q, q2]
  · simp [q, q2]
  · have e : k = n.toNat := by omega
    rw [k2, e]; rfl
theorem pick_sets {t : TTask} {l : List Occ} (ok : SchedOK t l) {h : Hap} (hi : inb l h.index) : sp_isSet (hpre t l h) t.facts = true ∧ sp_isSet (hadd t l h) t.facts = true ∧ sp_isSet (hdel t l h) t.facts = true := by
  obtain ⟨s, _⟩ := ok.sets hi
  unfold hpre hadd hdel
  split
  · exact ⟨s.atEnd, s.addEnd, s.delEnd⟩
  · exact ⟨s.atStart, s.addStart, s.delStart⟩
theorem set_lenK {n : Int} (hn : 0 ≤ n ∧ n ≤ 23) {s : List Int} (h : sp_isSet s n = true) : s.length ≤ 23 := by
  have := set_len hn.1 h; omega
theorem contains_pre {n : Int} (hn : 0 ≤ n ∧ n ≤ 23) {s p : List Int} (hs : sp_isSet s n = true) (hp : sp_isSet p n = true) : pre_contains2 s p :=
  ⟨by have := set_lenK hn hs; omega, by have := set_lenK hn hp; omega, set_sorted hs, set_sorted hp⟩
theorem update_pre {n : Int} (hn : 0 ≤ n ∧ n ≤ 23) {s a d : List Int} (hs : sp_isSet s n = true) (ha : sp_isSet a n = true) (hd : sp_isSet d n = true) : pre_update s a d :=
  ⟨by have := set_lenK hn hs; omega, by have := set_lenK hn ha; omega, set_sorted hd, by have := set_lenK hn hd; omega⟩
theorem overOK_iff {t : TTask} {l : List Occ} {run : List Bool} {s : List Int} : overOK t l run s = true ↔ ∀ i, i < l.length → overAt t l run s i = true := by
  unfold overOK
  rw [List.all_eq_true]
  simp only [List.mem_range]
theorem runH_cons (t : TTask) (l : List Occ) (h : Hap) (r : List Hap) (s : List Int) (run : List Bool) (last : Int) :
    runH t l (h :: r) s run last = if sp_subset (hpre t l h) s = true then
      if overOK t l (run.set h.index.toNat (!h.ending)) (hnext t l s h) = true then runH t l r (hnext t l s h) (run.set h.index.toNat (!h.ending)) h.time
      else (0, false)
    else (0, false) := rfl
/-- where a check stands -/
def CkI (t : TTask) (l : List Occ) (s : List Int) (last i : Int) (run : List Bool) : Prop :=
  ∃ k : Nat, i = k ∧ k ≤ (sp_happenings t l).length ∧ sp_isSet s t.facts = true ∧ run.length = l.length ∧ runH t l ((sp_happenings t l).drop k) s run last = sp_timedR t l
theorem check_J1 {t : TTask} {l : List Occ} (ok : SchedOK t l) (hf : sp_scheduleFault t l = ⟨0, 0⟩) {s : List Int} {last : Int} {k : Nat} {run : List Bool} (hk : k < (sp_happenings t l).length) (hs : sp_isSet s t.facts = true) (hr : run.length = l.length) (he : runH t l ((sp_happenings t l).drop k) s run last = sp_timedR t l) :
    F_tcheck_J1 t l (fun r => r = sp_tcheck t l) (sp_happenings t l) (hpre t l (gt (sp_happenings t l) (k : Int))) (hadd t l (gt (sp_happenings t l) (k : Int))) (hdel t l (gt (sp_happenings t l) (k : Int))) s last (k : Int) run (CkI t l) (fun _ _ i _ => ((sp_happenings t l).length - i).toNat) := by
  have hm := gt_memN hk
  have hi := happenings_idx hm
  obtain ⟨p1, p2, p3⟩ := pick_sets ok hi
  have hn := ok.task.facts
  have hlen := ok.len
  have hL := happenings_len t l
  have hd : (sp_happenings t l).drop k = gt (sp_happenings t l) (k : Int) :: (sp_happenings t l).drop (k + 1) := by
    have h2 := drop_gt (xs := sp_happenings t l) (i := (k : Int)) ⟨by omega, by omega⟩
    rwa [Int.toNat_natCast, show ((k : Int) + 1).toNat = k + 1 by omega] at h2
  rw [hd, runH_cons] at he
  have no : sp_timedR t l = (0, false) → ((0 : Int), false, (⟨0, 0⟩ : Fault)) = sp_tcheck t l := fun e => by
    rw [sp_tcheck, if_pos hf, e]
  unfold F_tcheck_J1
  simp only [forall_eq, sp_contains2, Bool.not_eq_true', Bool.not_eq_false']
  refine ⟨contains_pre hn hs p1, fun q => ?_, fun q => ⟨update_pre hn hs p2 p3, ⟨hi.1, by rw [hr]; exact hi.2⟩, ?_⟩⟩
  · rw [if_neg (by rw [q]; decide)] at he
    exact no he.symm
  · rw [if_pos q] at he
    rw [update_changed hn.1 hs p2]
    have hset := changed_set (n := t.facts) hn.1 s (hadd t l (gt (sp_happenings t l) (k : Int))) (hdel t l (gt (sp_happenings t l) (k : Int)))
    change sp_isSet (hnext t l s (gt (sp_happenings t l) (k : Int))) t.facts = true at hset
    change ∃ (I2 : Int → Prop) (μ2 : Int → Nat), I2 0 ∧ ∀ (t83 : Int), I2 t83 → F_tcheck_L2 t l _ (sp_happenings t l) (hnext t l s (gt (sp_happenings t l) (k : Int))) _ t83 I2 μ2 s last (k : Int) run _ _
    refine ⟨fun i => ∃ j : Nat, i = j ∧ j ≤ l.length ∧ ∀ i', i' < j → overAt t l (run.set (gt (sp_happenings t l) (k : Int)).index.toNat (!(gt (sp_happenings t l) (k : Int)).ending)) (hnext t l s (gt (sp_happenings t l) (k : Int))) i' = true, fun i => (l.length - i).toNat, ⟨0, rfl, by omega, fun _ h => by omega⟩, ?_⟩
    rintro _ ⟨j, rfl, j1, j2⟩
    unfold F_tcheck_L2
    rw [Int.toNat_natCast]
    have good : overAt t l (run.set (gt (sp_happenings t l) (k : Int)).index.toNat (!(gt (sp_happenings t l) (k : Int)).ending)) (hnext t l s (gt (sp_happenings t l) (k : Int))) j = true → (j : Int) < l.length → F_tcheck_J2 (fun r => r = sp_tcheck t l) false (j : Int) (fun i => ∃ j : Nat, i = j ∧ j ≤ l.length ∧ ∀ i', i' < j → overAt t l (run.set (gt (sp_happenings t l) (k : Int)).index.toNat (!(gt (sp_happenings t l) (k : Int)).ending)) (hnext t l s (gt (sp_happenings t l) (k : Int))) i' = true) (fun i => (l.length - i).toNat) := fun g h => by
      unfold F_tcheck_J2
      refine ⟨fun g => absurd g (by decide), fun _ => ?_⟩
      rw [w64 (n := (j : Int) + 1) (by omega)]
      refine ⟨⟨j + 1, by omega, by omega, fun i' hi' => ?_⟩, by dsimp only; omega⟩
      rcases Nat.lt_or_ge i' j with c | c
      · exact j2 i' c
      · rw [show i' = j by omega]; exact g
    simp only [decide_eq_true_eq, decide_eq_false_iff_not, forall_eq]
    refine ⟨fun h => ⟨⟨by omega, by rw [List.length_set, hr]; exact h⟩, fun q2 => ?_, fun q2 => ?_⟩, fun h => ?_⟩
    · have hj : inb l (j : Int) := ⟨by omega, h⟩
      obtain ⟨o1, _⟩ := ok.op hj
      obtain ⟨so, _⟩ := ok.sets hj
      refine ⟨hj, o1, contains_pre hn hset so.over, ?_⟩
      show F_tcheck_J2 (fun r => r = sp_tcheck t l) (!sp_subset (gt t.ops (gt l (j : Int)).op).over (hnext t l s (gt (sp_happenings t l) (k : Int)))) (j : Int) _ _
      cases q3 : sp_subset (gt t.ops (gt l (j : Int)).op).over (hnext t l s (gt (sp_happenings t l) (k : Int))) with
      | true => exact good (by unfold overAt; rw [q2]; exact q3) h
      | false =>
        unfold F_tcheck_J2
        refine ⟨fun _ => ?_, fun g => absurd g (by decide)⟩
        rw [if_neg] at he
        · exact no he.symm
        · intro g
          have := overOK_iff.1 g j (by omega)
          unfold overAt at this
          rw [q2] at this
          rw [show sp_subset (opOf t l (j : Int)).over _ = false from q3] at this
          cases this
    · exact good (by unfold overAt; rw [q2]; rfl) h
    · have e : j = l.length := by omega
      subst e
      rw [if_pos (overOK_iff.2 j2)] at he
      rw [w64 (n := (k : Int) + 1) (by omega)]
      exact ⟨⟨k + 1, by omega, by omega, hset, by rw [List.length_set, hr], he⟩, by omega⟩
theorem ok_tcheck : ∀ (t : TTask) (l : List Occ), F_tcheck t l (fun r => r = sp_tcheck t l) := fun t l => by
  unfold F_tcheck
  simp only [forall_eq, fault_ne, fault_eq]
  refine ⟨fun h => by rw [sp_tcheck, if_neg h], fun hf => ?_⟩
  have ok := schedOK_of hf
  have hlen := ok.len
  have hn := ok.task.facts
  have hL := happenings_len t l
  refine ⟨⟨by omega, by rw [Int.toNat_natCast]; omega, by rw [Int.toNat_natCast]; simp only [maxLen]; omega⟩, hf, CkI t l, fun _ _ i _ => ((sp_happenings t l).length - i).toNat, ⟨0, rfl, by omega, ok.task.init, by rw [List.length_replicate, Int.toNat_natCast], ?_⟩, ?_⟩
  · rw [Int.toNat_natCast]; rfl
  · rintro s last _ run ⟨k, rfl, k1, k2, k3, k4⟩
    unfold F_tcheck_L1
    simp only [decide_eq_true_eq, decide_eq_false_iff_not, forall_eq, sp_contains2, Bool.not_eq_true', Bool.not_eq_false']
    refine ⟨fun h => ?_, fun h => ?_⟩
    · have hm := gt_memN (xs := sp_happenings t l) (i := k) (by omega)
      have hi := happenings_idx hm
      have J := check_J1 ok hf (last := last) (by omega) k2 k3 k4
      refine ⟨⟨by omega, h⟩, hi, (ok.op hi).1, fun q => ?_, fun q => ?_⟩
      · rw [hpre, hadd, hdel, if_pos q, if_pos q, if_pos q] at J
        exact J
      · rw [hpre, hadd, hdel, if_neg (by rw [q]; decide), if_neg (by rw [q]; decide), if_neg (by rw [q]; decide)] at J
        exact J
    · rw [List.drop_of_length_le (by omega)] at k4
      unfold runH at k4
      refine ⟨contains_pre hn k2 ok.task.goal, fun q => ?_, fun q => ?_⟩
      · rw [if_neg (by rw [q]; decide)] at k4
        rw [sp_tcheck, if_pos hf, ← k4]
      · rw [if_pos q] at k4
        rw [sp_tcheck, if_pos hf, ← k4]
end Go.Proofs.Ytaenggfmpagjgaa.Pl
