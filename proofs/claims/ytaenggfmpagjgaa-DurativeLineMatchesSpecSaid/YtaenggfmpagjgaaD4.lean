/- Looking for the next happening again and again is going through them in order. Plain Lean. No condition. -/
import Derived.Test.YtaenggfmpagjgaaD3
namespace Go.Proofs.Ytaenggfmpagjgaa.Pl
open Go Go.RowKit
/-- what comes next of an occurrence -/
def cur (t : TTask) (l : List Occ) (phase : List Int) (i : Nat) : Hap :=
  if gt phase (i : Int) = 0 then ⟨(gt l i).start, i, false⟩ else ⟨(gt l i).start + (opOf t l i).dur, i, true⟩
structure PhOK (t : TTask) (l : List Occ) (phase : List Int) (R : List Hap) : Prop where
  len : phase.length = l.length
  val : ∀ i : Nat, i < l.length → gt phase (i : Int) = 0 ∨ gt phase (i : Int) = 1 ∨ gt phase (i : Int) = 2
  srt : R.Pairwise hlt
  mem : ∀ h, h ∈ R ↔ ∃ i : Nat, i < l.length ∧ ((gt phase (i : Int) = 0 ∧ h = ⟨(gt l i).start, i, false⟩) ∨ (gt phase (i : Int) ≠ 2 ∧ h = ⟨(gt l i).start + (opOf t l i).dur, i, true⟩))
theorem cur_index (t : TTask) (l : List Occ) (phase : List Int) (i : Nat) : (cur t l phase i).index = i := by
  unfold cur; split <;> rfl
theorem PhOK.cur_mem {t : TTask} {l : List Occ} {phase : List Int} {R : List Hap} (p : PhOK t l phase R) {i : Nat} (hi : i < l.length) (h : gt phase (i : Int) ≠ 2) : cur t l phase i ∈ R := by
  refine (p.mem _).2 ⟨i, hi, ?_⟩
  unfold cur
  split
  · rename_i g; exact .inl ⟨g, rfl⟩
  · exact .inr ⟨h, rfl⟩
theorem PhOK.head {t : TTask} {l : List Occ} (ok : SchedOK t l) {phase : List Int} {h : Hap} {R : List Hap} (p : PhOK t l phase (h :: R)) : ∃ i : Nat, i < l.length ∧ gt phase (i : Int) ≠ 2 ∧ h = cur t l phase i := by
  obtain ⟨i, hi, e⟩ := (p.mem h).1 List.mem_cons_self
  refine ⟨i, hi, ?_⟩
  rcases e with ⟨e1, e2⟩ | ⟨e1, e2⟩
  · exact ⟨by omega, by rw [cur, if_pos e1, e2]⟩
  · refine ⟨e1, ?_⟩
    by_cases g : gt phase (i : Int) = 0
    · have hm := (p.mem ⟨(gt l i).start, i, false⟩).2 ⟨i, hi, .inl ⟨g, rfl⟩⟩
      obtain ⟨_, d1, _⟩ := ok.sets (i := (i : Int)) ⟨by omega, by omega⟩
      have hb : hlt ⟨(gt l i).start, i, false⟩ h := by
        unfold hlt
        rw [hcmp_lt, e2]
        left
        show (gt l (i : Int)).start < (gt l (i : Int)).start + (opOf t l (i : Int)).dur
        omega
      rcases List.mem_cons.1 hm with q | q
      · rw [q] at hb; exact absurd hb (hlt_irr _)
      · exact absurd (hlt_trans hb ((List.pairwise_cons.1 p.srt).1 _ q)) (hlt_irr _)
    · rw [cur, if_neg g, e2]
/-- what has been found among the first occurrences -/
def Sel (t : TTask) (l : List Occ) (phase : List Int) (j : Nat) (next when : Int) : Prop :=
  (next = -1 ∧ ∀ i : Nat, i < j → gt phase (i : Int) = 2) ∨
  ∃ n : Nat, n < j ∧ next = n ∧ gt phase (n : Int) ≠ 2 ∧ when = (cur t l phase n).time ∧ ∀ i : Nat, i < j → gt phase (i : Int) ≠ 2 → ¬ hlt (cur t l phase i) (cur t l phase n)
theorem rank_cur {t : TTask} {l : List Occ} {phase : List Int} {i : Nat} : sp_rank (cur t l phase i) = if gt phase (i : Int) = 0 then 1 else 0 := by
  unfold cur sp_rank
  split <;> rfl
def SelI (t : TTask) (l : List Occ) (phase : List Int) (next when i : Int) : Prop := ∃ j : Nat, i = j ∧ j ≤ l.length ∧ Sel t l phase j next when
theorem timed_J3 {t : TTask} {l : List Occ} {phase : List Int} (hlen : l.length ≤ 12) {j : Nat} {x next when : Int} (hj : j < l.length) (b : Bool) (h1 : b = true → Sel t l phase (j + 1) j x) (h2 : b = false → Sel t l phase (j + 1) next when) :
    F_timedR_J3 x b next when (j : Int) (SelI t l phase) (fun _ _ i => (l.length - i).toNat) := by
  unfold F_timedR_J3 F_timedR_J1
  rw [w64 (n := (j : Int) + 1) (by omega)]
  exact ⟨fun g => ⟨⟨j + 1, by omega, by omega, h1 g⟩, by dsimp only; omega⟩, fun g => ⟨⟨j + 1, by omega, by omega, h2 g⟩, by dsimp only; omega⟩⟩
theorem timed_J2 {t : TTask} {l : List Occ} {phase : List Int} {R : List Hap} (p : PhOK t l phase R) (hlen : l.length ≤ 12) {j : Nat} {next when : Int} (hj : j < l.length) (hne : gt phase (j : Int) ≠ 2) (hs : Sel t l phase j next when) :
    F_timedR_J2 (cur t l phase j).time next when (j : Int) (SelI t l phase) (fun _ _ i => (l.length - i).toNat) phase := by
  unfold F_timedR_J2
  simp only [decide_eq_true_eq, decide_eq_false_iff_not, beq_iff_eq, beq_eq_false_iff_ne, ne_eq]
  rcases hs with ⟨rfl, h2⟩ | ⟨n, hn, rfl, h1, rfl, h3⟩
  · refine ⟨fun _ => timed_J3 hlen hj true (fun _ => .inr ⟨j, by omega, rfl, hne, rfl, fun i hi hi2 => ?_⟩) (fun g => absurd g (by decide)), fun g => absurd g (by decide)⟩
    rcases Nat.lt_or_ge i j with c | c
    · exact absurd (h2 i c) hi2
    · rw [show i = j by omega]; exact hlt_irr _
  · have hv := p.val j hj
    have hw := p.val n (by omega)
    have key : hlt (cur t l phase j) (cur t l phase n) ↔ (cur t l phase j).time < (cur t l phase n).time ∨ ((cur t l phase j).time = (cur t l phase n).time ∧ gt phase (n : Int) < gt phase (j : Int)) := by
      unfold hlt
      rw [hcmp_lt, cur_index, cur_index, rank_cur, rank_cur]
      split <;> split <;> omega
    have take : hlt (cur t l phase j) (cur t l phase n) → Sel t l phase (j + 1) j (cur t l phase j).time := fun g => .inr ⟨j, by omega, rfl, hne, rfl, fun i hi hi2 q => by
      rcases Nat.lt_or_ge i j with c | c
      · exact h3 i c hi2 (hlt_trans q g)
      · rw [show i = j by omega] at q; exact hlt_irr _ q⟩
    have keep : ¬ hlt (cur t l phase j) (cur t l phase n) → Sel t l phase (j + 1) n (cur t l phase n).time := fun g => .inr ⟨n, by omega, rfl, h1, rfl, fun i hi hi2 q => by
      rcases Nat.lt_or_ge i j with c | c
      · exact h3 i c hi2 q
      · rw [show i = j by omega] at q; exact g q⟩
    refine ⟨fun g => by omega, fun _ => ⟨fun g => timed_J3 hlen hj true (fun _ => take (key.2 (.inl g))) (fun g => absurd g (by decide)), fun g => ⟨fun q => ⟨⟨by omega, by rw [p.len]; omega⟩, timed_J3 hlen hj _ (fun c => take (key.2 (.inr ⟨q, of_decide_eq_true c⟩))) (fun c => keep fun k => ?_)⟩, fun q => timed_J3 hlen hj false (fun g => absurd g (by decide)) (fun _ => keep fun k => ?_)⟩⟩⟩
    · have c' := of_decide_eq_false c
      rcases key.1 k with k | k
      · exact g k
      · exact c' k.2
    · rcases key.1 k with k | k
      · exact g k
      · exact q k.1
def runOf (phase : List Int) : List Bool := phase.map fun x => x == 1
theorem gt_runOf {phase : List Int} {i : Int} (h : inb phase i) : gt (runOf phase) i = (gt phase i == 1) := by
  unfold runOf
  rw [gt_of (show inb (phase.map fun x => x == 1) i from ⟨h.1, by rw [List.length_map]; exact h.2⟩), gt_of h, List.getElem_map]
theorem PhOK.next {t : TTask} {l : List Occ} {phase : List Int} {R : List Hap} {n : Nat} (hn : n < l.length) (hne : gt phase (n : Int) ≠ 2) (p : PhOK t l phase (cur t l phase n :: R)) : PhOK t l (phase.set n (gt phase (n : Int) + 1)) R := by
  have hin : inb phase (n : Int) := ⟨by omega, by rw [p.len]; omega⟩
  have hg : ∀ i : Nat, gt (phase.set n (gt phase (n : Int) + 1)) (i : Int) = if (i : Int) = n then gt phase (n : Int) + 1 else gt phase (i : Int) := fun i => by
    have := gt_setI (x := gt phase (n : Int) + 1) hin (j := (i : Int)) (by omega)
    rwa [Int.toNat_natCast] at this
  obtain ⟨s1, s2⟩ := List.pairwise_cons.1 p.srt
  refine ⟨by rw [List.length_set]; exact p.len, fun i hi => ?_, s2, fun h => ?_⟩
  · rw [hg]
    have := p.val n hn
    have := p.val i hi
    split <;> omega
  · have hR : h ∈ R ↔ h ∈ cur t l phase n :: R ∧ h ≠ cur t l phase n := by
      constructor
      · intro q
        refine ⟨List.mem_cons_of_mem _ q, fun e => ?_⟩
        rw [e] at q
        exact hlt_irr _ (s1 _ q)
      · rintro ⟨q, e⟩
        exact (List.mem_cons.1 q).resolve_left e
    rw [hR, p.mem]
    constructor
    · rintro ⟨⟨i, hi, e⟩, hx⟩
      refine ⟨i, hi, ?_⟩
      rw [hg]
      by_cases c : i = n
      · subst c
        rw [if_pos rfl]
        unfold cur at hx
        rcases e with ⟨e1, e2⟩ | ⟨e1, e2⟩
        · rw [if_pos e1] at hx; exact absurd e2 hx
        · by_cases g : gt phase (i : Int) = 0
          · exact .inr ⟨by omega, e2⟩
          · rw [if_neg g] at hx; exact absurd e2 hx
      · rw [if_neg (by omega)]; exact e
    · rintro ⟨i, hi, e⟩
      rw [hg] at e
      by_cases c : i = n
      · subst c
        rw [if_pos rfl] at e
        rcases e with ⟨e1, e2⟩ | ⟨e1, e2⟩
        · have := p.val i hi; omega
        · have hz : gt phase (i : Int) = 0 := by have := p.val i hi; omega
          refine ⟨⟨i, hi, .inr ⟨hne, e2⟩⟩, ?_⟩
          rw [cur, if_pos hz, e2]
          intro q
          exact absurd (congrArg Hap.ending q) (by simp)
      · rw [if_neg (by omega)] at e
        refine ⟨⟨i, hi, e⟩, fun q => ?_⟩
        have h1 := congrArg Hap.index q
        rw [cur_index] at h1
        have h2 : h.index = i := by rcases e with ⟨_, rfl⟩ | ⟨_, rfl⟩ <;> rfl
        omega
def TmI (t : TTask) (l : List Occ) (s : List Int) (now step : Int) (phase : List Int) : Prop :=
  ∃ k : Nat, step = k ∧ k ≤ 2 * l.length ∧ sp_isSet s t.facts = true ∧ PhOK t l phase ((sp_happenings t l).drop k) ∧ runH t l ((sp_happenings t l).drop k) s (runOf phase) now = sp_timedR t l
theorem timed_J4 {t : TTask} {l : List Occ} (ok : SchedOK t l) {s : List Int} {now : Int} {k n : Nat} {phase : List Int} (hn : n < l.length) (hne : gt phase (n : Int) ≠ 2) (hk : k < 2 * l.length) (hd : (sp_happenings t l).drop k = cur t l phase n :: (sp_happenings t l).drop (k + 1))
    (p : PhOK t l phase ((sp_happenings t l).drop k)) (hs : sp_isSet (hnext t l s (cur t l phase n)) t.facts = true)
    (he : (if overOK t l ((runOf phase).set n (!(cur t l phase n).ending)) (hnext t l s (cur t l phase n)) = true then runH t l ((sp_happenings t l).drop (k + 1)) (hnext t l s (cur t l phase n)) ((runOf phase).set n (!(cur t l phase n).ending)) (cur t l phase n).time else (0, false)) = sp_timedR t l) :
    F_timedR_J4 t l (fun r => r = sp_timedR t l) (n : Int) (cur t l phase n).time s now (k : Int) phase (TmI t l) (fun _ _ i _ => (2 * l.length - i).toNat) (hnext t l s (cur t l phase n)) := by
  have hlen := ok.len
  have hnf := ok.task.facts
  have hv := p.val n hn
  unfold F_timedR_J4
  rw [w64 (n := gt phase (n : Int) + 1) (by omega), Int.toNat_natCast]
  intro d hdd
  have hrun : runOf d = (runOf phase).set n (!(cur t l phase n).ending) := by
    rw [hdd, runOf, List.map_set]
    unfold runOf
    congr 1
    unfold cur
    split
    · rename_i g; rw [g]; rfl
    · have : gt phase (n : Int) = 1 := by omega
      rw [this]; rfl
  rw [hd] at p
  have p2 := p.next hn hne
  rw [← hdd] at p2
  rw [← hrun] at he
  refine ⟨fun i => ∃ j : Nat, i = j ∧ j ≤ l.length ∧ ∀ i', i' < j → overAt t l (runOf d) (hnext t l s (cur t l phase n)) i' = true, fun i => (l.length - i).toNat, ⟨0, rfl, by omega, fun _ h => by omega⟩, ?_⟩
  rintro _ ⟨j, rfl, j1, j2⟩
  unfold F_timedR_L3
  have good : overAt t l (runOf d) (hnext t l s (cur t l phase n)) j = true → (j : Int) < l.length → F_timedR_J5 (fun r => r = sp_timedR t l) false (j : Int) (fun i => ∃ j : Nat, i = j ∧ j ≤ l.length ∧ ∀ i', i' < j → overAt t l (runOf d) (hnext t l s (cur t l phase n)) i' = true) (fun i => (l.length - i).toNat) := fun g h => by
    unfold F_timedR_J5
    refine ⟨fun g => absurd g (by decide), fun _ => ?_⟩
    rw [w64 (n := (j : Int) + 1) (by omega)]
    refine ⟨⟨j + 1, by omega, by omega, fun i' hi' => ?_⟩, by dsimp only; omega⟩
    rcases Nat.lt_or_ge i' j with c | c
    · exact j2 i' c
    · rw [show i' = j by omega]; exact g
  simp only [decide_eq_true_eq, decide_eq_false_iff_not, forall_eq]
  refine ⟨fun h => ⟨⟨by omega, by rw [p2.len]; exact h⟩, fun q2 => ?_, fun q2 => ?_⟩, fun h => ?_⟩
  · have hj : inb l (j : Int) := ⟨by omega, h⟩
    obtain ⟨o1, _⟩ := ok.op hj
    obtain ⟨so, _⟩ := ok.sets hj
    have q4 : gt (runOf d) (j : Int) = true := by rw [gt_runOf ⟨by omega, by rw [p2.len]; exact h⟩]; exact q2
    refine ⟨hj, o1, ⟨by have := set_lenK hnf so.over; unfold opOf at this; omega, by have := set_lenK hnf hs; omega⟩, ?_⟩
    cases q3 : sp_subset (gt t.ops (gt l (j : Int)).op).over (hnext t l s (cur t l phase n)) with
    | true => exact good (by unfold overAt; rw [q4]; exact q3) h
    | false =>
      unfold F_timedR_J5
      refine ⟨fun _ => ?_, fun g => absurd g (by decide)⟩
      rw [if_neg] at he
      · exact he
      · intro g
        have := overOK_iff.1 g j (by omega)
        unfold overAt at this
        rw [q4] at this
        rw [show sp_subset (opOf t l (j : Int)).over _ = false from q3] at this
        cases this
  · have q4 : gt (runOf d) (j : Int) = false := by rw [gt_runOf ⟨by omega, by rw [p2.len]; exact h⟩]; exact q2
    exact good (by unfold overAt; rw [q4]; rfl) h
  · have e : j = l.length := by omega
    subst e
    rw [if_pos (overOK_iff.2 j2)] at he
    rw [w64 (n := (k : Int) + 1) (by omega)]
    exact ⟨⟨k + 1, by omega, by omega, hs, p2, he⟩, by omega⟩
theorem ok_timedR : ∀ (t : TTask) (l : List Occ), pre_timedR t l → F_timedR t l (fun r => r = sp_timedR t l) := fun t l hf => by
  have ok := schedOK_of hf
  have hlen := ok.len
  have hn := ok.task.facts
  have hL := happenings_len t l
  unfold F_timedR
  rw [Int.toNat_natCast]
  have hrep : ∀ i : Nat, i < l.length → gt (List.replicate l.length (0 : Int)) (i : Int) = 0 := fun i hi => by
    rw [gt_of ⟨by omega, by rw [List.length_replicate]; omega⟩, List.getElem_replicate]
  refine ⟨⟨by omega, by rw [Int.toNat_natCast]; omega, by rw [Int.toNat_natCast]; simp only [maxLen]; omega⟩, TmI t l, fun _ _ i _ => (2 * l.length - i).toNat, ⟨0, rfl, by omega, ok.task.init, ⟨by rw [List.length_replicate], fun i hi => .inl (hrep i hi), happenings_lt t l, fun h => ?_⟩, ?_⟩, ?_⟩
  · rw [List.drop_zero, mem_happenings]
    constructor
    · rintro ⟨i, hi, e⟩
      rcases e with e | e
      · exact ⟨i, hi, .inl ⟨hrep i hi, e⟩⟩
      · exact ⟨i, hi, .inr ⟨by rw [hrep i hi]; decide, e⟩⟩
    · rintro ⟨i, hi, e⟩
      rcases e with ⟨_, e⟩ | ⟨_, e⟩
      · exact ⟨i, hi, .inl e⟩
      · exact ⟨i, hi, .inr e⟩
  · rw [List.drop_zero, runOf, List.map_replicate]; rfl
  · rintro s now _ phase ⟨k, rfl, k1, k2, p, k4⟩
    unfold F_timedR_L1
    rw [w64 (n := 2 * ((l.length : Nat) : Int)) (by omega)]
    intro x hx
    subst hx
    simp only [decide_eq_true_eq, decide_eq_false_iff_not, forall_eq]
    refine ⟨fun h => ?_, fun h => ?_⟩
    · refine ⟨SelI t l phase, fun _ _ i => (l.length - i).toNat, ⟨0, rfl, by omega, .inl ⟨rfl, fun _ h => by omega⟩⟩, ?_⟩
      rintro next when _ ⟨j, rfl, j1, sel⟩
      unfold F_timedR_L2
      simp only [decide_eq_true_eq, decide_eq_false_iff_not, forall_eq, beq_iff_eq, beq_eq_false_iff_ne, ne_eq, Bool.not_eq_true', Bool.not_eq_false']
      refine ⟨fun hj => ⟨⟨by omega, by rw [p.len]; exact hj⟩, fun q => ?_, fun q => ⟨⟨by omega, hj⟩, fun q1 => ⟨?_, ?_⟩, fun q1 => ?_⟩⟩, fun hj => ?_⟩
      · unfold F_timedR_J1
        rw [w64 (n := (j : Int) + 1) (by omega)]
        refine ⟨⟨j + 1, by omega, by omega, ?_⟩, by dsimp only; omega⟩
        rcases sel with ⟨e, h2⟩ | ⟨n, hn', e, h1, h2, h3⟩
        · refine .inl ⟨e, fun i hi => ?_⟩
          rcases Nat.lt_or_ge i j with c | c
          · exact h2 i c
          · rw [show i = j by omega]; exact q
        · refine .inr ⟨n, by omega, e, h1, h2, fun i hi hi2 => ?_⟩
          rcases Nat.lt_or_ge i j with c | c
          · exact h3 i c hi2
          · rw [show i = j by omega] at hi2; exact absurd q hi2
      · exact (ok.op ⟨by omega, hj⟩).1
      · have o := ok.op (i := (j : Int)) ⟨by omega, hj⟩
        have so := ok.sets (i := (j : Int)) ⟨by omega, hj⟩
        have d1 := so.2.1
        have d2 := so.2.2
        unfold opOf at d1 d2
        rw [w64 (n := (gt l (j : Int)).start + (gt t.ops (gt l (j : Int)).op).dur) (by omega)]
        have := timed_J2 p hlen (by omega) q sel
        rw [cur, if_neg (by omega)] at this
        exact this
      · have hv := p.val j (by omega)
        have := timed_J2 p hlen (by omega) q sel
        rw [cur, if_pos (by omega)] at this
        exact this
      · have e : j = l.length := by omega
        subst e
        have hd0 : (sp_happenings t l).drop k = gt (sp_happenings t l) (k : Int) :: (sp_happenings t l).drop (k + 1) := by
          have h2 := drop_gt (xs := sp_happenings t l) (i := (k : Int)) ⟨by omega, by omega⟩
          rwa [Int.toNat_natCast, show ((k : Int) + 1).toNat = k + 1 by omega] at h2
        have p' := p
        rw [hd0] at p'
        obtain ⟨i0, hi0, i1, i2⟩ := p'.head ok
        rcases sel with ⟨_, h2⟩ | ⟨n, hn', rfl, h1, rfl, h3⟩
        · exact absurd (h2 i0 hi0) i1
        · have hcur : gt (sp_happenings t l) (k : Int) = cur t l phase n := by
            rcases List.mem_cons.1 (p'.cur_mem hn' h1) with c | c
            · exact c.symm
            · have := (List.pairwise_cons.1 p'.srt).1 _ c
              rw [i2] at this
              exact absurd this (h3 i0 hi0 i1)
          rw [hcur] at hd0
          have hidx : inb l (cur t l phase n).index := by rw [cur_index]; exact ⟨by omega, by omega⟩
          obtain ⟨s1, s2, s3⟩ := pick_sets ok hidx
          have hset := changed_set (n := t.facts) hn.1 s (hadd t l (cur t l phase n)) (hdel t l (cur t l phase n))
          change sp_isSet (hnext t l s (cur t l phase n)) t.facts = true at hset
          have he := k4
          rw [hd0, runH_cons, cur_index, Int.toNat_natCast] at he
          have l1 := set_lenK hn k2
          have l2 := set_lenK hn s1
          have l3 := set_lenK hn s2
          have l4 := set_lenK hn s3
          have J := fun (q : sp_subset (hpre t l (cur t l phase n)) s = true) => timed_J4 ok (now := now) hn' h1 (by omega) hd0 p hset (by rwa [if_pos q] at he)
          refine ⟨⟨by omega, by omega⟩, (ok.op ⟨by omega, by omega⟩).1, ⟨by omega, by rw [p.len]; omega⟩, fun q => ?_, fun q => ?_⟩
          · have e1 : hpre t l (cur t l phase n) = (gt t.ops (gt l (n : Int)).op).atStart := by rw [hpre, cur_index, cur, if_pos q]; rfl
            have e2 : hadd t l (cur t l phase n) = (gt t.ops (gt l (n : Int)).op).addStart := by rw [hadd, cur_index, cur, if_pos q]; rfl
            have e3 : hdel t l (cur t l phase n) = (gt t.ops (gt l (n : Int)).op).delStart := by rw [hdel, cur_index, cur, if_pos q]; rfl
            rw [e1] at l2 J he
            rw [e2] at l3
            rw [e3] at l4
            refine ⟨⟨by omega, by omega⟩, fun g => ?_, fun g => ⟨⟨hn.1, by omega, by omega, by omega, by omega⟩, ?_⟩⟩
            · rw [if_neg (by rw [g]; decide)] at he; exact he
            · have := J g
              unfold hnext at this
              rw [e2, e3] at this
              exact this
          · have e1 : hpre t l (cur t l phase n) = (gt t.ops (gt l (n : Int)).op).atEnd := by rw [hpre, cur_index, cur, if_neg q]; rfl
            have e2 : hadd t l (cur t l phase n) = (gt t.ops (gt l (n : Int)).op).addEnd := by rw [hadd, cur_index, cur, if_neg q]; rfl
            have e3 : hdel t l (cur t l phase n) = (gt t.ops (gt l (n : Int)).op).delEnd := by rw [hdel, cur_index, cur, if_neg q]; rfl
            rw [e1] at l2 J he
            rw [e2] at l3
            rw [e3] at l4
            refine ⟨⟨by omega, by omega⟩, fun g => ?_, fun g => ⟨⟨hn.1, by omega, by omega, by omega, by omega⟩, ?_⟩⟩
            · rw [if_neg (by rw [g]; decide)] at he; exact he
            · have := J g
              unfold hnext at this
              rw [e2, e3] at this
              exact this
    · rw [List.drop_of_length_le (by omega)] at k4
      unfold runH at k4
      refine ⟨⟨by have := set_lenK hn ok.task.goal; omega, by have := set_lenK hn k2; omega⟩, fun q => ?_, fun q => ?_⟩
      · rw [if_neg (by simpa using q)] at k4; exact k4
      · rw [if_pos (by simpa using q)] at k4; exact k4
end Go.Proofs.Ytaenggfmpagjgaa.Pl
