/- Operators as single steps; schedules without gaps. Plain Lean. No condition. -/
import Derived.Test.YtaenggfmpagjgaaD4
namespace Go.Proofs.Ytaenggfmpagjgaa.Pl
open Go Go.RowKit
theorem ok_minus : ∀ (a : List Int) (b : List Int), pre_minus a b → F_minus a b (fun r => r = sp_minus a b) := fun _ _ hp => ⟨hp, fun _ hr => hr⟩
theorem ok_union : ∀ (a : List Int) (b : List Int), pre_union a b → F_union a b (fun r => r = sp_union a b) := fun _ _ hp => ⟨hp, fun _ hr => hr⟩
theorem update_set {n : Int} (hn : 0 ≤ n) {s add : List Int} (del : List Int) (hs : sp_isSet s n = true) (ha : sp_isSet add n = true) : sp_isSet (sp_update s add del) n = true := by
  rw [update_changed hn hs ha]; exact changed_set hn _ _ _
theorem nil_set (n : Int) : sp_isSet [] n = true := decide_eq_true ⟨List.Pairwise.nil, fun _ h => by cases h⟩
theorem union_set {n : Int} (hn : 0 ≤ n) {a b : List Int} (ha : sp_isSet a n = true) (hb : sp_isSet b n = true) : sp_isSet (sp_union a b) n = true := update_set hn _ ha hb
theorem minus_set {n : Int} (hn : 0 ≤ n) {a : List Int} (b : List Int) (ha : sp_isSet a n = true) : sp_isSet (sp_minus a b) n = true := update_set hn _ ha (nil_set n)
theorem mem_union {a b : List Int} {x : Int} : x ∈ sp_union a b ↔ x ∈ a ∨ x ∈ b := by
  rw [sp_union, mem_update]; simp
theorem mem_minus {a b : List Int} {x : Int} : x ∈ sp_minus a b ↔ x ∈ a ∧ x ∉ b := by
  rw [sp_minus, mem_update]; simp
theorem meets_iff {a b : List Int} : sp_meets a b = true ↔ ∃ x ∈ a, x ∈ b := by
  unfold sp_meets
  rw [List.any_eq_true]
  simp only [decide_eq_true_eq]
theorem ok_sequence : ∀ (t : TTask), F_sequence t (fun r => r = sp_sequence t) := fun t => by
  unfold F_sequence F_sequence_J1
  simp only [forall_eq, fault_ne, fault_eq]
  refine ⟨fun h => by rw [sp_sequence, if_neg h], fun h0 => ?_⟩
  have ok := ttaskOK_of h0
  have hn := ok.facts
  have hlen := ok.len
  have li := set_lenK hn ok.init
  have lg := set_lenK hn ok.goal
  refine ⟨show t.init.length ≤ 1000 by omega, show t.goal.length ≤ 1000 by omega, fun i l => ∃ k : Nat, i = k ∧ k ≤ t.ops.length ∧ l = (t.ops.take k).map (seqOp t), fun i _ => (t.ops.length - i).toNat, ⟨0, rfl, by omega, rfl⟩, ?_⟩
  rintro _ l ⟨k, rfl, k1, k2⟩
  have hl : l.length ≤ 40 := by rw [k2, List.length_map, List.length_take]; omega
  unfold F_sequence_L1
  simp only [decide_eq_true_eq, decide_eq_false_iff_not, forall_eq]
  refine ⟨fun h => ?_, fun h => ?_⟩
  · have hi : inb t.ops (k : Int) := ⟨by omega, h⟩
    obtain ⟨so, _⟩ := ok.op hi
    have u1 := union_set hn.1 so.over so.atEnd
    have u2 := minus_set hn.1 (gt t.ops (k : Int)).addStart u1
    have u3 := union_set hn.1 so.atStart u2
    have u4 := update_set hn.1 (gt t.ops (k : Int)).delEnd so.addStart so.addEnd
    have u5 := union_set hn.1 so.delStart so.delEnd
    have l3 := set_lenK hn u3
    have J2 : ∀ pre, pre = seqPre t (gt t.ops (k : Int)) → F_sequence_J2 t pre (k : Int) l (fun i l => ∃ k : Nat, i = k ∧ k ≤ t.ops.length ∧ l = (t.ops.take k).map (seqOp t)) (fun i _ => (t.ops.length - i).toNat) := fun pre hp => by
      subst hp
      unfold F_sequence_J2
      simp only [forall_eq]
      rw [w64 (n := (k : Int) + 1) (by omega)]
      refine ⟨update_pre hn so.addStart so.addEnd so.delEnd, update_pre hn so.delStart so.delEnd (nil_set _), update_pre hn u5 (nil_set _) u4, ⟨by rw [List.length_append]; simp only [maxLen, List.length_singleton]; omega, by rw [List.length_append]; simp only [List.length_singleton]; omega⟩, ⟨k + 1, by omega, by omega, ?_⟩, by omega⟩
      rw [takeN_gt (by omega), List.map_append, ← k2]; rfl
    refine ⟨hi, update_pre hn so.over so.atEnd (nil_set _), update_pre hn u1 (nil_set _) so.addStart, update_pre hn so.atStart u2 (nil_set _), ⟨by have := set_lenK hn u1; omega, set_sorted so.delStart, by have := set_lenK hn so.delStart; omega⟩, fun q => ⟨⟨by rw [List.length_append]; simp only [maxLen, List.length_singleton]; omega, by rw [List.length_append]; simp only [List.length_singleton]; omega⟩, J2 _ ?_⟩, fun q => J2 _ ?_⟩
    · rw [seqPre, if_pos q]
    · rw [seqPre, if_neg (by rw [q]; decide), List.append_nil]
  · have e : k = t.ops.length := by omega
    rw [e, List.take_length] at k2
    rw [w64 (n := t.facts + 1) (by omega), sp_sequence, if_pos h0, sp_sequenced, k2]; rfl
/-- the first facts with a property -/
def fil (f : Int → Bool) (q : Nat) : List Int := (allS q).filter f
theorem fil_pos {f : Int → Bool} {q : Nat} (h : f q = true) : fil f (q + 1) = fil f q ++ [(q : Int)] := by
  unfold fil; rw [allS_succ, List.filter_append, filter1_pos h]
theorem fil_neg {f : Int → Bool} {q : Nat} (h : f q = false) : fil f (q + 1) = fil f q := by
  unfold fil; rw [allS_succ, List.filter_append, filter1_neg h, List.append_nil]
theorem fil_len (f : Int → Bool) (q : Nat) : (fil f q).length ≤ q := Nat.le_trans (List.length_filter_le _ _) (by rw [allS_len]; exact Nat.le_refl _)
theorem fil_sorted (f : Int → Bool) (q : Nat) : (fil f q).Pairwise (· < ·) := (allS_sorted _).filter _
theorem mem_fil {f : Int → Bool} {q : Nat} {x : Int} : x ∈ fil f q ↔ (0 ≤ x ∧ x < q) ∧ f x = true := by
  unfold fil; rw [List.mem_filter, mem_allS]
def fany (f : Int → Bool) (q : Nat) : Bool := (allS q).any f
theorem fany_succ (f : Int → Bool) (q : Nat) : fany f (q + 1) = (fany f q || f q) := by
  unfold fany; rw [allS_succ, List.any_append]; simp
def qP (o : TOp) (p : Int) : Bool := decide (p ∈ o.atStart) || ((decide (p ∈ o.over) || decide (p ∈ o.atEnd)) && !decide (p ∈ o.addStart))
def qN (o : TOp) (p : Int) : Bool := (decide (p ∈ o.over) || decide (p ∈ o.atEnd)) && decide (p ∈ o.delStart)
def qA (n : Int) (o : TOp) (p : Int) : Bool := decide (p ∈ sp_changed n (sp_changed n [] o.addStart o.delStart) o.addEnd o.delEnd)
def qD (n : Int) (o : TOp) (p : Int) : Bool := !decide (p ∈ sp_changed n (sp_changed n [p] o.addStart o.delStart) o.addEnd o.delEnd)
def SqI (t : TTask) (o : TOp) (never : Bool) (p : Int) (l3 l4 l5 : List Int) : Prop :=
  ∃ q : Nat, p = q ∧ (q : Int) ≤ t.facts ∧ l3 = fil (qP o) q ∧ l4 = fil (qA t.facts o) q ∧ l5 = fil (qD t.facts o) q ∧ never = fany (qN o) q
def SqM (t : TTask) (_ : Bool) (p : Int) (_ _ _ : List Int) : Nat := (t.facts - p).toNat
theorem changed_len {n : Int} (hn : 0 ≤ n ∧ n ≤ 23) (s a d : List Int) : (sp_changed n s a d).length ≤ 1000 := by
  have := set_lenK hn (changed_set hn.1 s a d); omega
theorem roomI {l : List Int} {q : Nat} {x : Int} (h : l.length ≤ q) (hq : q ≤ 100) : room ((l ++ ([x] : List Int))).length 8 :=
  ⟨by rw [List.length_append]; simp only [maxLen, List.length_singleton]; omega, by rw [List.length_append]; simp only [List.length_singleton]; omega⟩
theorem seq_J1 {t : TTask} {o : TOp} (hn : 0 ≤ t.facts ∧ t.facts ≤ 23) {q : Nat} (hq : (q : Int) < t.facts) (never : Bool) (l3 l4 l5 : List Int) : F_sequenced_J1 never l3 l4 l5 (q : Int) (fany (qN o) (q + 1)) (SqI t o) (SqM t) (fil (qP o) (q + 1)) (fil (qA t.facts o) (q + 1)) (fil (qD t.facts o) (q + 1)) := by
  unfold F_sequenced_J1 SqM
  rw [w64 (n := (q : Int) + 1) (by omega)]
  exact ⟨⟨q + 1, by omega, by omega, rfl, rfl, rfl, rfl⟩, by omega⟩
theorem seq_J6 {t : TTask} {o : TOp} (hn : 0 ≤ t.facts ∧ t.facts ≤ 23) {q : Nat} (hq : (q : Int) < t.facts) (never : Bool) (l3 l4 : List Int) {b : Bool} (hb : qD t.facts o q = !b) : F_sequenced_J6 never b l3 l4 (fil (qD t.facts o) q) (q : Int) (SqI t o) (SqM t) (fany (qN o) (q + 1)) (fil (qP o) (q + 1)) (fil (qA t.facts o) (q + 1)) := by
  unfold F_sequenced_J6
  have J := seq_J1 (o := o) hn hq never l3 l4 (fil (qD t.facts o) q)
  refine ⟨fun h => ⟨roomI (fil_len _ _) (by omega), ?_⟩, fun h => ?_⟩
  · rw [fil_pos (f := qD t.facts o) (hb.trans h)] at J; exact J
  · rw [fil_neg (f := qD t.facts o) (hb.trans h)] at J; exact J
theorem seq_J5 {t : TTask} {i : Int} (ok : TTaskOK t) (hi : inb t.ops i) {q : Nat} (hq : (q : Int) < t.facts) (never : Bool) (l3 : List Int) {nv : Bool} (hnv : nv = fany (qN (gt t.ops i)) (q + 1)) : F_sequenced_J5 t never l3 (fil (qA t.facts (gt t.ops i)) q) (fil (qD t.facts (gt t.ops i)) q) (q : Int) (SqI t (gt t.ops i)) (SqM t) nv (fil (qP (gt t.ops i)) (q + 1)) i := by
  subst hnv
  have hn := ok.facts
  obtain ⟨so, _⟩ := ok.op hi
  have l4 := set_lenK hn so.addStart
  have l5 := set_lenK hn so.delStart
  have l6 := set_lenK hn so.addEnd
  have l7 := set_lenK hn so.delEnd
  have cl := changed_len hn
  unfold F_sequenced_J5
  simp only [forall_eq, sp_has]
  have hb : qD t.facts (gt t.ops i) (q : Int) = !decide ((q : Int) ∈ sp_changed t.facts (sp_changed t.facts [(q : Int)] (gt t.ops i).addStart (gt t.ops i).delStart) (gt t.ops i).addEnd (gt t.ops i).delEnd) := rfl
  have J := seq_J6 (o := gt t.ops i) hn hq never l3 (fil (qA t.facts (gt t.ops i)) q) hb
  refine ⟨⟨hn.1, by omega, by simp, by omega, by omega⟩, ⟨hn.1, by omega, cl _ _ _, by omega, by omega⟩, cl _ _ _, ⟨hn.1, by omega, by simp, by omega, by omega⟩, ⟨hn.1, by omega, cl _ _ _, by omega, by omega⟩, cl _ _ _, fun h => ⟨roomI (fil_len _ _) (by omega), ?_⟩, fun h => ?_⟩
  · rw [fil_pos (f := qA t.facts (gt t.ops i)) h] at J; exact J
  · rw [fil_neg (f := qA t.facts (gt t.ops i)) h] at J; exact J
theorem seq_J4 {t : TTask} {i : Int} (ok : TTaskOK t) (hi : inb t.ops i) {q : Nat} (hq : (q : Int) < t.facts) (l3 : List Int) {later : Bool} (hlt : later = (decide ((q : Int) ∈ (gt t.ops i).over) || decide ((q : Int) ∈ (gt t.ops i).atEnd))) : F_sequenced_J4 t later (fany (qN (gt t.ops i)) q) l3 (fil (qA t.facts (gt t.ops i)) q) (fil (qD t.facts (gt t.ops i)) q) (q : Int) (SqI t (gt t.ops i)) (SqM t) (fil (qP (gt t.ops i)) (q + 1)) i := by
  obtain ⟨so, _⟩ := ok.op hi
  have l5 := set_lenK ok.facts so.delStart
  have hN : fany (qN (gt t.ops i)) (q + 1) = (fany (qN (gt t.ops i)) q || (later && decide ((q : Int) ∈ (gt t.ops i).delStart))) := by
    rw [fany_succ, hlt]; rfl
  unfold F_sequenced_J4
  simp only [forall_eq, sp_has]
  refine ⟨fun h => ?_, fun h => ⟨fun h2 => ⟨show _ ≤ 1000 by omega, ?_⟩, fun h2 => ?_⟩⟩
  · exact seq_J5 ok hi hq _ l3 (by rw [hN, h]; rfl)
  · exact seq_J5 ok hi hq _ l3 (by rw [hN, h, h2]; rfl)
  · exact seq_J5 ok hi hq _ l3 (by rw [hN, h, h2]; rfl)
theorem seq_J3 {t : TTask} {i : Int} (ok : TTaskOK t) (hi : inb t.ops i) {q : Nat} (hq : (q : Int) < t.facts) {later b : Bool} (hlt : later = (decide ((q : Int) ∈ (gt t.ops i).over) || decide ((q : Int) ∈ (gt t.ops i).atEnd))) (hb : qP (gt t.ops i) q = b) : F_sequenced_J3 t later b (fany (qN (gt t.ops i)) q) (fil (qP (gt t.ops i)) q) (fil (qA t.facts (gt t.ops i)) q) (fil (qD t.facts (gt t.ops i)) q) (q : Int) (SqI t (gt t.ops i)) (SqM t) i := by
  have hn := ok.facts
  have J := seq_J4 ok hi hq (fil (qP (gt t.ops i)) q) hlt
  unfold F_sequenced_J3
  refine ⟨fun h => ⟨roomI (fil_len _ _) (by omega), ?_⟩, fun h => ?_⟩
  · rw [fil_pos (f := qP (gt t.ops i)) (hb.trans h)] at J; exact J
  · rw [fil_neg (f := qP (gt t.ops i)) (hb.trans h)] at J; exact J
theorem seq_J2 {t : TTask} {i : Int} (ok : TTaskOK t) (hi : inb t.ops i) {q : Nat} (hq : (q : Int) < t.facts) {later : Bool} (hlt : later = (decide ((q : Int) ∈ (gt t.ops i).over) || decide ((q : Int) ∈ (gt t.ops i).atEnd))) : F_sequenced_J2 t later (fany (qN (gt t.ops i)) q) (fil (qP (gt t.ops i)) q) (fil (qA t.facts (gt t.ops i)) q) (fil (qD t.facts (gt t.ops i)) q) (q : Int) (SqI t (gt t.ops i)) (SqM t) i := by
  obtain ⟨so, _⟩ := ok.op hi
  have l1 := set_lenK ok.facts so.atStart
  have l4 := set_lenK ok.facts so.addStart
  have hP : qP (gt t.ops i) (q : Int) = (decide ((q : Int) ∈ (gt t.ops i).atStart) || (later && !decide ((q : Int) ∈ (gt t.ops i).addStart))) := by rw [hlt]; rfl
  unfold F_sequenced_J2
  simp only [forall_eq, sp_has]
  refine ⟨show _ ≤ 1000 by omega, fun h => ?_, fun h => ⟨fun h2 => ⟨show _ ≤ 1000 by omega, ?_⟩, fun h2 => ?_⟩⟩
  · exact seq_J3 ok hi hq hlt (by rw [hP, h]; rfl)
  · exact seq_J3 ok hi hq hlt (by rw [hP, h, h2]; rfl)
  · exact seq_J3 ok hi hq hlt (by rw [hP, h, h2]; rfl)
theorem seq_all {t : TTask} {o : TOp} (hn : 0 ≤ t.facts) (so : SetsOK o t.facts) : (⟨fil (qP o) t.facts.toNat ++ (if fany (qN o) t.facts.toNat = true then [t.facts] else []), fil (qA t.facts o) t.facts.toNat, fil (qD t.facts o) t.facts.toNat, 0⟩ : Operator) = seqOp t o := by
  have hz : ((t.facts.toNat : Nat) : Int) = t.facts := Int.toNat_of_nonneg hn
  have e1 : fil (qP o) t.facts.toNat = sp_union o.atStart (sp_minus (sp_union o.over o.atEnd) o.addStart) := by
    refine sorted_ext _ _ (fil_sorted _ _) (update_sorted _ _ _) fun x => ?_
    rw [mem_fil, hz, mem_union, mem_minus, mem_union]
    simp only [qP, Bool.or_eq_true, Bool.and_eq_true, Bool.not_eq_true', decide_eq_true_eq, decide_eq_false_iff_not]
    constructor
    · exact fun h => h.2
    · intro h
      refine ⟨?_, h⟩
      rcases h with h | ⟨h | h, _⟩
      · exact set_rng so.atStart x h
      · exact set_rng so.over x h
      · exact set_rng so.atEnd x h
  have e2 : fany (qN o) t.facts.toNat = sp_meets (sp_union o.over o.atEnd) o.delStart := by
    rw [Bool.eq_iff_iff, meets_iff, fany, List.any_eq_true]
    constructor
    · rintro ⟨x, _, hx⟩
      simp only [qN, Bool.or_eq_true, Bool.and_eq_true, decide_eq_true_eq] at hx
      exact ⟨x, mem_union.2 hx.1, hx.2⟩
    · rintro ⟨x, h1, h2⟩
      refine ⟨x, mem_allS.2 (by rw [hz]; exact set_rng so.delStart x h2), ?_⟩
      simp only [qN, Bool.or_eq_true, Bool.and_eq_true, decide_eq_true_eq]
      exact ⟨mem_union.1 h1, h2⟩
  have e3 : fil (qA t.facts o) t.facts.toNat = sp_update o.addStart o.addEnd o.delEnd := by
    refine sorted_ext _ _ (fil_sorted _ _) (update_sorted _ _ _) fun x => ?_
    rw [mem_fil, hz, mem_update]
    simp only [qA, decide_eq_true_eq, mem_changed hn, List.not_mem_nil, false_and, or_false]
    constructor
    · rintro ⟨_, _, h | ⟨⟨_, h⟩, h2⟩⟩
      · exact .inr h
      · exact .inl ⟨h, h2⟩
    · rintro (⟨h, h2⟩ | h)
      · have := set_rng so.addStart x h; exact ⟨this, this, .inr ⟨⟨this, h⟩, h2⟩⟩
      · have := set_rng so.addEnd x h; exact ⟨this, this, .inl h⟩
  have e4 : fil (qD t.facts o) t.facts.toNat = sp_minus (sp_union o.delStart o.delEnd) (sp_update o.addStart o.addEnd o.delEnd) := by
    refine sorted_ext _ _ (fil_sorted _ _) (update_sorted _ _ _) fun x => ?_
    rw [mem_fil, hz, mem_minus, mem_union, mem_update]
    simp only [qD, Bool.not_eq_true', decide_eq_false_iff_not, mem_changed hn, List.mem_singleton, true_and]
    constructor
    · rintro ⟨hr, h⟩
      by_cases a1 : x ∈ o.addEnd
      · exact absurd ⟨hr, .inl a1⟩ h
      · by_cases a2 : x ∈ o.delEnd
        · exact ⟨.inr a2, fun g => g.elim (fun g => g.2 a2) a1⟩
        · have a3 : ¬ (x ∈ o.addStart ∨ x ∉ o.delStart) := fun g => h ⟨hr, .inr ⟨⟨hr, g⟩, a2⟩⟩
          have a4 : x ∈ o.delStart := Classical.byContradiction fun g => a3 (.inr g)
          exact ⟨.inl a4, fun g => g.elim (fun g => a3 (.inl g.1)) a1⟩
    · rintro ⟨h1, h2⟩
      have hr : 0 ≤ x ∧ x < t.facts := h1.elim (set_rng so.delStart x) (set_rng so.delEnd x)
      refine ⟨hr, fun ⟨_, g⟩ => ?_⟩
      rcases g with g | ⟨⟨_, g⟩, g2⟩
      · exact h2 (.inr g)
      · rcases g with g | g
        · exact h2 (.inl ⟨g, g2⟩)
        · rcases h1 with h1 | h1
          · exact g h1
          · exact g2 h1
  unfold seqOp seqPre
  rw [e1, e2, e3, e4]
theorem ok_sequenced : ∀ (t : TTask), pre_sequenced t → F_sequenced t (fun r => r = sp_sequenced t) := fun t h0 => by
  have ok := ttaskOK_of h0
  have hn := ok.facts
  have hlen := ok.len
  refine ⟨fun i l => ∃ k : Nat, i = k ∧ k ≤ t.ops.length ∧ l = (t.ops.take k).map (seqOp t), fun i _ => (t.ops.length - i).toNat, ⟨0, rfl, by omega, rfl⟩, ?_⟩
  rintro _ l ⟨k, rfl, k1, k2⟩
  have hl : l.length ≤ 40 := by rw [k2, List.length_map, List.length_take]; omega
  unfold F_sequenced_L1
  simp only [decide_eq_true_eq, decide_eq_false_iff_not]
  refine ⟨fun h => ?_, fun h => ?_⟩
  · have hi : inb t.ops (k : Int) := ⟨by omega, h⟩
    obtain ⟨so, _⟩ := ok.op hi
    have l2 := set_lenK hn so.over
    have l3' := set_lenK hn so.atEnd
    refine ⟨hi, SqI t (gt t.ops (k : Int)), SqM t, ⟨0, rfl, by omega, rfl, rfl, rfl, rfl⟩, ?_⟩
    rintro never _ _ _ _ ⟨q, rfl, q1, rfl, rfl, rfl, rfl⟩
    unfold F_sequenced_L2
    simp only [decide_eq_true_eq, decide_eq_false_iff_not, forall_eq, sp_has]
    refine ⟨fun hq => ⟨show _ ≤ 1000 by omega, fun g => ?_, fun g => ⟨show _ ≤ 1000 by omega, ?_⟩⟩, fun hq => ?_⟩
    · exact seq_J2 ok hi hq (by rw [decide_eq_true g]; rfl)
    · exact seq_J2 ok hi hq (by rw [decide_eq_false g]; rfl)
    · have e : q = t.facts.toNat := by omega
      subst e
      have fin : ∀ pre, pre = fil (qP (gt t.ops (k : Int))) t.facts.toNat ++ (if fany (qN (gt t.ops (k : Int))) t.facts.toNat = true then [t.facts] else []) → F_sequenced_J7 l (fil (qA t.facts (gt t.ops (k : Int))) t.facts.toNat) (fil (qD t.facts (gt t.ops (k : Int))) t.facts.toNat) (k : Int) (fun i l => ∃ k : Nat, i = k ∧ k ≤ t.ops.length ∧ l = (t.ops.take k).map (seqOp t)) (fun i _ => (t.ops.length - i).toNat) pre := fun pre hp => by
        subst hp
        unfold F_sequenced_J7
        rw [w64 (n := (k : Int) + 1) (by omega), seq_all hn.1 so]
        refine ⟨⟨by rw [List.length_append]; simp only [maxLen, List.length_singleton]; omega, by rw [List.length_append]; simp only [List.length_singleton]; omega⟩, ⟨k + 1, by omega, by omega, ?_⟩, by dsimp only; omega⟩
        rw [takeN_gt (by omega), List.map_append, ← k2]; rfl
      refine ⟨fun g => ⟨roomI (fil_len _ _) (by omega), fin _ (by rw [if_pos g])⟩, fun g => fin _ (by rw [if_neg (by rw [g]; decide), List.append_nil])⟩
  · have e : k = t.ops.length := by omega
    rw [e, List.take_length] at k2
    rw [w64 (n := t.facts + 1) (by omega), sp_sequenced, k2]
theorem lineN_succ (t : TTask) (plan : List Int) (k : Nat) : lineN t plan (k + 1) = lineN t plan k ++ [⟨gt plan (k : Int), durSum t plan k⟩] := by
  unfold lineN
  rw [List.range_succ, List.map_append]; rfl
theorem lineN_len (t : TTask) (plan : List Int) (k : Nat) : (lineN t plan k).length = k := by simp [lineN]
theorem planRng_good {t : TTask} {plan : List Int} {k : Nat} (h : 0 ≤ gt plan (k : Int) ∧ gt plan (k : Int) < t.ops.length) : planRng t plan k = ⟨0, 0⟩ := by rw [planRng, if_pos h]
theorem planRng_bad {t : TTask} {plan : List Int} {k : Nat} (h : ¬ (0 ≤ gt plan (k : Int) ∧ gt plan (k : Int) < t.ops.length)) : planRng t plan k = ⟨3, -6 - k⟩ := by rw [planRng, if_neg h]
theorem planRng_zero {t : TTask} {plan : List Int} {k : Nat} (h : planRng t plan k = ⟨0, 0⟩) : inb t.ops (gt plan (k : Int)) := by
  by_cases g : 0 ≤ gt plan (k : Int) ∧ gt plan (k : Int) < t.ops.length
  · exact g
  · rw [planRng_bad g] at h; exact absurd h (fault_mk (by decide))
theorem durSum_bounds {t : TTask} (ok : TTaskOK t) {plan : List Int} : ∀ k : Nat, (∀ j, j < k → planRng t plan j = ⟨0, 0⟩) → (k : Int) ≤ durSum t plan k ∧ durSum t plan k ≤ 1000 * k
  | 0, _ => by unfold durSum; omega
  | k + 1, h => by
    obtain ⟨h1, h2⟩ := durSum_bounds ok k fun j hj => h j (by omega)
    obtain ⟨_, d1, d2⟩ := ok.op (planRng_zero (h k (by omega)))
    unfold durSum
    omega
theorem ok_line : ∀ (t : TTask) (plan : List Int), F_line t plan (fun r => r = sp_line t plan) := fun t plan => by
  unfold F_line
  simp only [forall_eq, fault_ne, fault_eq, decide_eq_true_eq, decide_eq_false_iff_not]
  have bad : sp_lineFault t plan ≠ ⟨0, 0⟩ → (([] : List Occ), sp_lineFault t plan) = sp_line t plan := fun h => by rw [sp_line, if_neg h]
  refine ⟨fun h => ?_, fun h0 => ⟨fun h => ?_, fun h1 => ?_⟩⟩
  · have e : sp_lineFault t plan = sp_tvalidate t := by rw [sp_lineFault, if_neg h]
    rw [← e]; exact bad (by rw [e]; exact h)
  · have e : sp_lineFault t plan = ⟨2, -5⟩ := by rw [sp_lineFault, if_pos h0, if_pos (by omega)]
    rw [← e]; exact bad (by rw [e]; exact fault_mk (by decide))
  · have ok := ttaskOK_of h0
    have hlen := ok.len
    refine ⟨fun a i out => ∃ k : Nat, i = k ∧ k ≤ plan.length ∧ a = durSum t plan k ∧ out = lineN t plan k ∧ ∀ j, j < k → planRng t plan j = ⟨0, 0⟩, fun _ i _ => (plan.length - i).toNat, ⟨0, rfl, by omega, rfl, rfl, fun j hj => by omega⟩, ?_⟩
    rintro _ _ _ ⟨k, rfl, k1, rfl, rfl, k2⟩
    have hd := durSum_bounds ok k k2
    have badk : ¬ (0 ≤ gt plan (k : Int) ∧ gt plan (k : Int) < t.ops.length) → (k : Int) < plan.length → ∀ I μ, F_line_J1 t plan (fun r => r = sp_line t plan) true (durSum t plan k) (k : Int) (lineN t plan k) I μ := fun g h I μ => by
      unfold F_line_J1
      refine ⟨fun _ => ?_, fun g => absurd g (by decide)⟩
      have e : sp_lineFault t plan = ⟨3, -6 - k⟩ := by rw [sp_lineFault, if_pos h0, if_neg (by omega), ffirst_hit (i := k) (by omega) k2 (by rw [planRng_bad g]; exact fault_mk (by decide)), planRng_bad g]
      rw [w64 (by omega), ← e]; exact bad (by rw [e]; exact fault_mk (by decide))
    unfold F_line_L1
    simp only [decide_eq_true_eq, decide_eq_false_iff_not]
    refine ⟨fun h => ⟨⟨by omega, h⟩, fun g => badk (by omega) h _ _, fun g => ?_⟩, fun h => ?_⟩
    · by_cases g2 : ((t.ops.length : Nat) : Int) ≤ gt plan (k : Int)
      · rw [decide_eq_true g2]; exact badk (by omega) h _ _
      · rw [decide_eq_false g2]
        have hin : inb t.ops (gt plan (k : Int)) := ⟨by omega, by omega⟩
        obtain ⟨_, d1, d2⟩ := ok.op hin
        unfold F_line_J1
        refine ⟨fun g => absurd g (by decide), fun _ => ?_⟩
        rw [w64 (n := (k : Int) + 1) (by omega), w64 (n := durSum t plan k + (gt t.ops (gt plan (k : Int))).dur) (by omega)]
        have e := lineN_succ t plan k
        refine ⟨⟨by rw [← e, lineN_len]; simp only [maxLen]; omega, by rw [← e, lineN_len]; omega⟩, hin, ⟨k + 1, by omega, by omega, rfl, e.symm, zero_next k2 (planRng_good ⟨by omega, by omega⟩)⟩, by dsimp only; omega⟩
    · have e : k = plan.length := by omega
      subst e
      have e : sp_lineFault t plan = ⟨0, 0⟩ := by rw [sp_lineFault, if_pos h0, if_neg (by omega), ffirst_none k2]
      rw [sp_line, if_pos e]
theorem ok_occurs : ∀ (a : List Occ) (b : List Occ), pre_occurs a b → F_occurs a b (fun r => r = sp_occurs a b) := fun a b hp => by
  unfold pre_occurs at hp
  unfold F_occurs
  simp only [bne_iff_ne, ne_eq, bne_eq_false_iff_eq]
  refine ⟨fun h => ?_, fun h => ?_⟩
  · have : a ≠ b := fun e => h (by rw [e])
    simp [sp_occurs, this]
  · have hl : a.length = b.length := by omega
    refine ⟨fun t => ∃ k : Nat, t = k ∧ k ≤ a.length ∧ a.take k = b.take k, fun t => (a.length - t).toNat, ⟨0, rfl, Nat.zero_le _, by simp⟩, ?_⟩
    rintro _ ⟨k, rfl, k1, k2⟩
    unfold F_occurs_L1
    simp only [decide_eq_true_eq, decide_eq_false_iff_not, forall_eq, Bool.not_eq_true', Bool.not_eq_false', Bool.and_eq_true, Bool.and_eq_false_iff, beq_iff_eq, beq_eq_false_iff_ne]
    refine ⟨fun g => ⟨⟨by omega, g⟩, ⟨by omega, by omega⟩, fun q => ?_, fun q => ?_⟩, fun g => ?_⟩
    · have : a ≠ b := fun e => by subst e; simp at q
      simp [sp_occurs, this]
    · rw [w64 (by omega)]
      refine ⟨⟨k + 1, by omega, by omega, ?_⟩, by omega⟩
      rw [takeN_gt (by omega), takeN_gt (by omega), k2]
      have : gt a (k : Int) = gt b (k : Int) := by
        cases ha : gt a (k : Int); cases hb : gt b (k : Int)
        rw [ha, hb] at q
        simp only at q
        rw [q.1, q.2]
      rw [this]
    · rw [List.take_of_length_le (by omega), List.take_of_length_le (by omega)] at k2
      simp [sp_occurs, k2]
theorem op_ext {a b : Operator} (h1 : a.pre = b.pre) (h2 : a.add = b.add) (h3 : a.del = b.del) (h4 : a.cost = b.cost) : a = b := by
  cases a; cases b; simp only at h1 h2 h3 h4; subst h1; subst h2; subst h3; subst h4; rfl
theorem task_ext {a b : Task} (h1 : a.facts = b.facts) (h2 : a.init = b.init) (h3 : a.goal = b.goal) (h4 : a.ops = b.ops) : a = b := by
  cases a; cases b; simp only at h1 h2 h3 h4; subst h1; subst h2; subst h3; subst h4; rfl
theorem ok_planning : ∀ (a : Task) (b : Task), pre_planning a b → F_planning a b (fun r => r = sp_planning a b) := fun a b ⟨p1, p2, p3, p4⟩ => by
  have no : a ≠ b → F_planning_J1 a b (fun r => r = sp_planning a b) true := fun h => by
    unfold F_planning_J1
    exact ⟨fun _ => by simp [sp_planning, h], fun g => absurd g (by decide)⟩
  unfold F_planning
  simp only [forall_eq, bne_iff_ne, ne_eq, bne_eq_false_iff_eq, sp_numbers, Bool.not_eq_true', Bool.not_eq_false', decide_eq_true_eq, decide_eq_false_iff_not]
  refine ⟨fun h => no fun e => h (by rw [e]), fun h1 => ⟨p1, fun h => no fun e => h (by rw [e]), fun h2 => ⟨p2, fun h => no fun e => h (by rw [e]), fun h3 => ?_⟩⟩⟩
  by_cases hl : a.ops.length = b.ops.length
  · rw [show (((a.ops.length : Nat) : Int) != ((b.ops.length : Nat) : Int)) = false by rw [hl]; simp]
    unfold F_planning_J1
    refine ⟨fun g => absurd g (by decide), fun _ => ⟨fun t => ∃ k : Nat, t = k ∧ k ≤ a.ops.length ∧ a.ops.take k = b.ops.take k, fun t => (a.ops.length - t).toNat, ⟨0, rfl, Nat.zero_le _, by simp⟩, ?_⟩⟩
    rintro _ ⟨k, rfl, k1, k2⟩
    have nok : (k : Int) < a.ops.length → gt a.ops (k : Int) ≠ gt b.ops (k : Int) → ∀ I μ, F_planning_J2 (fun r => r = sp_planning a b) true (k : Int) I μ := fun h hne I μ => by
      unfold F_planning_J2
      refine ⟨fun _ => ?_, fun g => absurd g (by decide)⟩
      have : a ≠ b := fun e => hne (by rw [e])
      simp [sp_planning, this]
    unfold F_planning_L1
    simp only [forall_eq, decide_eq_true_eq, decide_eq_false_iff_not, sp_numbers, Bool.not_eq_true', Bool.not_eq_false']
    refine ⟨fun h => ?_, fun h => ?_⟩
    · obtain ⟨q1, q2, q3⟩ := p4 _ (gt_memN (xs := a.ops) (i := k) (by omega))
      refine ⟨⟨by omega, h⟩, ⟨by omega, by omega⟩, q1, fun g => nok h (fun e => g (by rw [e])) _ _, fun g1 => ⟨q2, fun g => nok h (fun e => g (by rw [e])) _ _, fun g2 => ⟨q3, fun g => nok h (fun e => g (by rw [e])) _ _, fun g3 => ?_⟩⟩⟩
      by_cases g4 : (gt a.ops (k : Int)).cost = (gt b.ops (k : Int)).cost
      · rw [show ((gt a.ops (k : Int)).cost != (gt b.ops (k : Int)).cost) = false by rw [g4]; simp]
        unfold F_planning_J2
        refine ⟨fun g => absurd g (by decide), fun _ => ?_⟩
        rw [w64 (by omega)]
        refine ⟨⟨k + 1, by omega, by omega, ?_⟩, by dsimp only; omega⟩
        rw [takeN_gt (by omega), takeN_gt (by omega), k2, op_ext g1 g2 g3 g4]
      · rw [show ((gt a.ops (k : Int)).cost != (gt b.ops (k : Int)).cost) = true by simp [g4]]
        exact nok h (fun e => g4 (by rw [e])) _ _
    · rw [List.take_of_length_le (by omega), List.take_of_length_le (by omega)] at k2
      simp [sp_planning, task_ext h1 h2 h3 k2]
  · rw [show (((a.ops.length : Nat) : Int) != ((b.ops.length : Nat) : Int)) = true by simp; omega]
    exact no fun e => hl (by rw [e])
theorem ok_timedT : F_timedT (fun r => r = sp_timedT) := rfl
end Go.Proofs.Ytaenggfmpagjgaa.Pl
