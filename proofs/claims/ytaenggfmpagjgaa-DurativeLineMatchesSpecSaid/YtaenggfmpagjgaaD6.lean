/- The laws of operators that take time. Plain Lean. No condition. -/
import Derived.Test.YtaenggfmpagjgaaD5
namespace Go.Proofs.Ytaenggfmpagjgaa.Pl
open Go Go.RowKit
/-! ### a schedule without gaps -/
theorem gt_lineN {t : TTask} {plan : List Int} {n k : Nat} (h : k < n) : gt (lineN t plan n) (k : Int) = ⟨gt plan (k : Int), durSum t plan k⟩ := by
  rw [gt_of ⟨by omega, by rw [lineN_len]; omega⟩]
  unfold lineN
  simp
structure LineOK (t : TTask) (plan : List Int) : Prop where
  task : TTaskOK t
  val : sp_tvalidate t = ⟨0, 0⟩
  len : plan.length ≤ 12
  rng : ∀ k, k < plan.length → planRng t plan k = ⟨0, 0⟩
theorem lineOK_of {t : TTask} {plan : List Int} (h : sp_lineFault t plan = ⟨0, 0⟩) : LineOK t plan := by
  unfold sp_lineFault at h
  split at h
  · rename_i h0
    split at h
    · exact absurd h (fault_mk (by decide))
    · rename_i h1
      exact ⟨ttaskOK_of h0, h0, by omega, ffirst_zero h⟩
  · rename_i h0; exact absurd h h0
theorem LineOK.op {t : TTask} {plan : List Int} (ok : LineOK t plan) {k : Nat} (h : k < plan.length) : inb t.ops (gt plan (k : Int)) := planRng_zero (ok.rng k h)
theorem line_sched {t : TTask} {plan : List Int} (ok : LineOK t plan) : sp_scheduleFault t (lineN t plan plan.length) = ⟨0, 0⟩ := by
  have := ok.len
  rw [sp_scheduleFault, if_pos ok.val, lineN_len, if_neg (by omega), ffirst_none fun k hk => ?_]
  refine occFault_good ?_
  rw [gt_lineN hk]
  have hb := durSum_bounds ok.task (plan := plan) k fun j hj => ok.rng j (by omega)
  have hi := ok.op hk
  exact ⟨hi.1, hi.2, by show 0 ≤ durSum t plan k; omega, by show durSum t plan k ≤ 1000000; omega⟩
theorem durSum_lt {t : TTask} {plan : List Int} (ok : LineOK t plan) : ∀ {i j : Nat}, i < j → j ≤ plan.length → durSum t plan i < durSum t plan j
  | i, 0, h, _ => by omega
  | i, j + 1, h, hj => by
    obtain ⟨_, d1, _⟩ := ok.task.op (ok.op (k := j) (by omega))
    have e : durSum t plan (j + 1) = durSum t plan j + (gt t.ops (gt plan (j : Int))).dur := rfl
    rcases Nat.lt_or_ge i j with c | c
    · have := durSum_lt ok c (by omega); omega
    · rw [show i = j by omega]; omega
theorem durSum_le {t : TTask} {plan : List Int} (ok : LineOK t plan) {i j : Nat} (h : i ≤ j) (hj : j ≤ plan.length) : durSum t plan i ≤ durSum t plan j := by
  rcases Nat.lt_or_ge i j with c | c
  · have := durSum_lt ok c hj; omega
  · rw [show i = j by omega]; exact Int.le_refl _
theorem opOf_lineN {t : TTask} {plan : List Int} {n k : Nat} (h : k < n) : opOf t (lineN t plan n) (k : Int) = gt t.ops (gt plan (k : Int)) := by
  unfold opOf; rw [gt_lineN h]
theorem hap2_line {t : TTask} {plan : List Int} {n k : Nat} (h : k < n) : hap2 t (lineN t plan n) k = [⟨durSum t plan k, k, false⟩, ⟨durSum t plan (k + 1), k, true⟩] := by
  unfold hap2
  rw [opOf_lineN h, gt_lineN h]; rfl
theorem haps_line_lt {t : TTask} {plan : List Int} (ok : LineOK t plan) : ∀ m, m ≤ plan.length → (haps t (lineN t plan plan.length) m).Pairwise hlt
  | 0, _ => List.Pairwise.nil
  | m + 1, h => by
    rw [haps_succ, List.pairwise_append]
    refine ⟨haps_line_lt ok m (by omega), ?_, fun a ha b hb => ?_⟩
    · rw [hap2_line (by omega)]
      refine List.pairwise_cons.2 ⟨fun b hb => ?_, List.pairwise_singleton _ _⟩
      rw [List.mem_singleton.1 hb]
      unfold hlt
      rw [hcmp_lt]
      exact .inl (durSum_lt ok (Nat.lt_succ_self m) h)
    · obtain ⟨i, hi, e⟩ := mem_haps.1 ha
      rw [hap2_line (by omega)] at hb
      have h1 := durSum_lt ok (i := i) (j := m) hi (by omega)
      have h2 := durSum_le ok (i := i + 1) (j := m) (by omega) (by omega)
      have h3 : durSum t plan m < durSum t plan (m + 1) := durSum_lt ok (Nat.lt_succ_self m) h
      have e1 : (gt (lineN t plan plan.length) (i : Int)).start = durSum t plan i := by rw [gt_lineN (by omega)]
      have e2 : (gt (lineN t plan plan.length) (i : Int)).start + (opOf t (lineN t plan plan.length) (i : Int)).dur = durSum t plan (i + 1) := by rw [opOf_lineN (by omega), gt_lineN (by omega)]; rfl
      rw [e2, e1] at e
      unfold hlt
      rw [hcmp_lt]
      simp only [List.mem_cons, List.not_mem_nil, or_false] at hb
      rcases e with rfl | rfl <;> rcases hb with rfl | rfl
      · exact .inl h1
      · exact .inl (by show durSum t plan i < durSum t plan (m + 1); omega)
      · show durSum t plan (i + 1) < durSum t plan m ∨ (durSum t plan (i + 1) = durSum t plan m ∧ (sp_rank ⟨durSum t plan (i + 1), i, true⟩ < sp_rank ⟨durSum t plan m, m, false⟩ ∨ _))
        have : sp_rank ⟨durSum t plan (i + 1), i, true⟩ < sp_rank ⟨durSum t plan m, m, false⟩ := by simp [sp_rank]
        rcases Int.lt_or_eq_of_le h2 with c | c
        · exact .inl c
        · exact .inr ⟨c, .inl this⟩
      · exact .inl (by show durSum t plan (i + 1) < durSum t plan (m + 1); omega)
theorem happenings_line {t : TTask} {plan : List Int} (ok : LineOK t plan) : sp_happenings t (lineN t plan plan.length) = haps t (lineN t plan plan.length) plan.length := by
  have h := haps_line_lt ok plan.length (Nat.le_refl _)
  refine hlt_ext (happenings_lt _ _) h fun x => ?_
  rw [sp_happenings, mem_sortHap, lineN_len]
/-! ### operators one after the other -/
theorem gt_mapO {t : TTask} {f : TOp → Operator} {i : Int} (h : inb t.ops i) : gt (t.ops.map f) i = f (gt t.ops i) := by
  rw [gt_of (show inb (t.ops.map f) i from ⟨h.1, by rw [List.length_map]; exact h.2⟩), gt_of h, List.getElem_map]
theorem mem_seqPre {t : TTask} {o : TOp} {x : Int} : x ∈ seqPre t o ↔ x ∈ o.atStart ∨ ((x ∈ o.over ∨ x ∈ o.atEnd) ∧ x ∉ o.addStart) ∨ (x = t.facts ∧ ∃ y, (y ∈ o.over ∨ y ∈ o.atEnd) ∧ y ∈ o.delStart) := by
  unfold seqPre
  rw [List.mem_append, mem_union, mem_minus, mem_union, or_assoc]
  refine or_congr Iff.rfl (or_congr Iff.rfl ?_)
  by_cases h : sp_meets (sp_union o.over o.atEnd) o.delStart = true
  · rw [if_pos h, List.mem_singleton]
    obtain ⟨y, h1, h2⟩ := meets_iff.1 h
    exact ⟨fun e => ⟨e, y, mem_union.1 h1, h2⟩, fun e => e.1⟩
  · rw [if_neg h]
    constructor
    · intro e; cases e
    · rintro ⟨_, y, h1, h2⟩; exact absurd (meets_iff.2 ⟨y, mem_union.2 h1, h2⟩) h
theorem set_more {n : Int} {l : List Int} (h : sp_isSet l n = true) : sp_isSet l (n + 1) = true :=
  decide_eq_true ⟨set_sorted h, fun x hx => by have := set_rng h x hx; omega⟩
theorem seqPre_set {t : TTask} {o : TOp} (hn : 0 ≤ t.facts) (so : SetsOK o t.facts) : sp_isSet (seqPre t o) (t.facts + 1) = true := by
  have u := union_set hn so.atStart (minus_set hn o.addStart (union_set hn so.over so.atEnd))
  refine decide_eq_true ⟨?_, fun x hx => ?_⟩
  · unfold seqPre
    refine List.pairwise_append.2 ⟨set_sorted u, ?_, fun a ha b hb => ?_⟩
    · split
      · exact List.pairwise_singleton _ _
      · exact List.Pairwise.nil
    · have := set_rng u a ha
      split at hb
      · rw [List.mem_singleton.1 hb]; omega
      · cases hb
  · rcases mem_seqPre.1 hx with h | ⟨h | h, _⟩ | h
    · have := set_rng so.atStart x h; omega
    · have := set_rng so.over x h; omega
    · have := set_rng so.atEnd x h; omega
    · omega
theorem seqOp_ok {t : TTask} {o : TOp} (hn : 0 ≤ t.facts) (so : SetsOK o t.facts) : sp_operator (seqOp t o) (t.facts + 1) = 0 := by
  have u4 := update_set hn o.delEnd so.addStart so.addEnd
  have u5 := union_set hn so.delStart so.delEnd
  have hm : sp_meets (seqOp t o).add (seqOp t o).del = false := by
    cases e : sp_meets (seqOp t o).add (seqOp t o).del with
    | false => rfl
    | true =>
      obtain ⟨x, h1, h2⟩ := meets_iff.1 e
      exact absurd h1 (mem_minus.1 h2).2
  rw [sp_operator, if_pos ⟨seqPre_set hn so, set_more u4, set_more (minus_set hn _ u5), hm⟩, if_pos ⟨by show (0 : Int) ≤ 0; omega, by show (0 : Int) ≤ 100; omega⟩]
theorem sequenced_valid {t : TTask} (h : sp_tvalidate t = ⟨0, 0⟩) : sp_validate (sp_sequenced t) = ⟨0, 0⟩ := by
  have ok := ttaskOK_of h
  have hn := ok.facts
  have e1 : (sp_sequenced t).facts = t.facts + 1 := rfl
  have e2 : (sp_sequenced t).ops.length = t.ops.length := List.length_map _
  have hlen := ok.len
  rw [sp_validate, if_neg (by rw [e1]; omega), if_neg (by rw [e1, show (sp_sequenced t).init = t.init from rfl, set_more ok.init]; decide), if_neg (by rw [e1, show (sp_sequenced t).goal = t.goal from rfl, set_more ok.goal]; decide), if_neg (by omega), ffirst_none fun k hk => ?_]
  refine opFault_zero ?_
  have hi : inb t.ops (k : Int) := ⟨by omega, by omega⟩
  rw [e1, show (sp_sequenced t).ops = t.ops.map (seqOp t) from rfl, gt_mapO hi]
  exact seqOp_ok hn.1 (ok.op hi).1
theorem seq_applies {t : TTask} {o : TOp} (hn : 0 ≤ t.facts) (so : SetsOK o t.facts) {s : List Int} (hs : sp_isSet s t.facts = true) :
    sp_subset (seqOp t o).pre s = true ↔ sp_subset o.atStart s = true ∧ sp_subset o.over (sp_changed t.facts s o.addStart o.delStart) = true ∧ sp_subset o.atEnd (sp_changed t.facts s o.addStart o.delStart) = true := by
  have dis : ∀ x, x ∈ o.addStart → x ∉ o.delStart := fun x h1 h2 => by
    have := meets_iff.2 ⟨x, h1, h2⟩
    rw [so.start] at this; cases this
  have key : ∀ l, sp_isSet l t.facts = true → ((∀ x ∈ l, x ∈ sp_changed t.facts s o.addStart o.delStart) ↔ ∀ x ∈ l, (x ∉ o.addStart → x ∈ s) ∧ x ∉ o.delStart) := fun l hl => by
    constructor
    · intro h x hx
      rcases ((mem_changed hn).1 (h x hx)).2 with g | g
      · exact ⟨fun g2 => absurd g g2, dis x g⟩
      · exact ⟨fun _ => g.1, g.2⟩
    · intro h x hx
      refine (mem_changed hn).2 ⟨set_rng hl x hx, ?_⟩
      by_cases g : x ∈ o.addStart
      · exact .inl g
      · exact .inr ⟨(h x hx).1 g, (h x hx).2⟩
  rw [subset_iff, subset_iff, subset_iff, subset_iff, key _ so.over, key _ so.atEnd]
  show (∀ x ∈ seqPre t o, x ∈ s) ↔ _
  constructor
  · intro h
    have no : ¬ ∃ y, (y ∈ o.over ∨ y ∈ o.atEnd) ∧ y ∈ o.delStart := fun g => by
      have := set_rng hs _ (h t.facts (mem_seqPre.2 (.inr (.inr ⟨rfl, g⟩)))); omega
    refine ⟨fun x hx => h x (mem_seqPre.2 (.inl hx)), fun x hx => ⟨fun g => h x (mem_seqPre.2 (.inr (.inl ⟨.inl hx, g⟩))), fun g => no ⟨x, .inl hx, g⟩⟩, fun x hx => ⟨fun g => h x (mem_seqPre.2 (.inr (.inl ⟨.inr hx, g⟩))), fun g => no ⟨x, .inr hx, g⟩⟩⟩
  · rintro ⟨h1, h2, h3⟩ x hx
    rcases mem_seqPre.1 hx with g | ⟨g | g, g2⟩ | ⟨_, y, g | g, g2⟩
    · exact h1 x g
    · exact (h2 x g).1 g2
    · exact (h3 x g).1 g2
    · exact absurd g2 (h2 y g).2
    · exact absurd g2 (h3 y g).2
theorem seq_after {t : TTask} {i : Int} (hn : 0 ≤ t.facts) (hi : inb t.ops i) (so : SetsOK (gt t.ops i) t.facts) {s : List Int} (hs : sp_isSet s t.facts = true) :
    sp_after (sp_sequenced t) s i = sp_changed t.facts (sp_changed t.facts s (gt t.ops i).addStart (gt t.ops i).delStart) (gt t.ops i).addEnd (gt t.ops i).delEnd := by
  have e1 : (sp_sequenced t).facts = t.facts + 1 := rfl
  have e2 : gt (sp_sequenced t).ops i = seqOp t (gt t.ops i) := gt_mapO hi
  refine sorted_ext _ _ ((allS_sorted _).filter _) (set_sorted (changed_set hn _ _ _)) fun x => ?_
  rw [mem_after (by rw [e1]; omega), e1, e2, mem_changed hn, mem_changed hn]
  show (0 ≤ x ∧ x < t.facts + 1) ∧ (x ∈ sp_update _ _ _ ∨ x ∈ s ∧ x ∉ sp_minus _ _) ↔ _
  rw [mem_minus, mem_union, mem_update]
  constructor
  · rintro ⟨_, (⟨h, h2⟩ | h) | ⟨h, h2⟩⟩
    · have r := set_rng so.addStart x h
      exact ⟨r, .inr ⟨⟨r, .inl h⟩, h2⟩⟩
    · exact ⟨set_rng so.addEnd x h, .inl h⟩
    · have r := set_rng hs x h
      refine ⟨r, ?_⟩
      by_cases g : (x ∈ (gt t.ops i).addStart ∧ x ∉ (gt t.ops i).delEnd) ∨ x ∈ (gt t.ops i).addEnd
      · rcases g with g | g
        · exact .inr ⟨⟨r, .inl g.1⟩, g.2⟩
        · exact .inl g
      · have g2 : ¬ (x ∈ (gt t.ops i).delStart ∨ x ∈ (gt t.ops i).delEnd) := fun q => h2 ⟨q, g⟩
        exact .inr ⟨⟨r, .inr ⟨h, fun q => g2 (.inl q)⟩⟩, fun q => g2 (.inr q)⟩
  · rintro ⟨r, h | ⟨⟨_, h | ⟨h, h2⟩⟩, h3⟩⟩
    · exact ⟨by omega, .inl (.inr h)⟩
    · exact ⟨by omega, .inl (.inl ⟨h, h3⟩)⟩
    · exact ⟨by omega, .inr ⟨h, fun q => q.1.elim h2 h3⟩⟩
/-- what happens from an occurrence on -/
def hapsD (t : TTask) (l : List Occ) (k m : Nat) : List Hap := (List.range' k m).flatMap (hap2 t l)
theorem haps_D (t : TTask) (l : List Occ) (n : Nat) : haps t l n = hapsD t l 0 n := by
  unfold haps hapsD; rw [List.range_eq_range']
theorem hapsD_succ (t : TTask) (l : List Occ) (k m : Nat) : hapsD t l k (m + 1) = hap2 t l k ++ hapsD t l (k + 1) m := by
  unfold hapsD
  rw [List.range'_succ, List.flatMap_cons]
theorem gt_falses {n : Nat} {i : Int} : gt (List.replicate n false) i = false := by
  unfold gt
  rw [List.getD_eq_getElem?_getD, List.getElem?_replicate]
  split <;> rfl
end Go.Proofs.Ytaenggfmpagjgaa.Pl
