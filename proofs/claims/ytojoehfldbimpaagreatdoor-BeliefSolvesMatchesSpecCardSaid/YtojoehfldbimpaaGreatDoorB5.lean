/- Sets after operators: sorted, each number once. Plain Lean. No condition. -/
import Derived.Test.YtojoehfldbimpaaGreatDoorB4
namespace Go.Proofs.YtojoehfldbimpaaGreatDoor.Pl
open Go Go.RowKit
theorem sorted_ext : ∀ (a b : List Int), a.Pairwise (· < ·) → b.Pairwise (· < ·) → (∀ x, x ∈ a ↔ x ∈ b) → a = b
  | [], b, _, _, h => by
    cases b with
    | nil => rfl
    | cons y s => exact absurd ((h y).2 List.mem_cons_self) (by simp)
  | x :: r, [], _, _, h => absurd ((h x).1 List.mem_cons_self) (by simp)
  | x :: r, y :: s, ha, hb, h => by
    obtain ⟨a1, a2⟩ := List.pairwise_cons.1 ha
    obtain ⟨b1, b2⟩ := List.pairwise_cons.1 hb
    have e : x = y := by
      rcases List.mem_cons.1 ((h x).1 List.mem_cons_self) with q | q
      · exact q
      · rcases List.mem_cons.1 ((h y).2 List.mem_cons_self) with q2 | q2
        · exact q2.symm
        · have := a1 _ q2; have := b1 _ q; omega
    subst e
    rw [sorted_ext r s a2 b2 fun z => ?_]
    constructor
    · intro hz
      rcases List.mem_cons.1 ((h z).1 (List.mem_cons_of_mem _ hz)) with q | q
      · have := a1 _ hz; omega
      · exact q
    · intro hz
      rcases List.mem_cons.1 ((h z).2 (List.mem_cons_of_mem _ hz)) with q | q
      · have := b1 _ hz; omega
      · exact q
theorem mem_sort {xs : List Int} {x : Int} : x ∈ sp_sort xs ↔ x ∈ xs := List.mem_mergeSort
theorem sort_sorted (xs : List Int) : (sp_sort xs).Pairwise (· ≤ ·) := by
  have := List.pairwise_mergeSort (le := fun x y : Int => decide (x ≤ y)) (fun a b c h1 h2 => by simp only [decide_eq_true_eq] at *; omega) (fun a b => by simp only [Bool.or_eq_true, decide_eq_true_eq]; omega) xs
  exact this.imp fun h => by simpa using h
theorem getB {xs : List Int} {j : Nat} (h : j < xs.length) : xs.toArray[j]! = xs[j] := by simp [h]
theorem compact_eq (xs : List Int) : sp_compact xs = ((List.range xs.length).filter (Lib.keeps xs.toArray)).map (fun j => xs.toArray[j]!) := rfl
theorem mem_compact {xs : List Int} {x : Int} : x ∈ sp_compact xs ↔ x ∈ xs := by
  rw [compact_eq, List.mem_map]
  constructor
  · rintro ⟨j, hj, rfl⟩
    have := List.mem_range.1 (List.mem_filter.1 hj).1
    rw [getB this]; exact List.getElem_mem _
  · intro hx
    obtain ⟨j, hj, rfl⟩ := List.mem_iff_getElem.1 hx
    have key : ∀ j : Nat, (h : j < xs.length) → ∃ i, i ∈ (List.range xs.length).filter (Lib.keeps xs.toArray) ∧ xs.toArray[i]! = xs[j] := by
      intro j
      induction j with
      | zero => intro h; exact ⟨0, List.mem_filter.2 ⟨List.mem_range.2 h, by simp [Lib.keeps]⟩, getB h⟩
      | succ j ih =>
        intro h
        by_cases q : xs[j + 1] = xs[j]
        · obtain ⟨i, h1, h2⟩ := ih (by omega)
          exact ⟨i, h1, by rw [h2, q]⟩
        · refine ⟨j + 1, List.mem_filter.2 ⟨List.mem_range.2 h, ?_⟩, getB h⟩
          refine Lib.keeps_pos ?_
          rw [Nat.add_sub_cancel, getB h, getB (by omega)]; exact q
    exact key j hj
theorem compact_sorted {xs : List Int} (h : xs.Pairwise (· ≤ ·)) : (sp_compact xs).Pairwise (· < ·) := by
  rw [compact_eq, List.pairwise_map]
  refine List.Pairwise.imp_of_mem (fun {a b} ha hb hab => ?_) ((List.pairwise_lt_range (n := xs.length)).filter _)
  have ha' := List.mem_range.1 (List.mem_filter.1 ha).1
  obtain ⟨hb1, hb2⟩ := List.mem_filter.1 hb
  have hb' := List.mem_range.1 hb1
  rw [getB ha', getB hb']
  have hle := List.pairwise_iff_getElem.1 h
  have hk : xs[b] ≠ xs[b - 1]'(by omega) := by
    simp only [Lib.keeps, decide_eq_true_eq] at hb2
    rcases hb2 with q | q
    · omega
    · rwa [getB hb', getB (by omega)] at q
  have h1 : xs[b - 1]'(by omega) ≤ xs[b] := hle _ _ (by omega) hb' (by omega)
  have h2 : xs[a] ≤ xs[b - 1]'(by omega) := by
    rcases Nat.lt_or_ge a (b - 1) with q | q
    · exact hle _ _ ha' (by omega) q
    · have : a = b - 1 := by omega
      subst this; exact Int.le_refl _
  omega
theorem mem_update {s add del : List Int} {x : Int} : x ∈ sp_update s add del ↔ (x ∈ s ∧ x ∉ del) ∨ x ∈ add := by
  rw [sp_update, mem_compact, mem_sort, List.mem_append, List.mem_filter, decide_eq_true_eq]
theorem update_sorted (s add del : List Int) : (sp_update s add del).Pairwise (· < ·) := compact_sorted (sort_sorted _)
theorem allS_sorted (n : Nat) : (allS n).Pairwise (· < ·) := List.pairwise_map.2 ((List.pairwise_lt_range (n := n)).imp fun h => by omega)
theorem after_set {t : Task} (hf : 0 ≤ t.facts) (s : List Int) (op : Int) : sp_isSet (sp_after t s op) t.facts = true :=
  decide_eq_true ⟨(allS_sorted _).filter _, fun _ hx => ((mem_after hf).1 hx).1⟩
theorem update_after {t : Task} {s : List Int} {op : Int} (hp : pre_next t s op) : sp_update s (gt t.ops op).add (gt t.ops op).del = sp_after t s op := by
  obtain ⟨h1, h2, h3⟩ := hp
  have tk := taskOK_of h1
  have hf := tk.facts.1
  refine sorted_ext _ _ (update_sorted _ _ _) (set_sorted (after_set hf s op)) fun x => ?_
  rw [mem_update, mem_after hf]
  constructor
  · rintro (⟨a, b⟩ | a)
    · exact ⟨set_rng h3 x a, .inr ⟨a, b⟩⟩
    · exact ⟨set_rng (tk.op h2).2.1 x a, .inl a⟩
  · rintro ⟨_, a | a⟩
    · exact .inr a
    · exact .inl a
theorem ok_clone : ∀ (s_ : List Int), pre_clone s_ → F_clone s_ (fun r => r = sp_clone s_) := fun s hp => by
  unfold pre_clone at hp
  exact ⟨fun h => by rw [h]; rfl, ⟨by simp only [List.nil_append, maxLen]; omega, by simp only [List.nil_append]; omega⟩, by simp [sp_clone]⟩
theorem ok_update : ∀ (s_ : List Int) (add : List Int) (del : List Int), pre_update s_ add del → F_update s_ add del (fun r => r = sp_update s_ add del) := fun s add del ⟨h1, h2, h3⟩ => by
  refine ⟨fun t out => ∃ k : Nat, t = k ∧ k ≤ s.length ∧ out = (s.take k).filter (fun x => decide (x ∉ del)), fun t _ => (s.length - t).toNat, ⟨0, rfl, Nat.zero_le _, rfl⟩, ?_⟩
  rintro _ out ⟨k, rfl, k1, k2⟩
  unfold F_update_L1 F_update_J1
  have hlen : out.length ≤ k := by
    rw [k2]
    exact Nat.le_trans (List.length_filter_le _ _) (by rw [List.length_take]; omega)
  simp only [decide_eq_true_eq, decide_eq_false_iff_not, forall_eq, sp_bsearch, Bool.not_eq_true', Bool.not_eq_false', List.length_append, List.length_singleton]
  refine ⟨fun h => ?_, fun h => ?_⟩
  · rw [w64 (by omega)]
    have hk : k < s.length := by omega
    refine ⟨⟨by omega, h⟩, h3, fun q => ⟨⟨by simp only [maxLen]; omega, by omega⟩, ⟨k + 1, by omega, by omega, ?_⟩, by omega⟩, fun q => ⟨⟨k + 1, by omega, by omega, ?_⟩, by omega⟩⟩
    · rw [takeN_gt hk, List.filter_append, ← k2, filter1_pos (p := fun x => decide (x ∉ del)) (decide_eq_true q)]
    · rw [takeN_gt hk, List.filter_append, ← k2, filter1_neg (p := fun x => decide (x ∉ del)) (decide_eq_false fun g => g q), List.append_nil]
  · have e : k = s.length := by omega
    rw [e, List.take_length] at k2
    refine ⟨⟨by simp only [maxLen]; omega, by omega⟩, show (out ++ add).length ≤ 100000 by rw [List.length_append]; omega, show (sp_sort (out ++ add)).length ≤ 100000 by rw [sp_sort, List.length_mergeSort, List.length_append]; omega, ?_⟩
    rw [k2]; rfl
theorem contains_past {s : List Int} (hs : s.Pairwise (· < ·)) {i : Nat} {x : Int} (hlt : ∀ p : Nat, p < i → p < s.length → gt s (p : Int) < x) (h : i < s.length → gt s (i : Int) ≠ x ∧ ¬ gt s (i : Int) < x) : x ∉ s := fun hx => by
  obtain ⟨p, hp, e⟩ := mem_gt hx
  rcases Nat.lt_trichotomy p i with g | g | g
  · have := hlt p g hp; omega
  · subst g; exact (h hp).1 e
  · have h1 := h (by omega)
    have := sorted_gt hs g hp
    omega
theorem ok_contains2 : ∀ (s_ : List Int) (part : List Int), pre_contains2 s_ part → F_contains2 s_ part (fun r => r = sp_contains2 s_ part) := fun s part ⟨h1, h2, h3, h4⟩ => by
  have bad : ∀ k : Nat, k < part.length → gt part (k : Int) ∉ s → false = sp_contains2 s part := fun k hk q => by
    cases e : sp_contains2 s part
    · rfl
    · exact absurd (subset_iff.1 e _ (gt_memN hk)) q
  refine ⟨fun i t => ∃ a k : Nat, i = a ∧ t = k ∧ a ≤ s.length ∧ k ≤ part.length ∧ (∀ x ∈ part.take k, x ∈ s) ∧ (k < part.length → ∀ p : Nat, p < a → p < s.length → gt s (p : Int) < gt part (k : Int)), fun _ t => (part.length - t).toNat, ⟨0, 0, rfl, rfl, Nat.zero_le _, Nat.zero_le _, by simp, fun _ p hp => by omega⟩, ?_⟩
  rintro _ _ ⟨a, k, rfl, rfl, a1, k1, k2, k3⟩
  unfold F_contains2_L1
  simp only [decide_eq_true_eq, decide_eq_false_iff_not]
  refine ⟨fun h => ⟨⟨by omega, h⟩, ?_⟩, fun h => ?_⟩
  · have hk : k < part.length := by omega
    refine ⟨fun i => ∃ b : Nat, i = b ∧ a ≤ b ∧ b ≤ s.length ∧ ∀ p : Nat, p < b → p < s.length → gt s (p : Int) < gt part (k : Int), fun i => (s.length - i).toNat, ⟨a, rfl, Nat.le_refl _, a1, k3 hk⟩, ?_⟩
    rintro _ ⟨b, rfl, b1, b2, b3⟩
    have fin : (¬ (b < s.length ∧ gt s (b : Int) < gt part (k : Int))) → F_contains2_J1 s part (fun r => r = sp_contains2 s part) false a (fun i => ∃ b : Nat, i = b ∧ a ≤ b ∧ b ≤ s.length ∧ ∀ p : Nat, p < b → p < s.length → gt s (p : Int) < gt part (k : Int)) (fun i => (s.length - i).toNat) k b (fun i t => ∃ a k : Nat, i = a ∧ t = k ∧ a ≤ s.length ∧ k ≤ part.length ∧ (∀ x ∈ part.take k, x ∈ s) ∧ (k < part.length → ∀ p : Nat, p < a → p < s.length → gt s (p : Int) < gt part (k : Int))) (fun _ t => (part.length - t).toNat) := fun hn => by
      unfold F_contains2_J1 F_contains2_J2
      rw [w64 (n := (k : Int) + 1) (by omega)]
      simp only [beq_iff_eq, beq_eq_false_iff_ne, ne_eq, bne_iff_ne, bne_eq_false_iff_eq]
      refine ⟨fun g => absurd g (by decide), fun _ => ⟨fun e => ⟨fun _ => bad k hk (contains_past h3 b3 fun g => by omega), fun g => absurd g (by decide)⟩, fun e => ⟨⟨by omega, by omega⟩, fun q => bad k hk (contains_past h3 b3 fun g => ⟨q, fun g2 => hn ⟨g, g2⟩⟩), fun q => ⟨⟨b, k + 1, rfl, by omega, b2, by omega, fun x hx => ?_, fun hk2 p hp hp2 => ?_⟩, by omega⟩⟩⟩⟩
      · rw [takeN_gt hk] at hx
        rcases List.mem_append.1 hx with hx | hx
        · exact k2 x hx
        · rw [List.mem_singleton.1 hx, ← q]; exact gt_memN (by omega)
      · exact Int.lt_trans (b3 p hp hp2) (sorted_gt h4 (Nat.lt_succ_self k) hk2)
    unfold F_contains2_L2
    simp only [decide_eq_true_eq, decide_eq_false_iff_not]
    refine ⟨fun h2 => ⟨⟨by omega, h2⟩, ?_⟩, fun h2 => fin fun g => by omega⟩
    by_cases q : gt s (b : Int) < gt part (k : Int)
    · rw [decide_eq_true q]
      unfold F_contains2_J1
      refine ⟨fun _ => ?_, fun g => absurd g (by decide)⟩
      rw [w64 (by omega)]
      refine ⟨⟨b + 1, by omega, by omega, by omega, fun p hp hp2 => ?_⟩, show ((s.length : Int) - (b + 1)).toNat < ((s.length : Int) - b).toNat by omega⟩
      rcases Nat.lt_or_ge p b with g | g
      · exact b3 p g hp2
      · rw [show p = b by omega]; exact q
    · rw [decide_eq_false q]
      exact fin fun g => q g.2
  · rw [List.take_of_length_le (by omega)] at k2
    exact (subset_iff.2 k2).symm
theorem next_lens {t : Task} {s : List Int} {op : Int} (hp : pre_next t s op) : s.length ≤ 24 ∧ (gt t.ops op).pre.length ≤ 24 ∧ (gt t.ops op).add.length ≤ 24 ∧ (gt t.ops op).del.length ≤ 24 := by
  obtain ⟨h1, h2, h3⟩ := hp
  have tk := taskOK_of h1
  have := set_len tk.facts.1 h3
  have := tk.facts
  have := tk.lens h2
  omega
theorem ok_can : ∀ (t : Task) (s_ : List Int) (op : Int), pre_can t s_ op → F_can t s_ op (fun r => r = sp_applies t s_ op) := fun t s op hp => by
  have hl := next_lens hp
  have tk := taskOK_of hp.1
  refine ⟨hp.2.1, ⟨by omega, by omega, set_sorted hp.2.2, set_sorted (tk.op hp.2.1).1⟩, fun r hr => ?_⟩
  rw [hr]; rfl
theorem ok_next : ∀ (t : Task) (s_ : List Int) (op : Int), pre_next t s_ op → F_next t s_ op (fun r => r = sp_after t s_ op) := fun t s op hp => by
  have hl := next_lens hp
  have tk := taskOK_of hp.1
  refine ⟨hp.2.1, ⟨by omega, by omega, set_sorted (tk.op hp.2.1).2.2.1, by omega⟩, fun r hr => ?_⟩
  rw [hr, update_after hp]
end Go.Proofs.YtojoehfldbimpaaGreatDoor.Pl

