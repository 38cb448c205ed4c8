/- What the functions on beliefs ask and give. Plain Lean. No condition. -/
import Derived.Test.YtojoehfldbimpaaGreatDoorBe1
namespace Go.Proofs.YtojoehfldbimpaaGreatDoor.Pl
open Go Go.RowKit
theorem mask_bit : ∀ (m : Fin 16) (i : Fin 4), (bits .and .i64 (Int.fdiv ((m : Nat) : Int) (2 ^ (min (((i : Nat) : Int)).toNat (IntKind.bits .i64)))) 1 == 1) = (m : Nat).testBit i := by decide
theorem pow_len : ∀ n : Fin 5, IntKind.i64.wrap (1 * 2 ^ (min (((n : Nat) : Int)).toNat (IntKind.bits .i64))) = ((2 ^ (n : Nat) : Nat) : Int) := by decide
theorem maskAdd_snoc (l : List Int) (x : Int) (m : Nat) : maskAdd (l ++ [x]) m = maskAdd l m ++ (if m.testBit l.length = true then [x] else []) := by
  unfold maskAdd
  rw [List.zipIdx_append, List.filter_append, List.map_append]
  congr 1
  simp only [List.zipIdx_cons, List.zipIdx_nil, Nat.zero_add]
  by_cases h : m.testBit l.length = true
  · simp [h]
  · simp [h]
theorem maskAdd_len (l : List Int) (m : Nat) : (maskAdd l m).length ≤ l.length := by
  unfold maskAdd
  rw [List.length_map]
  exact Nat.le_trans (List.length_filter_le _ _) (by rw [List.length_zipIdx]; exact Nat.le_refl _)
theorem set_len24 {t : Task} (hv : sp_validate t = ⟨0, 0⟩) {s : List Int} (h : sp_isSet s t.facts = true) : s.length ≤ 24 := by
  obtain ⟨f0, f1, _⟩ := TaskOK.rng hv
  have := set_len f0 h
  omega
theorem ok_worlds : ∀ (t : Task) (unknown : List Int), pre_worlds t unknown → F_worlds t unknown (fun r => r = sp_worlds t unknown) := fun t u ⟨hv, hl, hu⟩ => by
  have hpow : (2 : Nat) ^ u.length ≤ 16 := by
    calc 2 ^ u.length ≤ 2 ^ 4 := Nat.pow_le_pow_right (by decide) hl
      _ = 16 := rfl
  unfold F_worlds
  refine ⟨by omega, ?_⟩
  rw [pow_len ⟨u.length, by omega⟩]
  simp only [forall_eq]
  refine ⟨fun t13 out => ∃ m : Nat, t13 = m ∧ m ≤ 2 ^ u.length ∧ out = (List.range m).map fun m => sp_update t.init (maskAdd u m) u, fun t13 _ => ((2 ^ u.length : Nat) - t13).toNat, ⟨0, rfl, Nat.zero_le _, rfl⟩, ?_⟩
  rintro _ _ ⟨m, rfl, m1, rfl⟩
  unfold F_worlds_L1
  simp only [forall_eq, decide_eq_true_eq, decide_eq_false_iff_not]
  have olen : ((List.range m).map fun m => sp_update t.init (maskAdd u m) u).length = m := by rw [List.length_map, List.length_range]
  refine ⟨fun h => ?_, fun h => ⟨⟨by rw [olen]; omega, fun x hx => ?_⟩, ?_⟩⟩
  · refine ⟨fun t18 add => ∃ i : Nat, t18 = i ∧ i ≤ u.length ∧ add = maskAdd (u.take i) m, fun t18 _ => (u.length - t18).toNat, ⟨0, rfl, Nat.zero_le _, by simp [maskAdd]⟩, ?_⟩
    rintro _ _ ⟨i, rfl, i1, rfl⟩
    unfold F_worlds_L2 F_worlds_J1
    simp only [forall_eq, decide_eq_true_eq, decide_eq_false_iff_not]
    have alen := maskAdd_len (u.take i) m
    rw [List.length_take] at alen
    refine ⟨fun g => ?_, fun g => ?_⟩
    · have hi : i < u.length := by omega
      rw [mask_bit ⟨m, by omega⟩ ⟨i, by omega⟩, w64 (by omega)]
      have e1 : maskAdd (u.take (i + 1)) m = maskAdd (u.take i) m ++ if m.testBit i = true then [gt u (i : Int)] else [] := by
        rw [takeN_gt hi, maskAdd_snoc, List.length_take, Nat.min_eq_left (by omega)]
      refine ⟨⟨by omega, g⟩, by omega, fun q => ⟨⟨?_, ?_⟩, ⟨i + 1, by omega, by omega, ?_⟩, by omega⟩, fun q => ⟨⟨i + 1, by omega, by omega, ?_⟩, by omega⟩⟩
      · simp only [List.length_append, List.length_singleton, maxLen]; omega
      · simp only [List.length_append, List.length_singleton]; omega
      · rw [e1, if_pos q]
      · rw [e1, if_neg (by rw [q]; decide), List.append_nil]
    · rw [List.take_of_length_le (show u.length ≤ i by omega)]
      have := maskAdd_len u m
      refine ⟨⟨by have := set_len24 hv (TaskOK.rng hv).2.2.1; omega, by omega, set_sorted hu, by omega⟩, ⟨?_, ?_⟩, ⟨m + 1, by rw [w64 (by omega)]; omega, by omega, ?_⟩, ?_⟩
      · rw [List.length_append, olen]; simp only [List.length_singleton, maxLen]; omega
      · rw [List.length_append, olen]; simp only [List.length_singleton]; omega
      · rw [List.range_succ, List.map_append]; rfl
      · rw [w64 (by omega)]; omega
  · obtain ⟨k, _, rfl⟩ := List.mem_map.1 hx
    have := set_len24 hv (mask_set hv hu k)
    omega
  · have : m = 2 ^ u.length := by omega
    rw [this]; rfl
theorem ok_initial : ∀ (t : Task) (unknown : List Int), F_initial t unknown (fun r => r = sp_initial t unknown) := fun t u => by
  unfold F_initial sp_initial
  simp only [forall_eq, fault_ne, fault_eq]
  exact ⟨fun h => by rw [if_neg h], fun h => ⟨unknown_ok h, by rw [if_pos h]⟩⟩
theorem ok_bafter : ∀ (t : Task) (worlds : List (List Int)) (op : Int), pre_bafter t worlds op → F_bafter t worlds op (fun r => r = sp_bafter t worlds op) := fun t ws op ⟨hv, hi, hl, hs⟩ => by
  refine ⟨fun t12 out => ∃ k : Nat, t12 = k ∧ k ≤ ws.length ∧ out = (ws.take k).map fun s => sp_after t s op, fun t12 _ => (ws.length - t12).toNat, ⟨0, rfl, Nat.zero_le _, rfl⟩, ?_⟩
  rintro _ _ ⟨k, rfl, k1, rfl⟩
  unfold F_bafter_L1
  simp only [forall_eq, decide_eq_true_eq, decide_eq_false_iff_not]
  have olen : ((ws.take k).map fun s => sp_after t s op).length = k := by rw [List.length_map, List.length_take]; omega
  refine ⟨fun h => ?_, fun h => ⟨⟨by rw [olen]; omega, fun x hx => ?_⟩, ?_⟩⟩
  · have hk : k < ws.length := by omega
    refine ⟨⟨by omega, h⟩, ⟨hv, hi, hs _ (gt_memN hk)⟩, ⟨?_, ?_⟩, ⟨k + 1, ?_, by omega, ?_⟩, ?_⟩
    · rw [List.length_append, olen]; simp only [List.length_singleton, maxLen]; omega
    · rw [List.length_append, olen]; simp only [List.length_singleton]; omega
    · rw [w64 (by omega)]; omega
    · rw [takeN_gt hk, List.map_append]; rfl
    · rw [w64 (by omega)]; omega
  · obtain ⟨s, _, rfl⟩ := List.mem_map.1 hx
    have := set_len24 hv (after_set (TaskOK.rng hv).1 s op)
    omega
  · rw [List.take_of_length_le (by omega)]; rfl
theorem sure_iff {ws : Bel} {facts : List Int} : sp_sure ws facts = true ↔ ∀ s ∈ ws, ∀ x ∈ facts, x ∈ s := by
  unfold sp_sure sp_sure1 sp_contains2
  simp only [Bool.not_eq_true', List.any_eq_false, Bool.not_eq_false]
  exact ⟨fun h s hs => subset_iff.1 (h s hs), fun h s hs => subset_iff.2 (h s hs)⟩
theorem allHold_iff {ws : Bel} {facts : List Int} : sp_allHold ws facts = true ↔ ∀ s ∈ ws, ∀ x ∈ facts, x ∈ s := by
  unfold sp_allHold
  rw [List.all_eq_true]
  exact ⟨fun h s hs => subset_iff.1 (h s hs), fun h s hs => subset_iff.2 (h s hs)⟩
theorem sure_allHold (ws : Bel) (facts : List Int) : sp_sure ws facts = sp_allHold ws facts := by
  rw [Bool.eq_iff_iff, sure_iff, allHold_iff]
theorem pre_sure_of {t : Task} (hv : sp_validate t = ⟨0, 0⟩) {ws : Bel} (hw : WsOK t ws) {facts : List Int} (hf : sp_isSet facts t.facts = true) : pre_sure ws facts :=
  ⟨by have := hw.1; omega, fun s hs => ⟨by have := set_len24 hv (hw.2 s hs); omega, by have := set_len24 hv hf; omega, set_sorted (hw.2 s hs), set_sorted hf⟩⟩
theorem ok_bsolves1 : ∀ (s_ : List Int) (x : Task) (x2 : List Int), pre_bsolves1 s_ x x2 → F_bsolves1 s_ x x2 (fun r => r = sp_bsolves1 s_ x x2) := fun _ _ _ hp => by
  refine ⟨hp, fun r hr => ?_⟩
  rw [hr]; rfl
theorem worlds_ok {t : Task} {u : List Int} (h : UOK t u) : WsOK t (sp_worlds t u) := ⟨worlds_len h.2.1, fun _ hs => worlds_set h.1 h.2.2 hs⟩
theorem ok_bsolves : ∀ (t : Task) (unknown : List Int) (plan : List Int), F_bsolves t unknown plan (fun r => r = sp_bsolves t unknown plan) := fun t u plan => by
  unfold F_bsolves sp_bsolves
  simp only [forall_eq, fault_ne, fault_eq]
  refine ⟨fun h => by rw [if_neg h], fun h => ?_⟩
  have hu := unknown_ok h
  have ht := taskOK_of hu.1
  rw [if_pos h]
  refine ⟨⟨by omega, by have := ht.len; omega⟩, fun g => by rw [if_neg g], fun g => ⟨hu, ⟨by have := (worlds_ok hu).1; omega, fun s hs => ?_⟩, by rw [if_pos g]; rfl⟩⟩
  obtain ⟨p1, p2⟩ := steps_ok g
  exact ⟨hu.1, (worlds_ok hu).2 s hs, by omega, p2⟩
/-! ### the reference's functions -/
theorem changed_len (n : Int) (s add del : List Int) : (sp_changed n s add del).length ≤ n.toNat := by
  unfold sp_changed
  exact Nat.le_trans (List.length_filter_le _ _) (by rw [allS_len]; exact Nat.le_refl _)
theorem possible_rows {t : Task} (hv : sp_validate t = ⟨0, 0⟩) (u : List Int) {s : List Int} (h : s ∈ sp_possible t u) : s.length ≤ 24 := by
  obtain ⟨f0, f1, hi, _⟩ := TaskOK.rng hv
  rcases List.eq_nil_or_concat u with rfl | ⟨u, x, rfl⟩
  · rw [List.mem_singleton.1 (show s ∈ [t.init] from h)]; exact set_len24 hv hi
  · rw [List.concat_eq_append, possible_snoc] at h
    rcases mem_flips.1 h with h | ⟨s0, _, rfl | rfl⟩
    · cases h
    · have := changed_len t.facts s0 [x] []; omega
    · have := changed_len t.facts s0 [] [x]; omega
theorem ok_possible : ∀ (t : Task) (unknown : List Int), pre_possible t unknown → F_possible t unknown (fun r => r = sp_possible t unknown) := fun t u ⟨hv, hl, hu⟩ => by
  obtain ⟨f0, f1, hi, _⟩ := TaskOK.rng hv
  refine ⟨fun out i => ∃ j : Nat, i = j ∧ j ≤ u.length ∧ out = sp_possible t (u.take j), fun _ i => (u.length - i).toNat, ⟨0, rfl, Nat.zero_le _, by simp [sp_possible]⟩, ?_⟩
  rintro _ _ ⟨j, rfl, j1, rfl⟩
  have plen : (sp_possible t (u.take j)).length ≤ 16 := by
    refine Nat.le_trans (possible_len _ _ rfl) ?_
    rw [List.length_take]
    calc 2 ^ min j u.length ≤ 2 ^ 4 := Nat.pow_le_pow_right (by decide) (by omega)
      _ = 16 := rfl
  have prow := fun s hs => possible_rows hv (u.take j) (s := s) hs
  unfold F_possible_L1
  simp only [decide_eq_true_eq, decide_eq_false_iff_not]
  refine ⟨fun h => ?_, fun h => by rw [List.take_of_length_le (by omega)]⟩
  have hj : j < u.length := by omega
  refine ⟨fun next k => ∃ q : Nat, k = q ∧ q ≤ (sp_possible t (u.take j)).length ∧ next = ((sp_possible t (u.take j)).take q).foldl (flip2 t.facts (gt u (j : Int))) [], fun _ k => ((sp_possible t (u.take j)).length - k).toNat, ⟨0, rfl, Nat.zero_le _, rfl⟩, ?_⟩
  rintro _ _ ⟨q, rfl, q1, rfl⟩
  unfold F_possible_L2
  simp only [forall_eq, decide_eq_true_eq, decide_eq_false_iff_not]
  generalize hout : sp_possible t (u.take j) = out at *
  have nlen := flips_len (n := t.facts) (x := gt u (j : Int)) (out.take q) []
  rw [List.length_take, List.length_nil] at nlen
  have nrow : ∀ s ∈ (out.take q).foldl (flip2 t.facts (gt u (j : Int))) [], s.length ≤ 24 := fun s hs => by
    rcases mem_flips.1 hs with h | ⟨s0, _, rfl | rfl⟩
    · cases h
    · have := changed_len t.facts s0 [gt u (j : Int)] []; omega
    · have := changed_len t.facts s0 [] [gt u (j : Int)]; omega
  refine ⟨fun g => ?_, fun g => ?_⟩
  · have hq : q < out.length := by omega
    have hr := prow _ (gt_memN hq)
    have c1 := changed_len t.facts (gt out (q : Int)) [gt u (j : Int)] []
    have c2 := changed_len t.facts (gt out (q : Int)) [] [gt u (j : Int)]
    have i1 := insert_len ((out.take q).foldl (flip2 t.facts (gt u (j : Int))) []) (sp_changed t.facts (gt out (q : Int)) [gt u (j : Int)] [])
    refine ⟨⟨by omega, g⟩, ⟨by omega, h⟩, ⟨f0, by omega, by omega, by simp, by simp⟩, ⟨by omega, by omega, fun s hs => by have := nrow s hs; omega⟩, ⟨f0, by omega, by omega, by simp, by simp⟩, ⟨by omega, by omega, fun s hs => ?_⟩, ⟨q + 1, ?_, by omega, ?_⟩, ?_⟩
    · rcases mem_insert.1 hs with rfl | hs
      · omega
      · have := nrow s hs; omega
    · rw [w64 (by omega)]; omega
    · rw [takeN_gt hq, List.foldl_append]; rfl
    · rw [w64 (by omega)]; omega
  · rw [w64 (by omega), List.take_of_length_le (show out.length ≤ q by omega)]
    refine ⟨⟨j + 1, by omega, by omega, ?_⟩, by omega⟩
    rw [takeN_gt hj, possible_snoc, hout]
theorem ok_sets : ∀ (a : List (List Int)) (b : List (List Int)), pre_sets a b → F_sets a b (fun r => r = sp_sets a b) := fun a b ⟨h1, h2, h3, h4⟩ => by
  unfold F_sets
  simp only [bne_iff_ne, ne_eq, bne_eq_false_iff_eq]
  refine ⟨fun h => (decide_eq_false fun e => h (by rw [e])).symm, fun h => ?_⟩
  have hl : a.length = b.length := by omega
  refine ⟨fun t => ∃ k : Nat, t = k ∧ k ≤ a.length ∧ a.take k = b.take k, fun t => (a.length - t).toNat, ⟨0, rfl, Nat.zero_le _, by simp⟩, ?_⟩
  rintro _ ⟨k, rfl, k1, k2⟩
  unfold F_sets_L1
  simp only [forall_eq, decide_eq_true_eq, decide_eq_false_iff_not, Bool.not_eq_true', Bool.not_eq_false', sp_numbers]
  refine ⟨fun g => ⟨⟨by omega, g⟩, ⟨by omega, by omega⟩, h3 _ (gt_memN (by omega)), fun q => (decide_eq_false fun e => q (by rw [e])).symm, fun q => ?_⟩, fun g => ?_⟩
  · rw [w64 (by omega)]
    exact ⟨⟨k + 1, by omega, by omega, take_same (by omega) (by omega) k2 q⟩, by omega⟩
  · rw [List.take_of_length_le (by omega), List.take_of_length_le (by omega)] at k2
    exact (decide_eq_true k2).symm
theorem ok_able : F_able (fun r => r = sp_able) := rfl
theorem ok_succ : ∀ (t : Task) (worlds : List (List Int)), F_succ t worlds (fun r => r = sp_succ t worlds) := fun _ _ => rfl
theorem ok_bnext : ∀ (t : Task), F_bnext t (fun r => r = sp_bnext t) := fun _ => rfl
theorem ok_bnext1 : ∀ (worlds : List (List Int)) (x : Task), F_bnext1 worlds x (fun r => r = sp_bnext1 worlds x) := fun _ _ _ _ => rfl
theorem ok_small1 : ∀ (x : List (List Int)), F_small1 x (fun r => r = sp_small1 x) := fun _ => rfl
theorem ok_plan1 : ∀ (w_ : List (List Int)) (x : Task), pre_plan1 w_ x → F_plan1 w_ x (fun r => r = sp_plan1 w_ x) := fun _ _ ⟨hv, hw⟩ => ⟨pre_sure_of hv hw (TaskOK.rng hv).2.2.2, fun _ hr => hr⟩
end Go.Proofs.YtojoehfldbimpaaGreatDoor.Pl

