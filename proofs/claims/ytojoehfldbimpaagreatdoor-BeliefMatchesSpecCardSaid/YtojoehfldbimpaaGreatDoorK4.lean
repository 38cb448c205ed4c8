/- What the functions on beliefs ask and give. Plain Lean. No condition. -/
import Derived.Test.YtojoehfldbimpaaGreatDoorBe1
namespace Go.Proofs.YtojoehfldbimpaaGreatDoor.Pl
open Go Go.RowKit
theorem mask_bit : ∀ (m : Fin 16) (i : Fin 4), (bits .and .i64 (Int.fdiv ((m : Nat) : Int) (2 ^ (min (((i : Nat) : Int)).toNat (IntKind.bits .i64)))) 1 == 1) = (m : Nat).testBit i := by decide
theorem pow_len : ∀ n : Fin 5, IntKind.i64.wrap (1 * 2 ^ (min (((n : Nat) : Int)).toNat (IntKind.bits .i64))) = ((2 ^ (n : Nat) : Nat) : Int) := by decide
theorem maskAdd_snoc (l : List Int) (x : Int) (m : Nat) : maskAdd (l ++ [x]) m = maskAdd l m ++ (if m.testBit l.length = true then [x] else []) := by
  unfold maskAdd
  rw [List.zipIdx_append, List.filter_append, List.map_append]
  congr 1
  simp only [List.zipIdx_cons, List.zipIdx_nil, Nat.zero_add]
  by_cases h : m.testBit l.length = true
  · simp [h]
  · simp [h]
theorem maskAdd_len (l : List Int) (m : Nat) : (maskAdd l m).length ≤ l.length := by
  unfold maskAdd
  rw [List.length_map]
  exact Nat.le_trans (List.length_filter_le _ _) (by rw [List.length_zipIdx]; exact Nat.le_refl _)
theorem set_len24 {t : Task} (hv : sp_validate t = ⟨0, 0⟩) {s : List Int} (h : sp_isSet s t.facts = true) : s.length ≤ 24 := by
  obtain ⟨f0, f1, _⟩ := TaskOK.rng hv
  have := set_len f0 h
  omega
theorem ok_worlds : ∀ (t : Task) (unknown : List Int), pre_worlds t unknown → F_worlds t unknown (fun r => r = sp_worlds t unknown) := fun t u ⟨hv, hl, hu⟩ => by
  have hpow : (2 : Nat) ^ u.length ≤ 16 := by
    calc 2 ^ u.length ≤ 2 ^ 4 := Nat.pow_le_pow_right (by decide) hl
      _ = 16 := rfl
  unfold F_worlds
  refine ⟨by omega, ?_⟩
  rw [pow_len ⟨u.length, by omega⟩]
  simp only [forall_eq]
  refine ⟨fun t13 out => ∃ m : Nat, t13 = m ∧ m ≤ 2 ^ u.length ∧ out = (List.range m).map fun m => sp_update t.init (maskAdd u m) u, fun t13 _ => ((2 ^ u.length : Nat) - t13).toNat, ⟨0, rfl, Nat.zero_le _, rfl⟩, ?_⟩
  rintro _ _ ⟨m, rfl, m1, rfl⟩
  unfold F_worlds_L1
  simp only [forall_eq, decide_eq_true_eq, decide_eq_false_iff_not]
  have olen : ((List.range m).map fun m => sp_update t.init (maskAdd u m) u).length = m := by rw [List.length_map, List.length_range]
  refine ⟨fun h => ?_, fun h => ⟨⟨by rw [olen]; omega, fun x hx => ?_⟩, ?_⟩⟩
  · refine ⟨fun t18 add => ∃ i : Nat, t18 = i ∧ i ≤ u.length ∧ add = maskAdd (u.take i) m, fun t18 _ => (u.length - t18).toNat, ⟨0, rfl, Nat.zero_le _, by simp [maskAdd]⟩, ?_⟩
    rintro _ _ ⟨i, rfl, i1, rfl⟩
    unfold F_worlds_L2 F_worlds_J1
    simp only [forall_eq, decide_eq_true_eq, decide_eq_false_iff_not]
    have alen := maskAdd_len (u.take i) m
    rw [List.length_take] at alen
    refine ⟨fun g => ?_, fun g => ?_⟩
    · have hi : i < u.length := by omega
      rw [mask_bit ⟨m, by omega⟩ ⟨i, by omega⟩, w64 (by omega)]
      have e1 : maskAdd (u.take (i + 1)) m = maskAdd (u.take i) m ++ if m.testBit i = true then [gt u (i : Int)] else [] := by
        rw [takeN_gt hi, maskAdd_snoc, List.length_take, Nat.min_eq_left (by omega)]
      refine ⟨⟨by omega, g⟩, by omega, fun q => ⟨⟨?_, ?_⟩, ⟨i + 1, by omega, by omega, ?_⟩, by omega⟩, fun q => ⟨⟨i + 1, by omega, by omega, ?_⟩, by omega⟩⟩
      · simp only [List.length_append, List.length_singleton, maxLen]; omega
      · simp only [List.length_append, List.length_singleton]; omega
      · rw [e1, if_pos q]
      · rw [e1, if_neg (by rw [q]; decide), List.append_nil]
    · rw [List.take_of_length_le (show u.length ≤ i by omega)]
      have := maskAdd_len u m
      refine ⟨⟨by have := set_len24 hv (TaskOK.rng hv).2.2.1; omega, by omega, set_sorted hu, by omega⟩, ⟨?_, ?_⟩, ⟨m + 1, by rw [w64 (by omega)]; omega, by omega, ?_⟩, ?_⟩
      · rw [List.length_append, olen]; simp only [List.length_singleton, maxLen]; omega
      · rw [List.length_append, olen]; simp only [List.length_singleton]; omega
      · rw [List.range_succ, List.map_append]; rfl
      · rw [w64 (by omega)]; omega
  · obtain ⟨k, _, rfl⟩ := List.mem_map.1 hx
    have := set_len24 hv (mask_set hv hu k)
    omega
  · have : m = 2 ^ u.length := by omega
    rw [this]; rfl
theorem ok_initial : ∀ (t : Task) (unknown : List Int), F_initial t unknown (fun r => r = sp_initial t unknown) := fun t u => by
  unfold F_initial sp_initial
  simp only [forall_eq, fault_ne, fault_eq]
  exact ⟨fun h => by rw [if_neg h], fun h => ⟨unknown_ok h, by rw [if_pos h]⟩⟩
theorem ok_bafter : ∀ (t : Task) (worlds : List (List Int)) (op : Int), pre_bafter t worlds op → F_bafter t worlds op (fun r => r = sp_bafter t worlds op) := fun t ws op ⟨hv, hi, hl, hs⟩ => by
  refine ⟨fun t12 out => ∃ k : Nat, t12 = k ∧ k ≤ ws.length ∧ out = (ws.take k).map fun s => sp_after t s op, fun t12 _ => (ws.length - t12).toNat, ⟨0, rfl, Nat.zero_le _, rfl⟩, ?_⟩
  rintro _ _ ⟨k, rfl, k1, rfl⟩
  unfold F_bafter_L1
  simp only [forall_eq, decide_eq_true_eq, decide_eq_false_iff_not]
  have olen : ((ws.take k).map fun s => sp_after t s op).length = k := by rw [List.length_map, List.length_take]; omega
  refine ⟨fun h => ?_, fun h => ⟨⟨by rw [olen]; omega, fun x hx => ?_⟩, ?_⟩⟩
  · have hk : k < ws.length := by omega
    refine ⟨⟨by omega, h⟩, ⟨hv, hi, hs _ (gt_memN hk)⟩, ⟨?_, ?_⟩, ⟨k + 1, ?_, by omega, ?_⟩, ?_⟩
    · rw [List.length_append, olen]; simp only [List.length_singleton, maxLen]; omega
    · rw [List.length_append, olen]; simp only [List.length_singleton]; omega
    · rw [w64 (by omega)]; omega
    · rw [takeN_gt hk, List.map_append]; rfl
    · rw [w64 (by omega)]; omega
  · obtain ⟨s, _, rfl⟩ := List.mem_map.1 hx
    have := set_len24 hv (after_set (TaskOK.rng hv).1 s op)
    omega
  · rw [List.take_of_length_le (by omega)]; rfl
theorem sure_iff {ws : Bel} {facts : List Int} : sp_sure ws facts = true ↔ ∀ s ∈ ws, ∀ x ∈ facts, x ∈ s := by
  unfold sp_sure sp_sure1 sp_contains2
  simp only [Bool.not_eq_true', List.any_eq_false, Bool.not_eq_false]
  exact ⟨fun h s hs => subset_iff.1 (h s hs), fun h s hs => subset_iff.2 (h s hs)⟩
theorem allHold_iff {ws : Bel} {facts : List Int} : sp_allHold ws facts = true ↔ ∀ s ∈ ws, ∀ x ∈ facts, x ∈ s := by
  unfold sp_allHold
  rw [List.all_eq_true]
  exact ⟨fun h s hs => subset_iff.1 (h s hs), fun h s hs => subset_iff.2 (h s hs)⟩
theorem sure_allHold (ws : Bel) (facts : List Int) : sp_sure ws facts = sp_allHold ws facts := by
  rw [Bool.eq_iff_iff, sure_iff, allHold_iff]
theorem pre_sure_of {t : Task} (hv : sp_validate t = ⟨0, 0⟩) {ws : Bel} (hw : WsOK t ws) {facts : List Int} (hf : sp_isSet facts t.facts = true) : pre_sure ws facts :=
  ⟨by have := hw.1; omega, fun s hs => ⟨by have := set_len24 hv (hw.2 s hs); omega, by have := set_len24 hv hf; omega, set_sorted (hw.2 s hs), set_sorted hf⟩⟩
/-! ### the fault of lists of states -/
theorem wf_ne {t : Task} {ws : Bel} (h : ¬ sp_validate t = ⟨0, 0⟩) : sp_worldsFault t ws = sp_validate t := if_neg h
theorem wf_len {t : Task} {ws : Bel} (hv : sp_validate t = ⟨0, 0⟩) (h : ws.length = 0 ∨ 16 < ws.length) : sp_worldsFault t ws = ⟨9, -9⟩ := by
  rw [sp_worldsFault, if_pos hv, if_pos h]
theorem wf_hit {t : Task} {ws : Bel} (hv : sp_validate t = ⟨0, 0⟩) (h : ¬ (ws.length = 0 ∨ 16 < ws.length)) {k : Nat} (hk : k < ws.length) (hz : ∀ j, j < k → worldBad t ws j = false) (hb : worldBad t ws k = true) : sp_worldsFault t ws = ⟨5, -10 - k⟩ := by
  rw [sp_worldsFault, if_pos hv, if_neg h]
  have : (List.range ws.length).find? (worldBad t ws) = some k := by
    rw [List.find?_range_eq_some]
    exact ⟨hb, List.mem_range.2 hk, fun j hj => by rw [hz j hj]; rfl⟩
  rw [this]
theorem wf_none {t : Task} {ws : Bel} (hv : sp_validate t = ⟨0, 0⟩) (h : ¬ (ws.length = 0 ∨ 16 < ws.length)) (hz : ∀ j, j < ws.length → worldBad t ws j = false) : sp_worldsFault t ws = ⟨0, 0⟩ := by
  rw [sp_worldsFault, if_pos hv, if_neg h]
  have : (List.range ws.length).find? (worldBad t ws) = none := by
    rw [List.find?_eq_none]
    intro j hj
    rw [hz j (List.mem_range.1 hj)]; decide
  rw [this]
theorem wf_ok {t : Task} {ws : Bel} (h : sp_worldsFault t ws = ⟨0, 0⟩) : sp_validate t = ⟨0, 0⟩ ∧ 0 < ws.length ∧ WsOK t ws ∧ ws.Pairwise Bfr := by
  by_cases hv : sp_validate t = ⟨0, 0⟩
  · by_cases hl : ws.length = 0 ∨ 16 < ws.length
    · rw [wf_len hv hl] at h; exact absurd h (fault_mk (by decide))
    · have hz : ∀ j, j < ws.length → worldBad t ws j = false := by
        intro j
        induction j using Nat.strongRecOn with
        | _ j ih =>
          intro hj
          cases hb : worldBad t ws j
          · rfl
          · rw [wf_hit hv hl hj (fun i hi => ih i hi (by omega)) hb] at h
            exact absurd h (fault_mk (by decide))
      have hget : ∀ j : Nat, j < ws.length → ws.getD j [] = gt ws (j : Int) := fun j hj => by
        rw [gt_of ⟨by omega, by omega⟩, List.getD_eq_getElem?_getD, List.getElem?_eq_getElem hj]; rfl
      have key : ∀ j : Nat, j < ws.length → sp_isSet (gt ws (j : Int)) t.facts = true ∧ (0 < j → Bfr (gt ws ((j - 1 : Nat) : Int)) (gt ws (j : Int))) := fun j hj => by
        have := hz j hj
        unfold worldBad at this
        rw [hget j hj] at this
        simp only [Bool.or_eq_false_iff, Bool.not_eq_false', Bool.and_eq_false_iff, decide_eq_false_iff_not] at this
        refine ⟨this.1, fun h0 => ?_⟩
        rw [hget (j - 1) (by omega)] at this
        rcases this.2 with q | q
        · exact absurd h0 q
        · exact (scompare_before _ _).1.1 (by omega)
      have pw : ∀ j : Nat, j < ws.length → ∀ i : Nat, i < j → Bfr (gt ws (i : Int)) (gt ws (j : Int)) := by
        intro j
        induction j with
        | zero => intro _ i hi; omega
        | succ j ih =>
          intro hj i hi
          have h1 := (key (j + 1) hj).2 (by omega)
          rw [Nat.add_sub_cancel] at h1
          rcases Nat.lt_or_ge i j with q | q
          · exact before_trans _ _ _ (ih (by omega) i q) h1
          · rw [show i = j by omega]; exact h1
      refine ⟨hv, by omega, ⟨by omega, fun s hs => ?_⟩, List.pairwise_iff_getElem.2 fun i j hi hj hij => ?_⟩
      · obtain ⟨j, hj, rfl⟩ := mem_gt hs
        exact (key j hj).1
      · have := pw j hj i hij
        rw [gt_of ⟨by omega, by omega⟩, gt_of ⟨by omega, by omega⟩] at this
        simpa using this
  · rw [wf_ne hv] at h; exact absurd h hv
theorem wf_code {t : Task} {ws : Bel} : (sp_worldsFault t ws).code = 0 → sp_worldsFault t ws = ⟨0, 0⟩ := fun h => by
  by_cases hv : sp_validate t = ⟨0, 0⟩
  · by_cases hl : ws.length = 0 ∨ 16 < ws.length
    · rw [wf_len hv hl] at h; exact absurd h (by decide)
    · rw [sp_worldsFault, if_pos hv, if_neg hl] at h ⊢
      cases he : (List.range ws.length).find? (worldBad t ws) with
      | none => rfl
      | some i => rw [he] at h; exact absurd h (by simp)
  · rw [wf_ne hv] at h ⊢; exact validate_code h
theorem badD {t : Task} {ws : Bel} {k : Nat} (hk : k < ws.length) : worldBad t ws k = (!sp_isSet (gt ws (k : Int)) t.facts || (decide (0 < k) && decide (0 ≤ sp_scompare (gt ws ((k - 1 : Nat) : Int)) (gt ws (k : Int))))) := by
  have hget : ∀ j : Nat, j < ws.length → ws.getD j [] = gt ws (j : Int) := fun j hj => by
    rw [gt_of ⟨by omega, by omega⟩, List.getD_eq_getElem?_getD, List.getElem?_eq_getElem hj]; rfl
  rw [worldBad, hget k hk, hget (k - 1) (by omega)]
theorem bad_next {t : Task} {ws : Bel} {k : Nat} (hz : ∀ j, j < k → worldBad t ws j = false) (hb : worldBad t ws k = false) : ∀ j, j < k + 1 → worldBad t ws j = false := fun j hj => by
  rcases Nat.lt_or_ge j k with q | q
  · exact hz j q
  · rw [show j = k by omega]; exact hb
/-- sets ahead are short -/
theorem bad_short {t : Task} (hv : sp_validate t = ⟨0, 0⟩) {ws : Bel} {k : Nat} (hk : k < ws.length) (hb : worldBad t ws k = false) : (gt ws (k : Int)).length ≤ 24 := by
  rw [badD hk] at hb
  simp only [Bool.or_eq_false_iff, Bool.not_eq_false'] at hb
  exact set_len24 hv hb.1
theorem ok_worldsFault : ∀ (t : Task) (worlds : List (List Int)), F_worldsFault t worlds (fun r => r = sp_worldsFault t worlds) := fun t ws => by
  unfold F_worldsFault
  simp only [forall_eq, fault_ne, fault_eq]
  refine ⟨fun h => (wf_ne h).symm, fun hv => ?_⟩
  obtain ⟨f0, f1, _⟩ := TaskOK.rng hv
  have main : ¬ (ws.length = 0 ∨ 16 < ws.length) → F_worldsFault_J1 t ws (fun r => r = sp_worldsFault t ws) false := fun hl => by
    unfold F_worldsFault_J1
    refine ⟨fun h => absurd h (by decide), fun _ => ⟨fun i => ∃ k : Nat, i = k ∧ k ≤ ws.length ∧ ∀ j, j < k → worldBad t ws j = false, fun i => (ws.length - i).toNat, ⟨0, rfl, Nat.zero_le _, fun j hj => by omega⟩, ?_⟩⟩
    rintro _ ⟨k, rfl, k1, k2⟩
    unfold F_worldsFault_L1 F_worldsFault_J2
    simp only [forall_eq, decide_eq_true_eq, decide_eq_false_iff_not, Bool.not_eq_true', Bool.not_eq_false']
    refine ⟨fun h => ?_, fun h => (wf_none hv hl (by have : k = ws.length := by omega
                                                     rw [← this]; exact k2)).symm⟩
    have hk : k < ws.length := by omega
    have hbd := badD (t := t) hk
    rw [w64 (n := -10 - (k : Int)) (by omega), w64 (n := (k : Int) + 1) (by omega)]
    have good : worldBad t ws k = false → (∃ k' : Nat, (k : Int) + 1 = k' ∧ k' ≤ ws.length ∧ ∀ j, j < k' → worldBad t ws j = false) ∧ ((ws.length : Int) - (k + 1)).toNat < ((ws.length : Int) - k).toNat := fun q => ⟨⟨k + 1, by omega, by omega, bad_next k2 q⟩, by omega⟩
    have bad : worldBad t ws k = true → (⟨5, -10 - (k : Int)⟩ : Fault) = sp_worldsFault t ws := fun q => (wf_hit hv hl hk k2 q).symm
    refine ⟨⟨by omega, h⟩, ⟨f0, by omega⟩, fun g => ⟨fun _ => bad (by rw [hbd, g]; rfl), fun q => absurd q (by decide)⟩, fun g => ⟨fun q => ?_, fun q => ⟨fun e => absurd e (by decide), fun _ => good (by rw [hbd, g, decide_eq_false (by omega)]; rfl)⟩⟩⟩
    rw [w64 (n := (k : Int) - 1) (by omega)]
    have e1 : (k : Int) - 1 = ((k - 1 : Nat) : Int) := by omega
    rw [e1]
    have hs1 := bad_short hv (show k - 1 < ws.length by omega) (k2 (k - 1) (by omega))
    have hs2 := set_len24 hv g
    refine ⟨⟨by omega, by omega⟩, ⟨by omega, by omega⟩, fun e => bad ?_, fun e => good ?_⟩
    · rw [hbd, g, decide_eq_true (show 0 < k by omega), decide_eq_true e]; rfl
    · rw [hbd, g, decide_eq_true (show 0 < k by omega), decide_eq_false e]; rfl
  refine ⟨fun h => ?_, fun h => ?_⟩
  · have h0 : ws.length = 0 := by have := beq_iff_eq.1 h; omega
    exact ⟨fun _ => (wf_len hv (.inl h0)).symm, fun e => absurd e (by decide)⟩
  · have h0 : ¬ ws.length = 0 := fun e => (beq_eq_false_iff_ne.1 h) (by omega)
    by_cases h16 : 16 < ws.length
    · rw [decide_eq_true (show (16 : Int) < (ws.length : Int) by omega)]
      exact ⟨fun _ => (wf_len hv (.inr h16)).symm, fun e => absurd e (by decide)⟩
    · rw [decide_eq_false (show ¬ (16 : Int) < (ws.length : Int) by omega)]
      exact main (by omega)
theorem ok_rWorldsFault : ∀ (t : Task) (l : List (List Int)), F_rWorldsFault t l (fun r => r = sp_worldsFault t l) := fun t ws => by
  have key : ∀ x x2 : Int, (x ≠ 0 → (⟨x, x2⟩ : Fault) = sp_worldsFault t ws) → (x = 0 → x2 = 0 ∧ sp_validate t = ⟨0, 0⟩ ∧ ¬ (ws.length = 0 ∨ 16 < ws.length)) → F_rWorldsFault_J2 t ws (fun r => r = sp_worldsFault t ws) x x2 := fun x x2 h1 h2 => by
    refine ⟨fun i x3 x4 => ∃ k : Nat, i = k ∧ k ≤ ws.length ∧ (x3 ≠ 0 → (⟨x3, x4⟩ : Fault) = sp_worldsFault t ws) ∧ (x3 = 0 → x4 = 0 ∧ sp_validate t = ⟨0, 0⟩ ∧ ¬ (ws.length = 0 ∨ 16 < ws.length) ∧ ∀ j, j < k → worldBad t ws j = false), fun i _ _ => (ws.length - i).toNat, ⟨0, rfl, Nat.zero_le _, h1, fun e => ⟨(h2 e).1, (h2 e).2.1, (h2 e).2.2, fun j hj => by omega⟩⟩, ?_⟩
    rintro _ x3 x4 ⟨k, rfl, k1, k2, k3⟩
    unfold F_rWorldsFault_L1 F_rWorldsFault_J3 F_rWorldsFault_J5 F_rWorldsFault_J4
    simp only [forall_eq, sp_at_, decide_eq_true_eq, decide_eq_false_iff_not, beq_iff_eq, beq_eq_false_iff_ne, ne_eq, Bool.not_eq_true', Bool.not_eq_false']
    refine ⟨fun h => ⟨fun e => ?_, k2⟩, fun h => ⟨fun e => absurd e (by decide), fun _ => ?_⟩⟩
    · obtain ⟨e4, hv, hl, hz⟩ := k3 e
      obtain ⟨f0, f1, _⟩ := TaskOK.rng hv
      have hk : k < ws.length := by omega
      have hbd := badD (t := t) hk
      rw [w64 (n := -10 - (k : Int)) (by omega), w64 (n := (k : Int) + 1) (by omega)]
      have mk : ∀ (c i : Int), ((c ≠ 0 → (⟨c, i⟩ : Fault) = sp_worldsFault t ws) ∧ (c = 0 → i = 0 ∧ worldBad t ws k = false)) → (∃ k' : Nat, (k : Int) + 1 = k' ∧ k' ≤ ws.length ∧ (¬ c = 0 → (⟨c, i⟩ : Fault) = sp_worldsFault t ws) ∧ (c = 0 → i = 0 ∧ sp_validate t = ⟨0, 0⟩ ∧ ¬ (ws.length = 0 ∨ 16 < ws.length) ∧ ∀ j, j < k' → worldBad t ws j = false)) ∧ ((ws.length : Int) - (k + 1)).toNat < ((ws.length : Int) - k).toNat := fun c i ⟨a, b⟩ => ⟨⟨k + 1, by omega, by omega, a, fun e => ⟨(b e).1, hv, hl, bad_next hz (b e).2⟩⟩, by omega⟩
      have bad : worldBad t ws k = true → _ := fun q => mk 5 (-10 - (k : Int)) ⟨fun _ => (wf_hit hv hl hk hz q).symm, fun e => absurd e (by decide)⟩
      have good : worldBad t ws k = false → _ := fun q => mk x3 x4 ⟨k2, fun _ => ⟨e4, q⟩⟩
      refine ⟨⟨by omega, h⟩, ⟨f0, by omega⟩, fun g => ⟨fun _ => bad (by rw [hbd, g]; rfl), fun q => absurd q (by decide)⟩, fun g => ⟨fun q => ?_, fun q => ⟨fun e => absurd e (by decide), fun _ => good (by rw [hbd, g, decide_eq_false (by omega)]; rfl)⟩⟩⟩
      rw [w64 (n := (k : Int) - 1) (by omega)]
      have e1 : (k : Int) - 1 = ((k - 1 : Nat) : Int) := by omega
      rw [e1]
      have hs1 := bad_short hv (show k - 1 < ws.length by omega) (hz (k - 1) (by omega))
      have hs2 := set_len24 hv g
      refine ⟨⟨by omega, by omega⟩, ⟨by omega, by omega⟩, fun e => bad ?_, fun e => good ?_⟩
      · rw [hbd, g, decide_eq_true (show 0 < k by omega), decide_eq_true (scompare_not.2 e)]; rfl
      · rw [hbd, g, decide_eq_true (show 0 < k by omega), decide_eq_false fun q => by rw [scompare_not.1 q] at e; cases e]; rfl
    · by_cases e : x3 = 0
      · obtain ⟨e4, hv, hl, hz⟩ := k3 e
        have : k = ws.length := by omega
        rw [e, e4]
        exact (wf_none hv hl (by rw [← this]; exact hz)).symm
      · exact k2 e
  unfold F_rWorldsFault F_rWorldsFault_J1
  simp only [forall_eq, sp_at_, sp_in_, beq_iff_eq, beq_eq_false_iff_ne, ne_eq, Bool.not_eq_true', Bool.not_eq_false', Bool.and_eq_true, Bool.and_eq_false_iff, decide_eq_true_eq, decide_eq_false_iff_not]
  refine ⟨fun h => ?_, fun h => ⟨fun e => absurd e (by decide), fun _ => key _ _ (fun _ => (wf_ne fun e => h (by rw [e])).symm) (fun e => absurd e h)⟩⟩
  have hv := validate_code h
  refine ⟨fun g => key _ _ (fun _ => (wf_len hv (by omega)).symm) (fun e => absurd e (by decide)), fun g => key _ _ (fun e => absurd h e) (fun _ => ⟨by rw [hv], hv, by omega⟩)⟩
theorem ok_holds : ∀ (t : Task) (worlds : List (List Int)) (facts : List Int), F_holds t worlds facts (fun r => r = sp_holds t worlds facts) := fun t ws facts => by
  unfold F_holds sp_holds
  simp only [forall_eq, fault_ne, fault_eq]
  simp only [Bool.not_eq_true', Bool.not_eq_false']
  refine ⟨fun h => by rw [if_neg h], fun h => ?_⟩
  obtain ⟨hv, _, hw, _⟩ := wf_ok h
  obtain ⟨f0, f1, _⟩ := TaskOK.rng hv
  rw [if_pos h]
  exact ⟨⟨f0, by omega⟩, fun g => by rw [g]; rfl, fun g => ⟨pre_sure_of hv hw g, by rw [if_pos g]⟩⟩
theorem ok_apply : ∀ (t : Task) (worlds : List (List Int)) (op : Int), F_apply t worlds op (fun r => r = sp_apply t worlds op) := fun t ws op => by
  unfold F_apply F_apply_J1 sp_apply
  simp only [forall_eq, fault_ne, fault_eq]
  simp only [decide_eq_true_eq, decide_eq_false_iff_not, Bool.not_eq_true', Bool.not_eq_false']
  refine ⟨fun h => by rw [if_neg h], fun h => ?_⟩
  obtain ⟨hv, _, hw, _⟩ := wf_ok h
  rw [if_pos h]
  refine ⟨fun g => ⟨fun _ => by rw [if_pos (.inl g)], fun e => absurd e (by decide)⟩, fun g => ⟨fun q => by rw [if_pos (.inr q)], fun q => ?_⟩⟩
  rw [if_neg (by omega)]
  have hi : inb t.ops op := ⟨by omega, by omega⟩
  refine ⟨hi, pre_sure_of hv hw ((taskOK_of hv).op hi).1, fun e => by rw [if_neg (by rw [e]; decide)], fun e => ⟨⟨hv, hi, hw⟩, by rw [if_pos e]⟩⟩
theorem worlds_ok {t : Task} {u : List Int} (h : UOK t u) : WsOK t (sp_worlds t u) := ⟨worlds_len h.2.1, fun _ hs => worlds_set h.1 h.2.2 hs⟩
/-! ### the reference's functions -/
theorem changed_len (n : Int) (s add del : List Int) : (sp_changed n s add del).length ≤ n.toNat := by
  unfold sp_changed
  exact Nat.le_trans (List.length_filter_le _ _) (by rw [allS_len]; exact Nat.le_refl _)
theorem possible_rows {t : Task} (hv : sp_validate t = ⟨0, 0⟩) (u : List Int) {s : List Int} (h : s ∈ sp_possible t u) : s.length ≤ 24 := by
  obtain ⟨f0, f1, hi, _⟩ := TaskOK.rng hv
  rcases List.eq_nil_or_concat u with rfl | ⟨u, x, rfl⟩
  · rw [List.mem_singleton.1 (show s ∈ [t.init] from h)]; exact set_len24 hv hi
  · rw [List.concat_eq_append, possible_snoc] at h
    rcases mem_flips.1 h with h | ⟨s0, _, rfl | rfl⟩
    · cases h
    · have := changed_len t.facts s0 [x] []; omega
    · have := changed_len t.facts s0 [] [x]; omega
theorem ok_possible : ∀ (t : Task) (unknown : List Int), pre_possible t unknown → F_possible t unknown (fun r => r = sp_possible t unknown) := fun t u ⟨hv, hl, hu⟩ => by
  obtain ⟨f0, f1, hi, _⟩ := TaskOK.rng hv
  refine ⟨fun out i => ∃ j : Nat, i = j ∧ j ≤ u.length ∧ out = sp_possible t (u.take j), fun _ i => (u.length - i).toNat, ⟨0, rfl, Nat.zero_le _, by simp [sp_possible]⟩, ?_⟩
  rintro _ _ ⟨j, rfl, j1, rfl⟩
  have plen : (sp_possible t (u.take j)).length ≤ 16 := by
    refine Nat.le_trans (possible_len _ _ rfl) ?_
    rw [List.length_take]
    calc 2 ^ min j u.length ≤ 2 ^ 4 := Nat.pow_le_pow_right (by decide) (by omega)
      _ = 16 := rfl
  have prow := fun s hs => possible_rows hv (u.take j) (s := s) hs
  unfold F_possible_L1
  simp only [decide_eq_true_eq, decide_eq_false_iff_not]
  refine ⟨fun h => ?_, fun h => by rw [List.take_of_length_le (by omega)]⟩
  have hj : j < u.length := by omega
  refine ⟨fun next k => ∃ q : Nat, k = q ∧ q ≤ (sp_possible t (u.take j)).length ∧ next = ((sp_possible t (u.take j)).take q).foldl (flip2 t.facts (gt u (j : Int))) [], fun _ k => ((sp_possible t (u.take j)).length - k).toNat, ⟨0, rfl, Nat.zero_le _, rfl⟩, ?_⟩
  rintro _ _ ⟨q, rfl, q1, rfl⟩
  unfold F_possible_L2
  simp only [forall_eq, decide_eq_true_eq, decide_eq_false_iff_not]
  generalize hout : sp_possible t (u.take j) = out at *
  have nlen := flips_len (n := t.facts) (x := gt u (j : Int)) (out.take q) []
  rw [List.length_take, List.length_nil] at nlen
  have nrow : ∀ s ∈ (out.take q).foldl (flip2 t.facts (gt u (j : Int))) [], s.length ≤ 24 := fun s hs => by
    rcases mem_flips.1 hs with h | ⟨s0, _, rfl | rfl⟩
    · cases h
    · have := changed_len t.facts s0 [gt u (j : Int)] []; omega
    · have := changed_len t.facts s0 [] [gt u (j : Int)]; omega
  refine ⟨fun g => ?_, fun g => ?_⟩
  · have hq : q < out.length := by omega
    have hr := prow _ (gt_memN hq)
    have c1 := changed_len t.facts (gt out (q : Int)) [gt u (j : Int)] []
    have c2 := changed_len t.facts (gt out (q : Int)) [] [gt u (j : Int)]
    have i1 := insert_len ((out.take q).foldl (flip2 t.facts (gt u (j : Int))) []) (sp_changed t.facts (gt out (q : Int)) [gt u (j : Int)] [])
    refine ⟨⟨by omega, g⟩, ⟨by omega, h⟩, ⟨f0, by omega, by omega, by simp, by simp⟩, ⟨by omega, by omega, fun s hs => by have := nrow s hs; omega⟩, ⟨f0, by omega, by omega, by simp, by simp⟩, ⟨by omega, by omega, fun s hs => ?_⟩, ⟨q + 1, ?_, by omega, ?_⟩, ?_⟩
    · rcases mem_insert.1 hs with rfl | hs
      · omega
      · have := nrow s hs; omega
    · rw [w64 (by omega)]; omega
    · rw [takeN_gt hq, List.foldl_append]; rfl
    · rw [w64 (by omega)]; omega
  · rw [w64 (by omega), List.take_of_length_le (show out.length ≤ q by omega)]
    refine ⟨⟨j + 1, by omega, by omega, ?_⟩, by omega⟩
    rw [takeN_gt hj, possible_snoc, hout]
theorem ok_afterAll : ∀ (t : Task) (l : List (List Int)) (op : Int), pre_afterAll t l op → F_afterAll t l op (fun r => r = sp_afterAll t l op) := fun t ws op ⟨hv, hi, hl, hs⟩ => by
  refine ⟨fun out i => ∃ k : Nat, i = k ∧ k ≤ ws.length ∧ out = sp_normal ((ws.take k).map fun s => sp_after t s op), fun _ i => (ws.length - i).toNat, ⟨0, rfl, Nat.zero_le _, rfl⟩, ?_⟩
  rintro _ _ ⟨k, rfl, k1, rfl⟩
  unfold F_afterAll_L1
  simp only [forall_eq, decide_eq_true_eq, decide_eq_false_iff_not]
  have hrow : ∀ s : List Int, (sp_after t s op).length ≤ 24 := fun s => set_len24 hv (after_set (TaskOK.rng hv).1 s op)
  refine ⟨fun h => ?_, fun h => ?_⟩
  · have hk : k < ws.length := by omega
    have nl := normal_len ((ws.take k).map fun s => sp_after t s op)
    rw [List.length_map, List.length_take] at nl
    refine ⟨⟨by omega, h⟩, ⟨hv, hi, by have := set_len24 hv (hs _ (gt_memN hk)); omega⟩, ⟨by omega, by have := hrow (gt ws (k : Int)); omega, fun s hs' => ?_⟩, ⟨k + 1, ?_, by omega, ?_⟩, ?_⟩
    · obtain ⟨s0, _, rfl⟩ := List.mem_map.1 (mem_normal.1 hs')
      have := hrow s0; omega
    · rw [w64 (by omega)]; omega
    · rw [takeN_gt hk, List.map_append, sp_normal, sp_normal, List.foldl_append]; rfl
    · rw [w64 (by omega)]; omega
  · rw [List.take_of_length_le (by omega)]; rfl
theorem ok_allHold : ∀ (l : List (List Int)) (facts : List Int), pre_allHold l facts → F_allHold l facts (fun r => r = sp_allHold l facts) := fun l facts ⟨h1, h2, h3⟩ => by
  refine ⟨fun i => ∃ k : Nat, i = k ∧ k ≤ l.length ∧ ∀ s ∈ l.take k, sp_subset facts s = true, fun i => (l.length - i).toNat, ⟨0, rfl, Nat.zero_le _, by simp⟩, ?_⟩
  rintro _ ⟨k, rfl, k1, k2⟩
  unfold F_allHold_L1
  simp only [forall_eq, decide_eq_true_eq, decide_eq_false_iff_not, Bool.not_eq_true', Bool.not_eq_false']
  refine ⟨fun h => ?_, fun h => ?_⟩
  · have hk : k < l.length := by omega
    refine ⟨⟨by omega, h⟩, ⟨h2, h3 _ (gt_memN hk)⟩, fun g => ?_, fun g => ?_⟩
    · refine (Bool.eq_false_iff.2 fun e => ?_).symm
      have := List.all_eq_true.1 e _ (gt_memN hk)
      rw [g] at this; cases this
    · rw [w64 (by omega)]
      refine ⟨⟨k + 1, by omega, by omega, fun s hs => ?_⟩, by omega⟩
      rw [takeN_gt hk] at hs
      rcases List.mem_append.1 hs with hs | hs
      · exact k2 s hs
      · rw [List.mem_singleton.1 hs]; exact g
  · rw [List.take_of_length_le (by omega)] at k2
    exact (List.all_eq_true.2 k2).symm
theorem ok_sets : ∀ (a : List (List Int)) (b : List (List Int)), pre_sets a b → F_sets a b (fun r => r = sp_sets a b) := fun a b ⟨h1, h2, h3, h4⟩ => by
  unfold F_sets
  simp only [bne_iff_ne, ne_eq, bne_eq_false_iff_eq]
  refine ⟨fun h => (decide_eq_false fun e => h (by rw [e])).symm, fun h => ?_⟩
  have hl : a.length = b.length := by omega
  refine ⟨fun t => ∃ k : Nat, t = k ∧ k ≤ a.length ∧ a.take k = b.take k, fun t => (a.length - t).toNat, ⟨0, rfl, Nat.zero_le _, by simp⟩, ?_⟩
  rintro _ ⟨k, rfl, k1, k2⟩
  unfold F_sets_L1
  simp only [forall_eq, decide_eq_true_eq, decide_eq_false_iff_not, Bool.not_eq_true', Bool.not_eq_false', sp_numbers]
  refine ⟨fun g => ⟨⟨by omega, g⟩, ⟨by omega, by omega⟩, h3 _ (gt_memN (by omega)), fun q => (decide_eq_false fun e => q (by rw [e])).symm, fun q => ?_⟩, fun g => ?_⟩
  · rw [w64 (by omega)]
    exact ⟨⟨k + 1, by omega, by omega, take_same (by omega) (by omega) k2 q⟩, by omega⟩
  · rw [List.take_of_length_le (by omega), List.take_of_length_le (by omega)] at k2
    exact (decide_eq_true k2).symm
theorem ok_able : F_able (fun r => r = sp_able) := rfl
theorem ok_succ : ∀ (t : Task) (worlds : List (List Int)), F_succ t worlds (fun r => r = sp_succ t worlds) := fun _ _ => rfl
theorem ok_bnext : ∀ (t : Task), F_bnext t (fun r => r = sp_bnext t) := fun _ => rfl
theorem ok_bnext1 : ∀ (worlds : List (List Int)) (x : Task), F_bnext1 worlds x (fun r => r = sp_bnext1 worlds x) := fun _ _ _ _ => rfl
theorem ok_small1 : ∀ (x : List (List Int)), F_small1 x (fun r => r = sp_small1 x) := fun _ => rfl
theorem ok_plan1 : ∀ (w_ : List (List Int)) (x : Task), pre_plan1 w_ x → F_plan1 w_ x (fun r => r = sp_plan1 w_ x) := fun _ _ ⟨hv, hw⟩ => ⟨pre_sure_of hv hw (TaskOK.rng hv).2.2.2, fun _ hr => hr⟩
end Go.Proofs.YtojoehfldbimpaaGreatDoor.Pl

