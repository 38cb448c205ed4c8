/- What the reference's searches among beliefs ask and give. Plain Lean. No condition. -/
import Derived.Test.YtojoehfldbimpaaGreatDoorK5
namespace Go.Proofs.YtojoehfldbimpaaGreatDoor.Pl
open Go Go.RowKit
theorem placeOf_mem {all : List Bel} {l : Bel} (h : l ∈ all) : inb all (sp_placeOf all l) ∧ gt all (sp_placeOf all l) = l := by
  have hl := List.idxOf_lt_length_of_mem h
  rw [sp_placeOf, if_pos h]
  refine ⟨⟨by omega, by omega⟩, ?_⟩
  rw [gt_of ⟨by omega, by omega⟩]
  simp only [Int.toNat_natCast, List.getElem_idxOf]
theorem placeOf_neg {all : List Bel} {l : Bel} : sp_placeOf all l < 0 ↔ l ∉ all := by
  unfold sp_placeOf
  split
  · rename_i h; constructor
    · intro q; omega
    · intro q; exact absurd h q
  · rename_i h; exact ⟨fun _ => h, fun _ => by decide⟩
theorem place_pre {t : Task} (hv : sp_validate t = ⟨0, 0⟩) {all : List Bel} (hl : all.length ≤ 1000) (h : ∀ b ∈ all, WsOK t b) {l : Bel} (hw : WsOK t l) : pre_placeOf all l :=
  ⟨hl, fun x hx => ⟨by have := (h x hx).1; omega, fun s hs => by have := set_len24 hv ((h x hx).2 s hs); omega⟩, by have := hw.1; omega, fun s hs => by have := set_len24 hv (hw.2 s hs); omega⟩
theorem allHold_pre {t : Task} (hv : sp_validate t = ⟨0, 0⟩) {ws : Bel} (hw : WsOK t ws) {facts : List Int} (hf : sp_isSet facts t.facts = true) : pre_allHold ws facts :=
  ⟨by have := hw.1; omega, by have := set_len24 hv hf; omega, fun s hs => by have := set_len24 hv (hw.2 s hs); omega⟩
theorem observed_ok {t : Task} {ws : Bel} (hw : WsOK t ws) (f : Int) : WsOK t (sp_observed ws f).1 ∧ WsOK t (sp_observed ws f).2 :=
  ⟨⟨Nat.le_trans (List.length_filter_le _ _) hw.1, fun s hs => hw.2 s (List.mem_filter.1 hs).1⟩, Nat.le_trans (List.length_filter_le _ _) hw.1, fun s hs => hw.2 s (List.mem_filter.1 hs).1⟩
def obs2 (ws : Bel) (f : Int) : List Bel := if (sp_observed ws f).1 ≠ [] ∧ (sp_observed ws f).2 ≠ [] then [(sp_observed ws f).1, (sp_observed ws f).2] else []
theorem osucc_def (t : Task) (sensors : List Int) (ws : Bel) : osucc t sensors ws = (bsucc t ws).map (·.2) ++ sensors.flatMap (obs2 ws) := rfl
theorem osucc_ok {t : Task} (hv : sp_validate t = ⟨0, 0⟩) {sensors : List Int} {ws x : Bel} (hw : WsOK t ws) (h : x ∈ osucc t sensors ws) : WsOK t x := by
  rw [osucc_def] at h
  rcases List.mem_append.1 h with h | h
  · obtain ⟨y, hy, rfl⟩ := List.mem_map.1 h
    exact bsucc_ok hv hw hy
  · obtain ⟨f, _, hf⟩ := List.mem_flatMap.1 h
    unfold obs2 at hf
    split at hf
    · simp only [List.mem_cons, List.not_mem_nil, or_false] at hf
      rcases hf with rfl | rfl
      · exact (observed_ok hw f).1
      · exact (observed_ok hw f).2
    · cases hf
theorem obs2_len (ws : Bel) : ∀ l : List Int, (l.flatMap (obs2 ws)).length ≤ 2 * l.length
  | [] => by simp
  | f :: r => by
    have := obs2_len ws r
    have h2 : (obs2 ws f).length ≤ 2 := by unfold obs2; split <;> simp
    rw [List.flatMap_cons, List.length_append, List.length_cons]; omega
theorem opS_len (t : Task) (ws : Bel) (l : List Int) : (l.filterMap (opS t ws)).length ≤ l.length := List.length_filterMap_le _ _
theorem room24 {α : Type} {l : List α} {k : Nat} (h : l.length ≤ k) (hk : k ≤ 100000) : room l.length 24 := ⟨by unfold maxLen; omega, by omega⟩
theorem ok_beliefs : ∀ (t : Task) (start2 : List (List Int)) (sensors : List Int) (most : Int), pre_beliefs t start2 sensors most → F_beliefs t start2 sensors most (fun r => r = sp_beliefs t start2 sensors most) := fun t start sensors most ⟨hv, hw, hsen, hm1, hm2⟩ => by
  have hops := (taskOK_of hv).len
  have hsl := set_len24 hv hsen
  refine ⟨fun i all => ∃ k : Nat, i = k ∧ k ≤ all.length ∧ (all.length : Int) ≤ most ∧ (∀ b ∈ all, WsOK t b) ∧ bclose most (osucc t sensors) (most.toNat + 1 - k) all k = bclose most (osucc t sensors) (most.toNat + 1) [start] 0, fun i _ => (most + 1 - i).toNat, ⟨0, rfl, by simp, by simpa using hm1, fun b hb => by rw [List.mem_singleton.1 hb]; exact hw, rfl⟩, ?_⟩
  rintro _ all ⟨k, rfl, k1, k2, k3, k4⟩
  have ef : most.toNat + 1 - k = (most.toNat - k) + 1 := by omega
  rw [ef, bclose] at k4
  unfold F_beliefs_L1
  simp only [decide_eq_true_eq, decide_eq_false_iff_not]
  refine ⟨fun h => ?_, fun h => ?_⟩
  · have hk : k < all.length := by omega
    have hg : all[k]? = some (gt all (k : Int)) := by
      have := gt_get (xs := all) (i := (k : Int)) ⟨by omega, by omega⟩
      rwa [Int.toNat_natCast] at this
    simp only [hg] at k4
    have hwn := k3 _ (gt_memN hk)
    generalize hn : gt all (k : Int) = node at *
    refine ⟨fun op next => ∃ j : Nat, op = j ∧ j ≤ t.ops.length ∧ next = (((allS t.ops.length).take j).filterMap (opS t node)).map (·.2), fun op _ => (t.ops.length - op).toNat, ⟨0, rfl, Nat.zero_le _, rfl⟩, ?_⟩
    rintro _ _ ⟨j, rfl, j1, rfl⟩
    have nl : ((((allS t.ops.length).take j).filterMap (opS t node)).map (·.2)).length ≤ 40 := by
      rw [List.length_map]
      refine Nat.le_trans (opS_len _ _ _) ?_
      rw [List.length_take, allS_len]; omega
    unfold F_beliefs_L2 F_beliefs_J1
    simp only [hn, forall_eq, decide_eq_true_eq, decide_eq_false_iff_not]
    refine ⟨fun g => ?_, fun g => ?_⟩
    · have hin : inb t.ops (j : Int) := ⟨by omega, g⟩
      have hj : j < t.ops.length := by omega
      rw [w64 (n := (j : Int) + 1) (by omega)]
      have et : (allS t.ops.length).take (j + 1) = (allS t.ops.length).take j ++ [(j : Int)] := by
        rw [List.take_succ_eq_append_getElem (by rw [allS_len]; exact hj)]
        congr 1
        simp [allS]
      refine ⟨⟨by omega, h⟩, hin, allHold_pre hv hwn ((taskOK_of hv).op hin).1, fun q => ⟨⟨hv, hin, hwn⟩, room24 (k := 41) (by rw [List.length_append]; simp only [List.length_singleton]; omega) (by decide), ⟨j + 1, by omega, by omega, ?_⟩, by omega⟩, fun q => ⟨⟨j + 1, by omega, by omega, ?_⟩, by omega⟩⟩
      · rw [et, List.filterMap_append, List.map_append, List.filterMap_cons, opS, sure_allHold, if_pos q]; rfl
      · rw [et, List.filterMap_append, List.map_append, List.filterMap_cons, opS, sure_allHold, if_neg (by rw [q]; decide)]; simp
    · have ej : (allS t.ops.length).take j = allS t.ops.length := List.take_of_length_le (by rw [allS_len]; omega)
      rw [ej] at nl ⊢
      refine ⟨fun s next4 => ∃ q : Nat, s = q ∧ q ≤ sensors.length ∧ next4 = ((allS t.ops.length).filterMap (opS t node)).map (·.2) ++ (sensors.take q).flatMap (obs2 node), fun s _ => (sensors.length - s).toNat, ⟨0, rfl, Nat.zero_le _, by simp⟩, ?_⟩
      rintro _ _ ⟨q, rfl, q1, rfl⟩
      have ol := obs2_len node (sensors.take q)
      rw [List.length_take] at ol
      unfold F_beliefs_L3 F_beliefs_J3 F_beliefs_J2
      simp only [hn, forall_eq, decide_eq_true_eq, decide_eq_false_iff_not]
      refine ⟨fun e => ?_, fun e => ?_⟩
      · have hq : q < sensors.length := by omega
        rw [w64 (n := (q : Int) + 1) (by omega)]
        have pos : ∀ l : Bel, (0 : Int) < (l.length : Int) ↔ l ≠ [] := fun l => by
          cases l with
          | nil => simp
          | cons a r => simp
        have yes : (sp_observed node (gt sensors (q : Int))).1 ≠ [] ∧ (sp_observed node (gt sensors (q : Int))).2 ≠ [] → ∃ q' : Nat, ((q : Int) + 1) = q' ∧ q' ≤ sensors.length ∧ ((allS t.ops.length).filterMap (opS t node)).map (·.2) ++ (sensors.take q).flatMap (obs2 node) ++ [(sp_observed node (gt sensors (q : Int))).1, (sp_observed node (gt sensors (q : Int))).2] = ((allS t.ops.length).filterMap (opS t node)).map (·.2) ++ (sensors.take q').flatMap (obs2 node) := fun c => ⟨q + 1, by omega, by omega, by
          rw [takeN_gt hq, List.flatMap_append, List.append_assoc]
          simp only [List.flatMap_cons, List.flatMap_nil, List.append_nil]
          rw [obs2, if_pos c]⟩
        have no : ¬ ((sp_observed node (gt sensors (q : Int))).1 ≠ [] ∧ (sp_observed node (gt sensors (q : Int))).2 ≠ []) → ∃ q' : Nat, ((q : Int) + 1) = q' ∧ q' ≤ sensors.length ∧ ((allS t.ops.length).filterMap (opS t node)).map (·.2) ++ (sensors.take q).flatMap (obs2 node) = ((allS t.ops.length).filterMap (opS t node)).map (·.2) ++ (sensors.take q').flatMap (obs2 node) := fun c => ⟨q + 1, by omega, by omega, by
          rw [takeN_gt hq, List.flatMap_append]
          simp only [List.flatMap_cons, List.flatMap_nil, List.append_nil]
          rw [obs2, if_neg c, List.append_nil]⟩
        refine ⟨⟨by omega, h⟩, ⟨by omega, e⟩, ⟨by have := hwn.1; omega, fun s hs => by have := set_len24 hv (hwn.2 s hs); omega⟩, fun a => ⟨fun b => ⟨room24 (k := 200) ?_ (by decide), yes ⟨(pos _).1 a, (pos _).1 b⟩, by omega⟩, fun b => ⟨no fun c => b ((pos _).2 c.2), by omega⟩⟩, fun a => ⟨fun b => absurd b (by decide), fun _ => ⟨no fun c => a ((pos _).2 c.1), by omega⟩⟩⟩
        rw [List.length_append, List.length_append]; simp only [List.length_cons, List.length_nil]; omega
      · have eq : sensors.take q = sensors := List.take_of_length_le (by omega)
        rw [eq]
        have en : ((allS t.ops.length).filterMap (opS t node)).map (·.2) ++ sensors.flatMap (obs2 node) = osucc t sensors node := rfl
        rw [en]
        have nlen : (osucc t sensors node).length ≤ 200 := by
          rw [← en, List.length_append]
          have := obs2_len node sensors
          omega
        have nok : ∀ x ∈ osucc t sensors node, WsOK t x := fun x hx => osucc_ok hv hwn hx
        refine ⟨fun k3 all3 => ∃ r : Nat, k3 = r ∧ r ≤ (osucc t sensors node).length ∧ k < all3.length ∧ (all3.length : Int) ≤ most ∧ (∀ b ∈ all3, WsOK t b) ∧ addNew most ((osucc t sensors node).drop r) all3 = addNew most (osucc t sensors node) all, fun k3 _ => ((osucc t sensors node).length - k3).toNat, ⟨0, rfl, Nat.zero_le _, hk, k2, k3, rfl⟩, ?_⟩
        rintro _ all3 ⟨r, rfl, r1, r2, r3, r4, r5⟩
        unfold F_beliefs_L4 F_beliefs_J4
        simp only [forall_eq, decide_eq_true_eq, decide_eq_false_iff_not, placeOf_neg]
        refine ⟨fun f => ?_, fun f => ?_⟩
        · have hr : r < (osucc t sensors node).length := by omega
          have hx := nok _ (gt_memN hr)
          rw [drop_gtN hr, addNew] at r5
          rw [w64 (n := (r : Int) + 1) (by omega)]
          refine ⟨⟨by omega, f⟩, place_pre hv (by omega) r4 hx, fun a => ⟨fun b => ?_, fun b => ⟨room24 (k := 1001) (by rw [List.length_append]; simp only [List.length_singleton]; omega) (by decide), ⟨r + 1, by omega, by omega, by rw [List.length_append]; omega, by rw [List.length_append]; simp only [List.length_singleton]; omega, fun y hy => ?_, ?_⟩, by omega⟩⟩, fun a => ⟨⟨r + 1, by omega, by omega, r2, r3, r4, ?_⟩, by omega⟩⟩
          · rw [if_neg a, if_pos b] at r5
            rw [← r5] at k4
            simp only at k4
            unfold sp_beliefs
            rw [← k4]
          · rcases List.mem_append.1 hy with hy | hy
            · exact r4 y hy
            · rw [List.mem_singleton.1 hy]; exact hx
          · rw [if_neg a, if_neg b] at r5; exact r5
          · rw [if_pos (Classical.not_not.1 a)] at r5; exact r5
        · rw [List.drop_eq_nil_of_le (by omega), addNew] at r5
          rw [← r5] at k4
          simp only at k4
          rw [w64 (n := (k : Int) + 1) (by omega)]
          exact ⟨⟨k + 1, by omega, by omega, r3, r4, by rw [show most.toNat + 1 - (k + 1) = most.toNat - k by omega]; exact k4⟩, by omega⟩
  · have hn : all[k]? = none := List.getElem?_eq_none (by omega)
    simp only [hn] at k4
    unfold sp_beliefs
    rw [← k4]
/-! ### distances -/
def dsum (d : List Int) : Nat := (d.map Int.toNat).sum
theorem dsum_set : ∀ (d : List Int) (i : Nat) (v : Int), i < d.length → 0 ≤ v → v < d.getD i 0 → dsum (d.set i v) < dsum d
  | [], i, v, h, _, _ => by simp at h
  | x :: r, 0, v, _, h0, hv => by
    have : v < x := by simpa using hv
    simp only [dsum, List.set_cons_zero, List.map_cons, List.sum_cons]; omega
  | x :: r, i + 1, v, h, h0, hv => by
    have := dsum_set r i v (by simpa using h) h0 (by simpa using hv)
    simp only [dsum, List.set_cons_succ, List.map_cons, List.sum_cons] at this ⊢; omega
/-- the next node by an operator -/
def nxt (t : Task) (all : List Bel) (i : Nat) (o : Int) : Int := sp_placeOf all (sp_bafter t (gt all (i : Int)) o)
def edge (t : Task) (all : List Bel) (i : Nat) (o : Int) : Prop := inb t.ops o ∧ sp_allHold (gt all (i : Int)) (gt t.ops o).pre = true
def isGoal (t : Task) (all : List Bel) (i : Nat) : Prop := sp_allHold (gt all (i : Int)) t.goal = true
theorem Closed.nxt {t : Task} {all : List Bel} (h : Closed t all) {i : Nat} (hi : i < all.length) {o : Int} (e : edge t all i o) : inb all (nxt t all i o) ∧ gt all (nxt t all i o) = sp_bafter t (gt all (i : Int)) o ∧ (o, sp_bafter t (gt all (i : Int)) o) ∈ bsucc t (gt all (i : Int)) := by
  have hm : (o, sp_bafter t (gt all (i : Int)) o) ∈ bsucc t (gt all (i : Int)) := mem_bsucc.2 ⟨e.1, by rw [sure_allHold]; exact e.2, rfl⟩
  have := placeOf_mem (h.step _ (gt_memN hi) _ hm)
  exact ⟨this.1, this.2, hm⟩
structure DInv (t : Task) (all : List Bel) (d : List Int) : Prop where
  len : d.length = all.length
  goal : ∀ i : Nat, i < all.length → isGoal t all i → gt d (i : Int) = 0
  pos : ∀ i : Nat, i < all.length → ¬ isGoal t all i → 1 ≤ gt d (i : Int) ∧ gt d (i : Int) ≤ 1000000000
  wit : ∀ i : Nat, i < all.length → ¬ isGoal t all i → gt d (i : Int) < 1000000000 → ∃ o, edge t all i o ∧ gt d (nxt t all i o) + 1 ≤ gt d (i : Int)
theorem DInv.rng {t : Task} {all : List Bel} {d : List Int} (h : DInv t all d) {i : Int} (hi : inb all i) : 0 ≤ gt d i ∧ gt d i ≤ 1000000000 := by
  obtain ⟨k, rfl⟩ : ∃ k : Nat, i = k := ⟨i.toNat, by have := hi.1; omega⟩
  have hk : k < all.length := by have := hi.2; omega
  by_cases g : isGoal t all k
  · rw [h.goal k hk g]; decide
  · have := h.pos k hk g; omega
theorem DInv.relax {t : Task} {all : List Bel} {d : List Int} (hc : Closed t all) (h : DInv t all d) {i : Nat} (hi : i < all.length) {o : Int} (e : edge t all i o) (hl : gt d (nxt t all i o) + 1 < gt d (i : Int)) : DInv t all (d.set i (gt d (nxt t all i o) + 1)) ∧ dsum (d.set i (gt d (nxt t all i o) + 1)) < dsum d := by
  obtain ⟨n1, _, _⟩ := hc.nxt hi e
  have hr := h.rng n1
  have hin : inb d ((i : Nat) : Int) := ⟨by omega, by rw [h.len]; omega⟩
  have hset : ∀ j : Int, 0 ≤ j → gt (d.set i (gt d (nxt t all i o) + 1)) j = if j = (i : Int) then gt d (nxt t all i o) + 1 else gt d j := fun j hj => by
    have := gt_setI (x := gt d (nxt t all i o) + 1) hin hj
    rwa [Int.toNat_natCast] at this
  have ng : ¬ isGoal t all i := fun g => by have := h.goal i hi g; omega
  have hp := h.pos i hi ng
  refine ⟨⟨by rw [List.length_set]; exact h.len, fun j hj g => ?_, fun j hj g => ?_, fun j hj g hlt => ?_⟩, ?_⟩
  · rw [hset _ (by omega), if_neg (show ¬ ((j : Int) = (i : Int)) from fun q => ng ((show j = i by omega) ▸ g))]
    exact h.goal j hj g
  · rw [hset _ (by omega)]
    split
    · omega
    · exact h.pos j hj g
  · rw [hset _ (by omega)] at hlt ⊢
    by_cases q : (j : Int) = (i : Int)
    · rw [if_pos q]
      have : j = i := by omega
      subst this
      refine ⟨o, e, ?_⟩
      rw [hset _ n1.1]
      split
      · rename_i q2; rw [q2] at hl; omega
      · omega
    · rw [if_neg q] at hlt ⊢
      obtain ⟨o', e', l'⟩ := h.wit j hj g hlt
      obtain ⟨m1, _, _⟩ := hc.nxt hj e'
      refine ⟨o', e', ?_⟩
      rw [hset _ m1.1]
      split
      · rename_i q2; rw [q2] at l'; omega
      · exact l'
  · refine dsum_set d i _ (by rw [h.len]; exact hi) (by omega) ?_
    have : d.getD i 0 = gt d (i : Int) := by
      unfold gt
      rw [Int.toNat_natCast]; rfl
    rw [this]; exact hl
/-- no edge can be relaxed -/
def Fix (t : Task) (all : List Bel) (d : List Int) : Prop := ∀ (i : Nat) (o : Int), i < all.length → edge t all i o → gt d (i : Int) ≤ gt d (nxt t all i o) + 1
theorem DInv.exact_ {t : Task} {all : List Bel} {d : List Int} (h : DInv t all d) (hf : Fix t all d) {i : Nat} (hi : i < all.length) (h0 : 0 < gt d (i : Int)) (hl : gt d (i : Int) < 1000000000) : ∃ o, edge t all i o ∧ gt d (nxt t all i o) = gt d (i : Int) - 1 := by
  have ng : ¬ isGoal t all i := fun g => by have := h.goal i hi g; omega
  obtain ⟨o, e, l⟩ := h.wit i hi ng hl
  have := hf i o hi e
  exact ⟨o, e, by omega⟩
/-- a finite distance is less than the number of nodes -/
theorem DInv.small {t : Task} {all : List Bel} {d : List Int} (hc : Closed t all) (h : DInv t all d) (hf : Fix t all d) {i : Nat} (hi : i < all.length) (hl : gt d (i : Int) < 1000000000) : gt d (i : Int) < all.length := by
  have chain : ∀ (m : Nat) (i : Nat), i < all.length → gt d (i : Int) = m → (m : Int) < 1000000000 → ∃ l : List Nat, l.length = m + 1 ∧ l.Nodup ∧ ∀ j ∈ l, j < all.length ∧ gt d (j : Int) ≤ m := by
    intro m
    induction m with
    | zero => exact fun i hi he _ => ⟨[i], rfl, by simp, fun j hj => by rw [List.mem_singleton.1 hj]; exact ⟨hi, by omega⟩⟩
    | succ m ih =>
      intro i hi he hb
      obtain ⟨o, e, x⟩ := h.exact_ hf hi (by omega) (by omega)
      obtain ⟨n1, _, _⟩ := hc.nxt hi e
      obtain ⟨k, hk⟩ : ∃ k : Nat, nxt t all i o = k := ⟨(nxt t all i o).toNat, by have := n1.1; omega⟩
      rw [hk] at x n1
      obtain ⟨l, l1, l2, l3⟩ := ih k (by have := n1.2; omega) (by omega) (by omega)
      refine ⟨i :: l, by simp [l1], List.nodup_cons.2 ⟨fun hm => ?_, l2⟩, fun j hj => ?_⟩
      · have := (l3 i hm).2; omega
      · rcases List.mem_cons.1 hj with rfl | hj
        · exact ⟨hi, by omega⟩
        · have := l3 j hj; exact ⟨this.1, by omega⟩
  have hr := h.rng (i := (i : Int)) ⟨by omega, by omega⟩
  obtain ⟨l, l1, l2, l3⟩ := chain (gt d (i : Int)).toNat i hi (by omega) (by omega)
  have := nodup_len all.length l l2 fun v hv => (l3 v hv).1
  omega
abbrev GoalB (t : Task) : Bel → Bool := fun w => sp_sure w t.goal
theorem goal_iff {t : Task} {all : List Bel} {i : Nat} : GoalB t (gt all (i : Int)) = true ↔ isGoal t all i := by
  unfold isGoal; rw [← sure_allHold]
/-- each way to the goal is at least as long as the distance -/
theorem DInv.lower {t : Task} {all : List Bel} {d : List Int} (hc : Closed t all) (h : DInv t all d) (hf : Fix t all d) : ∀ (p : List Int) (i : Nat) (v : Bel), i < all.length → Way (bsucc t) (gt all (i : Int)) p v → GoalB t v = true → gt d (i : Int) < 1000000000 ∧ gt d (i : Int) ≤ p.length
  | [], i, v, hi, hw, hg => by
    have e : gt all (i : Int) = v := hw
    have := h.goal i hi (goal_iff.1 (by rw [e]; exact hg))
    rw [this]; exact ⟨by decide, by simp⟩
  | o :: p, i, v, hi, ⟨x, hx, hw⟩, hg => by
    obtain ⟨m1, m2, m3⟩ := mem_bsucc.1 hx
    have e : edge t all i o := ⟨m1, by rw [← sure_allHold]; exact m2⟩
    obtain ⟨n1, n2, _⟩ := hc.nxt hi e
    simp only at m3
    obtain ⟨k, hk⟩ : ∃ k : Nat, nxt t all i o = k := ⟨(nxt t all i o).toNat, by have := n1.1; omega⟩
    have hkl : k < all.length := by have := n1.2; omega
    rw [hk] at n2
    rw [m3, ← n2] at hw
    obtain ⟨a, b⟩ := h.lower hc hf p k v hkl hw hg
    have hs := h.small hc hf hkl a
    have := hf i o hi e
    rw [hk] at this
    have := hc.len
    simp only [List.length_cons]
    omega
/-- .. and there is one of that length -/
theorem DInv.way {t : Task} {all : List Bel} {d : List Int} (hc : Closed t all) (h : DInv t all d) (hf : Fix t all d) (m : Nat) : ∀ i : Nat, i < all.length → gt d (i : Int) = m → (m : Int) < 1000000000 → ∃ p v, Way (bsucc t) (gt all (i : Int)) p v ∧ GoalB t v = true ∧ p.length = m := by
  induction m with
  | zero =>
    intro i hi he _
    have g : isGoal t all i := Classical.byContradiction fun g => by have := h.pos i hi g; omega
    exact ⟨[], _, rfl, goal_iff.2 g, rfl⟩
  | succ m ih =>
    intro i hi he hb
    obtain ⟨o, e, x⟩ := h.exact_ hf hi (by omega) (by omega)
    obtain ⟨n1, n2, n3⟩ := hc.nxt hi e
    obtain ⟨k, hk⟩ : ∃ k : Nat, nxt t all i o = k := ⟨(nxt t all i o).toNat, by have := n1.1; omega⟩
    rw [hk] at x n1 n2
    obtain ⟨p, v, w1, w2, w3⟩ := ih k (by have := n1.2; omega) (by omega) (by omega)
    rw [n2] at w1
    exact ⟨o :: p, v, ⟨_, n3, w1⟩, w2, by simp [w3]⟩
theorem Least.len {t : Task} {all : List Bel} {d : List Int} (hc : Closed t all) (h : DInv t all d) (hf : Fix t all d) {i : Nat} (hi : i < all.length) {p : List Int} (hl : Least (bsucc t) (GoalB t) (gt all (i : Int)) p) : (p.length : Int) = gt d (i : Int) := by
  obtain ⟨⟨v, w, g⟩, m⟩ := hl
  obtain ⟨a, b⟩ := h.lower hc hf p i v hi w g
  have hr := h.rng (i := (i : Int)) ⟨by omega, by omega⟩
  obtain ⟨p', v', w1, w2, w3⟩ := h.way hc hf (gt d (i : Int)).toNat i hi (by omega) (by omega)
  have := sle_len (m p' v' w1 w2)
  omega
/-- the smallest operator that reduces the distance -/
theorem Least.step {t : Task} {all : List Bel} {d : List Int} (hc : Closed t all) (h : DInv t all d) (hf : Fix t all d) {i : Nat} (hi : i < all.length) (h0 : 0 < gt d (i : Int)) {o : Int} (e : edge t all i o) (hd : gt d (nxt t all i o) = gt d (i : Int) - 1)
    (hmin : ∀ o', o' < o → edge t all i o' → gt d (nxt t all i o') ≠ gt d (i : Int) - 1) {rest : List Int} (hl : Least (bsucc t) (GoalB t) (gt all (nxt t all i o)) rest) : Least (bsucc t) (GoalB t) (gt all (i : Int)) (o :: rest) := by
  obtain ⟨n1, n2, n3⟩ := hc.nxt hi e
  obtain ⟨k, hk⟩ : ∃ k : Nat, nxt t all i o = k := ⟨(nxt t all i o).toNat, by have := n1.1; omega⟩
  have hkl : k < all.length := by have := n1.2; omega
  have hlen : (rest.length : Int) = gt d (i : Int) - 1 := by
    rw [hk] at hl hd
    rw [Least.len hc h hf hkl hl, hd]
  obtain ⟨⟨v, w, g⟩, m⟩ := hl
  refine ⟨⟨v, ⟨_, n3, n2 ▸ w⟩, g⟩, fun p' v' w' g' => ?_⟩
  have hlow := h.lower hc hf p' i v' hi w' g'
  cases p' with
  | nil => simp at hlow; omega
  | cons o' q =>
    obtain ⟨x, hx, hw⟩ := w'
    obtain ⟨m1, m2, m3⟩ := mem_bsucc.1 hx
    have e' : edge t all i o' := ⟨m1, by rw [← sure_allHold]; exact m2⟩
    obtain ⟨p1, p2, _⟩ := hc.nxt hi e'
    simp only at m3
    simp only [List.length_cons] at hlow
    by_cases hlt : rest.length < q.length
    · exact .inr (.inl (by simp; omega))
    · have hql : q.length = rest.length := by omega
      rw [m3, ← p2] at hw
      obtain ⟨k', hk'⟩ : ∃ k' : Nat, nxt t all i o' = k' := ⟨(nxt t all i o').toNat, by have := p1.1; omega⟩
      have hl2 := (h.lower hc hf q k' v' (by have := p1.2; omega) (hk' ▸ hw) g').2
      have hf2 := hf i o' hi e'
      rw [hk'] at hf2
      have hx2 : gt d (nxt t all i o') = gt d (i : Int) - 1 := by rw [hk']; omega
      have hge : o ≤ o' := by
        rcases Int.lt_or_le o' o with c | c
        · exact absurd hx2 (hmin o' c e')
        · exact c
      by_cases heq : o = o'
      · subst heq
        rcases m q v' hw g' with c | c
        · exact .inl (by rw [c])
        · rcases c with c | ⟨c1, c2⟩
          · omega
          · exact .inr (.inr ⟨by simp [c1], .inr ⟨rfl, c2⟩⟩)
      · exact .inr (.inr ⟨by simp; omega, .inl (by omega)⟩)
theorem ok_conformant : ∀ (t : Task) (all : List (List (List Int))), pre_conformant t all → F_conformant t all (fun r => r = sp_conformant t all) := fun t all hc => by
  have hv := hc.val
  have hN := hc.len
  have hP := hc.pos
  have hT := taskOK_of hv
  have hops := hT.len
  refine ⟨⟨by omega, by omega, by unfold maxLen; omega⟩, fun i d => ∃ k : Nat, i = k ∧ k ≤ all.length ∧ d.length = all.length ∧ ∀ j : Nat, j < k → (isGoal t all j → gt d (j : Int) = 0) ∧ (¬ isGoal t all j → gt d (j : Int) = 1000000000), fun i _ => (all.length - i).toNat, ⟨0, rfl, Nat.zero_le _, by simp, fun j hj => by omega⟩, ?_⟩
  rintro _ d ⟨k, rfl, k1, k2, k3⟩
  unfold F_conformant_L1 F_conformant_J1
  simp only [forall_eq, decide_eq_true_eq, decide_eq_false_iff_not]
  refine ⟨fun h => ?_, fun h => ?_⟩
  · have hk : k < all.length := by omega
    have hin : inb d (k : Int) := ⟨by omega, by omega⟩
    have hin2 : inb (d.set ((k : Int)).toNat 1000000000) (k : Int) := ⟨by omega, by rw [List.length_set]; omega⟩
    rw [w64 (n := (k : Int) + 1) (by omega)]
    refine ⟨hin, ⟨by omega, h⟩, allHold_pre hv (hc.ok _ (gt_memN hk)) hT.goal, fun g => ⟨hin2, ⟨k + 1, by omega, by omega, by rw [List.length_set, List.length_set]; exact k2, fun j hj => ?_⟩, by omega⟩, fun g => ⟨⟨k + 1, by omega, by omega, by rw [List.length_set]; exact k2, fun j hj => ?_⟩, by omega⟩⟩
    · rw [gt_setI hin2 (by omega), gt_setI hin (by omega)]
      by_cases e : j = k
      · subst e; rw [if_pos rfl]; exact ⟨fun _ => rfl, fun q => absurd g q⟩
      · rw [if_neg (by omega), if_neg (by omega)]; exact k3 j (by omega)
    · rw [gt_setI hin (by omega)]
      by_cases e : j = k
      · subst e; rw [if_pos rfl]; exact ⟨fun q => (by rw [isGoal, g] at q; cases q), fun _ => rfl⟩
      · rw [if_neg (by omega)]; exact k3 j (by omega)
  have hD : DInv t all d := ⟨k2, fun i hi g => (k3 i (by omega)).1 g, fun i hi g => by rw [(k3 i (by omega)).2 g]; decide, fun i hi g hl => by rw [(k3 i (by omega)).2 g] at hl; exact absurd hl (by decide)⟩
  clear k3 k2
  refine ⟨fun again d6 => DInv t all d6 ∧ (again = false → Fix t all d6), fun again d6 => 2 * dsum d6 + (if again = true then 1 else 0), ⟨hD, fun e => by cases e⟩, ?_⟩
  rintro again d6 ⟨h1, h2⟩
  unfold F_conformant_L2
  refine ⟨fun ha => ?_, fun ha => ?_⟩
  · subst ha
    refine ⟨fun again3 i3 d8 => ∃ i : Nat, i3 = i ∧ i ≤ all.length ∧ DInv t all d8 ∧ (again3 = true → dsum d8 < dsum d6) ∧ (again3 = false → d8 = d6 ∧ ∀ (j : Nat) (o : Int), j < i → edge t all j o → gt d6 (j : Int) ≤ gt d6 (nxt t all j o) + 1), fun _ i3 _ => (all.length - i3).toNat, ⟨0, rfl, Nat.zero_le _, h1, fun e => (by cases e), fun _ => ⟨rfl, fun j o hj => by omega⟩⟩, ?_⟩
    rintro again3 _ d8 ⟨i, rfl, i1, i2, i3, i4⟩
    unfold F_conformant_L3
    simp only [decide_eq_true_eq, decide_eq_false_iff_not]
    refine ⟨fun h => ?_, fun h => ?_⟩
    · have hi : i < all.length := by omega
      have hwn := hc.ok _ (gt_memN hi)
      refine ⟨fun again5 op d10 => ∃ q : Nat, op = q ∧ q ≤ t.ops.length ∧ DInv t all d10 ∧ (again5 = true → dsum d10 < dsum d6) ∧ (again5 = false → d10 = d6 ∧ (∀ (j : Nat) (o : Int), j < i → edge t all j o → gt d6 (j : Int) ≤ gt d6 (nxt t all j o) + 1) ∧ ∀ o : Int, o < q → edge t all i o → gt d6 (i : Int) ≤ gt d6 (nxt t all i o) + 1), fun _ op _ => (t.ops.length - op).toNat, ⟨0, rfl, Nat.zero_le _, i2, i3, fun e => ⟨(i4 e).1, (i4 e).2, fun o ho he => by have := he.1.1; omega⟩⟩, ?_⟩
      rintro again5 _ d10 ⟨q, rfl, q1, q2, q3, q4⟩
      unfold F_conformant_L4 F_conformant_J2
      simp only [forall_eq, decide_eq_true_eq, decide_eq_false_iff_not, Bool.not_eq_true', Bool.not_eq_false']
      refine ⟨fun g => ?_, fun g => ?_⟩
      · have hq : q < t.ops.length := by omega
        have hin : inb t.ops (q : Int) := ⟨by omega, g⟩
        rw [w64 (n := (q : Int) + 1) (by omega)]
        have keep : (again5 = false → edge t all i (q : Int) → gt d6 (i : Int) ≤ gt d6 (nxt t all i (q : Int)) + 1) → ∃ q' : Nat, (q : Int) + 1 = q' ∧ q' ≤ t.ops.length ∧ DInv t all d10 ∧ (again5 = true → dsum d10 < dsum d6) ∧ (again5 = false → d10 = d6 ∧ (∀ (j : Nat) (o : Int), j < i → edge t all j o → gt d6 (j : Int) ≤ gt d6 (nxt t all j o) + 1) ∧ ∀ o : Int, o < q' → edge t all i o → gt d6 (i : Int) ≤ gt d6 (nxt t all i o) + 1) := fun c => ⟨q + 1, by omega, by omega, q2, q3, fun e => ⟨(q4 e).1, (q4 e).2.1, fun o ho he => by
          rcases Int.lt_or_le o (q : Int) with x | x
          · exact (q4 e).2.2 o x he
          · have : o = (q : Int) := by omega
            subst this
            exact c e he⟩⟩
        refine ⟨⟨by omega, h⟩, hin, allHold_pre hv hwn (hT.op hin).1, fun a => ⟨keep fun _ he => (by rw [he.2] at a; cases a), by omega⟩, fun a => ?_⟩
        have e : edge t all i (q : Int) := ⟨hin, a⟩
        obtain ⟨n1, n2, n3⟩ := hc.nxt hi e
        have hr := q2.rng n1
        have en : sp_placeOf all (sp_afterAll t (gt all (i : Int)) (q : Int)) = nxt t all i (q : Int) := rfl
        rw [en, w64 (n := gt d10 (nxt t all i (q : Int)) + 1) (by omega)]
        refine ⟨⟨hv, hin, hwn⟩, place_pre hv hN hc.ok (bafter_ok hv hwn _), ⟨n1.1, by rw [q2.len]; exact n1.2⟩, ⟨by omega, by rw [q2.len]; exact h⟩, fun b => ⟨⟨q + 1, by omega, by omega, ?_⟩, by omega⟩, fun b => ⟨keep fun e5 _ => ?_, by omega⟩⟩
        · obtain ⟨r1, r2⟩ := q2.relax hc hi e b
          refine ⟨r1, fun _ => Nat.lt_of_lt_of_le r2 ?_, fun e => by cases e⟩
          cases again5
          · rw [(q4 rfl).1]; exact Nat.le_refl _
          · exact Nat.le_of_lt (q3 rfl)
        · rw [(q4 e5).1] at b; omega
      · rw [w64 (n := (i : Int) + 1) (by omega)]
        refine ⟨⟨i + 1, by omega, by omega, q2, q3, fun e => ⟨(q4 e).1, fun j o hj he => ?_⟩⟩, by omega⟩
        rcases Nat.lt_or_ge j i with x | x
        · exact (q4 e).2.1 j o x he
        · have : j = i := by omega
          subst this
          exact (q4 e).2.2 o (by have := he.1.2; omega) he
    · refine ⟨⟨i2, fun e j o hj he => ?_⟩, ?_⟩
      · rw [(i4 e).1]; exact (i4 e).2 j o (by omega) he
      · cases again3
        · rw [(i4 rfl).1]; simp
        · have := i3 rfl; simp; omega
  · have hf := h2 ha
    simp only [decide_eq_true_eq, decide_eq_false_iff_not]
    have e0 : all.getD 0 [] = gt all ((0 : Nat) : Int) := by
      rw [gt_of ⟨by omega, by omega⟩, List.getD_eq_getElem?_getD, List.getElem?_eq_getElem hP]; rfl
    refine ⟨⟨by omega, by rw [h1.len]; omega⟩, fun g => ?_, fun g => ?_⟩
    · unfold sp_conformant
      rw [dif_neg]
      rintro ⟨p, ⟨v, w, gv⟩, _⟩
      rw [e0] at w
      have := (h1.lower hc hf p 0 v hP w gv).1
      exact absurd g (by rw [show ((0 : Nat) : Int) = 0 from rfl] at this; omega)
    · refine ⟨fun i5 plan => ∃ j : Nat, i5 = j ∧ j < all.length ∧ gt d6 (j : Int) < 1000000000 ∧ (plan.length : Int) + gt d6 (j : Int) = gt d6 (0 : Int) ∧ ∀ rest, Least (bsucc t) (GoalB t) (gt all (j : Int)) rest → Least (bsucc t) (GoalB t) (gt all ((0 : Nat) : Int)) (plan ++ rest), fun i5 _ => (gt d6 i5).toNat, ⟨0, rfl, hP, by rw [show ((0 : Nat) : Int) = 0 from rfl]; omega, by simp, fun rest hr => hr⟩, ?_⟩
      rintro _ plan ⟨j, rfl, j1, j2, j3, j4⟩
      have hr0 := h1.small hc hf (i := 0) hP (by rw [show ((0 : Nat) : Int) = 0 from rfl]; omega)
      rw [show ((0 : Nat) : Int) = 0 from rfl] at hr0
      have hrj := h1.rng (i := (j : Int)) ⟨by omega, by omega⟩
      unfold F_conformant_L5
      simp only [decide_eq_true_eq, decide_eq_false_iff_not]
      refine ⟨⟨by omega, by rw [h1.len]; omega⟩, fun a => ?_, fun a => ?_⟩
      · have hwn := hc.ok _ (gt_memN j1)
        refine ⟨fun next op3 plan3 => ∃ q : Nat, op3 = q ∧ q ≤ t.ops.length ∧ ((next = -1 ∧ plan3 = plan ∧ ∀ o, o < (q : Int) → edge t all j o → gt d6 (nxt t all j o) ≠ gt d6 (j : Int) - 1) ∨ ∃ o, edge t all j o ∧ next = nxt t all j o ∧ gt d6 (nxt t all j o) = gt d6 (j : Int) - 1 ∧ plan3 = plan ++ [o] ∧ ∀ o', o' < o → edge t all j o' → gt d6 (nxt t all j o') ≠ gt d6 (j : Int) - 1), fun _ op3 _ => (t.ops.length - op3).toNat, ⟨0, rfl, Nat.zero_le _, .inl ⟨rfl, rfl, fun o ho he => by have := he.1.1; omega⟩⟩, ?_⟩
        rintro next _ plan3 ⟨q, rfl, q1, q2⟩
        have fin : (0 ≤ next ∨ (q : Int) = t.ops.length) → (∃ j' : Nat, next = j' ∧ j' < all.length ∧ gt d6 (j' : Int) < 1000000000 ∧ (plan3.length : Int) + gt d6 (j' : Int) = gt d6 (0 : Int) ∧ ∀ rest, Least (bsucc t) (GoalB t) (gt all (j' : Int)) rest → Least (bsucc t) (GoalB t) (gt all ((0 : Nat) : Int)) (plan3 ++ rest)) ∧ (gt d6 next).toNat < (gt d6 (j : Int)).toNat := fun c => by
          rcases q2 with ⟨x1, _, x3⟩ | ⟨o, x1, x2, x3, x4, x5⟩
          · rcases c with c | c
            · omega
            · obtain ⟨o, eo, xo⟩ := h1.exact_ hf j1 a j2
              exact absurd xo (x3 o (by rw [c]; exact eo.1.2) eo)
          · obtain ⟨n1, n2, n3⟩ := hc.nxt j1 x1
            obtain ⟨k', hk'⟩ : ∃ k' : Nat, nxt t all j o = k' := ⟨(nxt t all j o).toNat, by have := n1.1; omega⟩
            refine ⟨⟨k', by rw [x2, hk'], by have := n1.2; omega, by rw [← hk']; omega, by rw [x4, ← hk', x3]; simp; omega, fun rest hr => ?_⟩, by rw [x2, x3]; omega⟩
            rw [x4, List.append_assoc]
            exact j4 _ (Least.step hc h1 hf j1 a x1 x3 x5 (hk'.symm ▸ hr))
        unfold F_conformant_L6 F_conformant_J3 F_conformant_J4
        simp only [forall_eq, decide_eq_true_eq, decide_eq_false_iff_not, Bool.not_eq_true', Bool.not_eq_false', beq_iff_eq, beq_eq_false_iff_ne, ne_eq]
        refine ⟨fun g2 => ⟨fun b => ?_, fun b => fin (.inl (by omega))⟩, fun g2 => ⟨fun b => absurd b (by decide), fun _ => fin (.inr (by omega))⟩⟩
        obtain ⟨x1, x2, x3⟩ : next = -1 ∧ plan3 = plan ∧ ∀ o, o < (q : Int) → edge t all j o → gt d6 (nxt t all j o) ≠ gt d6 (j : Int) - 1 := by
          rcases q2 with x | ⟨o, y1, y2, _⟩
          · exact x
          · have := (hc.nxt j1 y1).1.1; omega
        have hin : inb t.ops (q : Int) := ⟨by omega, g2⟩
        rw [w64 (n := (q : Int) + 1) (by omega), w64 (n := gt d6 (j : Int) - 1) (by omega)]
        have keep : (edge t all j (q : Int) → gt d6 (nxt t all j (q : Int)) ≠ gt d6 (j : Int) - 1) → (∃ q' : Nat, (q : Int) + 1 = q' ∧ q' ≤ t.ops.length ∧ ((next = -1 ∧ plan3 = plan ∧ ∀ o, o < (q' : Int) → edge t all j o → gt d6 (nxt t all j o) ≠ gt d6 (j : Int) - 1) ∨ ∃ o, edge t all j o ∧ next = nxt t all j o ∧ gt d6 (nxt t all j o) = gt d6 (j : Int) - 1 ∧ plan3 = plan ++ [o] ∧ ∀ o', o' < o → edge t all j o' → gt d6 (nxt t all j o') ≠ gt d6 (j : Int) - 1)) := fun c => ⟨q + 1, by omega, by omega, .inl ⟨x1, x2, fun o ho he => by
          rcases Int.lt_or_le o (q : Int) with x | x
          · exact x3 o x he
          · have : o = (q : Int) := by omega
            subst this
            exact c he⟩⟩
        refine ⟨⟨by omega, by omega⟩, hin, allHold_pre hv hwn (hT.op hin).1, fun c => ⟨keep fun he => (by rw [he.2] at c; cases c), by omega⟩, fun c => ?_⟩
        have e : edge t all j (q : Int) := ⟨hin, c⟩
        obtain ⟨n1, n2, n3⟩ := hc.nxt j1 e
        have en : sp_placeOf all (sp_afterAll t (gt all (j : Int)) (q : Int)) = nxt t all j (q : Int) := rfl
        rw [en]
        refine ⟨⟨hv, hin, hwn⟩, place_pre hv hN hc.ok (bafter_ok hv hwn _), ⟨n1.1, by rw [h1.len]; exact n1.2⟩, fun f => ⟨?_, ⟨q + 1, by omega, by omega, .inr ⟨(q : Int), e, rfl, f, by rw [x2], x3⟩⟩, by omega⟩, fun f => ⟨keep fun _ => f, by omega⟩⟩
        rw [x2]
        refine ⟨?_, ?_⟩
        · rw [List.length_append]; simp only [List.length_singleton, maxLen]; omega
        · rw [List.length_append]; simp only [List.length_singleton]; omega
      · have z : gt d6 (j : Int) = 0 := by omega
        have gj : isGoal t all j := Classical.byContradiction fun q => by have := h1.pos j j1 q; omega
        have hl := j4 [] ⟨⟨_, rfl, goal_iff.2 gj⟩, fun p' _ _ _ => by
          cases p' with
          | nil => exact sle_refl _
          | cons x r => exact .inr (.inl (by simp))⟩
        rw [List.append_nil, ← e0] at hl
        have hex : ∃ p, Least (bsucc t) (fun w => sp_sure w t.goal) (all.getD 0 []) p := ⟨plan, hl⟩
        unfold sp_conformant
        rw [dif_pos hex]
        exact Prod.ext (hl.unique (Classical.choose_spec hex)) rfl
end Go.Proofs.YtojoehfldbimpaaGreatDoor.Pl

