import Derived.Test.YtojoehfldbimpaaGreatDoorM2
import Derived.Shelf.Sort.Plain
import Derived.Shelf.Slices.In.SortNone
import Derived.Shelf.Slices.CompactI
import Derived.Lib.RowBridge
import Derived.Ground.Names2Prog
import Derived.Test.YtojoehfldbimpaaGreatDoorM1
import Derived.Ground.NamesProg
import Derived.Test.YtojoehfldbimpaaGreatDoorChecked
namespace Go.Proofs.YtojoehfldbimpaaGreatDoor.Pl
open Go Go.RowKit
theorem placeOf_mem {all : List Bel} {l : Bel} (h : l ∈ all) : inb all (sp_placeOf all l) ∧ gt all (sp_placeOf all l) = l := by
 have hl := List.idxOf_lt_length_of_mem h
 rw [sp_placeOf, if_pos h]
 refine ⟨⟨by omega, by omega⟩, ?_⟩
 rw [gt_of ⟨by omega, by omega⟩]
 simp only [Int.toNat_natCast, List.getElem_idxOf]
theorem placeOf_neg {all : List Bel} {l : Bel} : sp_placeOf all l < 0 ↔ l ∉ all := by
 unfold sp_placeOf
 split
 ·rename_i h; constructor
  ·intro q; omega
  ·intro q; exact absurd h q
 ·rename_i h; exact ⟨fun _ => h, fun _ => by decide⟩
theorem place_pre {t : Task} (hv : sp_validate t = ⟨0, 0⟩) {all : List Bel} (hl : all.length ≤ 1000) (h : ∀ b ∈ all, WsOK t b) {l : Bel} (hw : WsOK t l) : pre_placeOf all l :=
 ⟨hl, fun x hx => ⟨by have := (h x hx).1; omega, fun s hs => by have := set_len24 hv ((h x hx).2 s hs); omega⟩, by have := hw.1; omega, fun s hs => by have := set_len24 hv (hw.2 s hs); omega⟩
theorem allHold_pre {t : Task} (hv : sp_validate t = ⟨0, 0⟩) {ws : Bel} (hw : WsOK t ws) {facts : List Int} (hf : sp_isSet facts t.facts = true) : pre_allHold ws facts :=
 ⟨by have := hw.1; omega, by have := set_len24 hv hf; omega, fun s hs => by have := set_len24 hv (hw.2 s hs); omega⟩
theorem observed_ok {t : Task} {ws : Bel} (hw : WsOK t ws) (f : Int) : WsOK t (sp_observed ws f).1 ∧ WsOK t (sp_observed ws f).2 :=
 ⟨⟨Nat.le_trans (List.length_filter_le _ _) hw.1, fun s hs => hw.2 s (List.mem_filter.1 hs).1⟩, Nat.le_trans (List.length_filter_le _ _) hw.1, fun s hs => hw.2 s (List.mem_filter.1 hs).1⟩
def obs2 (ws : Bel) (f : Int) : List Bel := if (sp_observed ws f).1 ≠ [] ∧ (sp_observed ws f).2 ≠ [] then [(sp_observed ws f).1, (sp_observed ws f).2] else []
theorem osucc_def (t : Task) (sN : List Int) (ws : Bel) : osucc t sN ws = (bsucc t ws).map (·.2) ++ sN.flatMap (obs2 ws) := rfl
theorem osucc_ok {t : Task} (hv : sp_validate t = ⟨0, 0⟩) {sN : List Int} {ws x : Bel} (hw : WsOK t ws) (h : x ∈ osucc t sN ws) : WsOK t x := by
 rw [osucc_def] at h
 rcases List.mem_append.1 h with h | h
 ·obtain ⟨y, hy, rfl⟩ := List.mem_map.1 h
  exact bsucc_ok hv hw hy
 ·obtain ⟨f, _, hf⟩ := List.mem_flatMap.1 h
  unfold obs2 at hf
  split at hf
  ·simp only [List.mem_cons, List.not_mem_nil, or_false] at hf
   rcases hf with rfl | rfl
   ·exact (observed_ok hw f).1
   ·exact (observed_ok hw f).2
  ·cases hf
theorem obs2_len (ws : Bel) : ∀ l : List Int, (l.flatMap (obs2 ws)).length ≤ 2 * l.length
 | [] => by simp
 | f :: r => by
  have := obs2_len ws r
  have h2 : (obs2 ws f).length ≤ 2 := by unfold obs2; split <;> simp
  rw [List.flatMap_cons, List.length_append, List.length_cons]; omega
theorem opS_len (t : Task) (ws : Bel) (l : List Int) : (l.filterMap (opS t ws)).length ≤ l.length := List.length_filterMap_le _ _
theorem room24 {α : Type} {l : List α} {k : Nat} (h : l.length ≤ k) (hk : k ≤ 100000) : room l.length 24 := ⟨by unfold maxLen; omega, by omega⟩
theorem ok_beliefs : ∀ (t : Task) (start2 : List (List Int)) (sN : List Int) (most : Int), pre_beliefs t start2 sN most → F_beliefs t start2 sN most (fun r => r = sp_beliefs t start2 sN most) := fun t start sN most ⟨hv, hw, hsen, hm1, hm2⟩ => by
 have hops := (taskOK_of hv).len
 have hsl := set_len24 hv hsen
 refine ⟨fun i all => ∃ k : Nat, i = k ∧ k ≤ all.length ∧ (all.length : Int) ≤ most ∧ (∀ b ∈ all, WsOK t b) ∧ bclose most (osucc t sN) (most.toNat + 1 - k) all k = bclose most (osucc t sN) (most.toNat + 1) [start] 0, fun i _ => (most + 1 - i).toNat, ⟨0, rfl, by simp, by simpa using hm1, fun b hb => by rw [List.mem_singleton.1 hb]; exact hw, rfl⟩, ?_⟩
 rintro _ all ⟨k, rfl, k1, k2, k3, k4⟩
 have ef : most.toNat + 1 - k = (most.toNat - k) + 1 := by omega
 rw [ef, bclose] at k4
 unfold F_beliefs_L1
 simp only [decide_eq_true_eq, decide_eq_false_iff_not]
 refine ⟨fun h => ?_, fun h => ?_⟩
 ·have hk : k < all.length := by omega
  have hg : all[k]? = some (gt all (k : Int)) := by
   have := gt_get (xs := all) (i := (k : Int)) ⟨by omega, by omega⟩
   rwa [Int.toNat_natCast] at this
  simp only [hg] at k4
  have hwn := k3 _ (gt_memN hk)
  generalize hn : gt all (k : Int) = node at *
  refine ⟨fun op next => ∃ j : Nat, op = j ∧ j ≤ t.ops.length ∧ next = (((allS t.ops.length).take j).filterMap (opS t node)).map (·.2), fun op _ => (t.ops.length - op).toNat, ⟨0, rfl, Nat.zero_le _, rfl⟩, ?_⟩
  rintro _ _ ⟨j, rfl, j1, rfl⟩
  have nl : ((((allS t.ops.length).take j).filterMap (opS t node)).map (·.2)).length ≤ 40 := by
   rw [List.length_map]
   refine Nat.le_trans (opS_len _ _ _) ?_
   rw [List.length_take, allS_len]; omega
  unfold F_beliefs_L2 F_beliefs_J1
  simp only [hn, forall_eq, decide_eq_true_eq, decide_eq_false_iff_not]
  refine ⟨fun g => ?_, fun g => ?_⟩
  ·have hin : inb t.ops (j : Int) := ⟨by omega, g⟩
   have hj : j < t.ops.length := by omega
   rw [w64 (n := (j : Int) + 1) (by omega)]
   have et : (allS t.ops.length).take (j + 1) = (allS t.ops.length).take j ++ [(j : Int)] := by
    rw [List.take_succ_eq_append_getElem (by rw [allS_len]; exact hj)]
    congr 1
    simp [allS]
   refine ⟨⟨by omega, h⟩, hin, allHold_pre hv hwn ((taskOK_of hv).op hin).1, fun q => ⟨⟨hv, hin, hwn⟩, room24 (k := 41) (by rw [List.length_append]; simp only [List.length_singleton]; omega) (by decide), ⟨j + 1, by omega, by omega, ?_⟩, by omega⟩, fun q => ⟨⟨j + 1, by omega, by omega, ?_⟩, by omega⟩⟩
   ·rw [et, List.filterMap_append, List.map_append, List.filterMap_cons, opS, sure_allHold, if_pos q]; rfl
   ·rw [et, List.filterMap_append, List.map_append, List.filterMap_cons, opS, sure_allHold, if_neg (by rw [q]; decide)]; simp
  ·have ej : (allS t.ops.length).take j = allS t.ops.length := List.take_of_length_le (by rw [allS_len]; omega)
   rw [ej] at nl ⊢
   refine ⟨fun s next4 => ∃ q : Nat, s = q ∧ q ≤ sN.length ∧ next4 = ((allS t.ops.length).filterMap (opS t node)).map (·.2) ++ (sN.take q).flatMap (obs2 node), fun s _ => (sN.length - s).toNat, ⟨0, rfl, Nat.zero_le _, by simp⟩, ?_⟩
   rintro _ _ ⟨q, rfl, q1, rfl⟩
   have ol := obs2_len node (sN.take q)
   rw [List.length_take] at ol
   unfold F_beliefs_L3 F_beliefs_J3 F_beliefs_J2
   simp only [hn, forall_eq, decide_eq_true_eq, decide_eq_false_iff_not]
   refine ⟨fun e => ?_, fun e => ?_⟩
   ·have hq : q < sN.length := by omega
    rw [w64 (n := (q : Int) + 1) (by omega)]
    have pos : ∀ l : Bel, (0 : Int) < (l.length : Int) ↔ l ≠ [] := fun l => by
     cases l with
     | nil => simp
     | cons a r => simp
    have yes : (sp_observed node (gt sN (q : Int))).1 ≠ [] ∧ (sp_observed node (gt sN (q : Int))).2 ≠ [] → ∃ q' : Nat, ((q : Int) + 1) = q' ∧ q' ≤ sN.length ∧ ((allS t.ops.length).filterMap (opS t node)).map (·.2) ++ (sN.take q).flatMap (obs2 node) ++ [(sp_observed node (gt sN (q : Int))).1, (sp_observed node (gt sN (q : Int))).2] = ((allS t.ops.length).filterMap (opS t node)).map (·.2) ++ (sN.take q').flatMap (obs2 node) := fun c => ⟨q + 1, by omega, by omega, by
     rw [takeN_gt hq, List.flatMap_append, List.append_assoc]
     simp only [List.flatMap_cons, List.flatMap_nil, List.append_nil]
     rw [obs2, if_pos c]⟩
    have no : ¬ ((sp_observed node (gt sN (q : Int))).1 ≠ [] ∧ (sp_observed node (gt sN (q : Int))).2 ≠ []) → ∃ q' : Nat, ((q : Int) + 1) = q' ∧ q' ≤ sN.length ∧ ((allS t.ops.length).filterMap (opS t node)).map (·.2) ++ (sN.take q).flatMap (obs2 node) = ((allS t.ops.length).filterMap (opS t node)).map (·.2) ++ (sN.take q').flatMap (obs2 node) := fun c => ⟨q + 1, by omega, by omega, by
     rw [takeN_gt hq, List.flatMap_append]
     simp only [List.flatMap_cons, List.flatMap_nil, List.append_nil]
     rw [obs2, if_neg c, List.append_nil]⟩
    refine ⟨⟨by omega, h⟩, ⟨by omega, e⟩, ⟨by have := hwn.1; omega, fun s hs => by have := set_len24 hv (hwn.2 s hs); omega⟩, fun a => ⟨fun b => ⟨room24 (k := 200) ?_ (by decide), yes ⟨(pos _).1 a, (pos _).1 b⟩, by omega⟩, fun b => ⟨no fun c => b ((pos _).2 c.2), by omega⟩⟩, fun a => ⟨fun b => absurd b (by decide), fun _ => ⟨no fun c => a ((pos _).2 c.1), by omega⟩⟩⟩
    rw [List.length_append, List.length_append]; simp only [List.length_cons, List.length_nil]; omega
   ·have eq : sN.take q = sN := List.take_of_length_le (by omega)
    rw [eq]
    have en : ((allS t.ops.length).filterMap (opS t node)).map (·.2) ++ sN.flatMap (obs2 node) = osucc t sN node := rfl
    rw [en]
    have nlen : (osucc t sN node).length ≤ 200 := by
     rw [← en, List.length_append]
     have := obs2_len node sN
     omega
    have nok : ∀ x ∈ osucc t sN node, WsOK t x := fun x hx => osucc_ok hv hwn hx
    refine ⟨fun k3 all3 => ∃ r : Nat, k3 = r ∧ r ≤ (osucc t sN node).length ∧ k < all3.length ∧ (all3.length : Int) ≤ most ∧ (∀ b ∈ all3, WsOK t b) ∧ addNew most ((osucc t sN node).drop r) all3 = addNew most (osucc t sN node) all, fun k3 _ => ((osucc t sN node).length - k3).toNat, ⟨0, rfl, Nat.zero_le _, hk, k2, k3, rfl⟩, ?_⟩
    rintro _ all3 ⟨r, rfl, r1, r2, r3, r4, r5⟩
    unfold F_beliefs_L4 F_beliefs_J4
    simp only [forall_eq, decide_eq_true_eq, decide_eq_false_iff_not, placeOf_neg]
    refine ⟨fun f => ?_, fun f => ?_⟩
    ·have hr : r < (osucc t sN node).length := by omega
     have hx := nok _ (gt_memN hr)
     rw [drop_gtN hr, addNew] at r5
     rw [w64 (n := (r : Int) + 1) (by omega)]
     refine ⟨⟨by omega, f⟩, place_pre hv (by omega) r4 hx, fun a => ⟨fun b => ?_, fun b => ⟨room24 (k := 1001) (by rw [List.length_append]; simp only [List.length_singleton]; omega) (by decide), ⟨r + 1, by omega, by omega, by rw [List.length_append]; omega, by rw [List.length_append]; simp only [List.length_singleton]; omega, fun y hy => ?_, ?_⟩, by omega⟩⟩, fun a => ⟨⟨r + 1, by omega, by omega, r2, r3, r4, ?_⟩, by omega⟩⟩
     ·rw [if_neg a, if_pos b] at r5
      rw [← r5] at k4
      simp only at k4
      unfold sp_beliefs
      rw [← k4]
     ·rcases List.mem_append.1 hy with hy | hy
      ·exact r4 y hy
      ·rw [List.mem_singleton.1 hy]; exact hx
     ·rw [if_neg a, if_neg b] at r5; exact r5
     ·rw [if_pos (Classical.not_not.1 a)] at r5; exact r5
    ·rw [List.drop_eq_nil_of_le (by omega), addNew] at r5
     rw [← r5] at k4
     simp only at k4
     rw [w64 (n := (k : Int) + 1) (by omega)]
     exact ⟨⟨k + 1, by omega, by omega, r3, r4, by rw [show most.toNat + 1 - (k + 1) = most.toNat - k by omega]; exact k4⟩, by omega⟩
 ·have hn : all[k]? = none := List.getElem?_eq_none (by omega)
  simp only [hn] at k4
  unfold sp_beliefs
  rw [← k4]
def nxt (t : Task) (all : List Bel) (i : Nat) (o : Int) : Int := sp_placeOf all (sp_bafter t (gt all (i : Int)) o)
def edge (t : Task) (all : List Bel) (i : Nat) (o : Int) : Prop := inb t.ops o ∧ sp_allHold (gt all (i : Int)) (gt t.ops o).pre = true
def isGoal (t : Task) (all : List Bel) (i : Nat) : Prop := sp_allHold (gt all (i : Int)) t.goal = true
theorem Closed.nxt {t : Task} {all : List Bel} (h : Closed t all) {i : Nat} (hi : i < all.length) {o : Int} (e : edge t all i o) : inb all (nxt t all i o) ∧ gt all (nxt t all i o) = sp_bafter t (gt all (i : Int)) o ∧ (o, sp_bafter t (gt all (i : Int)) o) ∈ bsucc t (gt all (i : Int)) := by
 have hm : (o, sp_bafter t (gt all (i : Int)) o) ∈ bsucc t (gt all (i : Int)) := mem_bsucc.2 ⟨e.1, by rw [sure_allHold]; exact e.2, rfl⟩
 have := placeOf_mem (h.step _ (gt_memN hi) _ hm)
 exact ⟨this.1, this.2, hm⟩
structure DInv (t : Task) (all : List Bel) (d : List Int) : Prop where
 len : d.length = all.length
 goal : ∀ i : Nat, i < all.length → isGoal t all i → gt d (i : Int) = 0
 pos : ∀ i : Nat, i < all.length → ¬ isGoal t all i → 1 ≤ gt d (i : Int) ∧ gt d (i : Int) ≤ 1000000000
 wit : ∀ i : Nat, i < all.length → ¬ isGoal t all i → gt d (i : Int) < 1000000000 → ∃ o, edge t all i o ∧ gt d (nxt t all i o) + 1 ≤ gt d (i : Int)
theorem DInv.rng {t : Task} {all : List Bel} {d : List Int} (h : DInv t all d) {i : Int} (hi : inb all i) : 0 ≤ gt d i ∧ gt d i ≤ 1000000000 := by
 obtain ⟨k, rfl⟩ : ∃ k : Nat, i = k := ⟨i.toNat, by have := hi.1; omega⟩
 have hk : k < all.length := by have := hi.2; omega
 by_cases g : isGoal t all k
 ·rw [h.goal k hk g]; decide
 ·have := h.pos k hk g; omega
def Fix (t : Task) (all : List Bel) (d : List Int) : Prop := ∀ (i : Nat) (o : Int), i < all.length → edge t all i o → gt d (i : Int) ≤ gt d (nxt t all i o) + 1
theorem DInv.exact_ {t : Task} {all : List Bel} {d : List Int} (h : DInv t all d) (hf : Fix t all d) {i : Nat} (hi : i < all.length) (h0 : 0 < gt d (i : Int)) (hl : gt d (i : Int) < 1000000000) : ∃ o, edge t all i o ∧ gt d (nxt t all i o) = gt d (i : Int) - 1 := by
 have ng : ¬ isGoal t all i := fun g => by have := h.goal i hi g; omega
 obtain ⟨o, e, l⟩ := h.wit i hi ng hl
 have := hf i o hi e
 exact ⟨o, e, by omega⟩
theorem DInv.small {t : Task} {all : List Bel} {d : List Int} (hc : Closed t all) (h : DInv t all d) (hf : Fix t all d) {i : Nat} (hi : i < all.length) (hl : gt d (i : Int) < 1000000000) : gt d (i : Int) < all.length := by
 have chain : ∀ (m : Nat) (i : Nat), i < all.length → gt d (i : Int) = m → (m : Int) < 1000000000 → ∃ l : List Nat, l.length = m + 1 ∧ l.Nodup ∧ ∀ j ∈ l, j < all.length ∧ gt d (j : Int) ≤ m := by
  intro m
  induction m with
  | zero => exact fun i hi he _ => ⟨[i], rfl, by simp, fun j hj => by rw [List.mem_singleton.1 hj]; exact ⟨hi, by omega⟩⟩
  | succ m ih =>
   intro i hi he hb
   obtain ⟨o, e, x⟩ := h.exact_ hf hi (by omega) (by omega)
   obtain ⟨n1, _, _⟩ := hc.nxt hi e
   obtain ⟨k, hk⟩ : ∃ k : Nat, nxt t all i o = k := ⟨(nxt t all i o).toNat, by have := n1.1; omega⟩
   rw [hk] at x n1
   obtain ⟨l, l1, l2, l3⟩ := ih k (by have := n1.2; omega) (by omega) (by omega)
   refine ⟨i :: l, by simp [l1], List.nodup_cons.2 ⟨fun hm => ?_, l2⟩, fun j hj => ?_⟩
   ·have := (l3 i hm).2; omega
   ·rcases List.mem_cons.1 hj with rfl | hj
    ·exact ⟨hi, by omega⟩
    ·have := l3 j hj; exact ⟨this.1, by omega⟩
 have hr := h.rng (i := (i : Int)) ⟨by omega, by omega⟩
 obtain ⟨l, l1, l2, l3⟩ := chain (gt d (i : Int)).toNat i hi (by omega) (by omega)
 have := nodup_len all.length l l2 fun v hv => (l3 v hv).1
 omega
abbrev GoalB (t : Task) : Bel → Bool := fun w => sp_sure w t.goal
theorem goal_iff {t : Task} {all : List Bel} {i : Nat} : GoalB t (gt all (i : Int)) = true ↔ isGoal t all i := by
 unfold isGoal; rw [← sure_allHold]
theorem DInv.lower {t : Task} {all : List Bel} {d : List Int} (hc : Closed t all) (h : DInv t all d) (hf : Fix t all d) : ∀ (p : List Int) (i : Nat) (v : Bel), i < all.length → Way (bsucc t) (gt all (i : Int)) p v → GoalB t v = true → gt d (i : Int) < 1000000000 ∧ gt d (i : Int) ≤ p.length
 | [], i, v, hi, hw, hg => by
  have e : gt all (i : Int) = v := hw
  have := h.goal i hi (goal_iff.1 (by rw [e]; exact hg))
  rw [this]; exact ⟨by decide, by simp⟩
 | o :: p, i, v, hi, ⟨x, hx, hw⟩, hg => by
  obtain ⟨m1, m2, m3⟩ := mem_bsucc.1 hx
  have e : edge t all i o := ⟨m1, by rw [← sure_allHold]; exact m2⟩
  obtain ⟨n1, n2, _⟩ := hc.nxt hi e
  simp only at m3
  obtain ⟨k, hk⟩ : ∃ k : Nat, nxt t all i o = k := ⟨(nxt t all i o).toNat, by have := n1.1; omega⟩
  have hkl : k < all.length := by have := n1.2; omega
  rw [hk] at n2
  rw [m3, ← n2] at hw
  obtain ⟨a, b⟩ := h.lower hc hf p k v hkl hw hg
  have hs := h.small hc hf hkl a
  have := hf i o hi e
  rw [hk] at this
  have := hc.len
  simp only [List.length_cons]
  omega
theorem DInv.way {t : Task} {all : List Bel} {d : List Int} (hc : Closed t all) (h : DInv t all d) (hf : Fix t all d) (m : Nat) : ∀ i : Nat, i < all.length → gt d (i : Int) = m → (m : Int) < 1000000000 → ∃ p v, Way (bsucc t) (gt all (i : Int)) p v ∧ GoalB t v = true ∧ p.length = m := by
 induction m with
 | zero =>
  intro i hi he _
  have g : isGoal t all i := Classical.byContradiction fun g => by have := h.pos i hi g; omega
  exact ⟨[], _, rfl, goal_iff.2 g, rfl⟩
 | succ m ih =>
  intro i hi he hb
  obtain ⟨o, e, x⟩ := h.exact_ hf hi (by omega) (by omega)
  obtain ⟨n1, n2, n3⟩ := hc.nxt hi e
  obtain ⟨k, hk⟩ : ∃ k : Nat, nxt t all i o = k := ⟨(nxt t all i o).toNat, by have := n1.1; omega⟩
  rw [hk] at x n1 n2
  obtain ⟨p, v, w1, w2, w3⟩ := ih k (by have := n1.2; omega) (by omega) (by omega)
  rw [n2] at w1
  exact ⟨o :: p, v, ⟨_, n3, w1⟩, w2, by simp [w3]⟩
theorem Least.len {t : Task} {all : List Bel} {d : List Int} (hc : Closed t all) (h : DInv t all d) (hf : Fix t all d) {i : Nat} (hi : i < all.length) {p : List Int} (hl : Least (bsucc t) (GoalB t) (gt all (i : Int)) p) : (p.length : Int) = gt d (i : Int) := by
 obtain ⟨⟨v, w, g⟩, m⟩ := hl
 obtain ⟨a, b⟩ := h.lower hc hf p i v hi w g
 have hr := h.rng (i := (i : Int)) ⟨by omega, by omega⟩
 obtain ⟨p', v', w1, w2, w3⟩ := h.way hc hf (gt d (i : Int)).toNat i hi (by omega) (by omega)
 have := sle_len (m p' v' w1 w2)
 omega
theorem Least.step {t : Task} {all : List Bel} {d : List Int} (hc : Closed t all) (h : DInv t all d) (hf : Fix t all d) {i : Nat} (hi : i < all.length) (h0 : 0 < gt d (i : Int)) {o : Int} (e : edge t all i o) (hd : gt d (nxt t all i o) = gt d (i : Int) - 1)
  (hmin : ∀ o', o' < o → edge t all i o' → gt d (nxt t all i o') ≠ gt d (i : Int) - 1) {rest : List Int} (hl : Least (bsucc t) (GoalB t) (gt all (nxt t all i o)) rest) : Least (bsucc t) (GoalB t) (gt all (i : Int)) (o :: rest) := by
 obtain ⟨n1, n2, n3⟩ := hc.nxt hi e
 obtain ⟨k, hk⟩ : ∃ k : Nat, nxt t all i o = k := ⟨(nxt t all i o).toNat, by have := n1.1; omega⟩
 have hkl : k < all.length := by have := n1.2; omega
 have hlen : (rest.length : Int) = gt d (i : Int) - 1 := by
  rw [hk] at hl hd
  rw [Least.len hc h hf hkl hl, hd]
 obtain ⟨⟨v, w, g⟩, m⟩ := hl
 refine ⟨⟨v, ⟨_, n3, n2 ▸ w⟩, g⟩, fun p' v' w' g' => ?_⟩
 have hlow := h.lower hc hf p' i v' hi w' g'
 cases p' with
 | nil => simp at hlow; omega
 | cons o' q =>
  obtain ⟨x, hx, hw⟩ := w'
  obtain ⟨m1, m2, m3⟩ := mem_bsucc.1 hx
  have e' : edge t all i o' := ⟨m1, by rw [← sure_allHold]; exact m2⟩
  obtain ⟨p1, p2, _⟩ := hc.nxt hi e'
  simp only at m3
  simp only [List.length_cons] at hlow
  by_cases hlt : rest.length < q.length
  ·exact .inr (.inl (by simp; omega))
  ·have hql : q.length = rest.length := by omega
   rw [m3, ← p2] at hw
   obtain ⟨k', hk'⟩ : ∃ k' : Nat, nxt t all i o' = k' := ⟨(nxt t all i o').toNat, by have := p1.1; omega⟩
   have hl2 := (h.lower hc hf q k' v' (by have := p1.2; omega) (hk' ▸ hw) g').2
   have hf2 := hf i o' hi e'
   rw [hk'] at hf2
   have hx2 : gt d (nxt t all i o') = gt d (i : Int) - 1 := by rw [hk']; omega
   have hge : o ≤ o' := by
    rcases Int.lt_or_le o' o with c | c
    ·exact absurd hx2 (hmin o' c e')
    ·exact c
   by_cases heq : o = o'
   ·subst heq
    rcases m q v' hw g' with c | c
    ·exact .inl (by rw [c])
    ·rcases c with c | ⟨c1, c2⟩
     ·omega
     ·exact .inr (.inr ⟨by simp [c1], .inr ⟨rfl, c2⟩⟩)
   ·exact .inr (.inr ⟨by simp; omega, .inl (by omega)⟩)
end Go.Proofs.YtojoehfldbimpaaGreatDoor.Pl

namespace Go.Proofs.YtojoehfldbimpaaGreatDoor.Pl
open Go Go.RowKit
theorem able_val : sp_validate sp_able = ⟨0, 0⟩ := by decide +kernel
theorem code_ne {f : Fault} (hc : f.code = 0 → f = ⟨0, 0⟩) (h : ¬ f = ⟨0, 0⟩) : f.code ≠ 0 := fun e => h (hc e)
theorem addNew_spec {most : Int} : ∀ (l all all' : List Bel), all.Nodup → addNew most l all = some all' → all'.Nodup ∧ (∃ r, all' = all ++ r) ∧ (∀ x ∈ l, x ∈ all') ∧ (∀ x ∈ all', x ∈ all ∨ x ∈ l) ∧ ((all.length : Int) ≤ most → (all'.length : Int) ≤ most)
 | [], all, all', h, he => by
  cases he
  exact ⟨h, ⟨[], by simp⟩, fun x hx => (by cases hx), fun x hx => .inl hx, id⟩
 | n :: l, all, all', h, he => by
  rw [addNew] at he
  split at he
  ·rename_i hn
   obtain ⟨a, ⟨r, rfl⟩, c, d, e⟩ := addNew_spec l all all' h he
   refine ⟨a, ⟨r, rfl⟩, fun x hx => ?_, fun x hx => (d x hx).imp id (List.mem_cons_of_mem _), e⟩
   rcases List.mem_cons.1 hx with rfl | hx
   ·exact List.mem_append_left _ hn
   ·exact c x hx
  ·rename_i hn
   split at he
   ·cases he
   ·rename_i hm
    have h' : (all ++ [n]).Nodup := by
     rw [List.nodup_append]
     refine ⟨h, by simp, fun a ha b hb => ?_⟩
     simp at hb
     subst hb
     exact fun e => hn (e ▸ ha)
    obtain ⟨a, ⟨r, rfl⟩, c, d, e⟩ := addNew_spec l _ all' h' he
    refine ⟨a, ⟨[n] ++ r, by simp⟩, fun x hx => ?_, fun x hx => ?_, fun _ => e (by simp; omega)⟩
    ·rcases List.mem_cons.1 hx with rfl | hx
     ·simp
     ·exact c x hx
    ·rcases d x hx with d | d
     ·rcases List.mem_append.1 d with d | d
      ·exact .inl d
      ·rw [List.mem_singleton.1 d]; exact .inr List.mem_cons_self
     ·exact .inr (List.mem_cons_of_mem _ d)
theorem bclose_spec {most : Int} {succ : Bel → List Bel} {P : Bel → Prop} (hP : ∀ b, P b → ∀ x ∈ succ b, P x) : ∀ (k : Nat) (all : List Bel) (i : Nat) (all' : List Bel), all.Nodup → (∀ b ∈ all, P b) → (all.length : Int) ≤ most → most + 1 ≤ (k : Int) + i → i ≤ all.length → (∀ j : Nat, j < i → ∀ x ∈ succ (all.getD j []), x ∈ all) → bclose most succ k all i = some all' →
  all'.Nodup ∧ (∀ b ∈ all', P b) ∧ (all'.length : Int) ≤ most ∧ (∃ r, all' = all ++ r) ∧ ∀ b ∈ all', ∀ x ∈ succ b, x ∈ all'
 | 0, all, i, all', _, _, h3, h4, h5, _, _ => by omega
 | k + 1, all, i, all', h1, h2, h3, h4, h5, h6, he => by
  rw [bclose] at he
  split at he
  ·rename_i hn
   cases he
   have hl : all.length ≤ i := by simpa using hn
   refine ⟨h1, h2, h3, ⟨[], by simp⟩, fun b hb x hx => ?_⟩
   obtain ⟨j, hj, rfl⟩ := List.mem_iff_getElem.1 hb
   refine h6 j (by omega) x ?_
   rw [List.getD_eq_getElem?_getD, List.getElem?_eq_getElem hj]; exact hx
  ·rename_i b hb
   have hil := (List.getElem?_eq_some_iff.1 hb).1
   split at he
   ·cases he
   ·rename_i all2 h7
    obtain ⟨a1, ⟨r, rfl⟩, a3, a4, a5⟩ := addNew_spec _ _ _ h1 h7
    obtain ⟨c1, c2, c3, ⟨r2, rfl⟩, c5⟩ := bclose_spec hP k (all ++ r) (i + 1) all' a1 (fun y hy => by
     rcases a4 y hy with q | q
     ·exact h2 y q
     ·exact hP b (h2 b (List.mem_of_getElem? hb)) y q) (a5 h3) (by omega) (by rw [List.length_append]; omega) (fun j hj x hx => by
     have hjl : j < all.length := by omega
     rw [List.getD_eq_getElem?_getD, List.getElem?_append_left hjl, ← List.getD_eq_getElem?_getD] at hx
     rcases Nat.lt_or_ge j i with q | q
     ·exact List.mem_append_left _ (h6 j q x hx)
     ·have : j = i := by omega
      subst this
      rw [List.getD_eq_getElem?_getD, hb] at hx
      exact a3 x hx) he
    exact ⟨c1, c2, c3, ⟨r ++ r2, by rw [List.append_assoc]⟩, c5⟩
theorem beliefs_closed {t : Task} {start : Bel} (hv : sp_validate t = ⟨0, 0⟩) (hw : WsOK t start) {sN : List Int} {all : List Bel} (h : sp_beliefs t start sN 150 = (all, true)) : (all.length ≤ 150 ∧ start ∈ all ∧ all.getD 0 [] = start ∧ ∀ b ∈ all, ∀ x ∈ osucc t sN b, x ∈ all) ∧ Closed t all := by
 unfold sp_beliefs at h
 split at h
 ·rename_i all2 he
  simp only [Prod.mk.injEq, and_true] at h
  subst h
  obtain ⟨a1, a2, a3, ⟨r, a4⟩, a5⟩ := bclose_spec (P := WsOK t) (fun b hb x hx => osucc_ok hv hb hx) _ [start] 0 _ (by simp) (fun b hb => by rw [List.mem_singleton.1 hb]; exact hw) (by simp) (by decide) (by simp) (fun j hj => by omega) he
  have hs : ∀ b ∈ all2, ∀ x ∈ bsucc t b, x.2 ∈ all2 := fun b hb x hx => a5 b hb x.2 (by rw [osucc_def]; exact List.mem_append_left _ (List.mem_map_of_mem hx))
  exact ⟨⟨by omega, by rw [a4]; simp, by rw [a4]; rfl, a5⟩, hv, by omega, by rw [a4]; simp, a2, a1, hs⟩
 ·simp at h
end Go.Proofs.YtojoehfldbimpaaGreatDoor.Pl

namespace Go.Proofs.YtojoehfldbimpaaGreatDoor.Pl
open Go Go.RowKit
theorem sortR_perm (l : Bel) : (sp_sortR l).Perm l := List.mergeSort_perm _ _
theorem sortR_len (l : Bel) : (sp_sortR l).length = l.length := (sortR_perm l).length_eq
def Nle (x y : List Int) : Prop := sp_before y x = false
theorem nle_trans {x y z : List Int} (h : Nle x y) (g : Nle y z) : Nle x z := by
 unfold Nle at *
 rcases before_tri y x with a | a | a
 ·rw [h] at a; cases a
 ·rw [← a]; exact g
 ·rcases before_tri z y with b | b | b
  ·rw [g] at b; cases b
  ·rw [b]; exact h
  ·have := before_trans _ _ _ a b
   cases e : sp_before z x
   ·rfl
   ·have := before_trans _ _ _ this e
    rw [before_irr] at this; cases this
theorem sortR_sorted (l : Bel) : (sp_sortR l).Pairwise Nle := by
 have := List.pairwise_mergeSort (le := fun x y : List Int => !sp_before y x) (fun a b c h g => by
  simp only [Bool.not_eq_true'] at *
  exact nle_trans h g) (fun a b => by
  rcases before_tri a b with h | h | h
  ·cases e : sp_before b a
   ·simp
   ·have := before_trans _ _ _ h e
    rw [before_irr] at this; cases this
  ·subst h; rw [before_irr]; simp
  ·cases e : sp_before a b
   ·simp
   ·have := before_trans _ _ _ h e
    rw [before_irr] at this; cases this) l
 exact this.imp fun h => by simpa [Nle] using h
theorem sorted_perm : ∀ (a b : Bel), a.Pairwise Nle → b.Pairwise Nle → a.Perm b → a = b
 | [], b, _, _, h => (List.nil_perm.1 h).symm
 | x :: a, [], _, _, h => absurd h.length_eq (by simp)
 | x :: a, y :: b, ha, hb, h => by
  rw [List.pairwise_cons] at ha hb
  have e : x = y := by
   rcases List.mem_cons.1 (h.mem_iff.1 (List.mem_cons_self (a := x) (l := a))) with e | e
   ·exact e
   ·rcases List.mem_cons.1 (h.mem_iff.2 (List.mem_cons_self (a := y) (l := b))) with e' | e'
    ·exact e'.symm
    ·have h1 := ha.1 y e'
     have h2 := hb.1 x e
     rcases before_tri x y with g | g | g
     ·rw [show sp_before x y = false from h2] at g; cases g
     ·exact g
     ·rw [show sp_before y x = false from h1] at g; cases g
  subst e
  rw [sorted_perm a b ha.2 hb.2 h.cons_inv]
theorem compactR_snoc (l : Bel) (x : List Int) : sp_compactR (l ++ [x]) = if (sp_compactR l).getLast? = some x then sp_compactR l else sp_compactR l ++ [x] := by
 unfold sp_compactR; rw [List.foldl_append]; rfl
theorem compactR_last (l : Bel) : (sp_compactR l).getLast? = l.getLast? := by
 rcases List.eq_nil_or_concat l with rfl | ⟨l, x, rfl⟩
 ·rfl
 ·rw [List.concat_eq_append, compactR_snoc]
  split
  ·rename_i h; rw [h]; simp
  ·simp
theorem compactR_step (l : Bel) (x : List Int) : sp_compactR (l ++ [x]) = if l.getLast? = some x then sp_compactR l else sp_compactR l ++ [x] := by
 rw [compactR_snoc, compactR_last]
theorem mem_compactR (x : List Int) : ∀ (m : Nat) (l : Bel), l.length = m → (x ∈ sp_compactR l ↔ x ∈ l)
 | 0, l, h => by rw [List.length_eq_zero_iff.1 h]; simp [sp_compactR]
 | m + 1, l, h => by
  rcases List.eq_nil_or_concat l with rfl | ⟨l, y, rfl⟩
  ·simp at h
  ·rw [List.concat_eq_append] at h ⊢
   have ih := mem_compactR x m l (by simpa using h)
   rw [compactR_step]
   split
   ·rename_i hl
    rw [ih, List.mem_append, List.mem_singleton]
    constructor
    ·exact .inl
    ·rintro (g | rfl)
     ·exact g
     ·exact List.mem_of_getLast? hl
   ·rw [List.mem_append, ih, List.mem_append]
theorem compactR_sorted : ∀ (m : Nat) (l : Bel), l.length = m → l.Pairwise Nle → (sp_compactR l).Pairwise Bfr
 | 0, l, h, _ => by rw [List.length_eq_zero_iff.1 h]; simp [sp_compactR]
 | m + 1, l, h, hs => by
  rcases List.eq_nil_or_concat l with rfl | ⟨l, y, rfl⟩
  ·simp at h
  ·rw [List.concat_eq_append] at h hs ⊢
   obtain ⟨h1, _, h3⟩ := List.pairwise_append.1 hs
   have ih := compactR_sorted m l (by simpa using h) h1
   rw [compactR_step]
   split
   ·exact ih
   ·rename_i hl
    refine List.pairwise_append.2 ⟨ih, by simp, fun a ha b hb => ?_⟩
    rw [List.mem_singleton.1 hb]
    have ham := (mem_compactR a _ l rfl).1 ha
    have hn : Nle a y := h3 a ham y (by simp)
    rcases before_tri a y with g | g | g
    ·exact g
    · -- a is y; the last of l is not, and lies between
     subst g
     rcases List.eq_nil_or_concat l with rfl | ⟨l2, z, rfl⟩
     ·cases ham
     ·rw [List.concat_eq_append] at hl h1 h3 ham ha ih
      have hz : z ≠ a := fun e => hl (by simp [e])
      have h4 : Nle z a := h3 z (by simp) a (by simp)
      rcases List.mem_append.1 ham with q | q
      ·have h5 : Nle a z := (List.pairwise_append.1 h1).2.2 a q z (by simp)
       rcases before_tri a z with k | k | k
       ·rw [show sp_before a z = false from h4] at k; cases k
       ·exact absurd k.symm hz
       ·rw [show sp_before z a = false from h5] at k; cases k
      ·exact absurd (List.mem_singleton.1 q).symm hz
    ·rw [show sp_before y a = false from hn] at g; cases g
theorem normal_eq (l : Bel) : sp_compactR (sp_sortR l) = sp_normal l :=
 bfr_ext (compactR_sorted _ _ rfl (sortR_sorted l)) (normal_sorted l) fun x => by rw [mem_compactR x _ _ rfl, mem_normal, (sortR_perm l).mem_iff]
theorem ok_normal : ∀ (l : List (List Int)), pre_normal l → F_normal l (fun r => r = sp_normal l) := fun l hp => by
 unfold F_normal
 simp only [forall_eq]
 exact ⟨hp, ⟨by rw [sortR_len]; exact hp.1, fun x hx => hp.2 x ((sortR_perm l).mem_iff.1 hx)⟩, normal_eq l⟩
theorem last_take {l : Bel} {k : Nat} (h0 : 0 < k) (h : k ≤ l.length) : (l.take k).getLast? = some (gt l ((k - 1 : Nat) : Int)) := by
 have := takeN_gt (xs := l) (k := k - 1) (by omega)
 rw [show k - 1 + 1 = k by omega] at this
 rw [this]; simp
theorem ok_compactR : ∀ (s_ : List (List Int)), pre_compactR s_ → F_compactR s_ (fun r => r = sp_compactR s_) := fun s ⟨hl, hr⟩ => by
 unfold F_compactR
 simp only [decide_eq_true_eq, decide_eq_false_iff_not]
 refine ⟨fun h => ?_, fun h => ?_⟩
 ·match s, h with
  | [], _ => rfl
  | [x], _ => rfl
  | _ :: _ :: _, h => simp at h; omega
 have ext : ∀ k : Nat, 0 < k → k < s.length → sp_compactR (s.take (k + 1)) = if gt s ((k - 1 : Nat) : Int) = gt s (k : Int) then sp_compactR (s.take k) else sp_compactR (s.take k) ++ [gt s (k : Int)] := fun k h0 hk => by
  rw [takeN_gt hk, compactR_step, last_take h0 (by omega)]
  simp only [Option.some.injEq]
 refine ⟨fun k => ∃ j : Nat, k = j ∧ 1 ≤ j ∧ j ≤ s.length ∧ sp_compactR (s.take j) = s.take j, fun k => (s.length - k).toNat, ⟨1, rfl, by omega, by omega, ?_⟩, ?_⟩
 ·match s, h with
  | [], h => simp at h
  | x :: r, _ => rfl
 rintro _ ⟨j, rfl, j1, j2, j3⟩
 unfold F_compactR_L1
 simp only [forall_eq, decide_eq_true_eq, decide_eq_false_iff_not, sp_sequal]
 refine ⟨fun g => ?_, fun g => ?_⟩
 ·have hj : j < s.length := by omega
  have ej := ext j (by omega) hj
  rw [w64 (n := (j : Int) - 1) (by omega), w64 (n := (j : Int) + 1) (by omega), show (j : Int) - 1 = ((j - 1 : Nat) : Int) by omega]
  refine ⟨⟨by omega, g⟩, ⟨by omega, by omega⟩, ⟨hr _ (gt_memN hj), hr _ (gt_memN (by omega))⟩, fun e => ⟨⟨by omega, by omega⟩, ?_⟩, fun e => ⟨⟨j + 1, by omega, by omega, by omega, ?_⟩, by omega⟩⟩
  ·rw [if_pos e.symm] at ej
   refine ⟨fun k3 k22 s2 => ∃ a b : Nat, k3 = a ∧ k22 = b ∧ 1 ≤ b ∧ j + b ≤ s.length ∧ a + 1 ≤ j + b ∧ s2.length = s.length ∧ s2.take a = sp_compactR (s.take (j + b)) ∧ ∀ p : Nat, j + b ≤ p + 1 → p < s.length → gt s2 (p : Int) = gt s (p : Int), fun _ k22 _ => (s.length - k22).toNat, ⟨j, 1, rfl, rfl, by omega, by omega, by omega, rfl, by rw [ej, j3], fun p _ _ => rfl⟩, ?_⟩
   rintro _ _ s2 ⟨a, b, rfl, rfl, b1, b2, b3, b4, b5, b6⟩
   unfold F_compactR_L2 F_compactR_J1
   simp only [forall_eq, decide_eq_true_eq, decide_eq_false_iff_not, Bool.not_eq_true', Bool.not_eq_false', Int.toNat_natCast]
   refine ⟨fun q => ?_, fun q => ?_⟩
   ·have hb : j + b < s.length := by omega
    rw [w64 (n := (b : Int) - 1) (by omega), w64 (n := (b : Int) + 1) (by omega), w64 (n := (a : Int) + 1) (by omega)]
    have e1 : (j : Int) + (b : Int) = ((j + b : Nat) : Int) := by omega
    have e2 : (j : Int) + ((b : Int) - 1) = ((j + b - 1 : Nat) : Int) := by omega
    rw [e1, e2, b6 (j + b) (by omega) hb, b6 (j + b - 1) (by omega) (by omega)]
    have eb := ext (j + b) (by omega) hb
    refine ⟨by omega, ⟨by omega, by omega⟩, by omega, ⟨by omega, by omega⟩, ⟨hr _ (gt_memN hb), hr _ (gt_memN (by omega))⟩, fun e => ⟨⟨by omega, by omega⟩, ⟨a + 1, b + 1, by omega, by omega, by omega, by omega, by omega, by rw [List.length_set]; exact b4, ?_, fun p p1 p2 => ?_⟩, by omega⟩, fun e => ⟨⟨a, b + 1, rfl, by omega, by omega, by omega, by omega, b4, ?_, fun p p1 p2 => b6 p (by omega) p2⟩, by omega⟩⟩
    ·have hne : ¬ gt s ((j + b - 1 : Nat) : Int) = gt s ((j + b : Nat) : Int) := fun k => of_decide_eq_false e k.symm
     rw [if_neg hne] at eb
     rw [show j + (b + 1) = j + b + 1 by omega, eb, ← b5]
     have hal : a < (s2.set a (gt s ((j + b : Nat) : Int))).length := by rw [List.length_set]; omega
     rw [takeN_gt hal, List.take_set_of_le (Nat.le_refl a)]
     congr 1
     have := gt_set (xs := s2) (i := (a : Int)) (x := gt s ((j + b : Nat) : Int)) ⟨by omega, by omega⟩
     rw [Int.toNat_natCast] at this
     rw [this]
    ·have := gt_setI (xs := s2) (i := (a : Int)) (j := (p : Int)) (x := gt s ((j + b : Nat) : Int)) ⟨by omega, by omega⟩ (by omega)
     rw [Int.toNat_natCast] at this
     rw [this, if_neg (by omega)]
     exact b6 p (by omega) p2
    ·rw [if_pos (of_decide_eq_true e).symm] at eb
     rw [show j + (b + 1) = j + b + 1 by omega, eb]; exact b5
   ·have e1 : j + b = s.length := by omega
    refine ⟨⟨by omega, by omega⟩, ?_⟩
    have e2 : (s2.take a).length = a := by rw [List.length_take]; omega
    rw [List.take_append_of_le_length (by omega), List.take_take, Nat.min_self, b5, e1, List.take_length]
  ·have hne : ¬ gt s ((j - 1 : Nat) : Int) = gt s (j : Int) := fun k => e k.symm
   rw [ej, if_neg hne, j3, takeN_gt hj]
 ·have : j = s.length := by omega
  subst this
  rw [List.take_length] at j3
  exact j3.symm
end Go.Proofs.YtojoehfldbimpaaGreatDoor.Pl

namespace Go.Proofs
open Go.Shelf
def YtojoehfldbimpaaGreatDoor.lays189_ren : Go.Shelf.Ren := ⟨fun | 189 => 105 | 125 => 119 | 257 => 118 | 128 => 134 | 129 => 135 | 294 => 126 | 295 => 127 | 296 => 128 | 297 => 129 | 298 => 130 | 299 => 131 | 216 => 116 | 300 => 132 | 301 => 133 | 328 => 150 | 329 => 151 | 330 => 152 | 331 => 153 | 332 => 154 | 215 => 122 | 343 => 162 | n => n, fun | 28 => 22 | 3 => 3 | 46 => 131 | 0 => 0 | 51 => 148 | 53 => 137 | 4 => 4 | 183 => 142 | 182 => 141 | 131 => 123 | 5 => 5 | 9 => 9 | 218 => 161 | 222 => 165 | 228 => 173 | 229 => 174 | n => n, fun | n => n⟩
theorem YtojoehfldbimpaaGreatDoor.lays189 : Go.Proofs.Lays.n189 Tryz.prog YtojoehfldbimpaaGreatDoor.lays189_ren := {
  mixed := by kernel_rfl
  f125 := Tryz.func119.trans (congrArg some (by kernel_rfl))
  f128 := Tryz.func134.trans (congrArg some (by kernel_rfl))
  f129 := Tryz.func135.trans (congrArg some (by kernel_rfl))
  f189 := Tryz.func105.trans (congrArg some (by kernel_rfl))
  f215 := Tryz.func122.trans (congrArg some (by kernel_rfl))
  f216 := Tryz.func116.trans (congrArg some (by kernel_rfl))
  f257 := Tryz.func118.trans (congrArg some (by kernel_rfl))
  f294 := Tryz.func126.trans (congrArg some (by kernel_rfl))
  f295 := Tryz.func127.trans (congrArg some (by kernel_rfl))
  f296 := Tryz.func128.trans (congrArg some (by kernel_rfl))
  f297 := Tryz.func129.trans (congrArg some (by kernel_rfl))
  f298 := Tryz.func130.trans (congrArg some (by kernel_rfl))
  f299 := Tryz.func131.trans (congrArg some (by kernel_rfl))
  f300 := Tryz.func132.trans (congrArg some (by kernel_rfl))
  f301 := Tryz.func133.trans (congrArg some (by kernel_rfl))
  f328 := Tryz.func150.trans (congrArg some (by kernel_rfl))
  f329 := Tryz.func151.trans (congrArg some (by kernel_rfl))
  f330 := Tryz.func152.trans (congrArg some (by kernel_rfl))
  f331 := Tryz.func153.trans (congrArg some (by kernel_rfl))
  f332 := Tryz.func154.trans (congrArg some (by kernel_rfl))
  f343 := Tryz.func162.trans (congrArg some (by kernel_rfl))
  t0 := Tryz.underlying0
  a0 := Tryz.isAgg0
  z0 := Tryz.sizeOf0
  v0 := Tryz.zeroValue0
  t3 := Tryz.underlying3
  a3 := Tryz.isAgg3
  z3 := Tryz.sizeOf3
  v3 := Tryz.zeroValue3
  t4 := Tryz.underlying4
  a4 := Tryz.isAgg4
  z4 := Tryz.sizeOf4
  v4 := Tryz.zeroValue4
  t5 := Tryz.underlying5
  a5 := Tryz.isAgg5
  z5 := Tryz.sizeOf5
  v5 := Tryz.zeroValue5
  t9 := Tryz.underlying9
  a9 := Tryz.isAgg9
  z9 := Tryz.sizeOf9
  v9 := Tryz.zeroValue9
  t28 := Tryz.underlying22
  a28 := Tryz.isAgg22
  z28 := Tryz.sizeOf22
  v28 := Tryz.zeroValue22
  t46 := Tryz.underlying131
  a46 := Tryz.isAgg131
  z46 := Tryz.sizeOf131
  v46 := Tryz.zeroValue131
  t51 := Tryz.underlying148
  a51 := Tryz.isAgg148
  z51 := Tryz.sizeOf148
  v51 := Tryz.zeroValue148
  t53 := Tryz.underlying137
  a53 := Tryz.isAgg137
  z53 := Tryz.sizeOf137
  v53 := Tryz.zeroValue137
  t131 := Tryz.underlying123
  a131 := Tryz.isAgg123
  z131 := Tryz.sizeOf123
  v131 := Tryz.zeroValue123
  t182 := Tryz.underlying141
  a182 := Tryz.isAgg141
  z182 := Tryz.sizeOf141
  v182 := Tryz.zeroValue141
  t183 := Tryz.underlying142
  a183 := Tryz.isAgg142
  z183 := Tryz.sizeOf142
  v183 := Tryz.zeroValue142
  t218 := Tryz.underlying161
  a218 := Tryz.isAgg161
  z218 := Tryz.sizeOf161
  v218 := Tryz.zeroValue161
  t222 := Tryz.underlying165
  a222 := Tryz.isAgg165
  z222 := Tryz.sizeOf165
  v222 := Tryz.zeroValue165
  t228 := Tryz.underlying173
  a228 := Tryz.isAgg173
  z228 := Tryz.sizeOf173
  v228 := Tryz.zeroValue173
  t229 := Tryz.underlying174
  a229 := Tryz.isAgg174
  z229 := Tryz.sizeOf174
  v229 := Tryz.zeroValue174 }
def YtojoehfldbimpaaGreatDoor.lays220_ren : Go.Shelf.Ren := ⟨fun | 20 => 106 | n => n, fun | 22 => 22 | 3 => 3 | 4 => 4 | 0 => 0 | n => n, fun | n => n⟩
theorem YtojoehfldbimpaaGreatDoor.lays220 : Go.Proofs.Lays2.n20 Tryz.prog YtojoehfldbimpaaGreatDoor.lays220_ren := {
  mixed := by kernel_rfl
  f20 := Tryz.func106.trans (congrArg some (by kernel_rfl))
  t0 := Tryz.underlying0
  a0 := Tryz.isAgg0
  z0 := Tryz.sizeOf0
  v0 := Tryz.zeroValue0
  t3 := Tryz.underlying3
  a3 := Tryz.isAgg3
  z3 := Tryz.sizeOf3
  v3 := Tryz.zeroValue3
  t4 := Tryz.underlying4
  a4 := Tryz.isAgg4
  z4 := Tryz.sizeOf4
  v4 := Tryz.zeroValue4
  t22 := Tryz.underlying22
  a22 := Tryz.isAgg22
  z22 := Tryz.sizeOf22
  v22 := Tryz.zeroValue22
  i3 := by kernel_rfl }
end Go.Proofs
namespace Go.Proofs.YtojoehfldbimpaaGreatDoor.Pl
open Go Go.RowKit Go.Sort
theorem flL_int (xs : List Int) : flL xs = xs.map (Value.int .i64) := by
 induction xs with
 | nil => rfl
 | cons x r ih => rw [List.map_cons, ← ih]; rfl
theorem putX {w : World} {h : FH} {b c m q : Nat} {cur : Array Value} {e : TypeId} {ds : List Int} {os : Array Obj} (hs : Sub h w) (sg : Sub (FH.one b (.cells cur e (0, 0))) w) (hd : Disj h (FH.one b (.cells cur e (0, 0)))) (hmax : c ≤ maxLen) (hsz : cur.size = c * 1) (hds : ds.length ≤ c) (hm : m ≤ ds.length) :
  SH (Kp.ex w h (FH.one b (.cells cur e (0, 0)))) h (grow (putRow (Value.int .i64) (Sort.ahead w q) b 0 ds.toArray) os) [OwnSl e 1 (some ⟨b, 0, none⟩) m c (flL (ds.take m))] := by
 have hb : w.heap[b]? = some (.cells cur e (0, 0)) := sg b _ (FH.one_self _ _)
 have hlt : b < w.heap.size := sg.lt (FH.one_self _ _)
 have hheap : ∀ i, i < w.heap.size → (grow (putRow (Value.int .i64) (Sort.ahead w q) b 0 ds.toArray) os).heap[i]? = if b = i then some (.cells (putCells (Value.int .i64) 0 ds.toArray cur) e (0, 0)) else w.heap[i]? := fun i hi => by
  show ((w.heap.modify b (onCells (putCells (Value.int .i64) 0 ds.toArray))) ++ os)[i]? = _
  rw [Array.getElem?_append_left (by rw [Array.size_modify]; exact hi), Array.getElem?_modify]
  by_cases q : b = i
  ·subst q
   rw [if_pos rfl, if_pos rfl, hb]; rfl
  ·rw [if_neg q, if_neg q]
 have hsize : w.heap.size ≤ (grow (putRow (Value.int .i64) (Sort.ahead w q) b 0 ds.toArray) os).heap.size := by
  show w.heap.size ≤ ((w.heap.modify b (onCells (putCells (Value.int .i64) 0 ds.toArray))) ++ os).size
  rw [Array.size_append, Array.size_modify]; omega
 have hone : ∀ i, FH.one b (.cells cur e (0, 0)) i = none → b ≠ i := fun i g q => by
  subst q
  rw [FH.one_self] at g; cases g
 have hnb : ∀ i, h i ≠ none → b ≠ i := fun i hi => hone i ((hd i).resolve_left hi)
 refine ⟨⟨rfl, rfl, rfl, hsize, fun i hi => ?_, (by unfold dr; first | exact Nat.le_add_right _ _ | exact Nat.le_refl _)⟩, fun i o ho => ?_, fun i hi => .inl hi, [FH.one b (.cells (putCells (Value.int .i64) 0 ds.toArray cur) e (0, 0))], rfl, ?_, ?_, ?_⟩
 ·rw [hheap i hi.1, if_neg (hone i hi.2)]; rfl
 ·rw [hheap i (hs.lt ho), if_neg (hnb i (by rw [ho]; simp))]; exact hs i o ho
 ·intro i g X hi hX
  cases i with
  | succ i => simp at hi
  | zero =>
   simp at hi hX
   subst hi; subst hX
   refine ⟨by rw [flL_len]; simp [Flat.sz, hm], .inr ⟨b, _, rfl, rfl, by omega, hmax, by simp [putCells, hsz], ?_⟩⟩
   rw [flL_int, Nat.mul_one]
   refine List.ext_getElem? fun k => ?_
   rw [List.getElem?_take, List.getElem?_map, List.getElem?_take]
   by_cases g : k < m
   ·have g2 : k < ds.length := by omega
    have g3 : k < cur.size := by omega
    rw [if_pos g, if_pos g, Array.getElem?_toList]
    simp [putCells, g2, g3]
   ·rw [if_neg g, if_neg g]; rfl
 ·intro i g hi
  cases i with
  | succ i => simp at hi
  | zero =>
   simp at hi
   subst hi
   refine ⟨fun j => ?_, Sub.one ?_, fun j hj hk => ?_⟩
   ·by_cases g : h j = none
    ·exact .inl g
    ·exact .inr (by unfold FH.one; rw [if_neg (fun e => hnb j g e.symm)])
   ·rw [hheap b hlt, if_pos rfl]
   ·exact hone j hk.2 (FH.one_ne hj).symm
 ·intro i j g g' hij hi hj
  cases i with
  | succ i => simp at hi
  | zero => cases j with
   | zero => exact absurd rfl hij
   | succ j => simp at hj
theorem ownHolds {w : World} {b : Nat} {cur : Array Value} {e : TypeId} {xs : List Int} (hb : w.heap[b]? = some (.cells cur e (0, 0))) (ht : cur.toList.take (xs.length * 1) = flL xs) : Go.Sort.Holds (Value.int .i64) w b 0 xs.toArray := fun j hj => by
 have hj' : j < xs.length := by simpa using hj
 refine ⟨?_, ?_⟩
 ·unfold World.cell?
  rw [hb]
  show (if (none : Option _).isSome = true then none else cur[0 + j]?) = _
  rw [flL_int, Nat.mul_one] at ht
  have h1 := congrArg (fun l => l[j]?) ht
  simp only [List.getElem?_take, hj', if_true, List.getElem?_map] at h1
  rw [Array.getElem?_toList, List.getElem?_eq_getElem hj'] at h1
  rw [Nat.zero_add]
  simp [h1, hj']
 ·unfold World.frozen?
  rw [hb]
  simp
theorem sort_len (xs : List Int) : (sp_sort xs).length = xs.length := List.length_mergeSort _
theorem c_sort {h : FH} {w : World} (hs : Sub h w) (s_ : List Int) (a : Option Addr) (c : Nat) {gX : FH} (ownX : OwnSl 3 1 a s_.length c (flL s_) gX) (subX : Sub gX w) (disX : Disj h gX) (hp : pre_sort s_) : Calls Tryz.prog 105 #[.slice a s_.length c] w fun e w' => e = .returned (.tuple #[]) ∧ SH (Kp.ex w h gX) h w' [OwnSl 3 1 a s_.length c (flL (sp_sort s_))] := by
 have own0 := ownX
 obtain ⟨h1, ⟨rfl, h2, rfl, rfl⟩ | ⟨b, cur, rfl, rfl, h4, h5, h6, h7⟩⟩ := ownX
 ·have e : s_ = [] := List.length_eq_zero_iff.1 h2
  subst e
  refine (Any.slices_Sort_int_none YtojoehfldbimpaaGreatDoor.lays189 none 0 w).mono fun e w' ⟨he, hw⟩ => ⟨he, ?_⟩
  subst hw
  rw [show sp_sort [] = [] by simp [sp_sort]]
  exact SH.startX hs subX disX own0
 ·have hb := subX b _ (FH.one_self _ _)
  refine (Any.slices_Sort_int YtojoehfldbimpaaGreatDoor.lays189 b 0 c s_ w (ownHolds hb h7) (subX.lt (FH.one_self _ _)) (Nat.lt_of_le_of_lt hp (by decide))).mono fun e w' ⟨he, n, os, hw⟩ => ⟨he, ?_⟩
  subst hw
  have := putX (q := n) (os := os) (ds := sp_sort s_) (m := s_.length) hs subX disX h5 h6 (by rw [sort_len]; exact h4) (by rw [sort_len]; exact Nat.le_refl _)
  rwa [List.take_of_length_le (by rw [sort_len]; exact Nat.le_refl _)] at this
theorem compact_len (xs : List Int) : (sp_compact xs).length ≤ xs.length := Lib.compact_length_le xs
theorem c_compact {h : FH} {w : World} (hs : Sub h w) (s_ : List Int) (a : Option Addr) (c : Nat) {gX : FH} (ownX : OwnSl 3 1 a s_.length c (flL s_) gX) (subX : Sub gX w) (disX : Disj h gX) (hp : pre_compact s_) : Calls Tryz.prog 106 #[.slice a s_.length c] w fun e w' => e = .returned (.slice a (sp_compact s_).length c) ∧ SH (Kp.ex w h gX) h w' [OwnSl 3 1 a (sp_compact s_).length c (flL (sp_compact s_))] := by
 have own0 := ownX
 obtain ⟨h1, ⟨rfl, h2, rfl, rfl⟩ | ⟨b, cur, rfl, rfl, h4, h5, h6, h7⟩⟩ := ownX
 ·have e : s_ = [] := List.length_eq_zero_iff.1 h2
  subst e
  refine (Any.slices_Compact_int_empty YtojoehfldbimpaaGreatDoor.lays220 none 0 w).mono fun e w' ⟨he, hw⟩ => ⟨he, ?_⟩
  subst hw
  exact SH.startX hs subX disX own0
 ·have hb := subX b _ (FH.one_self _ _)
  have hl := compact_len s_
  unfold pre_compact at hp
  refine (Any.slices_Compact_int YtojoehfldbimpaaGreatDoor.lays220 b 0 c s_ w (ownHolds hb h7) (by omega) h4).mono fun e w' ⟨he, n, hw⟩ => ⟨he, ?_⟩
  subst hw
  have e2 : (sp_compact s_ ++ List.replicate (s_.length - (sp_compact s_).length) 0).length = s_.length := by rw [List.length_append, List.length_replicate]; omega
  have := putX (q := n) (os := #[]) (ds := sp_compact s_ ++ List.replicate (s_.length - (sp_compact s_).length) 0) (m := (sp_compact s_).length) hs subX disX h5 h6 (by rw [e2]; exact h4) (by rw [e2]; exact hl)
  rw [List.take_left, grow_empty] at this
  exact this
end Go.Proofs.YtojoehfldbimpaaGreatDoor.Pl

namespace Go.Proofs.YtojoehfldbimpaaGreatDoor.Pl
open Go Go.RowKit
theorem beq_fault (f g : Fault) : ((f.code == g.code) && (f.index == g.index)) = decide (f = g) := by
 obtain ⟨a, b⟩ := f
 obtain ⟨c, d⟩ := g
 by_cases h1 : a = c <;> by_cases h2 : b = d <;> simp [h1, h2]
theorem beq_zero (f : Fault) : ((f.code == 0) && (f.index == 0)) = decide (f = ⟨0, 0⟩) := beq_fault f ⟨0, 0⟩
theorem set_range {t : Task} (hv : sp_validate t = ⟨0, 0⟩) : pre_isSet [] t.facts := by
 have := (taskOK_of hv).facts
 exact ⟨by omega, by omega⟩
theorem ccheck_ok {t : Task} {u sN : List Int} (h : sp_ccheck t u sN = ⟨0, 0⟩) : UOK t u ∧ sp_isSet sN t.facts = true := by
 unfold sp_ccheck at h
 by_cases a : sp_unknownFault t u = ⟨0, 0⟩
 ·rw [if_pos a] at h
  by_cases b : sp_isSet sN t.facts = true
  ·exact ⟨unknown_ok a, b⟩
  ·rw [if_neg b] at h; exact absurd h (by decide)
 ·rw [if_neg a] at h; exact absurd h a
theorem ccheck_of {t : Task} {u sN : List Int} (h : sp_unknownFault t u = ⟨0, 0⟩) (b : sp_isSet sN t.facts = true) : sp_ccheck t u sN = ⟨0, 0⟩ := by
 unfold sp_ccheck; rw [if_pos h, if_pos b]
theorem ok_ccheck : ∀ (t : Task) (unknown : List Int) (sN : List Int), F_ccheck t unknown sN (fun r => r = sp_ccheck t unknown sN) := fun t u sN => by
 unfold F_ccheck
 simp only [forall_eq, beq_zero, Bool.not_eq_true', Bool.not_eq_false', decide_eq_true_eq, decide_eq_false_iff_not]
 unfold sp_ccheck
 refine ⟨fun h => by rw [if_neg h], fun h => ?_⟩
 rw [if_pos h]
 refine ⟨set_range (unknown_ok h).1, fun g => by rw [if_neg (by rw [g]; decide)], fun g => by rw [if_pos g]⟩
theorem ok_snext : ∀ (k : Srch) (worlds : List (List Int)), F_snext k worlds (fun r => r = sp_snext k worlds) := fun _ _ => rfl
theorem ok_split : ∀ (worlds : List (List Int)) (fact : Int), pre_split worlds fact → F_split worlds fact (fun r => r = sp_split worlds fact) := fun l f ⟨h1, h2⟩ => by
 refine ⟨fun i yes no => ∃ k : Nat, i = k ∧ k ≤ l.length ∧ yes = (l.take k).filter (fun s => decide (f ∈ s)) ∧ no = (l.take k).filter (fun s => !decide (f ∈ s)), fun i _ _ => (l.length - i).toNat, ⟨0, rfl, Nat.zero_le _, rfl, rfl⟩, ?_⟩
 rintro _ _ _ ⟨k, rfl, k1, rfl, rfl⟩
 unfold F_split_L1 F_split_J1
 simp only [forall_eq, decide_eq_true_eq, decide_eq_false_iff_not, sp_contains]
 have l1 := List.length_filter_le (fun s : List Int => decide (f ∈ s)) (l.take k)
 have l2 := List.length_filter_le (fun s : List Int => !decide (f ∈ s)) (l.take k)
 rw [List.length_take] at l1 l2
 refine ⟨fun h => ?_, fun h => ?_⟩
 ·have hk : k < l.length := by omega
  rw [w64 (by omega)]
  refine ⟨⟨by omega, h⟩, h2 _ (gt_memN hk), fun q => ⟨⟨?_, ?_⟩, ⟨k + 1, by omega, by omega, ?_, ?_⟩, by omega⟩, fun q => ⟨⟨?_, ?_⟩, ⟨k + 1, by omega, by omega, ?_, ?_⟩, by omega⟩⟩
  ·rw [List.length_append]; simp only [List.length_singleton, maxLen]; omega
  ·rw [List.length_append]; simp only [List.length_singleton]; omega
  ·rw [takeN_gt hk, List.filter_append]; simp [q]
  ·rw [takeN_gt hk, List.filter_append]; simp [q]
  ·rw [List.length_append]; simp only [List.length_singleton, maxLen]; omega
  ·rw [List.length_append]; simp only [List.length_singleton]; omega
  ·rw [takeN_gt hk, List.filter_append]; simp [q]
  ·rw [takeN_gt hk, List.filter_append]; simp [q]
 ·rw [List.take_of_length_le (by omega)]; rfl
theorem node_eq (a b : TNode) : ((((a.kind == b.kind) && (a.op == b.op)) && ((a.fact == b.fact) && (a.yes == b.yes))) && (a.no == b.no)) = decide (a = b) := by
 obtain ⟨a1, a2, a3, a4, a5⟩ := a
 obtain ⟨b1, b2, b3, b4, b5⟩ := b
 by_cases h1 : a1 = b1 <;> by_cases h2 : a2 = b2 <;> by_cases h3 : a3 = b3 <;> by_cases h4 : a4 = b4 <;> by_cases h5 : a5 = b5 <;> simp [h1, h2, h3, h4, h5]
theorem ok_trees : ∀ (a : List TNode) (b : List TNode), pre_trees a b → F_trees a b (fun r => r = sp_trees a b) := fun a b ⟨h1, _⟩ => by
 unfold F_trees
 simp only [bne_iff_ne, ne_eq, bne_eq_false_iff_eq]
 refine ⟨fun h => ?_, fun h => ?_⟩
 ·have : a ≠ b := fun e => h (by rw [e])
  simp [sp_trees, this]
 ·have hl : a.length = b.length := by omega
  refine ⟨fun t => ∃ k : Nat, t = k ∧ k ≤ a.length ∧ a.take k = b.take k, fun t => (a.length - t).toNat, ⟨0, rfl, Nat.zero_le _, by simp⟩, ?_⟩
  rintro _ ⟨k, rfl, k1, k2⟩
  unfold F_trees_L1
  simp only [decide_eq_true_eq, decide_eq_false_iff_not, forall_eq, node_eq, Bool.not_eq_true', Bool.not_eq_false']
  refine ⟨fun g => ⟨⟨by omega, g⟩, ⟨by omega, by omega⟩, fun q => ?_, fun q => ?_⟩, fun g => ?_⟩
  ·have : a ≠ b := fun e => q (by rw [e])
   simp [sp_trees, this]
  ·rw [w64 (n := (k : Int) + 1) (by omega)]
   refine ⟨⟨k + 1, by omega, by omega, ?_⟩, by omega⟩
   rw [takeN_gt (xs := a) (k := k) (by omega), takeN_gt (xs := b) (k := k) (by omega), k2, q]
  ·have e : a = b := by
    have := k2
    rwa [List.take_of_length_le (by omega), List.take_of_length_le (by omega)] at this
   simp [sp_trees, e]
theorem node_J1 {n : TNode} {i x x2 x3 x4 v : Int} (hv : v = if (n.op = x ∧ n.fact = x2 ∧ n.yes = x3 ∧ n.no = x4) ∧ (n.kind = 1 ∨ (0 ≤ n.yes ∧ 0 ≤ n.no ∧ n.yes < i ∧ n.no < i)) then 0 else 5) : F_nodeCode_J1 n i (fun r => r = v) x x2 x3 x4 := by
 unfold F_nodeCode_J1 F_nodeCode_J2
 simp only [forall_eq, bne_iff_ne, ne_eq, bne_eq_false_iff_eq, beq_self_eq_true, Bool.true_and, Bool.not_eq_true', Bool.not_eq_false', Bool.and_eq_true, Bool.and_eq_false_iff, beq_iff_eq, beq_eq_false_iff_ne, decide_eq_true_eq, decide_eq_false_iff_not]
 refine ⟨fun h => ⟨fun _ => ?_, fun q => by simp at q⟩, fun h => ⟨fun hk => ⟨fun g => ⟨fun _ => ?_, fun q => by simp at q⟩, fun g => ⟨fun q => ?_, fun q => ?_⟩⟩, fun hk => ⟨fun q => by simp at q, fun _ => ?_⟩⟩⟩
 ·rw [hv, if_neg]; rintro ⟨⟨a, b, c, d⟩, _⟩; simp [a, b, c, d] at h
 ·rw [hv, if_neg]; rintro ⟨_, a⟩; split at g <;> omega
 ·rw [hv, if_neg]; rintro ⟨_, a⟩; split at q <;> omega
 ·rw [hv, if_pos]; refine ⟨⟨h.1.1, h.1.2.1, h.1.2.2, h.2⟩, .inr ?_⟩; split at g <;> split at q <;> omega
 ·rw [hv, if_pos]; exact ⟨⟨h.1.1, h.1.2.1, h.1.2.2, h.2⟩, .inl hk⟩
theorem ok_nodeCode : ∀ (t : Task) (sN : List Int) (n_ : TNode) (i : Int), pre_nodeCode t sN n_ i → F_nodeCode t sN n_ i (fun r => r = sp_nodeCode t sN n_ i) := fun t sN n i ⟨h1, h2, h3⟩ => by
 unfold F_nodeCode F_nodeCode_J3
 simp only [forall_eq, beq_iff_eq, beq_eq_false_iff_ne, decide_eq_true_eq, decide_eq_false_iff_not, sp_contains, Bool.not_eq_true', Bool.not_eq_false', ne_eq]
 refine ⟨fun k1 => node_J1 ?_, fun k1 => ⟨fun k2 => ?_, fun k2 => ⟨fun k3 => ⟨h1, fun g => ?_, fun g => node_J1 ?_⟩, fun k3 => ?_⟩⟩⟩
 ·unfold sp_nodeCode; rw [if_pos k1]; simp [k1]
 ·have key : ¬ (n.op < 0 ∨ (t.ops.length : Int) ≤ n.op) → F_nodeCode_J1 n i (fun r => r = sp_nodeCode t sN n i) n.op 0 n.yes 0 := fun g => node_J1 (by
   unfold sp_nodeCode
   rw [if_neg k1, if_pos k2, if_neg g]
   by_cases a : n.fact = 0 ∧ n.no = 0 ∧ 0 ≤ n.yes ∧ n.yes < i
   ·rw [if_pos a, if_pos ⟨⟨rfl, a.1, rfl, a.2.1⟩, .inr ⟨a.2.2.1, by omega, a.2.2.2, by omega⟩⟩]
   ·rw [if_neg a, if_neg]; rintro ⟨⟨_, b, _, c⟩, d⟩; exact a ⟨b, c, by omega, by omega⟩)
  have bad : (n.op < 0 ∨ (t.ops.length : Int) ≤ n.op) → 3 = sp_nodeCode t sN n i := fun g => by
   unfold sp_nodeCode
   rw [if_neg k1, if_pos k2, if_pos g]
  refine ⟨fun g => ⟨fun _ => bad (.inl g), fun q => by simp at q⟩, fun g => ⟨fun q => bad (.inr (by simpa using q)), fun q => key ?_⟩⟩
  have : ¬ (t.ops.length : Int) ≤ n.op := by simpa using q
  omega
 ·unfold sp_nodeCode; rw [if_neg k1, if_neg k2, if_pos k3, if_neg (by simpa using g)]
 ·unfold sp_nodeCode; rw [if_neg k1, if_neg k2, if_pos k3, if_pos (by simpa using g)]
  by_cases a : n.op = 0 ∧ 0 ≤ n.yes ∧ n.yes < i ∧ 0 ≤ n.no ∧ n.no < i
  ·rw [if_pos a, if_pos ⟨⟨a.1, rfl, rfl, rfl⟩, .inr ⟨a.2.1, a.2.2.2.1, a.2.2.1, a.2.2.2.2⟩⟩]
  ·rw [if_neg a, if_neg]; rintro ⟨⟨b, _⟩, d⟩; exact a ⟨b, by omega, by omega, by omega, by omega⟩
 ·unfold sp_nodeCode; rw [if_neg k1, if_neg k2, if_neg k3]
theorem nodeF_ne {t : Task} {sN : List Int} {tree : List TNode} {j : Nat} (h : sp_nodeCode t sN (gt tree j) j ≠ 0) : nodeF t sN tree j = ⟨sp_nodeCode t sN (gt tree j) j, j⟩ := if_neg h
theorem nodeF_zero {t : Task} {sN : List Int} {tree : List TNode} {j : Nat} (h : sp_nodeCode t sN (gt tree j) j = 0) : nodeF t sN tree j = ⟨0, 0⟩ := if_pos h
theorem cv_len {t : Task} {sN : List Int} {tree : List TNode} (h : sp_ccheck t [] sN = ⟨0, 0⟩) (g : tree.length = 0 ∨ 60 < tree.length) : sp_cvalidate t sN tree = ⟨9, -1⟩ := by
 unfold sp_cvalidate; rw [if_pos h, if_pos g]
theorem cv_all {t : Task} {sN : List Int} {tree : List TNode} (h : sp_ccheck t [] sN = ⟨0, 0⟩) (g : ¬ (tree.length = 0 ∨ 60 < tree.length)) : sp_cvalidate t sN tree = ffirst (nodeF t sN tree) tree.length := by
 unfold sp_cvalidate; rw [if_pos h, if_neg g]
theorem ok_cvalidate : ∀ (t : Task) (sN : List Int) (tree : List TNode), F_cvalidate t sN tree (fun r => r = sp_cvalidate t sN tree) := fun t sN tree => by
 unfold F_cvalidate F_cvalidate_J1
 simp only [forall_eq, beq_zero, Bool.not_eq_true', Bool.not_eq_false', decide_eq_true_eq, decide_eq_false_iff_not, beq_iff_eq, beq_eq_false_iff_ne, ne_eq]
 refine ⟨fun h => by unfold sp_cvalidate; rw [if_neg h], fun h => ?_⟩
 have hc := ccheck_ok h
 have hse : sN.length ≤ 1000 := by have := set_len24 hc.1.1 hc.2; omega
 have key : ¬ (tree.length = 0 ∨ 60 < tree.length) → ∃ (I1 : Int → Prop) (μ1 : Int → Nat), I1 0 ∧ ∀ (t29 : Int), I1 t29 → F_cvalidate_L1 t sN tree (fun r => r = sp_cvalidate t sN tree) t29 I1 μ1 := fun g => by
  rw [cv_all h g]
  refine ⟨fun i => ∃ k : Nat, i = k ∧ k ≤ tree.length ∧ ∀ j, j < k → nodeF t sN tree j = ⟨0, 0⟩, fun i => (tree.length - i).toNat, ⟨0, rfl, by omega, fun j hj => by omega⟩, ?_⟩
  rintro _ ⟨k, rfl, k1, k2⟩
  unfold F_cvalidate_L1
  simp only [decide_eq_true_eq, decide_eq_false_iff_not, forall_eq, bne_iff_ne, ne_eq, bne_eq_false_iff_eq]
  refine ⟨fun h => ⟨⟨by omega, h⟩, ⟨hse, by omega, by omega⟩, fun q => ?_, fun q => ?_⟩, fun h => ?_⟩
  ·rw [ffirst_hit (i := k) (by omega) k2 (by rw [nodeF_ne q]; exact fault_mk q), nodeF_ne q]
  ·rw [w64 (by omega)]
   exact ⟨⟨k + 1, by omega, by omega, zero_next k2 (nodeF_zero q)⟩, by omega⟩
  ·rw [ffirst_none fun j hj => k2 j (by omega)]
 refine ⟨fun g => ⟨fun _ => (cv_len h (.inl (by omega))).symm, fun q => by simp at q⟩, fun g => ⟨fun q => ?_, fun q => key ?_⟩⟩
 ·have : 60 < (tree.length : Int) := by simpa using q
  exact (cv_len h (.inr (by omega))).symm
 ·have : ¬ (60 < (tree.length : Int)) := by simpa using q
  omega
theorem gt_nat {α : Type} [Inhabited α] {xs : List α} {j : Nat} {x : α} (h : xs[j]? = some x) : gt xs (j : Int) = x := by
 have hj := (List.getElem?_eq_some_iff.1 h).1
 have := gt_get (xs := xs) (i := (j : Int)) ⟨by omega, by omega⟩
 simp only [Int.toNat_natCast] at this
 rw [h] at this
 exact (Option.some.inj this).symm
theorem cv_ok {t : Task} {sN : List Int} {tree : List TNode} (h : sp_cvalidate t sN tree = ⟨0, 0⟩) : sp_validate t = ⟨0, 0⟩ ∧ sp_isSet sN t.facts = true ∧ TreeOK t tree ∧ ∀ j, j < tree.length → sp_nodeCode t sN (gt tree j) j = 0 := by
 by_cases a : sp_ccheck t [] sN = ⟨0, 0⟩
 ·by_cases g : tree.length = 0 ∨ 60 < tree.length
  ·rw [cv_len a g] at h; exact absurd h (by decide)
  ·rw [cv_all a g] at h
   have hn : ∀ j, j < tree.length → sp_nodeCode t sN (gt tree j) j = 0 := fun j hj => by
    refine Classical.byContradiction fun q => ?_
    have := ffirst_zero h j hj
    rw [nodeF_ne q] at this
    exact fault_mk q this
   have hc := ccheck_ok a
   refine ⟨hc.1.1, hc.2, ⟨by omega, by omega, fun j n hj => ?_⟩, hn⟩
   have hjl := (List.getElem?_eq_some_iff.1 hj).1
   have e := hn j hjl
   have eg : gt tree (j : Int) = n := gt_nat hj
   rw [eg] at e
   unfold sp_nodeCode at e
   split at e
   ·rename_i q; exact .inl q
   ·split at e
    ·rename_i q1 q2
     split at e
     ·exact absurd e (by decide)
     ·rename_i q3
      split at e
      ·rename_i q4; exact .inr (.inl ⟨q2, ⟨by omega, by omega⟩, q4.2.2.1, q4.2.2.2⟩)
      ·exact absurd e (by decide)
    ·split at e
     ·rename_i q1 q2 q3
      split at e
      ·split at e
       ·rename_i q4; exact .inr (.inr ⟨q3, q4.2.1, q4.2.2.1, q4.2.2.2.1, q4.2.2.2.2⟩)
       ·exact absurd e (by decide)
      ·exact absurd e (by decide)
     ·exact absurd e (by decide)
 ·unfold sp_cvalidate at h; rw [if_neg a] at h; exact absurd h a
end Go.Proofs.YtojoehfldbimpaaGreatDoor.Pl

namespace Go.Proofs.YtojoehfldbimpaaGreatDoor.Pl
open Go Go.RowKit
theorem depths_snoc (l : List TNode) (n : TNode) : depths (l ++ [n]) = depths l ++ [nodeD (depths l) n] := by simp [depths]
theorem depths_fold : ∀ (l : List TNode) (d : List Int), (l.foldl (fun d n => d ++ [nodeD d n]) d).length = d.length + l.length
 | [], d => by simp
 | n :: r, d => by rw [List.foldl_cons, depths_fold r]; simp; omega
theorem depths_len (l : List TNode) : (depths l).length = l.length := by unfold depths; rw [depths_fold]; simp
theorem depths_take {l : List TNode} {k : Nat} (h : k < l.length) : depths (l.take (k + 1)) = depths (l.take k) ++ [nodeD (depths (l.take k)) (gt l (k : Int))] := by
 rw [takeN_gt h, depths_snoc]
theorem depths_pre {l : List TNode} {k : Nat} (h : k ≤ l.length) : depths (l.take k) = (depths l).take k := by
 suffices key : ∀ (m : Nat), k + m = l.length → depths (l.take k) = (depths l).take k from key (l.length - k) (by omega)
 intro m
 induction m generalizing k with
 | zero => intro e; rw [List.take_of_length_le (by omega), List.take_of_length_le (by rw [depths_len]; omega)]
 | succ m ih =>
  intro e
  have h1 := ih (k := k + 1) (by omega) (by omega)
  have h2 := depths_take (l := l) (k := k) (by omega)
  rw [h1] at h2
  have h4 : (depths (l.take k)).length = k := by rw [depths_len, List.length_take]; omega
  have h5 : (depths (l.take k) ++ [nodeD (depths (l.take k)) (gt l (k : Int))]).take k = depths (l.take k) := by rw [List.take_append_of_le_length (by omega), List.take_of_length_le (by omega)]
  have h6 : ((depths l).take (k + 1)).take k = (depths l).take k := by rw [List.take_take]; congr 1; omega
  rw [← h6, h2, h5]
theorem depth_at {t : Task} {l : List TNode} (hT : TreeOK t l) {k : Nat} (hk : k < l.length) : gt (depths l) (k : Int) = nodeD (depths l) (gt l (k : Int)) := by
 have h1 := depths_pre (l := l) (k := k + 1) (by omega)
 rw [depths_take hk] at h1
 have hlen : (depths (l.take k)).length = k := by rw [depths_len, List.length_take]; omega
 have hd := depths_len l
 have e : gt (depths l) (k : Int) = nodeD (depths (l.take k)) (gt l (k : Int)) := by
  have hin : inb (depths l) (k : Int) := ⟨by omega, by omega⟩
  have h2 : gt (depths l) (k : Int) = gt ((depths l).take (k + 1)) (k : Int) := by
   rw [gt_of hin, gt_of ⟨by omega, by rw [List.length_take]; omega⟩]
   simp
  rw [h2, ← h1, gt_of ⟨by omega, by rw [List.length_append]; simp; omega⟩]
  simp [hlen]
 rw [e]
 have hpre : ∀ x : Int, 0 ≤ x → x < k → gt (depths (l.take k)) x = gt (depths l) x := fun x h0 h1 => by
  rw [depths_pre (by omega), gt_of ⟨h0, by rw [List.length_take]; omega⟩, gt_of ⟨h0, by omega⟩]
  simp
 have hn := hT.node k (gt l (k : Int)) (by
  have := gt_get (xs := l) (i := (k : Int)) ⟨by omega, by omega⟩
  simpa using this)
 unfold nodeD
 rcases hn with q | ⟨q, _, q1, q2⟩ | ⟨q, q1, q2, q3, q4⟩
 ·rw [if_neg (by omega), if_neg (by omega), if_neg (by omega), if_neg (by omega)]
 ·rw [if_pos q, if_pos q, hpre _ q1 q2]
 ·have n2 : ¬ (gt l (k : Int)).kind = 2 := by omega
  rw [if_neg n2, if_pos q, if_neg n2, if_pos q, hpre _ q1 q2, hpre _ q3 q4]
theorem depth_rng {t : Task} {l : List TNode} (hT : TreeOK t l) : ∀ k : Nat, k < l.length → 0 ≤ gt (depths l) (k : Int) ∧ gt (depths l) (k : Int) ≤ k := fun k => by
 induction k using Nat.strongRecOn with
 | _ k ih =>
  intro hk
  rw [depth_at hT hk]
  have hn := hT.node k (gt l (k : Int)) (by
   have := gt_get (xs := l) (i := (k : Int)) ⟨by omega, by omega⟩
   simpa using this)
  have use : ∀ x : Int, 0 ≤ x → x < k → 0 ≤ gt (depths l) x ∧ gt (depths l) x ≤ x := fun x h0 h1 => by
   have := ih x.toNat (by omega) (by omega)
   rw [show ((x.toNat : Nat) : Int) = x by omega] at this
   exact this
  unfold nodeD
  rcases hn with q | ⟨q, _, q1, q2⟩ | ⟨q, q1, q2, q3, q4⟩
  ·rw [if_neg (by omega), if_neg (by omega)]; omega
  ·rw [if_pos q]; have := use _ q1 q2; omega
  ·rw [if_neg (by omega), if_pos q]; have := use _ q1 q2; have := use _ q3 q4; split <;> omega
theorem node_of {t : Task} {l : List TNode} (hT : TreeOK t l) {k : Nat} (hk : k < l.length) : (gt l (k : Int)).kind = 1 ∨ ((gt l (k : Int)).kind = 2 ∧ inb t.ops (gt l (k : Int)).op ∧ 0 ≤ (gt l (k : Int)).yes ∧ (gt l (k : Int)).yes < k) ∨ ((gt l (k : Int)).kind = 3 ∧ 0 ≤ (gt l (k : Int)).yes ∧ (gt l (k : Int)).yes < k ∧ 0 ≤ (gt l (k : Int)).no ∧ (gt l (k : Int)).no < k) := hT.node k _ (by
 have := gt_get (xs := l) (i := (k : Int)) ⟨by omega, by omega⟩
 simpa using this)
def DPre (l : List TNode) (d : List Int) (k : Nat) : Prop := d.length = l.length ∧ (∀ j : Nat, j < k → gt d (j : Int) = gt (depths l) (j : Int)) ∧ ∀ j : Nat, k ≤ j → j < l.length → gt d (j : Int) = 0
theorem gt_rep {m : Nat} {j : Nat} (h : j < m) : gt (List.replicate m (0 : Int)) (j : Int) = 0 := by
 rw [gt_of ⟨by omega, by simp; omega⟩]; simp
theorem DPre.start (l : List TNode) : DPre l (List.replicate l.length 0) 0 := ⟨by simp, fun j hj => by omega, fun j _ hj => gt_rep hj⟩
theorem DPre.set {l : List TNode} {d : List Int} {k : Nat} (h : DPre l d k) (hk : k < l.length) {v : Int} (hv : v = gt (depths l) (k : Int)) : DPre l (d.set k v) (k + 1) := by
 obtain ⟨h1, h2, h3⟩ := h
 have hin : inb d (k : Int) := ⟨by omega, by omega⟩
 have hs : ∀ j : Nat, gt (d.set k v) (j : Int) = if (j : Int) = k then v else gt d (j : Int) := fun j => by
  have := gt_setI (x := v) hin (j := (j : Int)) (by omega)
  simpa using this
 refine ⟨by simp [h1], fun j hj => ?_, fun j h1 h2 => ?_⟩
 ·rw [hs]
  split
  ·rename_i e; rw [hv, e]
  ·exact h2 j (by omega)
 ·rw [hs, if_neg (by omega)]; exact h3 j (by omega) h2
theorem DPre.same {l : List TNode} {d : List Int} {k : Nat} (h : DPre l d k) (hk : k < l.length) (hv : gt (depths l) (k : Int) = 0) : DPre l d (k + 1) :=
 ⟨h.1, fun j hj => by
  by_cases e : j = k
  ·subst e; rw [hv]; exact h.2.2 j (by omega) hk
  ·exact h.2.1 j (by omega), fun j h1 h2 => h.2.2 j (by omega) h2⟩
theorem ok_deep : ∀ (tree : List TNode), pre_deep tree → F_deep tree (fun r => r = sp_deep tree) := fun l ⟨t, hT⟩ => by
 have hl := hT.len
 have hp := hT.pos
 refine ⟨⟨by omega, by simp; omega, by simp [maxLen]; omega⟩, fun i d => ∃ k : Nat, i = k ∧ k ≤ l.length ∧ DPre l d k, fun i _ => (l.length - i).toNat, ⟨0, rfl, by omega, by simpa using DPre.start l⟩, ?_⟩
 rintro _ d ⟨k, rfl, k1, k2⟩
 unfold F_deep_L1 F_deep_J1
 simp only [forall_eq, decide_eq_true_eq, decide_eq_false_iff_not, beq_iff_eq, beq_eq_false_iff_ne, ne_eq]
 refine ⟨fun h => ?_, fun h => ?_⟩
 ·have hk : k < l.length := by omega
  rw [w64 (n := (k : Int) + 1) (by omega)]
  have hd := k2.1
  have hat := depth_at hT hk
  have hrng := depth_rng hT
  have use : ∀ x : Int, 0 ≤ x → x < k → gt d x = gt (depths l) x ∧ 0 ≤ gt (depths l) x ∧ gt (depths l) x ≤ 60 := fun x h0 h1 => by
   have e1 := k2.2.1 x.toNat (by omega)
   have e2 := hrng x.toNat (by omega)
   rw [show ((x.toNat : Nat) : Int) = x by omega] at e1 e2
   exact ⟨e1, e2.1, by omega⟩
  refine ⟨⟨by omega, h⟩, fun q => ?_, fun q => ⟨fun q2 => ?_, fun q2 => ?_⟩⟩
  ·rcases node_of hT hk with a | ⟨_, _, a1, a2⟩ | ⟨a, _⟩
   ·omega
   ·obtain ⟨u1, u2, u3⟩ := use _ a1 a2
    refine ⟨⟨a1, by omega⟩, ⟨by omega, by omega⟩, ⟨k + 1, by omega, by omega, ?_⟩, by omega⟩
    rw [show ((k : Int)).toNat = k by omega]
    refine k2.set hk ?_
    rw [w64 (by omega), hat, u1]
    unfold nodeD; rw [if_pos q]
   ·omega
  ·rcases node_of hT hk with a | ⟨a, _⟩ | ⟨_, a1, a2, a3, a4⟩
   ·omega
   ·omega
   ·obtain ⟨u1, u2, u3⟩ := use _ a1 a2
    obtain ⟨v1, v2, v3⟩ := use _ a3 a4
    refine ⟨⟨a1, by omega⟩, ⟨a3, by omega⟩, ⟨by omega, by omega⟩, ⟨k + 1, by omega, by omega, ?_⟩, by omega⟩
    rw [show ((k : Int)).toNat = k by omega]
    refine k2.set hk ?_
    have hb : 0 ≤ (if gt (depths l) (gt l (k : Int)).yes < gt (depths l) (gt l (k : Int)).no then gt (depths l) (gt l (k : Int)).no else gt (depths l) (gt l (k : Int)).yes) ∧ (if gt (depths l) (gt l (k : Int)).yes < gt (depths l) (gt l (k : Int)).no then gt (depths l) (gt l (k : Int)).no else gt (depths l) (gt l (k : Int)).yes) ≤ 60 := by split <;> omega
    rw [hat, u1, v1]
    unfold nodeD
    rw [if_neg q, if_pos q2]
    exact w64 (by omega)
  ·refine ⟨⟨k + 1, by omega, by omega, k2.same hk ?_⟩, by omega⟩
   rw [hat]; unfold nodeD; rw [if_neg q, if_neg q2]
 ·have e : k = l.length := by omega
  subst e
  have hd := k2.1
  rw [show (((l.length : Nat) : Int)).toNat = l.length by omega, w64 (n := (l.length : Int) - 1) (by omega)]
  refine ⟨⟨by omega, by omega⟩, ?_⟩
  have := k2.2.1 (l.length - 1) (by omega)
  rw [show (((l.length - 1 : Nat)) : Int) = (l.length : Int) - 1 by omega] at this
  exact this
theorem tree_pre {t : Task} {sN : List Int} {tree : List TNode} (h : sp_cvalidate t sN tree = ⟨0, 0⟩) : pre_deep tree := ⟨t, (cv_ok h).2.2.1⟩
theorem ok_depth : ∀ (t : Task) (sN : List Int) (tree : List TNode), F_depth t sN tree (fun r => r = sp_depth t sN tree) := fun t sN tree => by
 unfold F_depth
 simp only [forall_eq, beq_zero, Bool.not_eq_true', Bool.not_eq_false', decide_eq_true_eq, decide_eq_false_iff_not]
 unfold sp_depth
 exact ⟨fun h => by rw [if_neg h], fun h => ⟨tree_pre h, by rw [if_pos h]⟩⟩
end Go.Proofs.YtojoehfldbimpaaGreatDoor.Pl

namespace Go.Proofs.YtojoehfldbimpaaGreatDoor.Pl
open Go Go.RowKit
theorem DPre.all {l : List TNode} {d : List Int} (h : DPre l d l.length) : d = depths l := by
 refine List.ext_getElem (by rw [h.1, depths_len]) fun j h1 h2 => ?_
 have h3 : j < l.length := by rw [← h.1]; exact h1
 have := h.2.1 j h3
 rw [gt_of ⟨by omega, by omega⟩, gt_of ⟨by omega, by omega⟩] at this
 simpa using this
end Go.Proofs.YtojoehfldbimpaaGreatDoor.Pl

namespace Go.Proofs.YtojoehfldbimpaaGreatDoor.Pl
open Go Go.RowKit
end Go.Proofs.YtojoehfldbimpaaGreatDoor.Pl

namespace Go.Proofs.YtojoehfldbimpaaGreatDoor.Pl
open Go Go.RowKit
theorem within_sure {t : Task} {sN : List Int} {ws : Bel} (h : sp_sure ws t.goal = true) : ∀ d : Nat, within t sN d ws = true
 | 0 => h
 | d + 1 => by unfold within; rw [h]; rfl
theorem within_succ {t : Task} {sN : List Int} {ws : Bel} (h : sp_sure ws t.goal = false) (d : Nat) : within t sN (d + 1) ws = (((bsucc t ws).any fun x => within t sN d x.2) || sN.any fun f => obsOk ws f && (within t sN d (sp_observed ws f).1 && within t sN d (sp_observed ws f).2)) := by
 conv => lhs; unfold within
 rw [h, Bool.false_or]
theorem ops_hit {t : Task} {sN : List Int} {ws : Bel} {d : Nat} {o : Int} (ho : inb t.ops o) (hs : sp_sure ws (gt t.ops o).pre = true) (hw : within t sN d (sp_bafter t ws o) = true) : ((bsucc t ws).any fun x => within t sN d x.2) = true := by
 rw [List.any_eq_true]
 exact ⟨(o, sp_bafter t ws o), mem_bsucc.2 ⟨ho, hs, rfl⟩, hw⟩
theorem ops_none {t : Task} {sN : List Int} {ws : Bel} {d : Nat} (h : ∀ j : Nat, j < t.ops.length → sp_sure ws (gt t.ops (j : Int)).pre = true → within t sN d (sp_bafter t ws j) = false) : ((bsucc t ws).any fun x => within t sN d x.2) = false := by
 rw [List.any_eq_false]
 intro x hx
 obtain ⟨h1, h2, h3⟩ := mem_bsucc.1 hx
 have e : ((x.1.toNat : Nat) : Int) = x.1 := by have := h1.1; omega
 have := h x.1.toNat (inb_lt h1) (by rw [e]; exact h2)
 rw [e, ← h3] at this
 rw [this]; decide
theorem obs_len {ws : Bel} {f : Int} : obsOk ws f = (decide (0 < (((sp_observed ws f).1.length : Nat) : Int)) && decide (0 < (((sp_observed ws f).2.length : Nat) : Int))) := by
 unfold obsOk
 cases h1 : (sp_observed ws f).1 <;> cases h2 : (sp_observed ws f).2 <;> simp
 all_goals omega
theorem sens_hit {t : Task} {sN : List Int} {ws : Bel} {d : Nat} {f : Int} (hf : f ∈ sN) (ho : obsOk ws f = true) (h1 : within t sN d (sp_observed ws f).1 = true) (h2 : within t sN d (sp_observed ws f).2 = true) : (sN.any fun f => obsOk ws f && (within t sN d (sp_observed ws f).1 && within t sN d (sp_observed ws f).2)) = true := by
 rw [List.any_eq_true]
 exact ⟨f, hf, by rw [ho, h1, h2]; rfl⟩
theorem sens_none {t : Task} {sN : List Int} {ws : Bel} {d : Nat} (h : ∀ j : Nat, j < sN.length → (obsOk ws (gt sN (j : Int)) && (within t sN d (sp_observed ws (gt sN (j : Int))).1 && within t sN d (sp_observed ws (gt sN (j : Int))).2)) = false) : (sN.any fun f => obsOk ws f && (within t sN d (sp_observed ws f).1 && within t sN d (sp_observed ws f).2)) = false := by
 rw [List.any_eq_false]
 intro f hf
 obtain ⟨j, hj, rfl⟩ := mem_gt hf
 rw [h j hj]; decide
theorem obs_pre {t : Task} (hv : sp_validate t = ⟨0, 0⟩) {ws : Bel} (hw : WsOK t ws) (f : Int) : pre_observed ws f := ⟨by have := hw.1; omega, fun s hs => by have := set_len24 hv (hw.2 s hs); omega⟩
theorem within_pre {t : Task} {sN : List Int} {ws : Bel} {d : Nat} (h : pre_within t sN ws ((d : Int) + 1)) {x : Bel} (hx : WsOK t x) : pre_within t sN x d := ⟨h.1, hx, h.2.2.1, by omega, by have := h.2.2.2.2; omega⟩
theorem nat_pred (d : Nat) (h : (d : Int) ≤ 6) : IntKind.i64.wrap ((d : Int) + 1 - 1) = d := by rw [w64 (by omega)]; omega
theorem ok_within : ∀ (t : Task) (sN : List Int) (l : List (List Int)) (depth : Int), pre_within t sN l depth → F_within t sN l depth (fun r => r = sp_within t sN l depth) := fun t sN l depth hp => by
 obtain ⟨hv, hw, hse, d0, d6⟩ := hp
 unfold F_within
 simp only [forall_eq, beq_iff_eq, beq_eq_false_iff_ne, ne_eq]
 refine ⟨allHold_pre hv hw (TaskOK.rng hv).2.2.2, fun h => ?_, fun h => ⟨fun e => ?_, fun e => ?_⟩⟩
 ·rw [← sure_allHold] at h
  exact (within_sure h _).symm
 ·rw [e, ← h, ← sure_allHold]; rfl
 ·obtain ⟨d, rfl⟩ : ∃ d : Nat, depth = (d : Int) + 1 := ⟨(depth - 1).toNat, by omega⟩
  have hsure : sp_sure l t.goal = false := by rw [sure_allHold]; exact h
  have hops := (taskOK_of hv).len
  have hsl := set_len24 hv hse
  have hd : (d : Int) ≤ 6 := by omega
  have hp' : pre_within t sN l ((d : Int) + 1) := ⟨hv, hw, hse, d0, d6⟩
  have eW : sp_within t sN l ((d : Int) + 1) = within t sN (d + 1) l := by unfold sp_within; rw [show ((d : Int) + 1).toNat = d + 1 by omega]
  have eD : ∀ x : Bel, sp_within t sN x d = within t sN d x := fun x => by unfold sp_within; rw [show ((d : Int)).toNat = d by omega]
  rw [eW, within_succ hsure]
  refine ⟨fun op => ∃ k : Nat, op = k ∧ k ≤ t.ops.length ∧ ∀ j : Nat, j < k → sp_sure l (gt t.ops (j : Int)).pre = true → within t sN d (sp_bafter t l j) = false, fun op => (t.ops.length - op).toNat, ⟨0, rfl, by omega, fun j hj => by omega⟩, ?_⟩
  rintro _ ⟨k, rfl, k1, k2⟩
  unfold F_within_L1 F_within_J1
  simp only [forall_eq, decide_eq_true_eq, decide_eq_false_iff_not, nat_pred d hd, eD]
  refine ⟨fun g => ?_, fun g => ?_⟩
  ·have hk : k < t.ops.length := by omega
   have hin : inb t.ops (k : Int) := ⟨by omega, g⟩
   rw [w64 (n := (k : Int) + 1) (by omega)]
   refine ⟨hin, allHold_pre hv hw ((taskOK_of hv).op hin).1, fun q => ⟨⟨hv, hin, hw⟩, within_pre hp' (bafter_ok hv hw _), by unfold mu_within; omega, fun q2 => ?_, fun q2 => ⟨⟨k + 1, by omega, by omega, fun j hj hs => ?_⟩, by omega⟩⟩, fun q => ⟨fun z => by simp at z, fun _ => ⟨⟨k + 1, by omega, by omega, fun j hj hs => ?_⟩, by omega⟩⟩⟩
   ·rw [ops_hit hin (by rw [sure_allHold]; exact q) q2]; rfl
   ·rcases Nat.lt_succ_iff_lt_or_eq.1 hj with q' | rfl
    ·exact k2 j q' hs
    ·exact q2
   ·rcases Nat.lt_succ_iff_lt_or_eq.1 hj with q' | rfl
    ·exact k2 j q' hs
    ·rw [sure_allHold, q] at hs; cases hs
  ·rw [ops_none fun j hj hs => k2 j (by omega) hs, Bool.false_or]
   refine ⟨fun i => ∃ k : Nat, i = k ∧ k ≤ sN.length ∧ ∀ j : Nat, j < k → (obsOk l (gt sN (j : Int)) && (within t sN d (sp_observed l (gt sN (j : Int))).1 && within t sN d (sp_observed l (gt sN (j : Int))).2)) = false, fun i => (sN.length - i).toNat, ⟨0, rfl, by omega, fun j hj => by omega⟩, ?_⟩
   rintro _ ⟨m, rfl, m1, m2⟩
   unfold F_within_L2 F_within_J2
   simp only [forall_eq, decide_eq_true_eq, decide_eq_false_iff_not, nat_pred d hd, eD]
   refine ⟨fun g => ?_, fun g => by rw [sens_none fun j hj => m2 j (by omega)]⟩
   have hm : m < sN.length := by omega
   have next : (obsOk l (gt sN (m : Int)) && (within t sN d (sp_observed l (gt sN (m : Int))).1 && within t sN d (sp_observed l (gt sN (m : Int))).2)) = false → (∃ k : Nat, IntKind.i64.wrap ((m : Int) + 1) = k ∧ k ≤ sN.length ∧ ∀ j : Nat, j < k → (obsOk l (gt sN (j : Int)) && (within t sN d (sp_observed l (gt sN (j : Int))).1 && within t sN d (sp_observed l (gt sN (j : Int))).2)) = false) ∧ ((sN.length : Int) - IntKind.i64.wrap ((m : Int) + 1)).toNat < ((sN.length : Int) - m).toNat := fun q => by
    rw [w64 (by omega)]
    refine ⟨⟨m + 1, by omega, by omega, fun j hj => ?_⟩, by omega⟩
    rcases Nat.lt_succ_iff_lt_or_eq.1 hj with q' | rfl
    ·exact m2 j q'
    ·exact q
   have ho := obs_len (ws := l) (f := gt sN (m : Int))
   have hok := observed_ok hw (gt sN (m : Int))
   refine ⟨⟨by omega, g⟩, obs_pre hv hw _, fun a => ⟨fun b => ⟨within_pre hp' hok.1, by unfold mu_within; omega, fun c => ⟨within_pre hp' hok.2, by unfold mu_within; omega, fun e => ?_, fun e => next ?_⟩, fun c => ⟨fun q => by simp at q, fun _ => next ?_⟩⟩, fun b => ⟨fun q => by simp at q, fun _ => next ?_⟩⟩, fun a => ⟨fun q => by simp at q, fun _ => next ?_⟩⟩
   ·rw [sens_hit (gt_memN hm) (by rw [ho, decide_eq_true a, decide_eq_true b]; rfl) c e]
   ·rw [e]; simp
   ·rw [c]; simp
   ·rw [ho, decide_eq_false b]; simp
   ·rw [ho, decide_eq_false a]; simp
end Go.Proofs.YtojoehfldbimpaaGreatDoor.Pl

namespace Go.Proofs.YtojoehfldbimpaaGreatDoor.Pl
open Go Go.RowKit
theorem key_split {d e : Int} {a b : Bel} (h : (Lib.itoa d ++ [58]) ++ keyL a = (Lib.itoa e ++ [58]) ++ keyL b) : d = e ∧ a = b := by
 rw [List.append_assoc, List.append_assoc] at h
 obtain ⟨h1, h2⟩ := split_at (itoa_ne d (.inr (by decide))) (itoa_ne e (.inr (by decide))) h
 exact ⟨itoa_inj h1, keyL_inj h2⟩
theorem srInv_start (k : Srch) : srInv k (fun _ => 0) := fun _ _ _ _ h => absurd h (Int.lt_irrefl 0)
theorem srInv_upd {k : Srch} {m : List UInt8 → Int} (h : srInv k m) {d : Int} {ws : Bel} (hw : within k.t k.sN d.toNat ws = false) : srInv k (upd m ((Lib.itoa d ++ [58]) ++ keyL ws) 1) := fun d' ws' h0 hk hm => by
 by_cases e : (Lib.itoa d' ++ [58]) ++ keyL ws' = (Lib.itoa d ++ [58]) ++ keyL ws
 ·obtain ⟨rfl, rfl⟩ := key_split e
  exact hw
 ·rw [upd_ne e] at hm
  exact h d' ws' h0 hk hm
theorem itoa_len {d : Int} (h : 0 ≤ d ∧ d ≤ 100) : (Lib.itoa d).length ≤ 21 := Lib.itoa_length_le d (by omega) (by omega)
theorem key_len {t : Task} (hv : sp_validate t = ⟨0, 0⟩) {ws : Bel} (hw : WsOK t ws) : (keyL ws).length ≤ 22001 * 16 := by
 have h1 := keyL_len (key_ok hv hw).2
 have h2 := hw.1
 omega
theorem ok_scan : ∀ (k : Srch) (worlds : List (List Int)) (depth : Int), pre_scan k worlds depth → F_scan k worlds depth (fun r => r = sp_scan k worlds depth) := fun kk l depth hp m hm => by
 obtain ⟨t, sN⟩ := kk
 obtain ⟨hv, hw, hse, d0, d6⟩ := hp
 simp only at hv hw hse
 have hgoal : pre_sure l t.goal := pre_sure_of hv hw (TaskOK.rng hv).2.2.2
 have hkey := key_ok hv hw
 have hil := itoa_len (d := depth) ⟨d0, by omega⟩
 have hkl := key_len hv hw
 simp only [forall_eq, beq_iff_eq, beq_eq_false_iff_ne, ne_eq, sp_itoa, sp_key, decide_eq_true_eq, decide_eq_false_iff_not]
 refine ⟨hgoal, fun h => (within_sure h _).symm, fun h => ⟨fun e => ?_, fun e => ⟨⟨by omega, by omega⟩, ?_, hkey, ?_, fun g => ?_, fun _ => ?_⟩⟩⟩
 ·rw [e, ← h]; rfl
 ·simp; omega
 ·simp; omega
 ·exact (hm depth l d0 hw g).symm
 ·obtain ⟨d, rfl⟩ : ∃ d : Nat, depth = (d : Int) + 1 := ⟨(depth - 1).toNat, by omega⟩
  have hops := (taskOK_of hv).len
  have hsl := set_len24 hv hse
  have hd : (d : Int) ≤ 6 := by omega
  have hp' : pre_within t sN l ((d : Int) + 1) := ⟨hv, hw, hse, d0, d6⟩
  have eW : sp_scan ⟨t, sN⟩ l ((d : Int) + 1) = within t sN (d + 1) l := by unfold sp_scan; rw [show ((d : Int) + 1).toNat = d + 1 by omega]
  have eD : ∀ x : Bel, sp_scan ⟨t, sN⟩ x d = within t sN d x := fun x => by unfold sp_scan; rw [show ((d : Int)).toNat = d by omega]
  have ws := within_succ (sN := sN) h d
  intro _ _
  refine ⟨fun op mm => ∃ k : Nat, op = k ∧ k ≤ t.ops.length ∧ srInv ⟨t, sN⟩ mm ∧ ∀ j : Nat, j < k → sp_sure l (gt t.ops (j : Int)).pre = true → within t sN d (sp_bafter t l j) = false, fun op _ => (t.ops.length - op).toNat, ⟨0, rfl, by omega, hm, fun j hj => by omega⟩, ?_⟩
  rintro _ mm ⟨k, rfl, k1, k3, k2⟩
  unfold F_scan_L1 F_scan_J1
  simp only [forall_eq, decide_eq_true_eq, decide_eq_false_iff_not, nat_pred d hd, eD, eW]
  refine ⟨fun g => ?_, fun g => ?_⟩
  ·have hk : k < t.ops.length := by omega
   have hin : inb t.ops (k : Int) := ⟨by omega, g⟩
   rw [w64 (n := (k : Int) + 1) (by omega)]
   refine ⟨hin, pre_sure_of hv hw ((taskOK_of hv).op hin).1, fun q => ⟨⟨hv, hin, hw⟩, k3, within_pre hp' (bafter_ok hv hw _), by unfold mu_scan; omega, fun m5 hm5 => ⟨fun q2 => ?_, fun q2 => ⟨⟨k + 1, by omega, by omega, hm5, fun j hj hs => ?_⟩, by omega⟩⟩⟩, fun q => ⟨⟨k + 1, by omega, by omega, k3, fun j hj hs => ?_⟩, by omega⟩⟩
   ·rw [ws, ops_hit hin q q2]; rfl
   ·rcases Nat.lt_succ_iff_lt_or_eq.1 hj with q' | rfl
    ·exact k2 j q' hs
    ·exact q2
   ·rcases Nat.lt_succ_iff_lt_or_eq.1 hj with q' | rfl
    ·exact k2 j q' hs
    ·rw [q] at hs; cases hs
  ·rw [ops_none fun j hj hs => k2 j (by omega) hs, Bool.false_or] at ws
   refine ⟨fun i mm => ∃ k : Nat, i = k ∧ k ≤ sN.length ∧ srInv ⟨t, sN⟩ mm ∧ ∀ j : Nat, j < k → (obsOk l (gt sN (j : Int)) && (within t sN d (sp_observed l (gt sN (j : Int))).1 && within t sN d (sp_observed l (gt sN (j : Int))).2)) = false, fun i _ => (sN.length - i).toNat, ⟨0, rfl, by omega, k3, fun j hj => by omega⟩, ?_⟩
   rintro _ mm2 ⟨i, rfl, m1, m3, m2⟩
   unfold F_scan_L2 F_scan_J2
   simp only [forall_eq, decide_eq_true_eq, decide_eq_false_iff_not, nat_pred d hd, eD, sp_split]
   refine ⟨fun g => ?_, fun g => ?_⟩
   ·have hi : i < sN.length := by omega
    have next : ∀ m9, srInv ⟨t, sN⟩ m9 → (obsOk l (gt sN (i : Int)) && (within t sN d (sp_observed l (gt sN (i : Int))).1 && within t sN d (sp_observed l (gt sN (i : Int))).2)) = false → (∃ k : Nat, IntKind.i64.wrap ((i : Int) + 1) = k ∧ k ≤ sN.length ∧ srInv ⟨t, sN⟩ m9 ∧ ∀ j : Nat, j < k → (obsOk l (gt sN (j : Int)) && (within t sN d (sp_observed l (gt sN (j : Int))).1 && within t sN d (sp_observed l (gt sN (j : Int))).2)) = false) ∧ ((sN.length : Int) - IntKind.i64.wrap ((i : Int) + 1)).toNat < ((sN.length : Int) - i).toNat := fun m9 h9 q => by
     rw [w64 (by omega)]
     refine ⟨⟨i + 1, by omega, by omega, h9, fun j hj => ?_⟩, by omega⟩
     rcases Nat.lt_succ_iff_lt_or_eq.1 hj with q' | rfl
     ·exact m2 j q'
     ·exact q
    have ho := obs_len (ws := l) (f := gt sN (i : Int))
    have hok := observed_ok hw (gt sN (i : Int))
    refine ⟨⟨by omega, g⟩, obs_pre hv hw _, fun a => ⟨fun b => ⟨m3, within_pre hp' hok.1, by unfold mu_scan; omega, fun m9 h9 => ⟨fun c => ⟨within_pre hp' hok.2, by unfold mu_scan; omega, fun m10 h10 => ⟨fun e => ⟨h10, ?_⟩, fun e => next m10 h10 ?_⟩⟩, fun c => ⟨fun q => by simp at q, fun _ => next m9 h9 ?_⟩⟩⟩, fun b => ⟨fun q => by simp at q, fun _ => next mm2 m3 ?_⟩⟩, fun a => ⟨fun q => by simp at q, fun _ => next mm2 m3 ?_⟩⟩
    ·rw [ws, sens_hit (gt_memN hi) (by rw [ho, decide_eq_true a, decide_eq_true b]; rfl) c e]
    ·rw [e]; simp
    ·rw [c]; simp
    ·rw [ho, decide_eq_false b]; simp
    ·rw [ho, decide_eq_false a]; simp
   ·have hf := sens_none (ws := l) (d := d) (t := t) fun j hj => m2 j (by omega)
    rw [hf] at ws
    refine ⟨srInv_upd m3 ?_, ws.symm⟩
    rw [show ((d : Int) + 1).toNat = d + 1 by omega]
    exact ws
theorem leastW_some {t : Task} {sN : List Int} {ws : Bel} {n d : Nat} : leastW t sN ws n = some d ↔ within t sN d ws = true ∧ d ≤ n ∧ ∀ j : Nat, j < d → within t sN j ws = false := by
 unfold leastW
 rw [List.find?_range_eq_some]
 simp only [List.mem_range, Bool.not_eq_true']
 constructor
 ·rintro ⟨a, b, c⟩; exact ⟨a, by omega, fun j hj => by simpa using c j hj⟩
 ·rintro ⟨a, b, c⟩; exact ⟨a, by omega, fun j hj => by simpa using c j hj⟩
theorem leastW_none {t : Task} {sN : List Int} {ws : Bel} {n : Nat} : leastW t sN ws n = none ↔ ∀ j : Nat, j ≤ n → within t sN j ws = false := by
 unfold leastW
 rw [List.find?_eq_none]
 simp only [List.mem_range, Bool.not_eq_true]
 exact ⟨fun h j hj => h j (by omega), fun h j hj => h j (by omega)⟩
theorem ok_sleast : ∀ (k : Srch) (worlds : List (List Int)) (most : Int), pre_sleast k worlds most → F_sleast k worlds most (fun r => r = sp_sleast k worlds most) := fun k l most hp m hm => by
 obtain ⟨hv, hw, hse, d0, d6⟩ := hp
 refine ⟨fun i mm => ∃ n : Nat, i = n ∧ (n : Int) ≤ most + 1 ∧ srInv k mm ∧ ∀ j : Nat, j < n → within k.t k.sN j l = false, fun i _ => (most + 1 - i).toNat, ⟨0, rfl, by omega, hm, fun j hj => by omega⟩, ?_⟩
 rintro _ mm ⟨n, rfl, n1, n3, n2⟩
 unfold F_sleast_L1
 simp only [forall_eq, decide_eq_true_eq, decide_eq_false_iff_not]
 rw [w64 (n := most + 1) (by omega), w64 (n := (n : Int) + 1) (by omega)]
 have e : sp_scan k l n = within k.t k.sN n l := by unfold sp_scan; rw [show ((n : Int)).toNat = n by omega]
 rw [e]
 refine ⟨fun g => ⟨n3, ⟨hv, hw, hse, by omega, by omega⟩, fun m4 h4 => ⟨fun q => ?_, fun q => ⟨⟨n + 1, by omega, by omega, h4, fun j hj => ?_⟩, by omega⟩⟩⟩, fun g => ⟨n3, ?_⟩⟩
 ·unfold sp_sleast
  rw [leastW_some.2 ⟨q, by omega, n2⟩]
 ·rcases Nat.lt_succ_iff_lt_or_eq.1 hj with q' | rfl
  ·exact n2 j q'
  ·exact q
 ·unfold sp_sleast
  rw [leastW_none.2 fun j hj => n2 j (by omega)]
theorem ok_sput : ∀ (k : Srch) (tr : List TNode) (n_ : TNode), pre_sput k tr n_ → F_sput k tr n_ (fun r => r = sp_sput k tr n_) := fun k tr n hp m _ => by
 unfold pre_sput at hp
 simp only [forall_eq]
 refine ⟨⟨by simp [maxLen]; omega, by simp; omega⟩, ?_⟩
 unfold sp_sput
 rw [List.length_append, w64 (by simp; omega)]
 simp
end Go.Proofs.YtojoehfldbimpaaGreatDoor.Pl

namespace Go.Proofs.YtojoehfldbimpaaGreatDoor.Pl
open Go Go.RowKit
theorem within_step {t : Task} {sN : List Int} : ∀ (d : Nat) {ws : Bel}, within t sN d ws = true → within t sN (d + 1) ws = true
 | 0, ws, h => within_sure h 1
 | d + 1, ws, h => by
  by_cases hs : sp_sure ws t.goal = true
  ·exact within_sure hs _
  ·have hs' : sp_sure ws t.goal = false := by simpa using hs
   rw [within_succ hs', Bool.or_eq_true] at h
   rw [within_succ hs', Bool.or_eq_true]
   rcases h with h | h
   ·rw [List.any_eq_true] at h
    obtain ⟨x, hx, hw⟩ := h
    exact .inl (List.any_eq_true.2 ⟨x, hx, within_step d hw⟩)
   ·rw [List.any_eq_true] at h
    obtain ⟨f, hf, hw⟩ := h
    simp only [Bool.and_eq_true] at hw
    refine .inr (List.any_eq_true.2 ⟨f, hf, ?_⟩)
    simp only [Bool.and_eq_true]
    exact ⟨hw.1, within_step d hw.2.1, within_step d hw.2.2⟩
theorem within_mono {t : Task} {sN : List Int} {d e : Nat} (hde : d ≤ e) {ws : Bel} (h : within t sN d ws = true) : within t sN e ws = true := by
 induction e with
 | zero => rw [show d = 0 by omega] at h; exact h
 | succ e ih =>
  by_cases q : d = e + 1
  ·rw [← q]; exact h
  ·exact within_step e (ih (by omega))
theorem treeT_least {t : Task} {sN : List Int} {d e : Nat} (hde : d ≤ e) {ws : Bel} (h : within t sN d ws = true) (out : List TNode) : treeT t sN e ws out = treeT t sN d ws out := by
 induction e with
 | zero => rw [show d = 0 by omega]
 | succ e ih =>
  by_cases q : d = e + 1
  ·rw [q]
  ·rw [← ih (by omega)]
   conv => lhs; unfold treeT
   rw [if_pos (within_mono (by omega) h)]
theorem treeT_len {t : Task} {sN : List Int} : ∀ (d : Nat) (ws : Bel) (out : List TNode), (treeT t sN d ws out).length + 1 ≤ out.length + 2 ^ (d + 1)
 | 0, ws, out => by simp [treeT]
 | d + 1, ws, out => by
  have hp : 2 ^ (d + 1 + 1) = 2 ^ (d + 1) + 2 ^ (d + 1) := by omega
  have h1 : 1 ≤ 2 ^ (d + 1) := Nat.one_le_two_pow
  unfold treeT
  split
  ·have := treeT_len (t := t) (sN := sN) d ws out; omega
  ·split
   ·rename_i x _
    have := treeT_len (t := t) (sN := sN) d x.2 out
    rw [List.length_append]; simp only [List.length_singleton]; omega
   ·split
    ·rename_i f _
     have a := treeT_len (t := t) (sN := sN) d (sp_observed ws f).1 out
     have b := treeT_len (t := t) (sN := sN) d (sp_observed ws f).2 (treeT t sN d (sp_observed ws f).1 out)
     rw [List.length_append]; simp only [List.length_singleton]; omega
    ·omega
theorem find_ops {t : Task} {sN : List Int} {ws : Bel} {d j : Nat} (hj : j < t.ops.length) (hs : sp_sure ws (gt t.ops (j : Int)).pre = true) (hw : within t sN d (sp_bafter t ws j) = true) (hn : ∀ i : Nat, i < j → sp_sure ws (gt t.ops (i : Int)).pre = true → within t sN d (sp_bafter t ws i) = false) :
  ((bsucc t ws).find? fun x => within t sN d x.2) = some ((j : Int), sp_bafter t ws j) := by
 have hm : ((j : Int), sp_bafter t ws j) ∈ bsucc t ws := mem_bsucc.2 ⟨⟨by omega, by omega⟩, hs, rfl⟩
 obtain ⟨ys, bs, e⟩ := List.append_of_mem hm
 rw [List.find?_eq_some_iff_append]
 refine ⟨hw, ys, bs, e, fun a ha => ?_⟩
 have hso := bsucc_sorted t ws
 have ham : a ∈ bsucc t ws := by rw [e]; exact List.mem_append_left _ ha
 rw [e, List.map_append, List.pairwise_append] at hso
 have hlt := hso.2.2 a.1 (List.mem_map_of_mem ha) (j : Int) (by simp)
 obtain ⟨h1, h2, h3⟩ := mem_bsucc.1 ham
 have e1 : ((a.1.toNat : Nat) : Int) = a.1 := by have := h1.1; omega
 have := hn a.1.toNat (by have := h1.1; omega) (by rw [e1]; exact h2)
 rw [e1, ← h3] at this
 rw [this]; rfl
theorem find_ops_none {t : Task} {sN : List Int} {ws : Bel} {d : Nat} (h : ∀ j : Nat, j < t.ops.length → sp_sure ws (gt t.ops (j : Int)).pre = true → within t sN d (sp_bafter t ws j) = false) : ((bsucc t ws).find? fun x => within t sN d x.2) = none := by
 rw [List.find?_eq_none]
 have := List.any_eq_false.1 (ops_none h)
 exact this
theorem find_sens {t : Task} {sN : List Int} {ws : Bel} {d j : Nat} (hj : j < sN.length) (hw : (obsOk ws (gt sN (j : Int)) && (within t sN d (sp_observed ws (gt sN (j : Int))).1 && within t sN d (sp_observed ws (gt sN (j : Int))).2)) = true) (hn : ∀ i : Nat, i < j → (obsOk ws (gt sN (i : Int)) && (within t sN d (sp_observed ws (gt sN (i : Int))).1 && within t sN d (sp_observed ws (gt sN (i : Int))).2)) = false) :
  (sN.find? fun f => obsOk ws f && (within t sN d (sp_observed ws f).1 && within t sN d (sp_observed ws f).2)) = some (gt sN (j : Int)) := by
 rw [List.find?_eq_some_iff_append]
 have e : sN = sN.take j ++ gt sN (j : Int) :: sN.drop (j + 1) := by
  have h1 := takeN_gt hj
  have h2 := List.take_append_drop (j + 1) sN
  rw [h1, List.append_assoc] at h2
  exact h2.symm
 refine ⟨hw, _, _, e, fun a ha => ?_⟩
 obtain ⟨i, hi, rfl⟩ := mem_gt ha
 rw [List.length_take] at hi
 have e2 : gt (sN.take j) (i : Int) = gt sN (i : Int) := by
  rw [gt_of ⟨by omega, by rw [List.length_take]; omega⟩, gt_of ⟨by omega, by omega⟩]; simp
 rw [e2, hn i (by omega)]; rfl
theorem treeT_op {t : Task} {sN : List Int} {ws : Bel} {d j : Nat} (h0 : within t sN d ws = false) (hj : j < t.ops.length) (hs : sp_sure ws (gt t.ops (j : Int)).pre = true) (hw : within t sN d (sp_bafter t ws j) = true) (hn : ∀ i : Nat, i < j → sp_sure ws (gt t.ops (i : Int)).pre = true → within t sN d (sp_bafter t ws i) = false) (out : List TNode) :
  treeT t sN (d + 1) ws out = treeT t sN d (sp_bafter t ws j) out ++ [⟨2, j, 0, ((treeT t sN d (sp_bafter t ws j) out).length : Int) - 1, 0⟩] := by
 conv => lhs; unfold treeT
 rw [if_neg (by rw [h0]; decide), find_ops hj hs hw hn]
theorem treeT_obs {t : Task} {sN : List Int} {ws : Bel} {d j : Nat} (h0 : within t sN d ws = false) (ho : ∀ j : Nat, j < t.ops.length → sp_sure ws (gt t.ops (j : Int)).pre = true → within t sN d (sp_bafter t ws j) = false) (hj : j < sN.length)
  (hw : (obsOk ws (gt sN (j : Int)) && (within t sN d (sp_observed ws (gt sN (j : Int))).1 && within t sN d (sp_observed ws (gt sN (j : Int))).2)) = true) (hn : ∀ i : Nat, i < j → (obsOk ws (gt sN (i : Int)) && (within t sN d (sp_observed ws (gt sN (i : Int))).1 && within t sN d (sp_observed ws (gt sN (i : Int))).2)) = false) (out : List TNode) :
  treeT t sN (d + 1) ws out = treeT t sN d (sp_observed ws (gt sN (j : Int))).2 (treeT t sN d (sp_observed ws (gt sN (j : Int))).1 out) ++ [⟨3, 0, gt sN (j : Int), ((treeT t sN d (sp_observed ws (gt sN (j : Int))).1 out).length : Int) - 1, ((treeT t sN d (sp_observed ws (gt sN (j : Int))).2 (treeT t sN d (sp_observed ws (gt sN (j : Int))).1 out)).length : Int) - 1⟩] := by
 conv => lhs; unfold treeT
 rw [if_neg (by rw [h0]; decide), find_ops_none ho, find_sens hj hw hn]
theorem pow_mono {a b : Nat} (h : a ≤ b) : 2 ^ (a + 1) ≤ 2 ^ (b + 1) := Nat.pow_le_pow_right (by decide) (by omega)
theorem ok_tree : ∀ (t : Task) (sN : List Int) (l : List (List Int)) (most : Int) (out : List TNode), pre_tree t sN l most out → F_tree t sN l most out (fun r => r = sp_tree t sN l most out) := fun t sN l most out ⟨hp, hsz, hwm⟩ => by
 obtain ⟨hv, hw, hse, m0, m6⟩ := hp
 have hops := (taskOK_of hv).len
 have hsl := set_len24 hv hse
 refine ⟨fun i => ∃ n : Nat, i = n ∧ (n : Int) ≤ most ∧ ∀ j : Nat, j < n → within t sN j l = false, fun i => (most - i).toNat, ⟨0, rfl, by omega, fun j hj => by omega⟩, ?_⟩
 rintro _ ⟨n, rfl, n1, n2⟩
 have eN : ∀ (m : Nat) (x : Bel), sp_within t sN x m = within t sN m x := fun m x => by unfold sp_within; rw [show ((m : Int)).toNat = m by omega]
 unfold F_tree_L1 F_tree_J1
 simp only [forall_eq, beq_iff_eq, beq_eq_false_iff_ne, ne_eq, Bool.not_eq_true', Bool.not_eq_false', eN]
 rw [w64 (n := (n : Int) + 1) (by omega)]
 refine ⟨⟨hv, hw, hse, by omega, by omega⟩, fun q => ⟨⟨n + 1, by omega, ?_, fun j hj => ?_⟩, ?_⟩, fun q => ⟨fun e => ⟨fun _ => ⟨?_, ?_⟩, fun z => by simp at z⟩, fun e => ⟨fun z => ?_, fun _ => ?_⟩⟩⟩
 ·refine Classical.byContradiction fun hc => ?_
  rw [show most.toNat = n by omega, q] at hwm; cases hwm
 ·rcases Nat.lt_succ_iff_lt_or_eq.1 hj with q' | rfl
  ·exact n2 j q'
  ·exact q
 ·have : (n : Int) < most := by
   refine Classical.byContradiction fun hc => ?_
   rw [show most.toNat = n by omega, q] at hwm; cases hwm
  omega
 ·have h1 : 1 ≤ 2 ^ (most.toNat + 1) := Nat.one_le_two_pow
  refine ⟨by simp [maxLen]; omega, by simp; omega⟩
 ·have e0 : n = 0 := by omega
  subst e0
  unfold sp_tree
  rw [treeT_least (Nat.zero_le _) q]; rfl
 ·have : most < n := by simpa using z
  omega
 ·obtain ⟨d, rfl⟩ : ∃ d : Nat, n = d + 1 := ⟨n - 1, by omega⟩
  have h0 := n2 d (by omega)
  have hd : (d : Int) ≤ 6 := by omega
  have eT : sp_tree t sN l most out = treeT t sN (d + 1) l out := by unfold sp_tree; exact treeT_least (by omega) q out
  have eP : IntKind.i64.wrap (((d + 1 : Nat) : Int) - 1) = d := by rw [w64 (by omega)]; omega
  have hpow := pow_mono (a := d + 1) (b := most.toNat) (by omega)
  have hp2 : 2 ^ (d + 1 + 1) = 2 ^ (d + 1) + 2 ^ (d + 1) := by omega
  have h1 : 1 ≤ 2 ^ (d + 1) := Nat.one_le_two_pow
  have hpre : ∀ {x : Bel}, WsOK t x → pre_within t sN x d := fun hx => ⟨hv, hx, hse, by omega, by omega⟩
  have hs0 : sp_sure l t.goal = false := by
   cases hs : sp_sure l t.goal with
   | false => rfl
   | true => rw [within_sure hs] at h0; cases h0
  have eR : ∀ (x : Bel) (o : List TNode), sp_tree t sN x d o = treeT t sN d x o := fun x o => by unfold sp_tree; rw [show ((d : Int)).toNat = d by omega]
  rw [eT]
  refine ⟨fun op => ∃ k : Nat, op = k ∧ k ≤ t.ops.length ∧ ∀ j : Nat, j < k → sp_sure l (gt t.ops (j : Int)).pre = true → within t sN d (sp_bafter t l j) = false, fun op => (t.ops.length - op).toNat, ⟨0, rfl, by omega, fun j hj => by omega⟩, ?_⟩
  rintro _ ⟨k, rfl, k1, k2⟩
  unfold F_tree_L2 F_tree_J2
  simp only [forall_eq, decide_eq_true_eq, decide_eq_false_iff_not, eP, eN, eR, Bool.not_eq_true', Bool.not_eq_false']
  refine ⟨fun g => ?_, fun g => ?_⟩
  ·have hk : k < t.ops.length := by omega
   have hin : inb t.ops (k : Int) := ⟨by omega, g⟩
   rw [w64 (n := (k : Int) + 1) (by omega), ← sure_allHold]
   have hlen := treeT_len (t := t) (sN := sN) d (sp_bafter t l k) out
   refine ⟨hin, allHold_pre hv hw ((taskOK_of hv).op hin).1, fun q' => ⟨⟨k + 1, by omega, by omega, fun j hj hs => ?_⟩, by omega⟩, fun q' => ⟨⟨hv, hin, hw⟩, hpre (bafter_ok hv hw _), fun q2 => ⟨⟨hpre (bafter_ok hv hw _), by rw [show ((d : Int)).toNat = d by omega]; omega, by rw [show ((d : Int)).toNat = d by omega]; exact q2⟩, by unfold mu_tree; omega, ⟨by simp [maxLen, sp_afterAll]; omega, by simp [sp_afterAll]; omega⟩, ?_⟩, fun q2 => ⟨⟨k + 1, by omega, by omega, fun j hj hs => ?_⟩, by omega⟩⟩⟩
   ·rcases Nat.lt_succ_iff_lt_or_eq.1 hj with q3 | rfl
    ·exact k2 j q3 hs
    ·rw [q'] at hs; cases hs
   ·rw [treeT_op h0 hk q' q2 k2]
    unfold sp_afterAll
    rw [w64 (by omega)]
   ·rcases Nat.lt_succ_iff_lt_or_eq.1 hj with q3 | rfl
    ·exact k2 j q3 hs
    ·exact q2
  ·have hno : ∀ j : Nat, j < t.ops.length → sp_sure l (gt t.ops (j : Int)).pre = true → within t sN d (sp_bafter t l j) = false := fun j hj hs => k2 j (by omega) hs
   refine ⟨fun i => ∃ k : Nat, i = k ∧ k ≤ sN.length ∧ ∀ j : Nat, j < k → (obsOk l (gt sN (j : Int)) && (within t sN d (sp_observed l (gt sN (j : Int))).1 && within t sN d (sp_observed l (gt sN (j : Int))).2)) = false, fun i => (sN.length - i).toNat, ⟨0, rfl, by omega, fun j hj => by omega⟩, ?_⟩
   rintro _ ⟨m, rfl, m1, m2⟩
   unfold F_tree_L3 F_tree_J3
   simp only [forall_eq, decide_eq_true_eq, decide_eq_false_iff_not, eP, eN, eR]
   refine ⟨fun g => ?_, fun g => ?_⟩
   ·have hm : m < sN.length := by omega
    have next : (obsOk l (gt sN (m : Int)) && (within t sN d (sp_observed l (gt sN (m : Int))).1 && within t sN d (sp_observed l (gt sN (m : Int))).2)) = false → (∃ k : Nat, IntKind.i64.wrap ((m : Int) + 1) = k ∧ k ≤ sN.length ∧ ∀ j : Nat, j < k → (obsOk l (gt sN (j : Int)) && (within t sN d (sp_observed l (gt sN (j : Int))).1 && within t sN d (sp_observed l (gt sN (j : Int))).2)) = false) ∧ ((sN.length : Int) - IntKind.i64.wrap ((m : Int) + 1)).toNat < ((sN.length : Int) - m).toNat := fun q => by
     rw [w64 (by omega)]
     refine ⟨⟨m + 1, by omega, by omega, fun j hj => ?_⟩, by omega⟩
     rcases Nat.lt_succ_iff_lt_or_eq.1 hj with q' | rfl
     ·exact m2 j q'
     ·exact q
    have ho := obs_len (ws := l) (f := gt sN (m : Int))
    have hok := observed_ok hw (gt sN (m : Int))
    have l1 := treeT_len (t := t) (sN := sN) d (sp_observed l (gt sN (m : Int))).1 out
    have l2 := treeT_len (t := t) (sN := sN) d (sp_observed l (gt sN (m : Int))).2 (treeT t sN d (sp_observed l (gt sN (m : Int))).1 out)
    refine ⟨⟨by omega, g⟩, obs_pre hv hw _, fun a => ⟨fun b => ⟨hpre hok.1, fun c => ⟨hpre hok.2, fun e => ⟨⟨hpre hok.1, by rw [show ((d : Int)).toNat = d by omega]; omega, by rw [show ((d : Int)).toNat = d by omega]; exact c⟩, by unfold mu_tree; omega, ⟨hpre hok.2, by rw [show ((d : Int)).toNat = d by omega]; omega, by rw [show ((d : Int)).toNat = d by omega]; exact e⟩, by unfold mu_tree; omega, ⟨by simp [maxLen]; omega, by simp; omega⟩, ?_⟩, fun e => next ?_⟩, fun c => ⟨fun q => by simp at q, fun _ => next ?_⟩⟩, fun b => ⟨fun q => by simp at q, fun _ => next ?_⟩⟩, fun a => ⟨fun q => by simp at q, fun _ => next ?_⟩⟩
    ·rw [treeT_obs h0 hno hm (by rw [ho, decide_eq_true a, decide_eq_true b, c, e]; rfl) m2, w64 (by omega), w64 (by omega)]
    ·rw [e]; simp
    ·rw [c]; simp
    ·rw [ho, decide_eq_false b]; simp
    ·rw [ho, decide_eq_false a]; simp
   ·exfalso
    rw [within_succ hs0, ops_none hno, sens_none fun j hj => m2 j (by omega)] at q
    cases q
end Go.Proofs.YtojoehfldbimpaaGreatDoor.Pl

namespace Go.Proofs.YtojoehfldbimpaaGreatDoor.Pl
open Go Go.RowKit
theorem sbuild_of {k : Srch} {tr : List TNode} {ws : Bel} {d : Nat} (hd : (d : Int) ≤ 6) (hp : pre_within k.t k.sN ws d) (hsz : tr.length + 2 ^ (d + 1) ≤ 1000) (hw : within k.t k.sN d ws = true) (hn : ∀ j : Nat, j < d → within k.t k.sN j ws = false) : pre_sbuild k tr ws d := by
 refine ⟨⟨hp, ?_, ?_⟩, fun j hj => hn j (by omega)⟩
 ·rw [show ((d : Int)).toNat = d by omega]; exact hsz
 ·rw [show ((d : Int)).toNat = d by omega]; exact hw
theorem sbuild_eq (k : Srch) (tr : List TNode) (ws : Bel) (d : Nat) : sp_sbuild k tr ws d = (((treeT k.t k.sN d ws tr).length : Int) - 1, treeT k.t k.sN d ws tr) := by
 unfold sp_sbuild; rw [show ((d : Int)).toNat = d by omega]
theorem sleast_ge {k : Srch} {ws : Bel} {d : Nat} (h : 0 ≤ sp_sleast k ws d) : ∃ e : Nat, sp_sleast k ws d = e ∧ e ≤ d ∧ within k.t k.sN e ws = true ∧ ∀ j : Nat, j < e → within k.t k.sN j ws = false := by
 unfold sp_sleast at h ⊢
 rw [show ((d : Int)).toNat = d by omega] at h ⊢
 cases hl : leastW k.t k.sN ws d with
 | none => rw [hl] at h; simp at h
 | some e =>
  obtain ⟨a, b, c⟩ := leastW_some.1 hl
  exact ⟨e, rfl, b, a, c⟩
theorem sleast_lt {k : Srch} {ws : Bel} {d : Nat} (h : ¬ 0 ≤ sp_sleast k ws d) : within k.t k.sN d ws = false := by
 unfold sp_sleast at h
 rw [show ((d : Int)).toNat = d by omega] at h
 cases hl : leastW k.t k.sN ws d with
 | none => exact leastW_none.1 hl d (Nat.le_refl _)
 | some e => rw [hl] at h; simp at h
theorem ok_sbuild : ∀ (k : Srch) (tr : List TNode) (worlds : List (List Int)) (depth : Int), pre_sbuild k tr worlds depth → F_sbuild k tr worlds depth (fun r => r = sp_sbuild k tr worlds depth) := fun kk tr l depth ⟨⟨hp, hsz, hwm⟩, hlo⟩ m hm => by
 obtain ⟨t, sN⟩ := kk
 obtain ⟨hv, hw, hse, d0, d6⟩ := hp
 simp only at hv hw hse hwm hlo
 simp only [forall_eq, beq_iff_eq, beq_eq_false_iff_ne, ne_eq]
 refine ⟨fun e => ?_, fun e => ?_⟩
 ·subst e
  refine ⟨by unfold pre_sput; simp at hsz; omega, fun m2 _ => ?_⟩
  unfold sp_sput sp_sbuild treeT
  simp
 ·obtain ⟨d, rfl⟩ : ∃ d : Nat, depth = (d : Int) + 1 := ⟨(depth - 1).toNat, by omega⟩
  have hops := (taskOK_of hv).len
  have hsl := set_len24 hv hse
  have hd : (d : Int) ≤ 6 := by omega
  have h0 := hlo d (by omega)
  rw [show ((d : Int) + 1).toNat = d + 1 by omega] at hsz hwm
  have hp2 : 2 ^ (d + 1 + 1) = 2 ^ (d + 1) + 2 ^ (d + 1) := by omega
  have h1 : 1 ≤ 2 ^ (d + 1) := Nat.one_le_two_pow
  have hpre : ∀ {x : Bel}, WsOK t x → pre_within t sN x d := fun hx => ⟨hv, hx, hse, by omega, by omega⟩
  have hs0 : sp_sure l t.goal = false := by
   cases hs : sp_sure l t.goal with
   | false => rfl
   | true => rw [within_sure hs] at h0; cases h0
  have eT : sp_sbuild ⟨t, sN⟩ tr l ((d : Int) + 1) = (((treeT t sN (d + 1) l tr).length : Int) - 1, treeT t sN (d + 1) l tr) := by
   unfold sp_sbuild; rw [show ((d : Int) + 1).toNat = d + 1 by omega]
  rw [eT]
  intro _ _
  refine ⟨fun op mm => ∃ k : Nat, op = k ∧ k ≤ t.ops.length ∧ srInv ⟨t, sN⟩ mm ∧ ∀ j : Nat, j < k → sp_sure l (gt t.ops (j : Int)).pre = true → within t sN d (sp_bafter t l j) = false, fun op _ => (t.ops.length - op).toNat, ⟨0, rfl, by omega, hm, fun j hj => by omega⟩, ?_⟩
  rintro _ mm ⟨k, rfl, k1, k3, k2⟩
  unfold F_sbuild_L1 F_sbuild_J1
  simp only [forall_eq, decide_eq_true_eq, decide_eq_false_iff_not, nat_pred d hd]
  refine ⟨fun g => ?_, fun g => ?_⟩
  ·have hk : k < t.ops.length := by omega
   have hin : inb t.ops (k : Int) := ⟨by omega, g⟩
   have hbw := bafter_ok hv hw (k : Int)
   rw [w64 (n := (k : Int) + 1) (by omega)]
   refine ⟨hin, pre_sure_of hv hw ((taskOK_of hv).op hin).1, fun q => ⟨⟨hv, hin, hw⟩, k3, hpre hbw, fun m6 h6 => ⟨fun q2 => ?_, fun q2 => ⟨⟨k + 1, by omega, by omega, h6, fun j hj hs => ?_⟩, by omega⟩⟩⟩, fun q => ⟨⟨k + 1, by omega, by omega, k3, fun j hj hs => ?_⟩, by omega⟩⟩
   ·obtain ⟨e, he, e1, e2, e3⟩ := sleast_ge q2
    simp only at e2 e3
    have hpow := pow_mono e1
    have eL : treeT t sN e (sp_bafter t l k) tr = treeT t sN d (sp_bafter t l k) tr := (treeT_least e1 e2 tr).symm
    have hlen := treeT_len (t := t) (sN := sN) d (sp_bafter t l k) tr
    rw [he, sbuild_eq]
    refine ⟨sbuild_of (by omega) ⟨hv, hbw, hse, by omega, by omega⟩ (by omega) e2 e3, by unfold mu_sbuild; omega, fun m7 _ => ⟨?_, fun m8 _ => ?_⟩⟩
    ·unfold pre_sput; simp only; rw [eL]; omega
    ·rw [treeT_op h0 hk q (within_mono e1 e2) k2]
     unfold sp_sput
     simp only [eL]
     simp
   ·rcases Nat.lt_succ_iff_lt_or_eq.1 hj with q' | rfl
    ·exact k2 j q' hs
    ·exact sleast_lt q2
   ·rcases Nat.lt_succ_iff_lt_or_eq.1 hj with q' | rfl
    ·exact k2 j q' hs
    ·rw [q] at hs; cases hs
  ·have hno : ∀ j : Nat, j < t.ops.length → sp_sure l (gt t.ops (j : Int)).pre = true → within t sN d (sp_bafter t l j) = false := fun j hj hs => k2 j (by omega) hs
   refine ⟨fun i mm => ∃ k : Nat, i = k ∧ k ≤ sN.length ∧ srInv ⟨t, sN⟩ mm ∧ ∀ j : Nat, j < k → (obsOk l (gt sN (j : Int)) && (within t sN d (sp_observed l (gt sN (j : Int))).1 && within t sN d (sp_observed l (gt sN (j : Int))).2)) = false, fun i _ => (sN.length - i).toNat, ⟨0, rfl, by omega, k3, fun j hj => by omega⟩, ?_⟩
   rintro _ mm2 ⟨i, rfl, m1, m3, m2⟩
   unfold F_sbuild_L2 F_sbuild_J3
   simp only [forall_eq, decide_eq_true_eq, decide_eq_false_iff_not, nat_pred d hd, sp_split, beq_iff_eq, beq_eq_false_iff_ne, ne_eq]
   refine ⟨fun g => ?_, fun g => ?_⟩
   ·have hi : i < sN.length := by omega
    have next : ∀ m9, srInv ⟨t, sN⟩ m9 → (obsOk l (gt sN (i : Int)) && (within t sN d (sp_observed l (gt sN (i : Int))).1 && within t sN d (sp_observed l (gt sN (i : Int))).2)) = false → F_sbuild_J2 mm2 m9 i (fun i mm => ∃ k : Nat, i = k ∧ k ≤ sN.length ∧ srInv ⟨t, sN⟩ mm ∧ ∀ j : Nat, j < k → (obsOk l (gt sN (j : Int)) && (within t sN d (sp_observed l (gt sN (j : Int))).1 && within t sN d (sp_observed l (gt sN (j : Int))).2)) = false) (fun i _ => (sN.length - i).toNat) := fun m9 h9 q => by
     unfold F_sbuild_J2
     rw [w64 (by omega)]
     refine ⟨⟨i + 1, by omega, by omega, h9, fun j hj => ?_⟩, by show ((sN.length : Int) - ((i : Int) + 1)).toNat < ((sN.length : Int) - i).toNat; omega⟩
     rcases Nat.lt_succ_iff_lt_or_eq.1 hj with q' | rfl
     ·exact m2 j q'
     ·exact q
    have ho := obs_len (ws := l) (f := gt sN (i : Int))
    have hok := observed_ok hw (gt sN (i : Int))
    have l1 := treeT_len (t := t) (sN := sN) d (sp_observed l (gt sN (i : Int))).1 tr
    have l2 := treeT_len (t := t) (sN := sN) d (sp_observed l (gt sN (i : Int))).2 (treeT t sN d (sp_observed l (gt sN (i : Int))).1 tr)
    refine ⟨⟨by omega, g⟩, obs_pre hv hw _, fun a => ⟨fun _ => next mm2 m3 ?_, fun z => by simp at z⟩, fun a => ⟨fun b => next mm2 m3 ?_, fun b => ⟨m3, hpre hok.1, fun m12 _ => ⟨hpre hok.2, fun m13 h13 => ⟨fun c => ?_, fun c => ?_⟩⟩⟩⟩⟩
    ·rw [ho, decide_eq_false (by omega)]; simp
    ·rw [ho, decide_eq_false (p := (0 : Int) < (((sp_observed l (gt sN (i : Int))).2.length : Nat) : Int)) (by omega)]; simp
    ·unfold F_sbuild_J4
     simp only [forall_eq, decide_eq_true_eq, decide_eq_false_iff_not]
     refine ⟨fun e => ?_, fun e => next m13 h13 ?_⟩
     ·obtain ⟨x, hx, x1, x2, x3⟩ := sleast_ge c
      obtain ⟨y, hy, y1, y2, y3⟩ := sleast_ge e
      simp only at x2 x3 y2 y3
      have px := pow_mono x1
      have py := pow_mono y1
      have eX : treeT t sN x (sp_observed l (gt sN (i : Int))).1 tr = treeT t sN d (sp_observed l (gt sN (i : Int))).1 tr := (treeT_least x1 x2 tr).symm
      have eY := (treeT_least (sN := sN) (t := t) y1 y2 (treeT t sN d (sp_observed l (gt sN (i : Int))).1 tr)).symm
      rw [hx, hy, sbuild_eq]
      simp only [eX]
      rw [sbuild_eq]
      simp only [eY]
      refine ⟨h13, sbuild_of (by omega) ⟨hv, hok.1, hse, by omega, by omega⟩ (by omega) x2 x3, by unfold mu_sbuild; omega, fun m14 _ => ⟨sbuild_of (by omega) ⟨hv, hok.2, hse, by omega, by omega⟩ (by omega) y2 y3, by unfold mu_sbuild; omega, fun m15 _ => ⟨by unfold pre_sput; omega, fun m16 _ => ?_⟩⟩⟩
      rw [treeT_obs h0 hno hi (by rw [ho, decide_eq_true (by omega), decide_eq_true (by omega), within_mono x1 x2, within_mono y1 y2]; rfl) m2]
      unfold sp_sput
      simp
     ·have := sleast_lt e
      simp only at this
      rw [this]; simp
    ·unfold F_sbuild_J4
     refine ⟨fun z => by simp at z, fun _ => next m13 h13 ?_⟩
     have := sleast_lt c
     simp only at this
     rw [this]; simp
   ·exfalso
    rw [within_succ hs0, ops_none hno, sens_none fun j hj => m2 j (by omega)] at hwm
    cases hwm
end Go.Proofs.YtojoehfldbimpaaGreatDoor.Pl

namespace Go.Proofs.YtojoehfldbimpaaGreatDoor.Pl
open Go Go.RowKit
def obsL (ws : Bel) (f : Int) : List (Int × Bel) := if obsOk ws f = true then [(-1, (sp_observed ws f).1), (-1, (sp_observed ws f).2)] else []
theorem csucc_def (t : Task) (sN : List Int) (ws : Bel) : csucc t sN ws = (allS t.ops.length).filterMap (opS t ws) ++ sN.flatMap (obsL ws) := rfl
theorem drop_gtC {l : List Int} {j : Nat} (h : j < l.length) : l.drop j = gt l (j : Int) :: l.drop (j + 1) := by
 rw [List.drop_eq_getElem_cons h]
 congr 1
 rw [gt_of ⟨by omega, by omega⟩]; simp
structure QC (t : Task) (l : List Entry) (m : List UInt8 → Int) : Prop where
 map : m = mapOf l
 len : l.length ≤ 2000
 ok : ∀ e ∈ l, WsOK t e.node
theorem QC.push {t : Task} {l : List Entry} {m : List UInt8 → Int} (h : QC t l m) {i : Int} {s : Int} {n : Bel} (hw : WsOK t n) (hl : l.length ≠ 2000) : QC t (l ++ [⟨n, i, s⟩]) (upd m (keyL n) 1) := by
 refine ⟨by rw [h.map]; exact mapOf_push l ⟨n, i, s⟩, by have := h.len; simp; omega, fun e' he' => ?_⟩
 rcases List.mem_append.1 he' with he' | he'
 ·exact h.ok e' he'
 ·rw [List.mem_singleton.1 he']; exact hw
theorem QC.room {t : Task} {l : List Entry} {m : List UInt8 → Int} (h : QC t l m) : Pl.room l.length 40 := ⟨Nat.le_trans h.len (by decide), Nat.le_trans (Nat.mul_le_mul_right 40 h.len) (by decide)⟩
theorem QC.has {t : Task} {l : List Entry} {m : List UInt8 → Int} (h : QC t l m) {n : Bel} : 0 < m (keyL n) ↔ n ∈ l.map (·.node) := by rw [h.map]; exact mapOf_pos
theorem expand_old {i s : Int} {n : Bel} {r : List (Int × Bel)} {q : List Entry} (h : n ∈ q.map (·.node)) : expand i ((s, n) :: r) q = expand i r q := by
 rw [expand, if_pos h]
theorem expand_full {i s : Int} {n : Bel} {r : List (Int × Bel)} {q : List Entry} (h : n ∉ q.map (·.node)) (hl : q.length = 2000) : expand i ((s, n) :: r) q = none := by
 rw [expand, if_neg h, if_pos hl]
theorem expand_new {i s : Int} {n : Bel} {r : List (Int × Bel)} {q : List Entry} (h : n ∉ q.map (·.node)) (hl : q.length ≠ 2000) : expand i ((s, n) :: r) q = expand i r (q ++ [⟨n, i, s⟩]) := by
 rw [expand, if_neg h, if_neg hl]
theorem ok_breadthC : ∀ (start2 : List (List Int)) (k : Srch), pre_breadthC start2 k → F_breadthC start2 k (fun r => r = sp_breadthC start2 k) := fun start kk hp => by
 obtain ⟨t, sN⟩ := kk
 obtain ⟨hv, hw, hse⟩ := hp
 simp only at hv hw hse
 have hops := (taskOK_of hv).len
 have hsl := set_len24 hv hse
 refine ⟨key_ok hv hw, ?_⟩
 simp only [forall_eq, sp_key]
 refine ⟨fun x2 l m => ∃ i : Nat, x2 = i ∧ i ≤ l.length ∧ QC t l m ∧ bfs (csucc t sN) (fun _ => false) (2001 - i) l i = search (csucc t sN) (fun _ => false) start, fun x2 _ _ => (2001 - x2).toNat, ⟨0, rfl, Nat.zero_le _, ⟨mapOf_one ⟨start, -1, 0⟩, by simp, fun e he => by rw [List.mem_singleton.1 he]; exact hw⟩, rfl⟩, ?_⟩
 rintro _ l m ⟨i, rfl, i1, hq, hb⟩
 have hlen := hq.len
 have ef : 2001 - i = (2000 - i) + 1 := by omega
 unfold F_breadthC_L1
 simp only [forall_eq, decide_eq_true_eq, decide_eq_false_iff_not]
 refine ⟨fun h => ?_, fun h => ?_⟩
 ·have hi : i < l.length := by omega
  have hg := entry_gt hi
  have hwn := hq.ok _ (gt_memN hi)
  rw [ef, bfs] at hb
  simp only [hg] at hb
  refine ⟨⟨by omega, h⟩, fun e => absurd e Bool.false_ne_true, fun _ _ _ _ _ => ?_⟩
  rw [if_neg Bool.false_ne_true, csucc_def] at hb
  refine ⟨fun t9 l4 m3 => ∃ j : Nat, t9 = j ∧ j ≤ t.ops.length ∧ QC t l4 m3 ∧ l.length ≤ l4.length ∧ expand (i : Int) (((allS t.ops.length).drop j).filterMap (opS t (gt l (i : Int)).node) ++ sN.flatMap (obsL (gt l (i : Int)).node)) l4 = expand (i : Int) ((allS t.ops.length).filterMap (opS t (gt l (i : Int)).node) ++ sN.flatMap (obsL (gt l (i : Int)).node)) l, fun t9 _ _ => (t.ops.length - t9).toNat, ⟨0, rfl, Nat.zero_le _, hq, Nat.le_refl _, rfl⟩, ?_⟩
  rintro _ l4 m3 ⟨j, rfl, j1, hq4, hl4, he⟩
  have hlen4 := hq4.len
  unfold F_breadthC_L3 F_breadthC_J1
  simp only [forall_eq, decide_eq_true_eq, decide_eq_false_iff_not, beq_iff_eq, beq_eq_false_iff_ne, ne_eq, sp_key]
  refine ⟨fun g => ?_, fun g => ?_⟩
  ·have hj : j < t.ops.length := by omega
   have hin : inb t.ops (j : Int) := ⟨by omega, g⟩
   rw [allS_drop hj, List.filterMap_cons] at he
   rw [w64 (n := (j : Int) + 1) (by omega)]
   refine ⟨hin, pre_sure_of hv hwn ((taskOK_of hv).op hin).1, fun q => ?_, fun q => ?_⟩
   ·have eo : opS t (gt l (i : Int)).node (j : Int) = some ((j : Int), sp_bafter t (gt l (i : Int)).node (j : Int)) := by rw [opS, if_pos q]
    rw [eo] at he
    simp only [List.cons_append] at he
    have hwb := bafter_ok hv hwn (j : Int)
    refine ⟨⟨hv, hin, hwn⟩, key_ok hv hwb, fun k => ?_, fun k => ?_⟩
    ·rw [hq4.has] at k
     rw [expand_old k] at he
     exact ⟨⟨j + 1, by omega, by omega, hq4, hl4, he⟩, by omega⟩
    ·rw [hq4.has] at k
     refine ⟨fun e => ?_, fun e => ?_⟩
     ·rw [expand_full k (by omega)] at he
      rw [← he] at hb
      exact hb
     ·have hne : ¬ l4.length = 2000 := by omega
      rw [expand_new k hne] at he
      have hps := hq4.push (i := (i : Int)) (s := (j : Int)) hwb hne
      exact ⟨hps.room, ⟨j + 1, by omega, by omega, hps, by rw [List.length_append]; omega, he⟩, by omega⟩
   ·have eo : opS t (gt l (i : Int)).node (j : Int) = none := by rw [opS, if_neg (by rw [q]; decide)]
    rw [eo] at he
    exact ⟨⟨j + 1, by omega, by omega, hq4, hl4, he⟩, by omega⟩
  ·have ed : (allS t.ops.length).drop j = [] := List.drop_eq_nil_of_le (by rw [allS_len]; omega)
   rw [ed, List.filterMap_nil, List.nil_append] at he
   rw [← he] at hb
   clear he
   refine ⟨fun t28 l8 m6 => ∃ j : Nat, t28 = j ∧ j ≤ sN.length ∧ QC t l8 m6 ∧ l.length ≤ l8.length ∧ expand (i : Int) ((sN.drop j).flatMap (obsL (gt l (i : Int)).node)) l8 = expand (i : Int) (sN.flatMap (obsL (gt l (i : Int)).node)) l4, fun t28 _ _ => (sN.length - t28).toNat, ⟨0, rfl, Nat.zero_le _, hq4, hl4, rfl⟩, ?_⟩
   rintro _ l8 m6 ⟨n, rfl, n1, hq8, hl8, he⟩
   have hlen8 := hq8.len
   unfold F_breadthC_L4 F_breadthC_J2
   simp only [forall_eq, decide_eq_true_eq, decide_eq_false_iff_not, beq_iff_eq, beq_eq_false_iff_ne, ne_eq, sp_key, sp_split]
   refine ⟨fun g => ?_, fun g => ?_⟩
   ·have hn : n < sN.length := by omega
    rw [drop_gtC hn, List.flatMap_cons] at he
    have ho := obs_len (ws := (gt l (i : Int)).node) (f := gt sN (n : Int))
    have hok := observed_ok hwn (gt sN (n : Int))
    rw [w64 (n := (n : Int) + 1) (by omega)]
    generalize hY : (sp_observed (gt l (i : Int)).node (gt sN (n : Int))).1 = Y at ho hok ⊢
    generalize hN : (sp_observed (gt l (i : Int)).node (gt sN (n : Int))).2 = N at ho hok ⊢
    have skip : obsOk (gt l (i : Int)).node (gt sN (n : Int)) = false → (∃ j : Nat, (n : Int) + 1 = j ∧ j ≤ sN.length ∧ QC t l8 m6 ∧ l.length ≤ l8.length ∧ expand (i : Int) ((sN.drop j).flatMap (obsL (gt l (i : Int)).node)) l8 = expand (i : Int) (sN.flatMap (obsL (gt l (i : Int)).node)) l4) ∧ ((sN.length : Int) - ((n : Int) + 1)).toNat < ((sN.length : Int) - n).toNat := fun q => by
     unfold obsL at he
     rw [if_neg (by rw [q]; decide), List.nil_append] at he
     exact ⟨⟨n + 1, by omega, by omega, hq8, hl8, he⟩, by omega⟩
    refine ⟨⟨by omega, g⟩, obs_pre hv hwn _, fun a => ⟨fun b => ?_, fun b => skip (by rw [ho, decide_eq_false b]; simp)⟩, fun a => skip (by rw [ho, decide_eq_false a]; simp)⟩
    have e1 : obsL (gt l (i : Int)).node (gt sN (n : Int)) = [(-1, Y), (-1, N)] := by
     unfold obsL
     rw [if_pos (by rw [ho, decide_eq_true a, decide_eq_true b]; rfl), hY, hN]
    rw [e1, List.cons_append, List.cons_append, List.nil_append] at he
    refine ⟨key_ok hv hok.1, fun p => ⟨key_ok hv hok.2, fun r => ?_, fun r => ⟨fun e => ?_, fun e => ?_⟩⟩, fun p => ⟨fun e => ?_, fun e => ?_⟩⟩
    ·rw [hq8.has] at p r
     rw [expand_old p, expand_old r] at he
     exact ⟨⟨n + 1, by omega, by omega, hq8, hl8, he⟩, by omega⟩
    ·rw [hq8.has] at p r
     rw [expand_old p, expand_full r (by omega)] at he
     rw [← he] at hb
     exact hb
    ·rw [hq8.has] at p r
     have hne : ¬ l8.length = 2000 := by omega
     rw [expand_old p, expand_new r hne] at he
     have hps := hq8.push (i := (i : Int)) (s := -1) hok.2 hne
     exact ⟨hps.room, ⟨n + 1, by omega, by omega, hps, by rw [List.length_append]; omega, he⟩, by omega⟩
    ·rw [hq8.has] at p
     rw [expand_full p (by omega)] at he
     rw [← he] at hb
     exact hb
    ·rw [hq8.has] at p
     have hne : ¬ l8.length = 2000 := by omega
     rw [expand_new p hne] at he
     have hps := hq8.push (i := (i : Int)) (s := -1) hok.1 hne
     have hl9 : l.length ≤ (l8 ++ [(⟨Y, (i : Int), -1⟩ : Entry)]).length := by rw [List.length_append]; omega
     refine ⟨hps.room, key_ok hv hok.2, fun r => ?_, fun r => ⟨fun e2 => ?_, fun e2 => ?_⟩⟩
     ·rw [hps.has] at r
      rw [expand_old r] at he
      exact ⟨⟨n + 1, by omega, by omega, hps, hl9, he⟩, by omega⟩
     ·rw [hps.has] at r
      rw [expand_full r (by omega)] at he
      rw [← he] at hb
      exact hb
     ·rw [hps.has] at r
      have hne2 : ¬ (l8 ++ [(⟨Y, (i : Int), -1⟩ : Entry)]).length = 2000 := by omega
      rw [expand_new r hne2] at he
      have hps2 := hps.push (i := (i : Int)) (s := -1) hok.2 hne2
      exact ⟨hps2.room, ⟨n + 1, by omega, by omega, hps2, by rw [List.length_append]; omega, he⟩, by omega⟩
   ·have ed2 : sN.drop n = [] := List.drop_eq_nil_of_le (by omega)
    rw [ed2, List.flatMap_nil, expand] at he
    rw [← he] at hb
    rw [w64 (n := (i : Int) + 1) (by omega)]
    refine ⟨⟨i + 1, by omega, by omega, hq8, ?_⟩, by omega⟩
    rw [show 2001 - (i + 1) = 2000 - i by omega]
    exact hb
 ·have hn : l[i]? = none := List.getElem?_eq_none (by omega)
  rw [ef, bfs] at hb
  simp only [hn] at hb
  exact hb
theorem ok_smallC : ∀ (start2 : List (List Int)) (k : Srch), pre_smallC start2 k → F_smallC start2 k (fun r => r = sp_smallC start2 k) := fun _ _ hp => ⟨hp, fun r hr => by rw [hr]; rfl⟩
theorem ok_cplan : ∀ (t : Task) (unknown : List Int) (sN : List Int) (depth : Int), F_cplan t unknown sN depth (fun r => r = sp_cplan t unknown sN depth) := fun t u sN depth => by
 unfold F_cplan F_cplan_J1
 simp only [forall_eq, beq_zero, Bool.not_eq_true', Bool.not_eq_false', decide_eq_true_eq, decide_eq_false_iff_not]
 unfold sp_cplan
 refine ⟨fun h => by rw [if_neg h], fun h => ?_⟩
 rw [if_pos h]
 obtain ⟨hu, hse⟩ := ccheck_ok h
 have hw := worlds_ok hu
 refine ⟨fun g => ⟨fun _ => by rw [if_pos (.inl g)], fun z => by simp at z⟩, fun g => ⟨fun g2 => by rw [if_pos (.inr g2)], fun g2 => ?_⟩⟩
 rw [if_neg (by omega)]
 refine ⟨hu, ⟨hu.1, hw, hse⟩, fun q => by rw [if_neg (by rw [q]; decide)], fun q => ?_⟩
 rw [if_pos q]
 have hpw : pre_within t sN (sp_worlds t u) depth := ⟨hu.1, hw, hse, by omega, by omega⟩
 refine ⟨srInv_start _, hpw, fun m _ => ⟨fun s => ?_, fun s => ?_⟩⟩
 ·unfold sp_sleast at s
  cases hl : leastW t sN (sp_worlds t u) depth.toNat with
  | none => rfl
  | some d => simp only [hl] at s; omega
 ·cases hl : leastW t sN (sp_worlds t u) depth.toNat with
  | none => unfold sp_sleast at s; simp only [hl] at s; omega
  | some d =>
   obtain ⟨a, b, c⟩ := leastW_some.1 hl
   have es : sp_sleast ⟨t, sN⟩ (sp_worlds t u) depth = d := by unfold sp_sleast; simp only [hl]
   have hpow := pow_mono (a := d) (b := 6) (by omega)
   rw [es, sbuild_eq]
   refine ⟨sbuild_of (by omega) ⟨hu.1, hw, hse, by omega, by omega⟩ (by simp only [List.length_nil]; omega) a c, fun m2 _ => ⟨fun z => ?_, fun z => ?_⟩⟩
   ·simp only at z ⊢; rw [if_pos (by omega)]
   ·simp only at z ⊢; rw [if_neg (by omega)]
end Go.Proofs.YtojoehfldbimpaaGreatDoor.Pl

namespace Go.Proofs.YtojoehfldbimpaaGreatDoor.Pl
open Go Go.RowKit
def NodesOK (t : Task) (sN : List Int) (l : List TNode) : Prop := ∀ (j : Nat) (n : TNode), l[j]? = some n → sp_nodeCode t sN n j = 0
theorem NodesOK.push {t : Task} {sN : List Int} {l : List TNode} (h : NodesOK t sN l) {n : TNode} (hn : sp_nodeCode t sN n l.length = 0) : NodesOK t sN (l ++ [n]) := fun j m hj => by
 rcases Nat.lt_trichotomy j l.length with q | q | q
 ·rw [List.getElem?_append_left q] at hj; exact h j m hj
 ·subst q
  rw [List.getElem?_append_right (Nat.le_refl _)] at hj
  simp at hj; subst hj; exact hn
 ·rw [List.getElem?_eq_none (by simp; omega)] at hj; cases hj
end Go.Proofs.YtojoehfldbimpaaGreatDoor.Pl

namespace Go.Proofs.YtojoehfldbimpaaGreatDoor.Pl
open Go Go.RowKit
theorem able_worlds0 : sp_worlds sp_able [] = [[]] := by
 rw [worlds_possible able_val (by decide +kernel)]; rfl
theorem able_depth : sp_depth sp_able [] [⟨1, 0, 0, 0, 0⟩] = (0, ⟨0, 0⟩) := by decide +kernel
theorem able_cplan : sp_cplan sp_able [] [] 1 = ([⟨1, 0, 0, 0, 0⟩, ⟨2, 0, 0, 0, 0⟩], true, ⟨0, 0⟩) := by
 unfold sp_cplan
 rw [if_pos (by decide +kernel), if_neg (by decide), able_worlds0]
 decide +kernel
theorem ok_stopped : F_stopped (fun r => r = sp_stopped) := by
 unfold F_stopped
 simp only [forall_eq, able_depth, able_cplan]
 exact ⟨fun _ => ⟨fun _ => ⟨fun _ => ⟨fun _ => ⟨by simp [pre_trees], by decide⟩, fun h => absurd h (by decide)⟩, fun h => absurd h (by decide)⟩, fun h => absurd h (by decide)⟩, fun h => absurd h (by decide)⟩
theorem small_beliefs {t : Task} {start : Bel} (hv : sp_validate t = ⟨0, 0⟩) (hw : WsOK t start) {sN : List Int} {all : List Bel} (h : sp_beliefs t start sN 150 = (all, true)) : sp_smallC start ⟨t, sN⟩ = true := by
 obtain ⟨⟨h1, h2, _, h4⟩, _⟩ := beliefs_closed hv hw h
 refine search_fits (all := all) (by omega) h2 fun b hb x hx => h4 b hb x.2 ?_
 unfold csucc at hx
 rw [osucc_def]
 rcases List.mem_append.1 hx with q | q
 ·exact List.mem_append_left _ (List.mem_map_of_mem q)
 ·refine List.mem_append_right _ ?_
  obtain ⟨f, hf, hm⟩ := List.mem_flatMap.1 q
  refine List.mem_flatMap.2 ⟨f, hf, ?_⟩
  unfold obsOk at hm
  unfold obs2
  split at hm
  ·rename_i ho
   rw [if_pos (of_decide_eq_true ho)]
   simp only [List.mem_cons, List.not_mem_nil, or_false] at hm
   rcases hm with rfl | rfl <;> simp
  ·cases hm
end Go.Proofs.YtojoehfldbimpaaGreatDoor.Pl

namespace Go.Proofs.YtojoehfldbimpaaGreatDoor.Pl
open Go Go.RowKit
theorem plan_J6 {t : Task} {sN : List Int} {depth : Int} {start : Bel} {l : List TNode} {ok : Bool} {f : Fault} (h1 : ok = false → l = []) (h2 : ok = true → pre_tree t sN start depth [] ∧ l.length ≤ 60 ∧ l = treeT t sN depth.toNat start []) :
  F_lawContPlan_J6 t sN depth (fun r => r = true) (l, ok, f) start false := by
 unfold F_lawContPlan_J6
 simp only [forall_eq]
 refine ⟨fun q => by simp at q, fun _ => ?_⟩
 cases ok with
 | false =>
  rw [h1 rfl]
  exact ⟨fun _ => ⟨fun _ => rfl, fun q => by simp at q⟩, fun q => by simp at q⟩
 | true =>
  obtain ⟨a, b, c⟩ := h2 rfl
  have e : sp_tree t sN start depth [] = l := by rw [c]; rfl
  rw [e]
  exact ⟨fun q => by simp at q, fun _ => ⟨fun _ => ⟨a, ⟨by omega, by omega⟩, fun _ => rfl, fun q => by simp [sp_trees] at q⟩, fun q => by simp at q⟩⟩
theorem law_plan {t : Task} {u sN : List Int} {depth : Int} (hc : sp_ccheck t u sN = ⟨0, 0⟩) (hd : 0 ≤ depth ∧ depth ≤ 6) : F_lawContPlan_J4 t u sN depth (fun r => r = true) (sp_cplan t u sN depth) 0 0 := by
 obtain ⟨hu, hse⟩ := ccheck_ok hc
 have ew := worlds_possible hu.1 hu.2.2
 have hw : WsOK t (sp_possible t u) := by rw [← ew]; exact worlds_ok hu
 unfold F_lawContPlan_J4
 simp only [forall_eq]
 refine ⟨fun q => by simp at q, fun _ => ⟨hu, ⟨hu.1, hw, hse, by decide, by decide⟩, ?_⟩⟩
 have skip : ∀ r2 start, F_lawContPlan_J5 t sN depth (fun r => r = true) r2 start true := fun r2 start => by
  unfold F_lawContPlan_J5
  simp only [forall_eq]
  exact ⟨fun _ => rfl, fun q => by simp at q⟩
 refine ⟨fun _ => skip _ _, fun q => ⟨fun _ => skip _ _, fun q3 => ?_⟩⟩
 by_cases h8 : (8 : Int) < t.ops.length
 ·rw [decide_eq_true h8]; exact skip _ _
 ·rw [decide_eq_false h8]
  rcases hb : sp_beliefs t (sp_possible t u) sN 150 with ⟨all, b⟩
  rw [hb] at q
  have hbt : b = true := by simpa using q
  subst hbt
  have hsm := small_beliefs hu.1 hw hb
  have h3 : ¬ (3 : Int) < depth := of_decide_eq_false q3
  have hp3 := pow_mono (a := depth.toNat) (b := 3) (by omega)
  have ep : sp_cplan t u sN depth = match leastW t sN (sp_possible t u) depth.toNat with
   | none => ([], false, ⟨0, 0⟩)
   | some d => if 60 < (treeT t sN d (sp_possible t u) []).length then ([], false, ⟨10, -1⟩) else (treeT t sN d (sp_possible t u) [], true, ⟨0, 0⟩) := by
   unfold sp_cplan
   rw [if_pos hc, if_neg (by omega), ew, if_pos hsm]
   rfl
  have hpw : pre_within t sN (sp_possible t u) depth := ⟨hu.1, hw, hse, hd.1, hd.2⟩
  unfold F_lawContPlan_J5
  simp only [forall_eq]
  refine ⟨fun q => by simp at q, fun _ => ?_⟩
  cases hl : leastW t sN (sp_possible t u) depth.toNat with
  | none =>
   rw [hl] at ep
   simp only at ep
   have hwn : sp_within t sN (sp_possible t u) depth = false := leastW_none.1 hl _ (Nat.le_refl _)
   rw [ep, hwn]
   exact ⟨fun q => by simp at q, fun _ => ⟨hpw, plan_J6 (fun _ => rfl) (fun q => by cases q)⟩⟩
  | some d =>
   obtain ⟨w1, w2, w3⟩ := leastW_some.1 hl
   have hlen := treeT_len (t := t) (sN := sN) d (sp_possible t u) []
   have hpd := pow_mono w2
   rw [hl] at ep
   simp only at ep
   rw [if_neg (by simp only [List.length_nil] at hlen; omega)] at ep
   have hwt : sp_within t sN (sp_possible t u) depth = true := within_mono w2 w1
   rw [ep, hwt]
   refine ⟨fun q => by simp at q, fun _ => ⟨hpw, plan_J6 (fun q => by cases q) (fun _ => ⟨⟨hpw, by simp only [List.length_nil]; omega, hwt⟩, by simp only [List.length_nil] at hlen; omega, (treeT_least w2 w1 []).symm⟩)⟩⟩
theorem law_fault {t : Task} {u sN : List Int} {depth : Int} {c i : Int} (h0 : c ≠ 0) (h : sp_cplan t u sN depth = ([], false, ⟨c, i⟩)) : F_lawContPlan_J4 t u sN depth (fun r => r = true) (sp_cplan t u sN depth) c i := by
 unfold F_lawContPlan_J4
 simp only [forall_eq]
 rw [h]
 exact ⟨fun _ => ⟨fun _ => ⟨fun _ => ⟨fun _ => rfl, fun q => by simp at q⟩, fun q => by simp at q⟩, fun q => by simp at q⟩, fun q => absurd (by simpa using q) h0⟩
theorem ok_lawContPlan : ∀ (t : Task) (unknown : List Int) (sN : List Int) (depth : Int), F_lawContPlan t unknown sN depth (fun r => r = sp_lawContPlan t unknown sN depth) := fun t u sN depth => by
 unfold F_lawContPlan F_lawContPlan_J1 F_lawContPlan_J2 F_lawContPlan_J3
 simp only [forall_eq]
 by_cases h : sp_unknownFault t u = ⟨0, 0⟩
 ·have hu := unknown_ok h
  rw [h]
  refine ⟨fun _ => ⟨set_range hu.1, fun q => ?_, fun q => ?_⟩, fun q => by simp at q⟩
  ·have hs : ¬ sp_isSet sN t.facts = true := by simpa using q
   have e : sp_ccheck t u sN = ⟨5, -9⟩ := by unfold sp_ccheck; rw [if_pos h, if_neg hs]
   refine ⟨fun z => by simp [sp_at_] at z, fun _ => ⟨fun z => by simp at z, fun _ => law_fault (by decide) ?_⟩⟩
   unfold sp_cplan
   rw [e, if_neg (by decide)]; rfl
  ·have hs : sp_isSet sN t.facts = true := by simpa using q
   have hc := ccheck_of h hs
   refine ⟨fun _ => ⟨fun z => ?_, fun z => ?_⟩, fun z => by simp at z⟩
   ·refine law_fault (by decide) ?_
    unfold sp_cplan
    rw [if_pos hc, if_pos (by simp [sp_in_] at z; omega)]; rfl
   ·exact law_plan hc (by simp [sp_in_] at z; omega)
 ·have hne := code_ne unknown_code h
  have e : sp_ccheck t u sN = sp_unknownFault t u := by unfold sp_ccheck; rw [if_neg h]
  refine ⟨fun z => absurd (by simpa using z) hne, fun _ => ⟨fun z => by simp at z, fun _ => ⟨fun z => absurd (by simpa using z) hne, fun _ => ⟨fun z => by simp at z, fun _ => law_fault hne ?_⟩⟩⟩⟩
  unfold sp_cplan
  rw [e, if_neg h]
end Go.Proofs.YtojoehfldbimpaaGreatDoor.Pl


namespace Go.Proofs.YtojoehfldbimpaaGreatDoor.Pl
open Go Go.RowKit
abbrev tF (t : Task) (a : Option Addr) (c : Nat) (a2 : Option Addr) (c2 : Nat) (a3 : Option Addr) (c3 : Nat) (r : List Value := []) : List Value := iV t.facts :: vSl a t.init c :: vSl a2 t.goal c2 :: vSl a3 t.ops c3 :: r
theorem w_in_ {h : FH} {w : World} (hs : Sub h w) (n_ : Int) (low : Int) (high : Int) (K : Bool → Prop) (hF : F_in_ n_ low high K) : Calls Tryz.prog 25 #[iV n_, iV low, iV high] w fun e w' => ∃ r : Bool, K r ∧ e = .returned (.bool r) ∧ Below w.heap.size w w' := by
 refine enter (args := [iV n_, iV low, iV high]) Tryz.func25 rfl Tryz.ntmps25 rfl hs ?_
 refine .seq (.region (.V ag0 ?_))
 refine .nil (.seqN (.seq (.region (.V mv0 ?_))))
 refine .V mv0 ?_
 refine .V bi0 ?_
 refine .V mv0 ?_
 rcases Bool.eq_false_or_eq_true (decide (low ≤ n_)) with q2 | q2
 ·replace hF := hF.1 q2
  refine .GV mv0 q2 ?_
  refine .GV mv0 q2 ?_
  refine .GV bi0 q2 ?_
  refine .V (pkT rfl q2 rfl) ?_
  refine .V ag0 ?_
  refine .nil (.seqN (.ret ?_))
  refine .res1 rfl (rvT rfl) (fun w' S => ⟨decide (n_ ≤ high), hF, rfl, S.below⟩)
 replace hF := hF.2 q2
 refine .GS q2 ?_
 refine .GS q2 ?_
 refine .GS q2 ?_
 refine .V (pkF rfl q2 rfl) ?_
 refine .V ag0 ?_
 refine .nil (.seqN (.ret ?_))
 refine .res1 rfl (rvT rfl) (fun w' S => ⟨false, hF, rfl, S.below⟩)
theorem c_in_ {h : FH} {w : World} (hs : Sub h w) (n_ : Int) (low : Int) (high : Int) : Calls Tryz.prog 25 #[iV n_, iV low, iV high] w fun e w' => e = .returned (.bool (sp_in_ n_ low high)) ∧ Below w.heap.size w w' :=
 (w_in_ hs n_ low high (fun r => r = sp_in_ n_ low high) (ok_in_ n_ low high)).mono fun _ _ ⟨_, hk, he, hb⟩ => ⟨by rw [he, hk], hb⟩
theorem w_at_ {h : FH} {w : World} (hs : Sub h w) (code : Int) (index : Int) (K : Fault → Prop) (hF : F_at_ code index K) : Calls Tryz.prog 18 #[iV code, iV index] w fun e w' => ∃ r : Fault, K r ∧ e = .returned (.agg #[iV r.code, iV r.index]) ∧ Below w.heap.size w w' := by
 refine enter (args := [iV code, iV index]) Tryz.func18 rfl Tryz.ntmps18 rfl hs ?_
 refine .seq (.region ?_)
 refine al tZ27 rfl (fun pv => ?_)
 refine .nil (.seqN (.seq (.region (.V mv0 ?_))))
 refine .V mv0 ?_
 refine .V (bld (cs := #[iV code, iV index]) (pv := [(0, iV code), (1, iV index)]) tB27 rfl rfl) ?_
 refine st (p := pv) (off := 0) (k := 0) (vs := [iV code, iV index]) rfl rfl rfl (fun w => (tA27 w).2) rfl rfl rfl rfl ?_
 refine .KA [Box pv [iV code, iV index]] ?_
 refine .nil (.seqN (.ret ?_))
 refine .res1 rfl (rvC rfl tA27 (k := 0) rfl rfl) (fun w' S => ⟨(⟨code, index⟩ : Fault), hF, rfl, S.below⟩)
theorem c_at_ {h : FH} {w : World} (hs : Sub h w) (code : Int) (index : Int) : Calls Tryz.prog 18 #[iV code, iV index] w fun e w' => e = .returned (.agg #[iV (sp_at_ code index).code, iV (sp_at_ code index).index]) ∧ Below w.heap.size w w' :=
 (w_at_ hs code index (fun r => r = sp_at_ code index) (ok_at_ code index)).mono fun _ _ ⟨_, hk, he, hb⟩ => ⟨by rw [he, hk], hb⟩
theorem w_has {h : FH} {w : World} (hs : Sub h w) (l : List Int) (al2 : Option Addr) (cl2 : Nat) (_q1 : RSl h al2 l) (_q2 : l.length ≤ cl2) (n_ : Int) (K : Bool → Prop) (hF : F_has l n_ K) : Calls Tryz.prog 76 #[.slice al2 l.length cl2, iV n_] w fun e w' => ∃ r : Bool, K r ∧ e = .returned (.bool r) ∧ Below w.heap.size w w' := by
 refine enter (args := [vSl al2 l cl2, iV n_]) Tryz.func76 rfl Tryz.ntmps76 rfl hs ?_
 refine .seq (.region (.V ag0 ?_))
 refine .nil (.seqN (.seq (.seq (.region (.V ag0 ?_)))))
 refine .nil (.seqN (.block ?_))
 obtain ⟨I1, μ1, q45, q46⟩ := hF
 refine .loop' (σ := Int) (fun z => I1 z) (fun z => μ1 z) (fun z => [(0, vSl al2 l cl2), (1, iV n_), (5, iV z)]) (fun _ => []) (fun _ => h) 0 q45 sb rfl (FH.le_refl _) ?_
 rintro i q45
 have hF := q46 i q45
 show J _ _ _ _ _ [(0, vSl al2 l cl2), (1, iV n_), (5, iV i)] [] h
 refine .seq (.seq (.region (.V mv0 ?_)))
 refine .V mv0 ?_
 refine .V (ln rfl tS22.is) ?_
 refine .V bi0 ?_
 refine .nil (.seqN ?_)
 refine .cond rfl (fun q48 => ?_) (fun q48 => ?_)
 ·replace hF := hF.1 q48
  refine .skip (.seqN (.seq (.block (.seq (.region (.V mv0 ?_))))))
  refine .V mv0 ?_
  obtain ⟨q53, hF⟩ := hF
  refine .V (ix rfl rfl tS22 (_q1.ne (by decide) (inb_pos q53)) q53) ?_
  refine .V (ld1 (v := iV (gt l i)) rfl tO3 (cellH (_q1.elemF q53 (by decide) 0 _ rfl))) ?_
  refine .V mv0 ?_
  refine .V bi0 ?_
  refine .nil (.seqN ?_)
  refine .cond rfl (fun q54 => ?_) (fun q54 => ?_)
  ·replace hF := hF.1 q54
   refine .seq (.region (.V ag0 ?_))
   refine .nil (.seqN (.ret (.blkR (.seqR (.seqR (.blkR (.seqR ?_)))))))
   refine .res1 rfl (rvT rfl) (fun w' S => ⟨true, hF, rfl, S.below⟩)
  replace hF := hF.2 q54
  refine .skip (.blkN (.seqN (.region (.V mv0 ?_))))
  refine .V bi0 ?_
  refine .V ag0 ?_
  refine .nil ?_
  exact .RO (wr (i + 1)) hF.1 hF.2
 replace hF := hF.2 q48
 refine .exit (.seqX (.seqX (.blkX (.seqN (.seq (.region (.V ag0 ?_)))))))
 refine .nil (.seqN (.ret ?_))
 refine .res1 rfl (rvT rfl) (fun w' S => ⟨false, hF, rfl, S.below⟩)
theorem c_has {h : FH} {w : World} (hs : Sub h w) (l : List Int) (al2 : Option Addr) (cl2 : Nat) (_q1 : RSl h al2 l) (_q2 : l.length ≤ cl2) (n_ : Int) (hp : pre_has l n_) : Calls Tryz.prog 76 #[.slice al2 l.length cl2, iV n_] w fun e w' => e = .returned (.bool (sp_has l n_)) ∧ Below w.heap.size w w' :=
 (w_has hs l al2 cl2 _q1 _q2 n_ (fun r => r = sp_has l n_) (ok_has l n_ hp)).mono fun _ _ ⟨_, hk, he, hb⟩ => ⟨by rw [he, hk], hb⟩
theorem w_index {h : FH} {w : World} (hs : Sub h w) (s_ : List Int) (as_ : Option Addr) (cs_ : Nat) (_q1 : RSl h as_ s_) (_q2 : s_.length ≤ cs_) (v : Int) (K : Int → Prop) (hF : F_index s_ v K) : Calls Tryz.prog 114 #[.slice as_ s_.length cs_, iV v] w fun e w' => ∃ r : Int, K r ∧ e = .returned (iV r) ∧ Below w.heap.size w w' := by
 refine enter (args := [vSl as_ s_ cs_, iV v]) Tryz.func114 rfl Tryz.ntmps114 rfl hs ?_
 refine .seq (.region (.V ag0 ?_))
 refine .nil (.seqN (.seq (.seq (.region (.V mv0 ?_)))))
 refine .V (ln rfl tS22.is) ?_
 refine .V mv0 ?_
 refine .nil (.seqN (.block ?_))
 obtain ⟨I1, μ1, q50, q51⟩ := hF
 refine .loop' (σ := Int) (fun z => I1 z) (fun z => μ1 z) (fun z => [(0, vSl as_ s_ cs_), (1, iV v), (7, iV ((s_.length : Nat) : Int)), (8, iV z)]) (fun _ => []) (fun _ => h) 0 q50 sb rfl (FH.le_refl _) ?_
 rintro t8 q50
 have hF := q51 t8 q50
 show J _ _ _ _ _ [(0, vSl as_ s_ cs_), (1, iV v), (7, iV ((s_.length : Nat) : Int)), (8, iV t8)] [] h
 refine .seq (.region (.V bi0 ?_))
 refine .nil (.seqN (.seq ?_))
 refine .cond rfl (fun q54 => ?_) (fun q54 => ?_)
 ·replace hF := hF.1 q54
  refine .skip (.seqN (.seq (.block (.seq (.region (.V mv0 ?_))))))
  refine .V ag0 ?_
  refine .nil (.seqN (.seq (.region (.V mv0 ?_))))
  refine .V mv0 ?_
  refine .V mv0 ?_
  obtain ⟨q59, hF⟩ := hF
  refine .V (ix rfl rfl tS22 (_q1.ne (by decide) (inb_pos q59)) q59) ?_
  refine .V (ld1 (v := iV (gt s_ t8)) rfl tO3 (cellH (_q1.elemF q59 (by decide) 0 _ rfl))) ?_
  refine .V bi0 ?_
  refine .nil (.seqN ?_)
  refine .cond rfl (fun q60 => ?_) (fun q60 => ?_)
  ·replace hF := hF.1 q60
   refine .seq (.region (.V mv0 ?_))
   refine .V ag0 ?_
   refine .nil (.seqN (.ret (.blkR (.seqR (.seqR (.blkR (.seqR ?_)))))))
   refine .res1 rfl (rvT rfl) (fun w' S => ⟨t8, hF, rfl, S.below⟩)
  replace hF := hF.2 q60
  refine .skip (.blkN (.seqN (.region (.V bi0 ?_))))
  refine .V mv0 ?_
  refine .nil ?_
  exact .RO (wr (t8 + 1)) hF.1 hF.2
 replace hF := hF.2 q54
 refine .exit (.seqX (.seqX (.blkX (.seqN (.seq (.region (.V ag0 ?_)))))))
 refine .nil (.seqN (.ret ?_))
 refine .res1 rfl (rvT rfl) (fun w' S => ⟨(-1), hF, rfl, S.below⟩)
theorem c_index {h : FH} {w : World} (hs : Sub h w) (s_ : List Int) (as_ : Option Addr) (cs_ : Nat) (_q1 : RSl h as_ s_) (_q2 : s_.length ≤ cs_) (v : Int) (hp : pre_index s_ v) : Calls Tryz.prog 114 #[.slice as_ s_.length cs_, iV v] w fun e w' => e = .returned (iV (sp_index s_ v)) ∧ Below w.heap.size w w' :=
 (w_index hs s_ as_ cs_ _q1 _q2 v (fun r => r = sp_index s_ v) (ok_index s_ v hp)).mono fun _ _ ⟨_, hk, he, hb⟩ => ⟨by rw [he, hk], hb⟩
theorem w_contains {h : FH} {w : World} (hs : Sub h w) (s_ : List Int) (as_ : Option Addr) (cs_ : Nat) (_q1 : RSl h as_ s_) (_q2 : s_.length ≤ cs_) (v : Int) (K : Bool → Prop) (hF : F_contains s_ v K) : Calls Tryz.prog 101 #[.slice as_ s_.length cs_, iV v] w fun e w' => ∃ r : Bool, K r ∧ e = .returned (.bool r) ∧ Below w.heap.size w w' := by
 refine enter (args := [vSl as_ s_ cs_, iV v]) Tryz.func101 rfl Tryz.ntmps101 rfl hs ?_
 refine .seq (.region (.V ag0 ?_))
 refine .nil (.seqN (.seq (.region (.V mv0 ?_))))
 refine .V mv0 ?_
 obtain ⟨q3, hF⟩ := hF
 obtain ⟨r2, q4⟩ : ∃ y_ : Int, y_ = sp_index s_ v := ⟨_, rfl⟩
 replace hF := hF r2 q4
 refine .C (cl (v := iV r2) Tryz.call114 rfl rfl (fun w S => (by rw [q4]; exact c_index S.sub s_ as_ cs_ _q1 _q2 v q3))) ?_
 refine .V bi0 ?_
 refine .V ag0 ?_
 refine .nil (.seqN (.ret ?_))
 refine .res1 rfl (rvT rfl) (fun w' S => ⟨decide (0 ≤ r2), hF, rfl, S.below⟩)
theorem c_contains {h : FH} {w : World} (hs : Sub h w) (s_ : List Int) (as_ : Option Addr) (cs_ : Nat) (_q1 : RSl h as_ s_) (_q2 : s_.length ≤ cs_) (v : Int) (hp : pre_index s_ v) : Calls Tryz.prog 101 #[.slice as_ s_.length cs_, iV v] w fun e w' => e = .returned (.bool (sp_contains s_ v)) ∧ Below w.heap.size w w' :=
 (w_contains hs s_ as_ cs_ _q1 _q2 v (fun r => r = sp_contains s_ v) (ok_contains s_ v hp)).mono fun _ _ ⟨_, hk, he, hb⟩ => ⟨by rw [he, hk], hb⟩
theorem w_isNaN1 {h : FH} {w : World} (hs : Sub h w) (x : Int) (K : Bool → Prop) (hF : F_isNaN1 x K) : Calls Tryz.prog 122 #[iV x] w fun e w' => ∃ r : Bool, K r ∧ e = .returned (.bool r) ∧ Below w.heap.size w w' := by
 refine enter (args := [iV x]) Tryz.func122 rfl Tryz.ntmps122 rfl hs ?_
 refine .seq (.region (.V ag0 ?_))
 refine .nil (.seqN (.seq (.region (.V mv0 ?_))))
 refine .V mv0 ?_
 refine .V bi0 ?_
 refine .V ag0 ?_
 refine .nil (.seqN (.ret ?_))
 refine .res1 rfl (rvT rfl) (fun w' S => ⟨x != x, hF, rfl, S.below⟩)
theorem c_isNaN1 {h : FH} {w : World} (hs : Sub h w) (x : Int) : Calls Tryz.prog 122 #[iV x] w fun e w' => e = .returned (.bool (sp_isNaN1 x)) ∧ Below w.heap.size w w' :=
 (w_isNaN1 hs x (fun r => r = sp_isNaN1 x) (ok_isNaN1 x)).mono fun _ _ ⟨_, hk, he, hb⟩ => ⟨by rw [he, hk], hb⟩
theorem w_isNaN2 {h : FH} {w : World} (hs : Sub h w) (x : Int) (K : Bool → Prop) (hF : F_isNaN2 x K) : Calls Tryz.prog 117 #[iV x] w fun e w' => ∃ r : Bool, K r ∧ e = .returned (.bool r) ∧ Below w.heap.size w w' := by
 refine enter (args := [iV x]) Tryz.func117 rfl Tryz.ntmps117 rfl hs ?_
 refine .seq (.region (.V ag0 ?_))
 refine .nil (.seqN (.seq (.region (.V mv0 ?_))))
 refine .V mv0 ?_
 refine .V bi0 ?_
 refine .V ag0 ?_
 refine .nil (.seqN (.ret ?_))
 refine .res1 rfl (rvT rfl) (fun w' S => ⟨x != x, hF, rfl, S.below⟩)
theorem c_isNaN2 {h : FH} {w : World} (hs : Sub h w) (x : Int) : Calls Tryz.prog 117 #[iV x] w fun e w' => e = .returned (.bool (sp_isNaN1 x)) ∧ Below w.heap.size w w' :=
 (w_isNaN2 hs x (fun r => r = sp_isNaN1 x) (ok_isNaN2 x)).mono fun _ _ ⟨_, hk, he, hb⟩ => ⟨by rw [he, hk], hb⟩
theorem w_less {h : FH} {w : World} (hs : Sub h w) (x : Int) (y : Int) (K : Bool → Prop) (hF : F_less x y K) : Calls Tryz.prog 116 #[iV x, iV y] w fun e w' => ∃ r : Bool, K r ∧ e = .returned (.bool r) ∧ Below w.heap.size w w' := by
 refine enter (args := [iV x, iV y]) Tryz.func116 rfl Tryz.ntmps116 rfl hs ?_
 refine .seq (.region (.V ag0 ?_))
 refine .nil (.seqN (.seq (.region (.V mv0 ?_))))
 obtain ⟨r2, q5⟩ : ∃ y_ : Bool, y_ = sp_isNaN1 x := ⟨_, rfl⟩
 replace hF := hF r2 q5
 refine .C (cl (v := .bool r2) Tryz.call122 rfl rfl (fun w S => (by rw [q5]; exact c_isNaN1 S.sub x ))) ?_
 refine .V mv0 ?_
 rcases Bool.eq_false_or_eq_true (r2) with q6 | q6
 ·replace hF := hF.1 q6
  refine .GV mv0 q6 ?_
  obtain ⟨r3, q7⟩ : ∃ y_ : Bool, y_ = sp_isNaN1 y := ⟨_, rfl⟩
  replace hF := hF r3 q7
  refine .gc (cl (v := .bool r3) Tryz.call122 rfl rfl (fun w S => (by rw [q7]; exact c_isNaN1 S.sub y ))) rfl rfl rfl q6 rfl rfl ?_
  refine .GV (nt rfl) q6 ?_
  refine .V (pkT rfl q6 rfl) ?_
  refine .V mv0 ?_
  rcases Bool.eq_false_or_eq_true (!r3) with q8 | q8
  ·replace hF := hF.1 q8
   refine .GS q8 ?_
   refine .GS q8 ?_
   refine .GS q8 ?_
   refine .V (pkT rfl q8 rfl) ?_
   refine .V ag0 ?_
   refine .nil (.seqN (.ret ?_))
   refine .res1 rfl (rvT rfl) (fun w' S => ⟨true, hF, rfl, S.below⟩)
  replace hF := hF.2 q8
  refine .GV mv0 q8 ?_
  refine .GV mv0 q8 ?_
  refine .GV bi0 q8 ?_
  refine .V (pkF rfl q8 rfl) ?_
  refine .V ag0 ?_
  refine .nil (.seqN (.ret ?_))
  refine .res1 rfl (rvT rfl) (fun w' S => ⟨decide (x < y), hF, rfl, S.below⟩)
 replace hF := hF.2 q6
 refine .GS q6 ?_
 refine .GS q6 ?_
 refine .GS q6 ?_
 refine .V (pkF rfl q6 rfl) ?_
 refine .V mv0 ?_
 refine .gv mv0 rfl rfl rfl rfl rfl rfl ?_
 refine .gv mv0 rfl rfl rfl rfl rfl rfl ?_
 refine .gv bi0 rfl rfl rfl rfl rfl rfl ?_
 refine .V (pkF rfl rfl rfl) ?_
 refine .V ag0 ?_
 refine .nil (.seqN (.ret ?_))
 refine .res1 rfl (rvT rfl) (fun w' S => ⟨decide (x < y), hF, rfl, S.below⟩)
theorem c_less {h : FH} {w : World} (hs : Sub h w) (x : Int) (y : Int) : Calls Tryz.prog 116 #[iV x, iV y] w fun e w' => e = .returned (.bool (sp_less x y)) ∧ Below w.heap.size w w' :=
 (w_less hs x y (fun r => r = sp_less x y) (ok_less x y)).mono fun _ _ ⟨_, hk, he, hb⟩ => ⟨by rw [he, hk], hb⟩
set_option maxHeartbeats 8000000 in
theorem w_bsearch {h : FH} {w : World} (hs : Sub h w) (x : List Int) (ax : Option Addr) (cx : Nat) (_q1 : RSl h ax x) (_q2 : x.length ≤ cx) (target : Int) (K : (Int × Bool) → Prop) (hF : F_bsearch x target K) : Calls Tryz.prog 104 #[.slice ax x.length cx, iV target] w fun e w' => ∃ r : Int × Bool, K r ∧ e = .returned (.tuple #[iV r.1, .bool r.2]) ∧ Below w.heap.size w w' := by
 refine enter (args := [vSl ax x cx, iV target]) Tryz.func104 rfl Tryz.ntmps104 rfl hs ?_
 refine .seq (.region (.V ag0 ?_))
 refine .V ag0 ?_
 refine .nil (.seqN (.seq (.region (.V mv0 ?_))))
 refine .V (ln rfl tS22.is) ?_
 refine .V ag0 ?_
 refine .nil (.seqN (.seq (.region (.V mv0 ?_))))
 refine .V ag0 ?_
 refine .V ag0 ?_
 refine .nil (.seqN (.seq (.block ?_)))
 obtain ⟨I1, μ1, q55, q56⟩ := hF
 refine .loop' (σ := Int × Int) (fun z => I1 z.1 z.2) (fun z => μ1 z.1 z.2) (fun z => [(0, vSl ax x cx), (1, iV target), (6, iV ((x.length : Nat) : Int)), (7, iV z.1), (8, iV z.2)]) (fun _ => []) (fun _ => h) (0, ((x.length : Nat) : Int)) q55 sb rfl (FH.le_refl _) ?_
 rintro ⟨i, j⟩ q55
 have hF := q56 i j q55
 show J _ _ _ _ _ [(0, vSl ax x cx), (1, iV target), (6, iV ((x.length : Nat) : Int)), (7, iV i), (8, iV j)] [] h
 refine .seq (.seq (.region (.V mv0 ?_)))
 refine .V mv0 ?_
 refine .V bi0 ?_
 refine .nil (.seqN ?_)
 refine .cond rfl (fun q58 => ?_) (fun q58 => ?_)
 ·replace hF := hF.1 q58
  refine .skip (.seqN (.block (.seq (.region (.V mv0 ?_)))))
  refine .V mv0 ?_
  refine .V bi0 ?_
  refine .V (cv Tryz.underlying3 Tryz.underlying131 rfl) ?_
  obtain ⟨x2, q59⟩ : ∃ y_ : Int, y_ = (Int.fdiv (IntKind.u64.wrap (wr (i + j))) (2 ^ (min ((1 : Int)).toNat (IntKind.bits .u64)))) := ⟨_, rfl⟩
  replace hF := hF x2 q59
  refine .v (v := .int .u64 x2) (by rw [q59]; exact bsh rfl rfl (by decide) rfl) rfl rfl rfl ?_
  refine .V (cv Tryz.underlying131 Tryz.underlying3 rfl) ?_
  refine .V ag0 ?_
  refine .nil (.seqN (.seq (.region (.V mv0 ?_))))
  refine .V mv0 ?_
  obtain ⟨q60, hF⟩ := hF
  refine .V (ix rfl rfl tS22 (_q1.ne (by decide) (inb_pos q60)) q60) ?_
  refine .V (ld1 (v := iV (gt x (wr (x2)))) rfl tO3 (cellH (_q1.elemF q60 (by decide) 0 _ rfl))) ?_
  refine .V mv0 ?_
  obtain ⟨r2, q61⟩ : ∃ y_ : Bool, y_ = sp_less (gt x (wr (x2))) target := ⟨_, rfl⟩
  replace hF := hF r2 q61
  refine .C (cl (v := .bool r2) Tryz.call116 rfl rfl (fun w S => (by rw [q61]; exact c_less S.sub (gt x (wr (x2))) target ))) ?_
  refine .nil (.seqN ?_)
  refine .cond rfl (fun q62 => ?_) (fun q62 => ?_)
  ·replace hF := hF.1 q62
   refine .region (.V mv0 ?_)
   refine .V bi0 ?_
   refine .V ag0 ?_
   refine .nil (.blkN ?_)
   exact .RO (wr ((wr (x2)) + 1), j) hF.1 hF.2
  replace hF := hF.2 q62
  refine .region (.V mv0 ?_)
  refine .V ag0 ?_
  refine .nil (.blkN ?_)
  exact .RO (i, wr (x2)) hF.1 hF.2
 replace hF := hF.2 q58
 refine .exit (.seqX (.seqX (.blkX (.seqN (.seq (.region (.V mv0 ?_)))))))
 refine .V mv0 ?_
 refine .V mv0 ?_
 refine .V bi0 ?_
 refine .V mv0 ?_
 rcases Bool.eq_false_or_eq_true (decide (i < ((x.length : Nat) : Int))) with q69 | q69
 ·replace hF := hF.1 q69
  refine .GV mv0 q69 ?_
  refine .GV mv0 q69 ?_
  obtain ⟨q70, hF⟩ := hF
  refine .GV (ix rfl rfl tS22 (_q1.ne (by decide) (inb_pos q70)) q70) q69 ?_
  refine .GV (ld1 (v := iV (gt x i)) rfl tO3 (cellH (_q1.elemF q70 (by decide) 0 _ rfl))) q69 ?_
  refine .GV mv0 q69 ?_
  refine .GV bi0 q69 ?_
  refine .GV mv0 q69 ?_
  rcases Bool.eq_false_or_eq_true ((gt x i) == target) with q71 | q71
  ·replace hF := hF.1 q71
   refine .GS q71 ?_
   refine .GS q71 ?_
   refine .GS q71 ?_
   refine .GS q71 ?_
   refine .GS q71 ?_
   refine .GS q71 ?_
   refine .GU ?_
   refine .GU ?_
   refine .GS q71 ?_
   refine .GV (pkT rfl q71 rfl) q69 ?_
   refine .V (pkT rfl q69 rfl) ?_
   refine .V ag0 ?_
   refine .V ag0 ?_
   refine .nil (.seqN (.ret ?_))
   refine .res2 rfl (rvT rfl) (rvT rfl) (fun w' S => ⟨(i, true), hF, rfl, S.below⟩)
  replace hF := hF.2 q71
  refine .GV mv0 q71 ?_
  refine .GV mv0 q71 ?_
  refine .GV (ix rfl rfl tS22 (_q1.ne (by decide) (inb_pos q70)) q70) q71 ?_
  refine .GV (ld1 (v := iV (gt x i)) rfl tO3 (cellH (_q1.elemF q70 (by decide) 0 _ rfl))) q71 ?_
  obtain ⟨r3, q72⟩ : ∃ y_ : Bool, y_ = sp_isNaN1 (gt x i) := ⟨_, rfl⟩
  replace hF := hF r3 q72
  refine .gc (cl (v := .bool r3) Tryz.call117 rfl rfl (fun w S => (by rw [q72]; exact c_isNaN2 S.sub (gt x i) ))) rfl rfl rfl q71 rfl rfl ?_
  refine .GV mv0 q71 ?_
  rcases Bool.eq_false_or_eq_true (r3) with q73 | q73
  ·replace hF := hF.1 q73
   refine .GV mv0 q73 ?_
   obtain ⟨r4, q74⟩ : ∃ y_ : Bool, y_ = sp_isNaN1 target := ⟨_, rfl⟩
   replace hF := hF r4 q74
   refine .gc (cl (v := .bool r4) Tryz.call117 rfl rfl (fun w S => (by rw [q74]; exact c_isNaN2 S.sub target ))) rfl rfl rfl q73 rfl rfl ?_
   refine .GV (pkT rfl q73 rfl) q71 ?_
   refine .GV (pkF rfl q71 rfl) q69 ?_
   refine .V (pkT rfl q69 rfl) ?_
   refine .V ag0 ?_
   refine .V ag0 ?_
   refine .nil (.seqN (.ret ?_))
   refine .res2 rfl (rvT rfl) (rvT rfl) (fun w' S => ⟨(i, r4), hF, rfl, S.below⟩)
  replace hF := hF.2 q73
  refine .GS q73 ?_
  refine .GS q73 ?_
  refine .GV (pkF rfl q73 rfl) q71 ?_
  refine .GV (pkF rfl q71 rfl) q69 ?_
  refine .V (pkT rfl q69 rfl) ?_
  refine .V ag0 ?_
  refine .V ag0 ?_
  refine .nil (.seqN (.ret ?_))
  refine .res2 rfl (rvT rfl) (rvT rfl) (fun w' S => ⟨(i, false), hF, rfl, S.below⟩)
 replace hF := hF.2 q69
 refine .GS q69 ?_
 refine .GS q69 ?_
 refine .GS q69 ?_
 refine .GS q69 ?_
 refine .GS q69 ?_
 refine .GS q69 ?_
 refine .GS q69 ?_
 refine .GU ?_
 refine .GU ?_
 refine .GU ?_
 refine .GU ?_
 refine .GU ?_
 refine .GU ?_
 refine .GU ?_
 refine .GU ?_
 refine .GU ?_
 refine .GS q69 ?_
 refine .V (pkF rfl q69 rfl) ?_
 refine .V ag0 ?_
 refine .V ag0 ?_
 refine .nil (.seqN (.ret ?_))
 refine .res2 rfl (rvT rfl) (rvT rfl) (fun w' S => ⟨(i, false), hF, rfl, S.below⟩)
theorem c_bsearch {h : FH} {w : World} (hs : Sub h w) (x : List Int) (ax : Option Addr) (cx : Nat) (_q1 : RSl h ax x) (_q2 : x.length ≤ cx) (target : Int) (hp : pre_bsearch x target) : Calls Tryz.prog 104 #[.slice ax x.length cx, iV target] w fun e w' => e = .returned (.tuple #[iV (sp_bsearch x target).1, .bool (sp_bsearch x target).2]) ∧ Below w.heap.size w w' :=
 (w_bsearch hs x ax cx _q1 _q2 target (fun r => r = sp_bsearch x target) (ok_bsearch x target hp)).mono fun _ _ ⟨_, hk, he, hb⟩ => ⟨by rw [he, hk], hb⟩
theorem w_indexF {h : FH} {w : World} (hs : Sub h w) (s_ : List Int) (as_ : Option Addr) (cs_ : Nat) (_q1 : RSl h as_ s_) (_q2 : s_.length ≤ cs_) (pf : Int → Bool) (Df : Int → Prop) (ff : FuncId) (firstf capsf : Array Value) (hff : ∀ args w, (callFunc ff args).run Tryz.prog w = .ok (.enter ff args) w) (hpf : ∀ (x : Int) (w' : World), Df x → Sub h w' → Calls Tryz.prog ff (firstf.toList ++ [(iV x : Value)] ++ capsf.toList).toArray w' fun e w'' => e = .returned (.bool (pf x)) ∧ Below w'.heap.size w' w'') (K : Int → Prop) (hF : F_indexF s_ pf Df K) : Calls Tryz.prog 149 #[.slice as_ s_.length cs_, .func (.func ff) firstf capsf] w fun e w' => ∃ r : Int, K r ∧ e = .returned (iV r) ∧ Below w.heap.size w w' := by
 refine enter (args := [vSl as_ s_ cs_, .func (.func ff) firstf capsf]) Tryz.func149 rfl Tryz.ntmps149 rfl hs ?_
 refine .seq (.region (.V ag0 ?_))
 refine .nil (.seqN (.seq (.seq (.region (.V mv0 ?_)))))
 refine .V (ln rfl tS22.is) ?_
 refine .V mv0 ?_
 refine .nil (.seqN (.block ?_))
 obtain ⟨I1, μ1, q80, q81⟩ := hF
 refine .loop' (σ := Int) (fun z => I1 z) (fun z => μ1 z) (fun z => [(0, vSl as_ s_ cs_), (1, .func (.func ff) firstf capsf), (7, iV ((s_.length : Nat) : Int)), (8, iV z)]) (fun _ => []) (fun _ => h) 0 q80 sb rfl (FH.le_refl _) ?_
 rintro t8 q80
 have hF := q81 t8 q80
 show J _ _ _ _ _ [(0, vSl as_ s_ cs_), (1, .func (.func ff) firstf capsf), (7, iV ((s_.length : Nat) : Int)), (8, iV t8)] [] h
 refine .seq (.region (.V bi0 ?_))
 refine .nil (.seqN (.seq ?_))
 refine .cond rfl (fun q84 => ?_) (fun q84 => ?_)
 ·replace hF := hF.1 q84
  refine .skip (.seqN (.seq (.block (.seq (.region (.V mv0 ?_))))))
  refine .V ag0 ?_
  refine .nil (.seqN (.seq (.region (.V mv0 ?_))))
  refine .V mv0 ?_
  refine .V mv0 ?_
  obtain ⟨q93, hF⟩ := hF
  refine .V (ix rfl rfl tS22 (_q1.ne (by decide) (inb_pos q93)) q93) ?_
  refine .V (ld1 (v := iV (gt s_ t8)) rfl tO3 (cellH (_q1.elemF q93 (by decide) 0 _ rfl))) ?_
  obtain ⟨q94, hF⟩ := hF
  obtain ⟨r2, q95⟩ : ∃ y_ : Bool, y_ = pf (gt s_ t8) := ⟨_, rfl⟩
  replace hF := hF r2 q95
  refine .C (cl (v := .bool r2) hff rfl rfl (fun w S => (by rw [q95]; exact hpf (gt s_ t8) w q94 (S.sub.anti (FH.le_refl _))))) ?_
  refine .nil (.seqN ?_)
  refine .cond rfl (fun q96 => ?_) (fun q96 => ?_)
  ·replace hF := hF.1 q96
   refine .seq (.region (.V mv0 ?_))
   refine .V ag0 ?_
   refine .nil (.seqN (.ret (.blkR (.seqR (.seqR (.blkR (.seqR ?_)))))))
   refine .res1 rfl (rvT rfl) (fun w' S => ⟨t8, hF, rfl, S.below⟩)
  replace hF := hF.2 q96
  refine .skip (.blkN (.seqN (.region (.V bi0 ?_))))
  refine .V mv0 ?_
  refine .nil ?_
  exact .RO (wr (t8 + 1)) hF.1 hF.2
 replace hF := hF.2 q84
 refine .exit (.seqX (.seqX (.blkX (.seqN (.seq (.region (.V ag0 ?_)))))))
 refine .nil (.seqN (.ret ?_))
 refine .res1 rfl (rvT rfl) (fun w' S => ⟨(-1), hF, rfl, S.below⟩)
theorem c_indexF {h : FH} {w : World} (hs : Sub h w) (s_ : List Int) (as_ : Option Addr) (cs_ : Nat) (_q1 : RSl h as_ s_) (_q2 : s_.length ≤ cs_) (pf : Int → Bool) (Df : Int → Prop) (ff : FuncId) (firstf capsf : Array Value) (hff : ∀ args w, (callFunc ff args).run Tryz.prog w = .ok (.enter ff args) w) (hpf : ∀ (x : Int) (w' : World), Df x → Sub h w' → Calls Tryz.prog ff (firstf.toList ++ [(iV x : Value)] ++ capsf.toList).toArray w' fun e w'' => e = .returned (.bool (pf x)) ∧ Below w'.heap.size w' w'') (hp : pre_any s_ pf Df) : Calls Tryz.prog 149 #[.slice as_ s_.length cs_, .func (.func ff) firstf capsf] w fun e w' => e = .returned (iV (sp_indexF s_ pf Df)) ∧ Below w.heap.size w w' :=
 (w_indexF hs s_ as_ cs_ _q1 _q2 pf Df ff firstf capsf hff hpf (fun r => r = sp_indexF s_ pf Df) (ok_indexF s_ pf Df hp)).mono fun _ _ ⟨_, hk, he, hb⟩ => ⟨by rw [he, hk], hb⟩
theorem w_containsF {h : FH} {w : World} (hs : Sub h w) (s_ : List Int) (as_ : Option Addr) (cs_ : Nat) (_q1 : RSl h as_ s_) (_q2 : s_.length ≤ cs_) (pf : Int → Bool) (Df : Int → Prop) (ff : FuncId) (firstf capsf : Array Value) (hff : ∀ args w, (callFunc ff args).run Tryz.prog w = .ok (.enter ff args) w) (hpf : ∀ (x : Int) (w' : World), Df x → Sub h w' → Calls Tryz.prog ff (firstf.toList ++ [(iV x : Value)] ++ capsf.toList).toArray w' fun e w'' => e = .returned (.bool (pf x)) ∧ Below w'.heap.size w' w'') (K : Bool → Prop) (hF : F_containsF s_ pf Df K) : Calls Tryz.prog 124 #[.slice as_ s_.length cs_, .func (.func ff) firstf capsf] w fun e w' => ∃ r : Bool, K r ∧ e = .returned (.bool r) ∧ Below w.heap.size w w' := by
 refine enter (args := [vSl as_ s_ cs_, .func (.func ff) firstf capsf]) Tryz.func124 rfl Tryz.ntmps124 rfl hs ?_
 refine .seq (.region (.V ag0 ?_))
 refine .nil (.seqN (.seq (.region (.V mv0 ?_))))
 refine .V mv0 ?_
 obtain ⟨q3, hF⟩ := hF
 obtain ⟨r2, q4⟩ : ∃ y_ : Int, y_ = sp_indexF s_ pf Df := ⟨_, rfl⟩
 replace hF := hF r2 q4
 refine .C (cl (v := iV r2) Tryz.call149 rfl rfl (fun w S => (by rw [q4]; exact c_indexF S.sub s_ as_ cs_ _q1 _q2 pf Df ff firstf capsf hff hpf q3))) ?_
 refine .V bi0 ?_
 refine .V ag0 ?_
 refine .nil (.seqN (.ret ?_))
 refine .res1 rfl (rvT rfl) (fun w' S => ⟨decide (0 ≤ r2), hF, rfl, S.below⟩)
theorem c_containsF {h : FH} {w : World} (hs : Sub h w) (s_ : List Int) (as_ : Option Addr) (cs_ : Nat) (_q1 : RSl h as_ s_) (_q2 : s_.length ≤ cs_) (pf : Int → Bool) (Df : Int → Prop) (ff : FuncId) (firstf capsf : Array Value) (hff : ∀ args w, (callFunc ff args).run Tryz.prog w = .ok (.enter ff args) w) (hpf : ∀ (x : Int) (w' : World), Df x → Sub h w' → Calls Tryz.prog ff (firstf.toList ++ [(iV x : Value)] ++ capsf.toList).toArray w' fun e w'' => e = .returned (.bool (pf x)) ∧ Below w'.heap.size w' w'') (hp : pre_any s_ pf Df) : Calls Tryz.prog 124 #[.slice as_ s_.length cs_, .func (.func ff) firstf capsf] w fun e w' => e = .returned (.bool (sp_any s_ pf Df)) ∧ Below w.heap.size w w' :=
 (w_containsF hs s_ as_ cs_ _q1 _q2 pf Df ff firstf capsf hff hpf (fun r => r = sp_any s_ pf Df) (ok_containsF s_ pf Df hp)).mono fun _ _ ⟨_, hk, he, hb⟩ => ⟨by rw [he, hk], hb⟩
set_option maxHeartbeats 8000000 in
theorem w_isSet {h : FH} {w : World} (hs : Sub h w) (l : List Int) (al2 : Option Addr) (cl2 : Nat) (_q1 : RSl h al2 l) (_q2 : l.length ≤ cl2) (n_ : Int) (K : Bool → Prop) (hF : F_isSet l n_ K) : Calls Tryz.prog 61 #[.slice al2 l.length cl2, iV n_] w fun e w' => ∃ r : Bool, K r ∧ e = .returned (.bool r) ∧ Below w.heap.size w w' := by
 refine enter (args := [vSl al2 l cl2, iV n_]) Tryz.func61 rfl Tryz.ntmps61 rfl hs ?_
 refine .seq (.region (.V ag0 ?_))
 refine .nil (.seqN (.seq (.seq (.region (.V mv0 ?_)))))
 refine .V (ln rfl tS22.is) ?_
 refine .V mv0 ?_
 refine .nil (.seqN (.block ?_))
 obtain ⟨I1, μ1, q185, q186⟩ := hF
 refine .loop' (σ := Int) (fun z => I1 z) (fun z => μ1 z) (fun z => [(0, vSl al2 l cl2), (1, iV n_), (7, vSl al2 l cl2), (8, iV ((l.length : Nat) : Int)), (9, iV z)]) (fun _ => []) (fun _ => h) 0 q185 sb rfl (FH.le_refl _) ?_
 rintro t9 q185
 have hF := q186 t9 q185
 show J _ _ _ _ _ [(0, vSl al2 l cl2), (1, iV n_), (7, vSl al2 l cl2), (8, iV ((l.length : Nat) : Int)), (9, iV t9)] [] h
 refine .seq (.region (.V bi0 ?_))
 refine .nil (.seqN (.seq ?_))
 refine .cond rfl (fun q189 => ?_) (fun q189 => ?_)
 ·replace hF := hF.1 q189
  refine .skip (.seqN (.seq (.block (.seq (.region (.V mv0 ?_))))))
  obtain ⟨q212, hF⟩ := hF
  refine .V (ix rfl rfl tS22 (_q1.ne (by decide) (inb_pos q212)) q212) ?_
  refine .V (ld1 (v := iV (gt l t9)) rfl tO3 (cellH (_q1.elemF q212 (by decide) 0 _ rfl))) ?_
  refine .V ag0 ?_
  refine .V ag0 ?_
  refine .nil (.seqN ?_)
  refine .share (σ := Bool) (fun z => F_isSet_J1 K z t9 I1 μ1) (fun z => [(0, vSl al2 l cl2), (1, iV n_), (7, vSl al2 l cl2), (8, iV ((l.length : Nat) : Int)), (9, iV t9), (33, .bool z)]) (fun _ => []) (fun _ => h) ?_ (fun q217 => ?_)
  ·rintro t33 hF
   show J _ _ _ _ _ [(0, vSl al2 l cl2), (1, iV n_), (7, vSl al2 l cl2), (8, iV ((l.length : Nat) : Int)), (9, iV t9), (33, .bool t33)] [] h
   refine .cond rfl (fun q218 => ?_) (fun q218 => ?_)
   ·replace hF := hF.1 q218
    refine .seq (.region (.V ag0 ?_))
    refine .nil (.seqN (.ret (.blkR (.seqR (.seqR (.blkR (.seqR ?_)))))))
    refine .res1 rfl (rvT rfl) (fun w' S => ⟨false, hF, rfl, S.below⟩)
   replace hF := hF.2 q218
   refine .skip (.blkN (.seqN (.region (.V bi0 ?_))))
   refine .V mv0 ?_
   refine .nil ?_
   exact .RO (wr (t9 + 1)) hF.1 hF.2
  refine .region (.V mv0 ?_)
  refine .V bi0 ?_
  refine .V mv0 ?_
  rcases Bool.eq_false_or_eq_true (decide ((gt l t9) < 0)) with q219 | q219
  ·replace hF := hF.1 q219
   refine .GS q219 ?_
   refine .GS q219 ?_
   refine .GS q219 ?_
   refine .V (pkT rfl q219 rfl) ?_
   refine .V mv0 ?_
   refine .gS rfl rfl rfl rfl rfl rfl ?_
   refine .gS rfl rfl rfl rfl rfl rfl ?_
   refine .gS rfl rfl rfl rfl rfl rfl ?_
   refine .GU ?_
   refine .GU ?_
   refine .GU ?_
   refine .GU ?_
   refine .GU ?_
   refine .GU ?_
   refine .GU ?_
   refine .gS rfl rfl rfl rfl rfl rfl ?_
   refine .V (pkT rfl rfl rfl) ?_
   refine .nil ?_
   exact .US q217 true hF
  replace hF := hF.2 q219
  refine .GV mv0 q219 ?_
  refine .GV mv0 q219 ?_
  refine .GV bi0 q219 ?_
  refine .V (pkF rfl q219 rfl) ?_
  refine .V mv0 ?_
  rcases Bool.eq_false_or_eq_true (decide (n_ ≤ (gt l t9))) with q220 | q220
  ·replace hF := hF.1 q220
   refine .GS q220 ?_
   refine .GS q220 ?_
   refine .GS q220 ?_
   refine .GU ?_
   refine .GU ?_
   refine .GU ?_
   refine .GU ?_
   refine .GU ?_
   refine .GU ?_
   refine .GU ?_
   refine .GS q220 ?_
   refine .V (pkT rfl q220 rfl) ?_
   refine .nil ?_
   exact .US q217 true hF
  replace hF := hF.2 q220
  refine .GV mv0 q220 ?_
  refine .GV bi0 q220 ?_
  refine .GV mv0 q220 ?_
  rcases Bool.eq_false_or_eq_true (decide (0 < t9)) with q221 | q221
  ·replace hF := hF.1 q221
   refine .GV mv0 q221 ?_
   refine .GV mv0 q221 ?_
   refine .GV mv0 q221 ?_
   refine .GV bi0 q221 ?_
   obtain ⟨q222, hF⟩ := hF
   refine .GV (ix rfl rfl tS22 (_q1.ne (by decide) (inb_pos q222)) q222) q221 ?_
   refine .GV (ld1 (v := iV (gt l (wr (t9 - 1)))) rfl tO3 (cellH (_q1.elemF q222 (by decide) 0 _ rfl))) q221 ?_
   refine .GV bi0 q221 ?_
   refine .GV (pkT rfl q221 rfl) q220 ?_
   refine .V (pkF rfl q220 rfl) ?_
   refine .nil ?_
   exact .US q217 (decide ((gt l t9) ≤ (gt l (wr (t9 - 1))))) hF
  replace hF := hF.2 q221
  refine .GS q221 ?_
  refine .GS q221 ?_
  refine .GS q221 ?_
  refine .GS q221 ?_
  refine .GS q221 ?_
  refine .GS q221 ?_
  refine .GS q221 ?_
  refine .GV (pkF rfl q221 rfl) q220 ?_
  refine .V (pkF rfl q220 rfl) ?_
  refine .nil ?_
  exact .US q217 false hF
 replace hF := hF.2 q189
 refine .exit (.seqX (.seqX (.blkX (.seqN (.seq (.region (.V ag0 ?_)))))))
 refine .nil (.seqN (.ret ?_))
 refine .res1 rfl (rvT rfl) (fun w' S => ⟨true, hF, rfl, S.below⟩)
theorem c_isSet {h : FH} {w : World} (hs : Sub h w) (l : List Int) (al2 : Option Addr) (cl2 : Nat) (_q1 : RSl h al2 l) (_q2 : l.length ≤ cl2) (n_ : Int) (hp : pre_isSet l n_) : Calls Tryz.prog 61 #[.slice al2 l.length cl2, iV n_] w fun e w' => e = .returned (.bool (sp_isSet l n_)) ∧ Below w.heap.size w w' :=
 (w_isSet hs l al2 cl2 _q1 _q2 n_ (fun r => r = sp_isSet l n_) (ok_isSet l n_ hp)).mono fun _ _ ⟨_, hk, he, hb⟩ => ⟨by rw [he, hk], hb⟩
theorem w_rIsSet {h : FH} {w : World} (hs : Sub h w) (l : List Int) (al2 : Option Addr) (cl2 : Nat) (_q1 : RSl h al2 l) (_q2 : l.length ≤ cl2) (n_ : Int) (K : Bool → Prop) (hF : F_rIsSet l n_ K) : Calls Tryz.prog 26 #[.slice al2 l.length cl2, iV n_] w fun e w' => ∃ r : Bool, K r ∧ e = .returned (.bool r) ∧ Below w.heap.size w w' := by
 refine enter (args := [vSl al2 l cl2, iV n_]) Tryz.func26 rfl Tryz.ntmps26 rfl hs ?_
 refine .seq (.region (.V ag0 ?_))
 refine .nil (.seqN (.seq (.seq (.region (.V ag0 ?_)))))
 refine .nil (.seqN (.block ?_))
 obtain ⟨I1, μ1, q195, q196⟩ := hF
 refine .loop' (σ := Int) (fun z => I1 z) (fun z => μ1 z) (fun z => [(0, vSl al2 l cl2), (1, iV n_), (5, iV z)]) (fun _ => []) (fun _ => h) 0 q195 sb rfl (FH.le_refl _) ?_
 rintro i q195
 have hF := q196 i q195
 show J _ _ _ _ _ [(0, vSl al2 l cl2), (1, iV n_), (5, iV i)] [] h
 refine .seq (.seq (.region (.V mv0 ?_)))
 refine .V mv0 ?_
 refine .V (ln rfl tS22.is) ?_
 refine .V bi0 ?_
 refine .nil (.seqN ?_)
 refine .cond rfl (fun q198 => ?_) (fun q198 => ?_)
 ·replace hF := hF.1 q198
  refine .skip (.seqN (.seq (.block ?_)))
  refine .share (σ := Bool) (fun z => F_rIsSet_J1 K z i I1 μ1) (fun z => [(0, vSl al2 l cl2), (1, iV n_), (5, iV i), (35, .bool z)]) (fun _ => []) (fun _ => h) ?_ (fun q228 => ?_)
  ·rintro t35 hF
   show J _ _ _ _ _ [(0, vSl al2 l cl2), (1, iV n_), (5, iV i), (35, .bool t35)] [] h
   refine .cond rfl (fun q229 => ?_) (fun q229 => ?_)
   ·replace hF := hF.1 q229
    refine .seq (.region (.V ag0 ?_))
    refine .nil (.seqN (.ret (.blkR (.seqR (.seqR (.blkR (.seqR ?_)))))))
    refine .res1 rfl (rvT rfl) (fun w' S => ⟨false, hF, rfl, S.below⟩)
   replace hF := hF.2 q229
   refine .skip (.blkN (.seqN (.region (.V mv0 ?_))))
   refine .V bi0 ?_
   refine .V ag0 ?_
   refine .nil ?_
   exact .RO (wr (i + 1)) hF.1 hF.2
  refine .open_ (by kernel_rfl) (by kernel_rfl) ?_
  refine .V mv0 ?_
  refine .V mv0 ?_
  obtain ⟨q230, hF⟩ := hF
  refine .V (ix rfl rfl tS22 (_q1.ne (by decide) (inb_pos q230)) q230) ?_
  refine .V (ld1 (v := iV (gt l i)) rfl tO3 (cellH (_q1.elemF q230 (by decide) 0 _ rfl))) ?_
  refine .V mv0 ?_
  refine .V bi0 ?_
  obtain ⟨r2, q231⟩ : ∃ y_ : Bool, y_ = sp_in_ (gt l i) 0 (wr (n_ - 1)) := ⟨_, rfl⟩
  replace hF := hF r2 q231
  refine .C (cl (v := .bool r2) Tryz.call25 rfl rfl (fun w S => (by rw [q231]; exact c_in_ S.sub (gt l i) 0 (wr (n_ - 1)) ))) ?_
  refine .V (nt rfl) ?_
  refine .V mv0 ?_
  rcases Bool.eq_false_or_eq_true (!r2) with q232 | q232
  ·replace hF := hF.1 q232
   refine .GS q232 ?_
   refine .GS q232 ?_
   refine .GS q232 ?_
   refine .GU ?_
   refine .GU ?_
   refine .GU ?_
   refine .GU ?_
   refine .GU ?_
   refine .GU ?_
   refine .GU ?_
   refine .GU ?_
   refine .GU ?_
   refine .GU ?_
   refine .GS q232 ?_
   refine .V (pkT rfl q232 rfl) ?_
   refine .fin ?_
   exact .US q228 true hF
  replace hF := hF.2 q232
  refine .GV mv0 q232 ?_
  refine .GV bi0 q232 ?_
  refine .GV mv0 q232 ?_
  rcases Bool.eq_false_or_eq_true (decide (0 < i)) with q233 | q233
  ·replace hF := hF.1 q233
   refine .GV mv0 q233 ?_
   refine .GV mv0 q233 ?_
   refine .GV (ix rfl rfl tS22 (_q1.ne (by decide) (inb_pos q230)) q230) q233 ?_
   refine .GV (ld1 (v := iV (gt l i)) rfl tO3 (cellH (_q1.elemF q230 (by decide) 0 _ rfl))) q233 ?_
   refine .GV mv0 q233 ?_
   refine .GV mv0 q233 ?_
   refine .GV bi0 q233 ?_
   obtain ⟨q234, hF⟩ := hF
   refine .GV (ix rfl rfl tS22 (_q1.ne (by decide) (inb_pos q234)) q234) q233 ?_
   refine .GV (ld1 (v := iV (gt l (wr (i - 1)))) rfl tO3 (cellH (_q1.elemF q234 (by decide) 0 _ rfl))) q233 ?_
   refine .GV bi0 q233 ?_
   refine .GV (pkT rfl q233 rfl) q232 ?_
   refine .V (pkF rfl q232 rfl) ?_
   refine .fin ?_
   exact .US q228 (decide ((gt l i) ≤ (gt l (wr (i - 1))))) hF
  replace hF := hF.2 q233
  refine .GS q233 ?_
  refine .GS q233 ?_
  refine .GS q233 ?_
  refine .GS q233 ?_
  refine .GS q233 ?_
  refine .GS q233 ?_
  refine .GS q233 ?_
  refine .GS q233 ?_
  refine .GS q233 ?_
  refine .GS q233 ?_
  refine .GV (pkF rfl q233 rfl) q232 ?_
  refine .V (pkF rfl q232 rfl) ?_
  refine .fin ?_
  exact .US q228 false hF
 replace hF := hF.2 q198
 refine .exit (.seqX (.seqX (.blkX (.seqN (.seq (.region (.V ag0 ?_)))))))
 refine .nil (.seqN (.ret ?_))
 refine .res1 rfl (rvT rfl) (fun w' S => ⟨true, hF, rfl, S.below⟩)
theorem c_rIsSet {h : FH} {w : World} (hs : Sub h w) (l : List Int) (al2 : Option Addr) (cl2 : Nat) (_q1 : RSl h al2 l) (_q2 : l.length ≤ cl2) (n_ : Int) (hp : pre_isSet l n_) : Calls Tryz.prog 26 #[.slice al2 l.length cl2, iV n_] w fun e w' => e = .returned (.bool (sp_isSet l n_)) ∧ Below w.heap.size w w' :=
 (w_rIsSet hs l al2 cl2 _q1 _q2 n_ (fun r => r = sp_isSet l n_) (ok_rIsSet l n_ hp)).mono fun _ _ ⟨_, hk, he, hb⟩ => ⟨by rw [he, hk], hb⟩
theorem w_meets1 {h : FH} {w : World} (hs : Sub h w) (x : Int) (x2 : List Int) (ax2 : Option Addr) (cx2 : Nat) (_q1 : RSl h ax2 x2) (_q2 : x2.length ≤ cx2) (px2 : Addr) (_q3 : CellsAt h px2 [.slice ax2 x2.length cx2]) (K : Bool → Prop) (hF : F_meets1 x x2 K) : Calls Tryz.prog 125 #[iV x, .pointer (some px2)] w fun e w' => ∃ r : Bool, K r ∧ e = .returned (.bool r) ∧ Below w.heap.size w w' := by
 refine enter (args := [iV x, .pointer (some px2)]) Tryz.func125 rfl Tryz.ntmps125 rfl hs ?_
 refine .seq (.region (.V ag0 ?_))
 refine .nil (.seqN (.seq (.region (.V (ld1 (v := vSl ax2 x2 cx2) rfl tO22 (cellH (CellsAt.mono (FH.le_refl _) _q3 0 _ rfl))) ?_))))
 refine .V mv0 ?_
 obtain ⟨q4, hF⟩ := hF
 obtain ⟨r2, q5⟩ : ∃ y_ : Int × Bool, y_ = sp_bsearch x2 x := ⟨_, rfl⟩
 replace hF := hF r2 q5
 refine .C (cl (v := .tuple #[iV r2.1, .bool r2.2]) Tryz.call104 rfl rfl (fun w S => (by rw [q5]; exact c_bsearch S.sub x2 ax2 cx2 _q1 _q2 x q4))) ?_
 refine .V mv0 ?_
 refine .V (ext rfl rfl) ?_
 refine .V (ext rfl rfl) ?_
 refine .V ag0 ?_
 refine .V ag0 ?_
 refine .nil (.seqN (.seq (.region (.V mv0 ?_))))
 refine .V ag0 ?_
 refine .nil (.seqN (.ret ?_))
 refine .res1 rfl (rvT rfl) (fun w' S => ⟨r2.2, hF, rfl, S.below⟩)
theorem c_meets1 {h : FH} {w : World} (hs : Sub h w) (x : Int) (x2 : List Int) (ax2 : Option Addr) (cx2 : Nat) (_q1 : RSl h ax2 x2) (_q2 : x2.length ≤ cx2) (px2 : Addr) (_q3 : CellsAt h px2 [.slice ax2 x2.length cx2]) (hp : pre_meets1 x x2) : Calls Tryz.prog 125 #[iV x, .pointer (some px2)] w fun e w' => e = .returned (.bool (sp_meets1 x x2)) ∧ Below w.heap.size w w' :=
 (w_meets1 hs x x2 ax2 cx2 _q1 _q2 px2 _q3 (fun r => r = sp_meets1 x x2) (ok_meets1 x x2 hp)).mono fun _ _ ⟨_, hk, he, hb⟩ => ⟨by rw [he, hk], hb⟩
theorem w_meets {h : FH} {w : World} (hs : Sub h w) (a : List Int) (aa : Option Addr) (ca : Nat) (_q1 : RSl h aa a) (_q2 : a.length ≤ ca) (b : List Int) (ab : Option Addr) (cb : Nat) (_q3 : RSl h ab b) (_q4 : b.length ≤ cb) (K : Bool → Prop) (hF : F_meets a b K) : Calls Tryz.prog 115 #[.slice aa a.length ca, .slice ab b.length cb] w fun e w' => ∃ r : Bool, K r ∧ e = .returned (.bool r) ∧ Below w.heap.size w w' := by
 refine enter (args := [vSl aa a ca, vSl ab b cb]) Tryz.func115 rfl Tryz.ntmps115 rfl hs ?_
 refine .seq (.region ?_)
 refine bx (vs := [vSl ab b cb]) rfl rfl rfl (fun pb => ?_)
 refine .V ag0 ?_
 refine .nil (.seqN (.seq (.region (.V mv0 ?_))))
 refine .V (mkf (vf := []) (vc := [.pointer (some pb)]) rfl rfl) ?_
 obtain ⟨q5, hF⟩ := hF
 obtain ⟨r2, q6⟩ : ∃ y_ : Bool, y_ = sp_any a (fun y_ : Int => sp_meets1 y_ b) (fun y_ : Int => pre_meets1 y_ b) := ⟨_, rfl⟩
 replace hF := hF r2 q6
 refine .C (cl (v := .bool r2) Tryz.call124 rfl rfl (fun w S => (by rw [q6]; obtain ⟨h_, hl_, hs_, hb_⟩ := lookB S (k := 0) rfl; exact c_containsF hs_ a aa ca (RSl.mono hl_ _q1) _q2 (fun y_ : Int => sp_meets1 y_ b) (fun y_ : Int => pre_meets1 y_ b) 125 #[] #[.pointer (some pb)] Tryz.call125 (fun x w' hD hs' => c_meets1 hs' x b ab cb (RSl.mono hl_ _q3) _q4 pb hb_ hD) q5))) ?_
 refine .V ag0 ?_
 refine .nil (.seqN (.ret ?_))
 refine .res1 rfl (rvT rfl) (fun w' S => ⟨r2, hF, rfl, S.below⟩)
theorem c_meets {h : FH} {w : World} (hs : Sub h w) (a : List Int) (aa : Option Addr) (ca : Nat) (_q1 : RSl h aa a) (_q2 : a.length ≤ ca) (b : List Int) (ab : Option Addr) (cb : Nat) (_q3 : RSl h ab b) (_q4 : b.length ≤ cb) (hp : pre_meets a b) : Calls Tryz.prog 115 #[.slice aa a.length ca, .slice ab b.length cb] w fun e w' => e = .returned (.bool (sp_meets a b)) ∧ Below w.heap.size w w' :=
 (w_meets hs a aa ca _q1 _q2 b ab cb _q3 _q4 (fun r => r = sp_meets a b) (ok_meets a b hp)).mono fun _ _ ⟨_, hk, he, hb⟩ => ⟨by rw [he, hk], hb⟩
theorem w_disjoint {h : FH} {w : World} (hs : Sub h w) (a : List Int) (aa : Option Addr) (ca : Nat) (_q1 : RSl h aa a) (_q2 : a.length ≤ ca) (b : List Int) (ab : Option Addr) (cb : Nat) (_q3 : RSl h ab b) (_q4 : b.length ≤ cb) (K : Bool → Prop) (hF : F_disjoint a b K) : Calls Tryz.prog 89 #[.slice aa a.length ca, .slice ab b.length cb] w fun e w' => ∃ r : Bool, K r ∧ e = .returned (.bool r) ∧ Below w.heap.size w w' := by
 refine enter (args := [vSl aa a ca, vSl ab b cb]) Tryz.func89 rfl Tryz.ntmps89 rfl hs ?_
 refine .seq (.region (.V ag0 ?_))
 refine .nil (.seqN (.seq (.seq (.region (.V ag0 ?_)))))
 refine .nil (.seqN (.block ?_))
 obtain ⟨I1, μ1, q77, q78⟩ := hF
 refine .loop' (σ := Int) (fun z => I1 z) (fun z => μ1 z) (fun z => [(0, vSl aa a ca), (1, vSl ab b cb), (5, iV z)]) (fun _ => []) (fun _ => h) 0 q77 sb rfl (FH.le_refl _) ?_
 rintro i q77
 have hF := q78 i q77
 show J _ _ _ _ _ [(0, vSl aa a ca), (1, vSl ab b cb), (5, iV i)] [] h
 refine .seq (.seq (.region (.V mv0 ?_)))
 refine .V mv0 ?_
 refine .V (ln rfl tS22.is) ?_
 refine .V bi0 ?_
 refine .nil (.seqN ?_)
 refine .cond rfl (fun q80 => ?_) (fun q80 => ?_)
 ·replace hF := hF.1 q80
  refine .skip (.seqN (.seq (.block (.seq (.region (.V mv0 ?_))))))
  refine .V mv0 ?_
  refine .V mv0 ?_
  obtain ⟨q89, hF⟩ := hF
  refine .V (ix rfl rfl tS22 (_q1.ne (by decide) (inb_pos q89)) q89) ?_
  refine .V (ld1 (v := iV (gt a i)) rfl tO3 (cellH (_q1.elemF q89 (by decide) 0 _ rfl))) ?_
  obtain ⟨q90, hF⟩ := hF
  obtain ⟨r2, q91⟩ : ∃ y_ : Bool, y_ = sp_has b (gt a i) := ⟨_, rfl⟩
  replace hF := hF r2 q91
  refine .C (cl (v := .bool r2) Tryz.call76 rfl rfl (fun w S => (by rw [q91]; exact c_has S.sub b ab cb _q3 _q4 (gt a i) q90))) ?_
  refine .nil (.seqN ?_)
  refine .cond rfl (fun q92 => ?_) (fun q92 => ?_)
  ·replace hF := hF.1 q92
   refine .seq (.region (.V ag0 ?_))
   refine .nil (.seqN (.ret (.blkR (.seqR (.seqR (.blkR (.seqR ?_)))))))
   refine .res1 rfl (rvT rfl) (fun w' S => ⟨false, hF, rfl, S.below⟩)
  replace hF := hF.2 q92
  refine .skip (.blkN (.seqN (.region (.V mv0 ?_))))
  refine .V bi0 ?_
  refine .V ag0 ?_
  refine .nil ?_
  exact .RO (wr (i + 1)) hF.1 hF.2
 replace hF := hF.2 q80
 refine .exit (.seqX (.seqX (.blkX (.seqN (.seq (.region (.V ag0 ?_)))))))
 refine .nil (.seqN (.ret ?_))
 refine .res1 rfl (rvT rfl) (fun w' S => ⟨true, hF, rfl, S.below⟩)
theorem c_disjoint {h : FH} {w : World} (hs : Sub h w) (a : List Int) (aa : Option Addr) (ca : Nat) (_q1 : RSl h aa a) (_q2 : a.length ≤ ca) (b : List Int) (ab : Option Addr) (cb : Nat) (_q3 : RSl h ab b) (_q4 : b.length ≤ cb) (hp : pre_disjoint a b) : Calls Tryz.prog 89 #[.slice aa a.length ca, .slice ab b.length cb] w fun e w' => e = .returned (.bool (sp_disjoint a b)) ∧ Below w.heap.size w w' :=
 (w_disjoint hs a aa ca _q1 _q2 b ab cb _q3 _q4 (fun r => r = sp_disjoint a b) (ok_disjoint a b hp)).mono fun _ _ ⟨_, hk, he, hb⟩ => ⟨by rw [he, hk], hb⟩
set_option maxHeartbeats 8000000 in
theorem w_operator {h : FH} {w : World} (hs : Sub h w) (o : Operator) (ao : Option Addr) (co : Nat) (_q1 : RSl h ao o.pre) (_q2 : o.pre.length ≤ co) (ao2 : Option Addr) (co2 : Nat) (_q3 : RSl h ao2 o.add) (_q4 : o.add.length ≤ co2) (ao3 : Option Addr) (co3 : Nat) (_q5 : RSl h ao3 o.del) (_q6 : o.del.length ≤ co3) (facts : Int) (K : Int → Prop) (hF : F_operator o facts K) : Calls Tryz.prog 102 #[.agg #[.slice ao o.pre.length co, .slice ao2 o.add.length co2, .slice ao3 o.del.length co3, iV o.cost], iV facts] w fun e w' => ∃ r : Int, K r ∧ e = .returned (iV r) ∧ Below w.heap.size w w' := by
 refine enter (args := [.agg #[vSl ao o.pre co, vSl ao2 o.add co2, vSl ao3 o.del co3, iV o.cost], iV facts]) Tryz.func102 rfl Tryz.ntmps102 rfl hs ?_
 refine .seq (.region ?_)
 refine bx (vs := [vSl ao o.pre co, vSl ao2 o.add co2, vSl ao3 o.del co3, iV o.cost]) rfl rfl rfl (fun po => ?_)
 refine .V ag0 ?_
 refine .nil (.seqN (.seq (.block ?_)))
 refine .share (σ := Bool) (fun z => F_operator_J1 o K z) (fun z => [(2, .pointer (some po)), (5, .bool z)]) (fun _ => [Box po [vSl ao o.pre co, vSl ao2 o.add co2, vSl ao3 o.del co3, iV o.cost]]) (fun _ => h) ?_ (fun q74 => ?_)
 ·rintro t5 hF
  show J _ _ _ _ _ [(2, .pointer (some po)), (5, .bool t5)] [Box po [vSl ao o.pre co, vSl ao2 o.add co2, vSl ao3 o.del co3, iV o.cost]] h
  refine .cond rfl (fun q75 => ?_) (fun q75 => ?_)
  ·replace hF := hF.1 q75
   refine .seq (.region (.V ag0 ?_))
   refine .nil (.seqN (.ret (.blkR (.seqR ?_))))
   refine .res1 rfl (rvT rfl) (fun w' S => ⟨5, hF, rfl, S.below⟩)
  replace hF := hF.2 q75
  refine .share (σ := Bool) (fun z => F_operator_J2 K z) (fun z => [(32, .bool z)]) (fun _ => []) (fun _ => h) ?_ (fun q77 => ?_)
  ·rintro t32 hF
   show J _ _ _ _ _ [(32, .bool t32)] [] h
   refine .cond rfl (fun q78 => ?_) (fun q78 => ?_)
   ·replace hF := hF.1 q78
    refine .seq (.region (.V ag0 ?_))
    refine .nil (.seqN (.ret (.blkR (.seqR ?_))))
    refine .res1 rfl (rvT rfl) (fun w' S => ⟨3, hF, rfl, S.below⟩)
   replace hF := hF.2 q78
   refine .skip (.blkN (.seqN (.seq (.region (.V ag0 ?_)))))
   refine .nil (.seqN (.ret ?_))
   refine .res1 rfl (rvT rfl) (fun w' S => ⟨0, hF, rfl, S.below⟩)
  refine .region (.V (fa rfl tF54_3) ?_)
  refine .V (ld1 rfl tO3 (cellB (off := 3) (k := 0) rfl rfl)) ?_
  refine .V bi0 ?_
  refine .V mv0 ?_
  rcases Bool.eq_false_or_eq_true (decide (o.cost < 0)) with q79 | q79
  ·replace hF := hF.1 q79
   refine .GS q79 ?_
   refine .GS q79 ?_
   refine .GS q79 ?_
   refine .V (pkT rfl q79 rfl) ?_
   refine .V ag0 ?_
   refine .nil ?_
   refine .sel0 [] (by decide) rfl ?_
   exact .US q77 true hF
  replace hF := hF.2 q79
  refine .GV (fa rfl tF54_3) q79 ?_
  refine .GV (ld1 rfl tO3 (cellB (off := 3) (k := 0) rfl rfl)) q79 ?_
  refine .GV bi0 q79 ?_
  refine .V (pkF rfl q79 rfl) ?_
  refine .V ag0 ?_
  refine .nil ?_
  refine .sel0 [] (by decide) rfl ?_
  exact .US q77 (decide (100 < o.cost)) hF
 refine .region (.V (fa rfl tF54_0) ?_)
 refine .V (ld1 rfl tO22 (cellB (off := 0) (k := 0) rfl rfl)) ?_
 refine .V mv0 ?_
 obtain ⟨q80, hF⟩ := hF
 obtain ⟨r2, q81⟩ : ∃ y_ : Bool, y_ = sp_isSet o.pre facts := ⟨_, rfl⟩
 replace hF := hF r2 q81
 refine .C (cl (v := .bool r2) Tryz.call61 rfl rfl (fun w S => (by rw [q81]; exact c_isSet S.sub o.pre ao co _q1 _q2 facts q80))) ?_
 refine .V (nt rfl) ?_
 refine .V mv0 ?_
 rcases Bool.eq_false_or_eq_true (!r2) with q82 | q82
 ·replace hF := hF.1 q82
  refine .GS q82 ?_
  refine .GS q82 ?_
  refine .GS q82 ?_
  refine .GS q82 ?_
  refine .GS q82 ?_
  refine .V (pkT rfl q82 rfl) ?_
  refine .V mv0 ?_
  refine .gS rfl rfl rfl rfl rfl rfl ?_
  refine .gS rfl rfl rfl rfl rfl rfl ?_
  refine .gS rfl rfl rfl rfl rfl rfl ?_
  refine .gS rfl rfl rfl rfl rfl rfl ?_
  refine .gS rfl rfl rfl rfl rfl rfl ?_
  refine .V (pkT rfl rfl rfl) ?_
  refine .V mv0 ?_
  refine .gS rfl rfl rfl rfl rfl rfl ?_
  refine .gS rfl rfl rfl rfl rfl rfl ?_
  refine .gS rfl rfl rfl rfl rfl rfl ?_
  refine .gS rfl rfl rfl rfl rfl rfl ?_
  refine .gS rfl rfl rfl rfl rfl rfl ?_
  refine .V (pkT rfl rfl rfl) ?_
  refine .V ag0 ?_
  refine .nil ?_
  exact .US q74 true hF
 replace hF := hF.2 q82
 refine .GV (fa rfl tF54_1) q82 ?_
 refine .GV (ld1 rfl tO22 (cellB (off := 1) (k := 0) rfl rfl)) q82 ?_
 refine .GV mv0 q82 ?_
 obtain ⟨q83, hF⟩ := hF
 obtain ⟨r3, q84⟩ : ∃ y_ : Bool, y_ = sp_isSet o.add facts := ⟨_, rfl⟩
 replace hF := hF r3 q84
 refine .gc (cl (v := .bool r3) Tryz.call61 rfl rfl (fun w S => (by rw [q84]; exact c_isSet S.sub o.add ao2 co2 _q3 _q4 facts q83))) rfl rfl rfl q82 rfl rfl ?_
 refine .GV (nt rfl) q82 ?_
 refine .V (pkF rfl q82 rfl) ?_
 refine .V mv0 ?_
 rcases Bool.eq_false_or_eq_true (!r3) with q85 | q85
 ·replace hF := hF.1 q85
  refine .GS q85 ?_
  refine .GS q85 ?_
  refine .GS q85 ?_
  refine .GS q85 ?_
  refine .GS q85 ?_
  refine .V (pkT rfl q85 rfl) ?_
  refine .V mv0 ?_
  refine .gS rfl rfl rfl rfl rfl rfl ?_
  refine .gS rfl rfl rfl rfl rfl rfl ?_
  refine .gS rfl rfl rfl rfl rfl rfl ?_
  refine .gS rfl rfl rfl rfl rfl rfl ?_
  refine .gS rfl rfl rfl rfl rfl rfl ?_
  refine .V (pkT rfl rfl rfl) ?_
  refine .V ag0 ?_
  refine .nil ?_
  exact .US q74 true hF
 replace hF := hF.2 q85
 refine .GV (fa rfl tF54_2) q85 ?_
 refine .GV (ld1 rfl tO22 (cellB (off := 2) (k := 0) rfl rfl)) q85 ?_
 refine .GV mv0 q85 ?_
 obtain ⟨q86, hF⟩ := hF
 obtain ⟨r4, q87⟩ : ∃ y_ : Bool, y_ = sp_isSet o.del facts := ⟨_, rfl⟩
 replace hF := hF r4 q87
 refine .gc (cl (v := .bool r4) Tryz.call61 rfl rfl (fun w S => (by rw [q87]; exact c_isSet S.sub o.del ao3 co3 _q5 _q6 facts q86))) rfl rfl rfl q85 rfl rfl ?_
 refine .GV (nt rfl) q85 ?_
 refine .V (pkF rfl q85 rfl) ?_
 refine .V mv0 ?_
 rcases Bool.eq_false_or_eq_true (!r4) with q88 | q88
 ·replace hF := hF.1 q88
  refine .GS q88 ?_
  refine .GS q88 ?_
  refine .GS q88 ?_
  refine .GS q88 ?_
  refine .GS q88 ?_
  refine .V (pkT rfl q88 rfl) ?_
  refine .V ag0 ?_
  refine .nil ?_
  exact .US q74 true hF
 replace hF := hF.2 q88
 refine .GV (fa rfl tF54_1) q88 ?_
 refine .GV (ld1 rfl tO22 (cellB (off := 1) (k := 0) rfl rfl)) q88 ?_
 refine .GV (fa rfl tF54_2) q88 ?_
 refine .GV (ld1 rfl tO22 (cellB (off := 2) (k := 0) rfl rfl)) q88 ?_
 obtain ⟨q89, hF⟩ := hF
 obtain ⟨r5, q90⟩ : ∃ y_ : Bool, y_ = sp_meets o.add o.del := ⟨_, rfl⟩
 replace hF := hF r5 q90
 refine .gc (cl (v := .bool r5) Tryz.call115 rfl rfl (fun w S => (by rw [q90]; exact c_meets S.sub o.add ao2 co2 _q3 _q4 o.del ao3 co3 _q5 _q6 q89))) rfl rfl rfl q88 rfl rfl ?_
 refine .V (pkF rfl q88 rfl) ?_
 refine .V ag0 ?_
 refine .nil ?_
 exact .US q74 r5 hF
theorem c_operator {h : FH} {w : World} (hs : Sub h w) (o : Operator) (ao : Option Addr) (co : Nat) (_q1 : RSl h ao o.pre) (_q2 : o.pre.length ≤ co) (ao2 : Option Addr) (co2 : Nat) (_q3 : RSl h ao2 o.add) (_q4 : o.add.length ≤ co2) (ao3 : Option Addr) (co3 : Nat) (_q5 : RSl h ao3 o.del) (_q6 : o.del.length ≤ co3) (facts : Int) (hp : pre_operator o facts) : Calls Tryz.prog 102 #[.agg #[.slice ao o.pre.length co, .slice ao2 o.add.length co2, .slice ao3 o.del.length co3, iV o.cost], iV facts] w fun e w' => e = .returned (iV (sp_operator o facts)) ∧ Below w.heap.size w w' :=
 (w_operator hs o ao co _q1 _q2 ao2 co2 _q3 _q4 ao3 co3 _q5 _q6 facts (fun r => r = sp_operator o facts) (ok_operator o facts hp)).mono fun _ _ ⟨_, hk, he, hb⟩ => ⟨by rw [he, hk], hb⟩
set_option maxHeartbeats 8000000 in
theorem w_validate {h : FH} {w : World} (hs : Sub h w) (t : Task) (at_ : Option Addr) (ct : Nat) (_q1 : RSl h at_ t.init) (_q2 : t.init.length ≤ ct) (at_2 : Option Addr) (ct2 : Nat) (_q3 : RSl h at_2 t.goal) (_q4 : t.goal.length ≤ ct2) (at_3 : Option Addr) (ct3 : Nat) (_q5 : RSl h at_3 t.ops) (_q6 : t.ops.length ≤ ct3) (K : Fault → Prop) (hF : F_validate t K) : Calls Tryz.prog 79 #[.agg #[iV t.facts, .slice at_ t.init.length ct, .slice at_2 t.goal.length ct2, .slice at_3 t.ops.length ct3]] w fun e w' => ∃ r : Fault, K r ∧ e = .returned (.agg #[iV r.code, iV r.index]) ∧ Below w.heap.size w w' := by
 refine enter (args := [.agg (tF t at_ ct at_2 ct2 at_3 ct3).toArray]) Tryz.func79 rfl Tryz.ntmps79 rfl hs ?_
 refine .seq (.region ?_)
 refine bx (vs := (tF t at_ ct at_2 ct2 at_3 ct3)) rfl rfl rfl (fun pt => ?_)
 refine al tZ27 rfl (fun pv => ?_)
 refine .nil (.seqN (.seq (.block ?_)))
 refine .share (σ := Bool) (fun z => F_validate_J1 t K z) (fun z => [(1, .pointer (some pt)), (2, .pointer (some pv)), (6, .bool z)]) (fun _ => [Box pt (tF t at_ ct at_2 ct2 at_3 ct3), Box pv [iV 0, iV 0]]) (fun _ => h) ?_ (fun q30 => ?_)
 ·rintro t6 hF
  show J _ _ _ _ _ [(1, .pointer (some pt)), (2, .pointer (some pv)), (6, .bool t6)] [Box pt (tF t at_ ct at_2 ct2 at_3 ct3), Box pv [iV 0, iV 0]] h
  refine .cond rfl (fun q31 => ?_) (fun q31 => ?_)
  ·replace hF := hF.1 q31
   refine .seq (.region (.V (bld (cs := #[iV 3, iV (-1)]) (pv := [(0, iV 3), (1, iV (-1))]) tB27 rfl rfl) ?_))
   refine st (p := pv) (off := 0) (k := 1) (vs := [iV 3, iV (-1)]) rfl rfl rfl (fun w => (tA27 w).2) rfl rfl rfl rfl ?_
   refine .KA [Box pt (tF t at_ ct at_2 ct2 at_3 ct3), Box pv [iV 3, iV (-1)]] ?_
   refine .nil (.seqN (.ret (.blkR (.seqR ?_))))
   refine .res1 rfl (rvC rfl tA27 (k := 1) rfl rfl) (fun w' S => ⟨(⟨3, (-1)⟩ : Fault), hF, rfl, S.below⟩)
  replace hF := hF.2 q31
  refine .seq (.region (.V (fa rfl tF25_1) ?_))
  refine .V (ld1 rfl tO22 (cellB (off := 1) (k := 0) rfl rfl)) ?_
  refine .V (fa rfl tF25_0) ?_
  refine .V (ld1 rfl tO3 (cellB (off := 0) (k := 0) rfl rfl)) ?_
  obtain ⟨q32, hF⟩ := hF
  obtain ⟨r2, q33⟩ : ∃ y_ : Bool, y_ = sp_isSet t.init t.facts := ⟨_, rfl⟩
  replace hF := hF r2 q33
  refine .C (cl (v := .bool r2) Tryz.call61 rfl rfl (fun w S => (by rw [q33]; exact c_isSet S.sub t.init at_ ct _q1 _q2 t.facts q32))) ?_
  refine .V (nt rfl) ?_
  refine .V ag0 ?_
  refine .nil (.seqN ?_)
  refine .cond rfl (fun q34 => ?_) (fun q34 => ?_)
  ·replace hF := hF.1 q34
   refine .seq (.region (.V (bld (cs := #[iV 5, iV (-2)]) (pv := [(0, iV 5), (1, iV (-2))]) tB27 rfl rfl) ?_))
   refine st (p := pv) (off := 0) (k := 1) (vs := [iV 5, iV (-2)]) rfl rfl rfl (fun w => (tA27 w).2) rfl rfl rfl rfl ?_
   refine .KA [Box pt (tF t at_ ct at_2 ct2 at_3 ct3), Box pv [iV 5, iV (-2)]] ?_
   refine .nil (.seqN (.ret (.blkR (.seqR ?_))))
   refine .res1 rfl (rvC rfl tA27 (k := 1) rfl rfl) (fun w' S => ⟨(⟨5, (-2)⟩ : Fault), hF, rfl, S.below⟩)
  replace hF := hF.2 q34
  refine .seq (.region (.V (fa rfl tF25_2) ?_))
  refine .V (ld1 rfl tO22 (cellB (off := 2) (k := 0) rfl rfl)) ?_
  refine .V (fa rfl tF25_0) ?_
  refine .V (ld1 rfl tO3 (cellB (off := 0) (k := 0) rfl rfl)) ?_
  obtain ⟨q35, hF⟩ := hF
  obtain ⟨r3, q36⟩ : ∃ y_ : Bool, y_ = sp_isSet t.goal t.facts := ⟨_, rfl⟩
  replace hF := hF r3 q36
  refine .C (cl (v := .bool r3) Tryz.call61 rfl rfl (fun w S => (by rw [q36]; exact c_isSet S.sub t.goal at_2 ct2 _q3 _q4 t.facts q35))) ?_
  refine .V (nt rfl) ?_
  refine .V ag0 ?_
  refine .nil (.seqN ?_)
  refine .cond rfl (fun q37 => ?_) (fun q37 => ?_)
  ·replace hF := hF.1 q37
   refine .seq (.region (.V (bld (cs := #[iV 5, iV (-3)]) (pv := [(0, iV 5), (1, iV (-3))]) tB27 rfl rfl) ?_))
   refine st (p := pv) (off := 0) (k := 1) (vs := [iV 5, iV (-3)]) rfl rfl rfl (fun w => (tA27 w).2) rfl rfl rfl rfl ?_
   refine .KA [Box pt (tF t at_ ct at_2 ct2 at_3 ct3), Box pv [iV 5, iV (-3)]] ?_
   refine .nil (.seqN (.ret (.blkR (.seqR ?_))))
   refine .res1 rfl (rvC rfl tA27 (k := 1) rfl rfl) (fun w' S => ⟨(⟨5, (-3)⟩ : Fault), hF, rfl, S.below⟩)
  replace hF := hF.2 q37
  refine .seq (.region (.V (fa rfl tF25_3) ?_))
  refine .V (ld1 rfl tO23 (cellB (off := 3) (k := 0) rfl rfl)) ?_
  refine .V (ln rfl tS23.is) ?_
  refine .V bi0 ?_
  refine .V ag0 ?_
  refine .nil (.seqN ?_)
  refine .cond rfl (fun q38 => ?_) (fun q38 => ?_)
  ·replace hF := hF.1 q38
   refine .seq (.region (.V (bld (cs := #[iV 2, iV (-1)]) (pv := [(0, iV 2), (1, iV (-1))]) tB27 rfl rfl) ?_))
   refine st (p := pv) (off := 0) (k := 1) (vs := [iV 2, iV (-1)]) rfl rfl rfl (fun w => (tA27 w).2) rfl rfl rfl rfl ?_
   refine .KA [Box pt (tF t at_ ct at_2 ct2 at_3 ct3), Box pv [iV 2, iV (-1)]] ?_
   refine .nil (.seqN (.ret (.blkR (.seqR ?_))))
   refine .res1 rfl (rvC rfl tA27 (k := 1) rfl rfl) (fun w' S => ⟨(⟨2, (-1)⟩ : Fault), hF, rfl, S.below⟩)
  replace hF := hF.2 q38
  refine .skip (.blkN (.seqN (.seq (.seq (.region (.V (fa rfl tF25_3) ?_))))))
  refine .V (ld1 rfl tO23 (cellB (off := 3) (k := 0) rfl rfl)) ?_
  refine .V (ln rfl tS23.is) ?_
  refine .V mv0 ?_
  refine .nil (.seqN (.block ?_))
  obtain ⟨I1, μ1, q221, q222⟩ := hF
  refine .loop' (σ := Int) (fun z => I1 z) (fun z => μ1 z) (fun z => [(1, .pointer (some pt)), (2, .pointer (some pv)), (39, vSl at_3 t.ops ct3), (40, iV ((t.ops.length : Nat) : Int)), (41, iV z)]) (fun _ => [Box pt (tF t at_ ct at_2 ct2 at_3 ct3), Box pv [iV 0, iV 0]]) (fun _ => h) 0 q221 sb rfl (FH.le_refl _) ?_
  rintro t41 q221
  have hF := q222 t41 q221
  show J _ _ _ _ _ [(1, .pointer (some pt)), (2, .pointer (some pv)), (39, vSl at_3 t.ops ct3), (40, iV ((t.ops.length : Nat) : Int)), (41, iV t41)] [Box pt (tF t at_ ct at_2 ct2 at_3 ct3), Box pv [iV 0, iV 0]] h
  refine .seq (.region (.V bi0 ?_))
  refine .nil (.seqN (.seq ?_))
  refine .cond rfl (fun q225 => ?_) (fun q225 => ?_)
  ·replace hF := hF.1 q225
   refine .skip (.seqN (.seq (.block (.seq (.region (.V mv0 ?_))))))
   obtain ⟨q248, hF⟩ := hF
   refine .V (ix rfl rfl tS23 (_q5.ne (by decide) (inb_pos q248)) q248) ?_
   obtain ⟨_, ⟨a, c, a2, c2, a3, c3, rfl, ⟨q249, q250⟩, ⟨q251, q252⟩, q253, q254⟩, q255⟩ := _q5.elem q248
   refine .V (ldA (cs := [.slice a ((gt t.ops t41).pre.length) c, .slice a2 ((gt t.ops t41).add.length) c2, .slice a3 ((gt t.ops t41).del.length) c3, iV ((gt t.ops t41).cost)]) rfl tA54 rfl (cellsH (q255 (by decide)))) ?_
   refine al tZ54 rfl (fun po => ?_)
   refine .V ag0 ?_
   refine st (p := po) (off := 0) (k := 0) (vs := [.slice a ((gt t.ops t41).pre.length) c, .slice a2 ((gt t.ops t41).add.length) c2, .slice a3 ((gt t.ops t41).del.length) c3, iV ((gt t.ops t41).cost)]) rfl rfl rfl (fun w => (tA54 w).2) rfl rfl rfl rfl ?_
   refine .KA [Box po [.slice a ((gt t.ops t41).pre.length) c, .slice a2 ((gt t.ops t41).add.length) c2, .slice a3 ((gt t.ops t41).del.length) c3, iV ((gt t.ops t41).cost)], Box pt (tF t at_ ct at_2 ct2 at_3 ct3), Box pv [iV 0, iV 0]] ?_
   refine .nil (.seqN (.seq (.region (.V (ldA (cs := [.slice a ((gt t.ops t41).pre.length) c, .slice a2 ((gt t.ops t41).add.length) c2, .slice a3 ((gt t.ops t41).del.length) c3, iV ((gt t.ops t41).cost)]) rfl tA54 rfl (cellsB (off := 0) (k := 0) rfl (m := 4) rfl)) ?_))))
   refine .V (fa rfl tF25_0) ?_
   refine .V (ld1 rfl tO3 (cellB (off := 0) (k := 1) rfl rfl)) ?_
   obtain ⟨q256, hF⟩ := hF
   obtain ⟨r4, q257⟩ : ∃ y_ : Int, y_ = sp_operator (gt t.ops t41) t.facts := ⟨_, rfl⟩
   replace hF := hF r4 q257
   refine .C (cl (v := iV r4) Tryz.call102 rfl rfl (fun w S => (by rw [q257]; exact c_operator S.sub (gt t.ops t41) a c q250 q249 a2 c2 q252 q251 a3 c3 q254 q253 t.facts q256))) ?_
   refine .V ag0 ?_
   refine .nil (.seqN (.seq (.region (.V mv0 ?_))))
   refine .V bi0 ?_
   refine .nil (.seqN ?_)
   refine .cond rfl (fun q258 => ?_) (fun q258 => ?_)
   ·replace hF := hF.1 q258
    refine .seq (.region (.V mv0 ?_))
    refine .V mv0 ?_
    refine .V (bld (cs := #[iV r4, iV t41]) (pv := [(0, iV r4), (1, iV t41)]) tB27 rfl rfl) ?_
    refine st (p := pv) (off := 0) (k := 2) (vs := [iV r4, iV t41]) rfl rfl rfl (fun w => (tA27 w).2) rfl rfl rfl rfl ?_
    refine .KA [Box po [.slice a ((gt t.ops t41).pre.length) c, .slice a2 ((gt t.ops t41).add.length) c2, .slice a3 ((gt t.ops t41).del.length) c3, iV ((gt t.ops t41).cost)], Box pt (tF t at_ ct at_2 ct2 at_3 ct3), Box pv [iV r4, iV t41]] ?_
    refine .nil (.seqN (.ret (.blkR (.seqR (.seqR (.blkR (.seqR ?_)))))))
    refine .res1 rfl (rvC rfl tA27 (k := 2) rfl rfl) (fun w' S => ⟨(⟨r4, t41⟩ : Fault), hF, rfl, S.below⟩)
   replace hF := hF.2 q258
   refine .skip (.blkN (.seqN (.region (.V bi0 ?_))))
   refine .V mv0 ?_
   refine .nil ?_
   refine .sel0 [1, 2] (by decide) rfl ?_
   exact .RO (wr (t41 + 1)) hF.1 hF.2
  replace hF := hF.2 q225
  refine .exit (.seqX (.seqX (.blkX (.seqN (.seq (.region (.V (bld (cs := #[iV 0, iV 0]) (pv := []) tB27 rfl rfl) ?_)))))))
  refine st (p := pv) (off := 0) (k := 1) (vs := [iV 0, iV 0]) rfl rfl rfl (fun w => (tA27 w).2) rfl rfl rfl rfl ?_
  refine .KA [Box pt (tF t at_ ct at_2 ct2 at_3 ct3), Box pv [iV 0, iV 0]] ?_
  refine .nil (.seqN (.ret ?_))
  refine .res1 rfl (rvC rfl tA27 (k := 1) rfl rfl) (fun w' S => ⟨(⟨0, 0⟩ : Fault), hF, rfl, S.below⟩)
 refine .region (.V (fa rfl tF25_0) ?_)
 refine .V (ld1 rfl tO3 (cellB (off := 0) (k := 1) rfl rfl)) ?_
 refine .V bi0 ?_
 refine .V mv0 ?_
 rcases Bool.eq_false_or_eq_true (decide (t.facts < 0)) with q259 | q259
 ·replace hF := hF.1 q259
  refine .GS q259 ?_
  refine .GS q259 ?_
  refine .GS q259 ?_
  refine .V (pkT rfl q259 rfl) ?_
  refine .V ag0 ?_
  refine .nil ?_
  refine .sel0 [1, 0] (by decide) rfl ?_
  exact .US q30 true hF
 replace hF := hF.2 q259
 refine .GV (fa rfl tF25_0) q259 ?_
 refine .GV (ld1 rfl tO3 (cellB (off := 0) (k := 1) rfl rfl)) q259 ?_
 refine .GV bi0 q259 ?_
 refine .V (pkF rfl q259 rfl) ?_
 refine .V ag0 ?_
 refine .nil ?_
 refine .sel0 [1, 0] (by decide) rfl ?_
 exact .US q30 (decide (24 < t.facts)) hF
theorem c_validate {h : FH} {w : World} (hs : Sub h w) (t : Task) (at_ : Option Addr) (ct : Nat) (_q1 : RSl h at_ t.init) (_q2 : t.init.length ≤ ct) (at_2 : Option Addr) (ct2 : Nat) (_q3 : RSl h at_2 t.goal) (_q4 : t.goal.length ≤ ct2) (at_3 : Option Addr) (ct3 : Nat) (_q5 : RSl h at_3 t.ops) (_q6 : t.ops.length ≤ ct3) : Calls Tryz.prog 79 #[.agg #[iV t.facts, .slice at_ t.init.length ct, .slice at_2 t.goal.length ct2, .slice at_3 t.ops.length ct3]] w fun e w' => e = .returned (.agg #[iV (sp_validate t).code, iV (sp_validate t).index]) ∧ Below w.heap.size w w' :=
 (w_validate hs t at_ ct _q1 _q2 at_2 ct2 _q3 _q4 at_3 ct3 _q5 _q6 (fun r => r = sp_validate t) (ok_validate t)).mono fun _ _ ⟨_, hk, he, hb⟩ => ⟨by rw [he, hk], hb⟩
set_option maxHeartbeats 8000000 in
theorem w_taskFault {h : FH} {w : World} (hs : Sub h w) (t : Task) (at_ : Option Addr) (ct : Nat) (_q1 : RSl h at_ t.init) (_q2 : t.init.length ≤ ct) (at_2 : Option Addr) (ct2 : Nat) (_q3 : RSl h at_2 t.goal) (_q4 : t.goal.length ≤ ct2) (at_3 : Option Addr) (ct3 : Nat) (_q5 : RSl h at_3 t.ops) (_q6 : t.ops.length ≤ ct3) (K : Fault → Prop) (hF : F_taskFault t K) : Calls Tryz.prog 53 #[.agg #[iV t.facts, .slice at_ t.init.length ct, .slice at_2 t.goal.length ct2, .slice at_3 t.ops.length ct3]] w fun e w' => ∃ r : Fault, K r ∧ e = .returned (.agg #[iV r.code, iV r.index]) ∧ Below w.heap.size w w' := by
 refine enter (args := [.agg (tF t at_ ct at_2 ct2 at_3 ct3).toArray]) Tryz.func53 rfl Tryz.ntmps53 rfl hs ?_
 refine .seq (.region ?_)
 refine bx (vs := (tF t at_ ct at_2 ct2 at_3 ct3)) rfl rfl rfl (fun pt => ?_)
 refine al tZ27 rfl (fun pv => ?_)
 refine .nil (.seqN (.seq (.seq (.region (.V (fa rfl tF25_0) ?_)))))
 refine .V (ld1 rfl tO3 (cellB (off := 0) (k := 1) rfl rfl)) ?_
 obtain ⟨r2, q7⟩ : ∃ y_ : Bool, y_ = sp_in_ t.facts 0 24 := ⟨_, rfl⟩
 replace hF := hF r2 q7
 refine .C (cl (v := .bool r2) Tryz.call25 rfl rfl (fun w S => (by rw [q7]; exact c_in_ S.sub t.facts 0 24 ))) ?_
 refine .V (nt rfl) ?_
 refine .nil (.seqN ?_)
 refine .cond rfl (fun q10 => ?_) (fun q10 => ?_)
 ·replace hF := hF.1 q10
  refine .seq (.region ?_)
  obtain ⟨r3, q11⟩ : ∃ y_ : Fault, y_ = sp_at_ 3 (-1) := ⟨_, rfl⟩
  replace hF := hF r3 q11
  refine .C (cl (v := .agg #[iV r3.code, iV r3.index]) Tryz.call18 rfl rfl (fun w S => (by rw [q11]; exact c_at_ S.sub 3 (-1) ))) ?_
  refine st (p := pv) (off := 0) (k := 0) (vs := [iV r3.code, iV r3.index]) rfl rfl rfl (fun w => (tA27 w).2) rfl rfl rfl rfl ?_
  refine .KA [Box pv [iV r3.code, iV r3.index], Box pt (tF t at_ ct at_2 ct2 at_3 ct3)] ?_
  refine .nil (.seqN (.ret (.seqR ?_)))
  refine .res1 rfl (rvC rfl tA27 (k := 0) rfl rfl) (fun w' S => ⟨r3, hF, rfl, S.below⟩)
 replace hF := hF.2 q10
 refine .skip (.seqN (.seq (.seq (.region (.V (fa rfl tF25_1) ?_)))))
 refine .V (ld1 rfl tO22 (cellB (off := 1) (k := 1) rfl rfl)) ?_
 refine .V (fa rfl tF25_0) ?_
 refine .V (ld1 rfl tO3 (cellB (off := 0) (k := 1) rfl rfl)) ?_
 obtain ⟨q12, hF⟩ := hF
 obtain ⟨r4, q13⟩ : ∃ y_ : Bool, y_ = sp_isSet t.init t.facts := ⟨_, rfl⟩
 replace hF := hF r4 q13
 refine .C (cl (v := .bool r4) Tryz.call26 rfl rfl (fun w S => (by rw [q13]; exact c_rIsSet S.sub t.init at_ ct _q1 _q2 t.facts q12))) ?_
 refine .V (nt rfl) ?_
 refine .nil (.seqN ?_)
 refine .cond rfl (fun q16 => ?_) (fun q16 => ?_)
 ·replace hF := hF.1 q16
  refine .seq (.region ?_)
  obtain ⟨r5, q17⟩ : ∃ y_ : Fault, y_ = sp_at_ 5 (-2) := ⟨_, rfl⟩
  replace hF := hF r5 q17
  refine .C (cl (v := .agg #[iV r5.code, iV r5.index]) Tryz.call18 rfl rfl (fun w S => (by rw [q17]; exact c_at_ S.sub 5 (-2) ))) ?_
  refine st (p := pv) (off := 0) (k := 0) (vs := [iV r5.code, iV r5.index]) rfl rfl rfl (fun w => (tA27 w).2) rfl rfl rfl rfl ?_
  refine .KA [Box pv [iV r5.code, iV r5.index], Box pt (tF t at_ ct at_2 ct2 at_3 ct3)] ?_
  refine .nil (.seqN (.ret (.seqR ?_)))
  refine .res1 rfl (rvC rfl tA27 (k := 0) rfl rfl) (fun w' S => ⟨r5, hF, rfl, S.below⟩)
 replace hF := hF.2 q16
 refine .skip (.seqN (.seq (.seq (.region (.V (fa rfl tF25_2) ?_)))))
 refine .V (ld1 rfl tO22 (cellB (off := 2) (k := 1) rfl rfl)) ?_
 refine .V (fa rfl tF25_0) ?_
 refine .V (ld1 rfl tO3 (cellB (off := 0) (k := 1) rfl rfl)) ?_
 obtain ⟨q18, hF⟩ := hF
 obtain ⟨r6, q19⟩ : ∃ y_ : Bool, y_ = sp_isSet t.goal t.facts := ⟨_, rfl⟩
 replace hF := hF r6 q19
 refine .C (cl (v := .bool r6) Tryz.call26 rfl rfl (fun w S => (by rw [q19]; exact c_rIsSet S.sub t.goal at_2 ct2 _q3 _q4 t.facts q18))) ?_
 refine .V (nt rfl) ?_
 refine .nil (.seqN ?_)
 refine .cond rfl (fun q22 => ?_) (fun q22 => ?_)
 ·replace hF := hF.1 q22
  refine .seq (.region ?_)
  obtain ⟨r7, q23⟩ : ∃ y_ : Fault, y_ = sp_at_ 5 (-3) := ⟨_, rfl⟩
  replace hF := hF r7 q23
  refine .C (cl (v := .agg #[iV r7.code, iV r7.index]) Tryz.call18 rfl rfl (fun w S => (by rw [q23]; exact c_at_ S.sub 5 (-3) ))) ?_
  refine st (p := pv) (off := 0) (k := 0) (vs := [iV r7.code, iV r7.index]) rfl rfl rfl (fun w => (tA27 w).2) rfl rfl rfl rfl ?_
  refine .KA [Box pv [iV r7.code, iV r7.index], Box pt (tF t at_ ct at_2 ct2 at_3 ct3)] ?_
  refine .nil (.seqN (.ret (.seqR ?_)))
  refine .res1 rfl (rvC rfl tA27 (k := 0) rfl rfl) (fun w' S => ⟨r7, hF, rfl, S.below⟩)
 replace hF := hF.2 q22
 refine .skip (.seqN (.seq (.seq (.region (.V (fa rfl tF25_3) ?_)))))
 refine .V (ld1 rfl tO23 (cellB (off := 3) (k := 1) rfl rfl)) ?_
 refine .V (ln rfl tS23.is) ?_
 refine .V bi0 ?_
 refine .nil (.seqN ?_)
 refine .cond rfl (fun q26 => ?_) (fun q26 => ?_)
 ·replace hF := hF.1 q26
  refine .seq (.region ?_)
  obtain ⟨r8, q27⟩ : ∃ y_ : Fault, y_ = sp_at_ 2 (-1) := ⟨_, rfl⟩
  replace hF := hF r8 q27
  refine .C (cl (v := .agg #[iV r8.code, iV r8.index]) Tryz.call18 rfl rfl (fun w S => (by rw [q27]; exact c_at_ S.sub 2 (-1) ))) ?_
  refine st (p := pv) (off := 0) (k := 0) (vs := [iV r8.code, iV r8.index]) rfl rfl rfl (fun w => (tA27 w).2) rfl rfl rfl rfl ?_
  refine .KA [Box pv [iV r8.code, iV r8.index], Box pt (tF t at_ ct at_2 ct2 at_3 ct3)] ?_
  refine .nil (.seqN (.ret (.seqR ?_)))
  refine .res1 rfl (rvC rfl tA27 (k := 0) rfl rfl) (fun w' S => ⟨r8, hF, rfl, S.below⟩)
 replace hF := hF.2 q26
 refine .skip (.seqN (.seq (.seq (.region (.V ag0 ?_)))))
 refine .nil (.seqN (.block ?_))
 refine .sel0 [1, 0] (by decide) rfl ?_
 obtain ⟨I1, μ1, q610, q611⟩ := hF
 refine .loop' (σ := Int) (fun z => I1 z) (fun z => μ1 z) (fun z => [(1, .pointer (some pt)), (2, .pointer (some pv)), (3, iV z)]) (fun _ => [Box pt (tF t at_ ct at_2 ct2 at_3 ct3), Box pv [iV 0, iV 0]]) (fun _ => h) 0 q610 sb rfl (FH.le_refl _) ?_
 rintro i q610
 have hF := q611 i q610
 show J _ _ _ _ _ [(1, .pointer (some pt)), (2, .pointer (some pv)), (3, iV i)] [Box pt (tF t at_ ct at_2 ct2 at_3 ct3), Box pv [iV 0, iV 0]] h
 refine .seq (.seq (.region (.V mv0 ?_)))
 refine .V (fa rfl tF25_3) ?_
 refine .V (ld1 rfl tO23 (cellB (off := 3) (k := 0) rfl rfl)) ?_
 refine .V (ln rfl tS23.is) ?_
 refine .V bi0 ?_
 refine .nil (.seqN ?_)
 refine .cond rfl (fun q613 => ?_) (fun q613 => ?_)
 ·replace hF := hF.1 q613
  refine .skip (.seqN (.seq (.block (.seq (.region (.V (fa rfl tF25_3) ?_))))))
  refine .V (ld1 rfl tO23 (cellB (off := 3) (k := 0) rfl rfl)) ?_
  refine .V mv0 ?_
  obtain ⟨q690, hF⟩ := hF
  refine .V (ix rfl rfl tS23 (_q5.ne (by decide) (inb_pos q690)) q690) ?_
  obtain ⟨_, ⟨a, c, a2, c2, a3, c3, rfl, ⟨q691, q692⟩, ⟨q693, q694⟩, q695, q696⟩, q697⟩ := _q5.elem q690
  refine .V (ldA (cs := [.slice a ((gt t.ops i).pre.length) c, .slice a2 ((gt t.ops i).add.length) c2, .slice a3 ((gt t.ops i).del.length) c3, iV ((gt t.ops i).cost)]) rfl tA54 rfl (cellsH (q697 (by decide)))) ?_
  refine al tZ54 rfl (fun po => ?_)
  refine st (p := po) (off := 0) (k := 0) (vs := [.slice a ((gt t.ops i).pre.length) c, .slice a2 ((gt t.ops i).add.length) c2, .slice a3 ((gt t.ops i).del.length) c3, iV ((gt t.ops i).cost)]) rfl rfl rfl (fun w => (tA54 w).2) rfl rfl rfl rfl ?_
  refine .KA [Box po [.slice a ((gt t.ops i).pre.length) c, .slice a2 ((gt t.ops i).add.length) c2, .slice a3 ((gt t.ops i).del.length) c3, iV ((gt t.ops i).cost)], Box pt (tF t at_ ct at_2 ct2 at_3 ct3), Box pv [iV 0, iV 0]] ?_
  refine .nil (.seqN (.seq ?_))
  refine .share (σ := Bool) (fun z => F_taskFault_J1 t K z i I1 μ1) (fun z => [(1, .pointer (some pt)), (2, .pointer (some pv)), (3, iV i), (4, .pointer (some po)), (70, .bool z)]) (fun _ => [Box pt (tF t at_ ct at_2 ct2 at_3 ct3), Box pv [iV 0, iV 0], Box po [.slice a ((gt t.ops i).pre.length) c, .slice a2 ((gt t.ops i).add.length) c2, .slice a3 ((gt t.ops i).del.length) c3, iV ((gt t.ops i).cost)]]) (fun _ => h) ?_ (fun q709 => ?_)
  ·rintro t70 hF
   show J _ _ _ _ _ [(1, .pointer (some pt)), (2, .pointer (some pv)), (3, iV i), (4, .pointer (some po)), (70, .bool t70)] [Box pt (tF t at_ ct at_2 ct2 at_3 ct3), Box pv [iV 0, iV 0], Box po [.slice a ((gt t.ops i).pre.length) c, .slice a2 ((gt t.ops i).add.length) c2, .slice a3 ((gt t.ops i).del.length) c3, iV ((gt t.ops i).cost)]] h
   refine .cond rfl (fun q712 => ?_) (fun q712 => ?_)
   ·replace hF := hF.1 q712
    refine .seq (.region (.V mv0 ?_))
    obtain ⟨r9, q713⟩ : ∃ y_ : Fault, y_ = sp_at_ 5 i := ⟨_, rfl⟩
    replace hF := hF r9 q713
    refine .C (cl (v := .agg #[iV r9.code, iV r9.index]) Tryz.call18 rfl rfl (fun w S => (by rw [q713]; exact c_at_ S.sub 5 i ))) ?_
    refine st (p := pv) (off := 0) (k := 1) (vs := [iV r9.code, iV r9.index]) rfl rfl rfl (fun w => (tA27 w).2) rfl rfl rfl rfl ?_
    refine .KA [Box pt (tF t at_ ct at_2 ct2 at_3 ct3), Box pv [iV r9.code, iV r9.index], Box po [.slice a ((gt t.ops i).pre.length) c, .slice a2 ((gt t.ops i).add.length) c2, .slice a3 ((gt t.ops i).del.length) c3, iV ((gt t.ops i).cost)]] ?_
    refine .nil (.seqN (.ret (.seqR (.blkR (.seqR (.seqR (.blkR (.seqR ?_))))))))
    refine .res1 rfl (rvC rfl tA27 (k := 1) rfl rfl) (fun w' S => ⟨r9, hF, rfl, S.below⟩)
   replace hF := hF.2 q712
   refine .skip (.seqN (.seq (.region (.V (fa rfl tF54_3) ?_))))
   refine .V (ld1 rfl tO3 (cellB (off := 3) (k := 2) rfl rfl)) ?_
   obtain ⟨r10, q714⟩ : ∃ y_ : Bool, y_ = sp_in_ ((gt t.ops i).cost) 0 100 := ⟨_, rfl⟩
   replace hF := hF r10 q714
   refine .C (cl (v := .bool r10) Tryz.call25 rfl rfl (fun w S => (by rw [q714]; exact c_in_ S.sub ((gt t.ops i).cost) 0 100 ))) ?_
   refine .V (nt rfl) ?_
   refine .nil (.seqN ?_)
   refine .cond rfl (fun q715 => ?_) (fun q715 => ?_)
   ·replace hF := hF.1 q715
    refine .seq (.region (.V mv0 ?_))
    obtain ⟨r11, q716⟩ : ∃ y_ : Fault, y_ = sp_at_ 3 i := ⟨_, rfl⟩
    replace hF := hF r11 q716
    refine .C (cl (v := .agg #[iV r11.code, iV r11.index]) Tryz.call18 rfl rfl (fun w S => (by rw [q716]; exact c_at_ S.sub 3 i ))) ?_
    refine st (p := pv) (off := 0) (k := 1) (vs := [iV r11.code, iV r11.index]) rfl rfl rfl (fun w => (tA27 w).2) rfl rfl rfl rfl ?_
    refine .KA [Box pt (tF t at_ ct at_2 ct2 at_3 ct3), Box pv [iV r11.code, iV r11.index], Box po [.slice a ((gt t.ops i).pre.length) c, .slice a2 ((gt t.ops i).add.length) c2, .slice a3 ((gt t.ops i).del.length) c3, iV ((gt t.ops i).cost)]] ?_
    refine .nil (.seqN (.ret (.blkR (.seqR (.seqR (.blkR (.seqR ?_)))))))
    refine .res1 rfl (rvC rfl tA27 (k := 1) rfl rfl) (fun w' S => ⟨r11, hF, rfl, S.below⟩)
   replace hF := hF.2 q715
   refine .skip (.blkN (.seqN (.region (.V mv0 ?_))))
   refine .V bi0 ?_
   refine .V ag0 ?_
   refine .nil ?_
   refine .sel0 [0, 1] (by decide) rfl ?_
   exact .RO (wr (i + 1)) hF.1 hF.2
  refine .region (.V (fa rfl tF54_0) ?_)
  refine .V (ld1 rfl tO22 (cellB (off := 0) (k := 0) rfl rfl)) ?_
  refine .V (fa rfl tF25_0) ?_
  refine .V (ld1 rfl tO3 (cellB (off := 0) (k := 1) rfl rfl)) ?_
  obtain ⟨q717, hF⟩ := hF
  obtain ⟨r12, q718⟩ : ∃ y_ : Bool, y_ = sp_isSet ((gt t.ops i).pre) t.facts := ⟨_, rfl⟩
  replace hF := hF r12 q718
  refine .C (cl (v := .bool r12) Tryz.call26 rfl rfl (fun w S => (by rw [q718]; exact c_rIsSet S.sub ((gt t.ops i).pre) a c q692 q691 t.facts q717))) ?_
  refine .V (nt rfl) ?_
  refine .V mv0 ?_
  rcases Bool.eq_false_or_eq_true (!r12) with q719 | q719
  ·replace hF := hF.1 q719
   refine .GS q719 ?_
   refine .GS q719 ?_
   refine .GS q719 ?_
   refine .GS q719 ?_
   refine .GS q719 ?_
   refine .GS q719 ?_
   refine .V (pkT rfl q719 rfl) ?_
   refine .V mv0 ?_
   refine .gS rfl rfl rfl rfl rfl rfl ?_
   refine .gS rfl rfl rfl rfl rfl rfl ?_
   refine .gS rfl rfl rfl rfl rfl rfl ?_
   refine .gS rfl rfl rfl rfl rfl rfl ?_
   refine .gS rfl rfl rfl rfl rfl rfl ?_
   refine .gS rfl rfl rfl rfl rfl rfl ?_
   refine .V (pkT rfl rfl rfl) ?_
   refine .V mv0 ?_
   refine .gS rfl rfl rfl rfl rfl rfl ?_
   refine .gS rfl rfl rfl rfl rfl rfl ?_
   refine .gS rfl rfl rfl rfl rfl rfl ?_
   refine .gS rfl rfl rfl rfl rfl rfl ?_
   refine .gS rfl rfl rfl rfl rfl rfl ?_
   refine .gS rfl rfl rfl rfl rfl rfl ?_
   refine .V (pkT rfl rfl rfl) ?_
   refine .nil ?_
   refine .sel0 [1, 2, 0] (by decide) rfl ?_
   exact .US q709 true hF
  replace hF := hF.2 q719
  refine .GV (fa rfl tF54_1) q719 ?_
  refine .GV (ld1 rfl tO22 (cellB (off := 1) (k := 0) rfl rfl)) q719 ?_
  refine .GV (fa rfl tF25_0) q719 ?_
  refine .GV (ld1 rfl tO3 (cellB (off := 0) (k := 1) rfl rfl)) q719 ?_
  obtain ⟨q720, hF⟩ := hF
  obtain ⟨r13, q721⟩ : ∃ y_ : Bool, y_ = sp_isSet ((gt t.ops i).add) t.facts := ⟨_, rfl⟩
  replace hF := hF r13 q721
  refine .gc (cl (v := .bool r13) Tryz.call26 rfl rfl (fun w S => (by rw [q721]; exact c_rIsSet S.sub ((gt t.ops i).add) a2 c2 q694 q693 t.facts q720))) rfl rfl rfl q719 rfl rfl ?_
  refine .GV (nt rfl) q719 ?_
  refine .V (pkF rfl q719 rfl) ?_
  refine .V mv0 ?_
  rcases Bool.eq_false_or_eq_true (!r13) with q722 | q722
  ·replace hF := hF.1 q722
   refine .GS q722 ?_
   refine .GS q722 ?_
   refine .GS q722 ?_
   refine .GS q722 ?_
   refine .GS q722 ?_
   refine .GS q722 ?_
   refine .V (pkT rfl q722 rfl) ?_
   refine .V mv0 ?_
   refine .gS rfl rfl rfl rfl rfl rfl ?_
   refine .gS rfl rfl rfl rfl rfl rfl ?_
   refine .gS rfl rfl rfl rfl rfl rfl ?_
   refine .gS rfl rfl rfl rfl rfl rfl ?_
   refine .gS rfl rfl rfl rfl rfl rfl ?_
   refine .gS rfl rfl rfl rfl rfl rfl ?_
   refine .V (pkT rfl rfl rfl) ?_
   refine .nil ?_
   refine .sel0 [1, 2, 0] (by decide) rfl ?_
   exact .US q709 true hF
  replace hF := hF.2 q722
  refine .GV (fa rfl tF54_2) q722 ?_
  refine .GV (ld1 rfl tO22 (cellB (off := 2) (k := 0) rfl rfl)) q722 ?_
  refine .GV (fa rfl tF25_0) q722 ?_
  refine .GV (ld1 rfl tO3 (cellB (off := 0) (k := 1) rfl rfl)) q722 ?_
  obtain ⟨q723, hF⟩ := hF
  obtain ⟨r14, q724⟩ : ∃ y_ : Bool, y_ = sp_isSet ((gt t.ops i).del) t.facts := ⟨_, rfl⟩
  replace hF := hF r14 q724
  refine .gc (cl (v := .bool r14) Tryz.call26 rfl rfl (fun w S => (by rw [q724]; exact c_rIsSet S.sub ((gt t.ops i).del) a3 c3 q696 q695 t.facts q723))) rfl rfl rfl q722 rfl rfl ?_
  refine .GV (nt rfl) q722 ?_
  refine .V (pkF rfl q722 rfl) ?_
  refine .V mv0 ?_
  rcases Bool.eq_false_or_eq_true (!r14) with q725 | q725
  ·replace hF := hF.1 q725
   refine .GS q725 ?_
   refine .GS q725 ?_
   refine .GS q725 ?_
   refine .GS q725 ?_
   refine .GS q725 ?_
   refine .GS q725 ?_
   refine .V (pkT rfl q725 rfl) ?_
   refine .nil ?_
   refine .sel0 [1, 2, 0] (by decide) rfl ?_
   exact .US q709 true hF
  replace hF := hF.2 q725
  refine .GV (fa rfl tF54_1) q725 ?_
  refine .GV (ld1 rfl tO22 (cellB (off := 1) (k := 0) rfl rfl)) q725 ?_
  refine .GV (fa rfl tF54_2) q725 ?_
  refine .GV (ld1 rfl tO22 (cellB (off := 2) (k := 0) rfl rfl)) q725 ?_
  obtain ⟨q726, hF⟩ := hF
  obtain ⟨r15, q727⟩ : ∃ y_ : Bool, y_ = sp_disjoint ((gt t.ops i).add) ((gt t.ops i).del) := ⟨_, rfl⟩
  replace hF := hF r15 q727
  refine .gc (cl (v := .bool r15) Tryz.call89 rfl rfl (fun w S => (by rw [q727]; exact c_disjoint S.sub ((gt t.ops i).add) a2 c2 q694 q693 ((gt t.ops i).del) a3 c3 q696 q695 q726))) rfl rfl rfl q725 rfl rfl ?_
  refine .GV (nt rfl) q725 ?_
  refine .V (pkF rfl q725 rfl) ?_
  refine .nil ?_
  refine .sel0 [1, 2, 0] (by decide) rfl ?_
  exact .US q709 (!r15) hF
 replace hF := hF.2 q613
 refine .exit (.seqX (.seqX (.blkX (.seqN (.seq (.region (.V (bld (cs := #[iV 0, iV 0]) (pv := []) tB27 rfl rfl) ?_)))))))
 refine st (p := pv) (off := 0) (k := 1) (vs := [iV 0, iV 0]) rfl rfl rfl (fun w => (tA27 w).2) rfl rfl rfl rfl ?_
 refine .KA [Box pt (tF t at_ ct at_2 ct2 at_3 ct3), Box pv [iV 0, iV 0]] ?_
 refine .nil (.seqN (.ret ?_))
 refine .res1 rfl (rvC rfl tA27 (k := 1) rfl rfl) (fun w' S => ⟨(⟨0, 0⟩ : Fault), hF, rfl, S.below⟩)
theorem c_taskFault {h : FH} {w : World} (hs : Sub h w) (t : Task) (at_ : Option Addr) (ct : Nat) (_q1 : RSl h at_ t.init) (_q2 : t.init.length ≤ ct) (at_2 : Option Addr) (ct2 : Nat) (_q3 : RSl h at_2 t.goal) (_q4 : t.goal.length ≤ ct2) (at_3 : Option Addr) (ct3 : Nat) (_q5 : RSl h at_3 t.ops) (_q6 : t.ops.length ≤ ct3) : Calls Tryz.prog 53 #[.agg #[iV t.facts, .slice at_ t.init.length ct, .slice at_2 t.goal.length ct2, .slice at_3 t.ops.length ct3]] w fun e w' => e = .returned (.agg #[iV (sp_validate t).code, iV (sp_validate t).index]) ∧ Below w.heap.size w w' :=
 (w_taskFault hs t at_ ct _q1 _q2 at_2 ct2 _q3 _q4 at_3 ct3 _q5 _q6 (fun r => r = sp_validate t) (ok_taskFault t)).mono fun _ _ ⟨_, hk, he, hb⟩ => ⟨by rw [he, hk], hb⟩
theorem w_subset {h : FH} {w : World} (hs : Sub h w) (part : List Int) (apart : Option Addr) (cpart : Nat) (_q1 : RSl h apart part) (_q2 : part.length ≤ cpart) (l : List Int) (al2 : Option Addr) (cl2 : Nat) (_q3 : RSl h al2 l) (_q4 : l.length ≤ cl2) (K : Bool → Prop) (hF : F_subset part l K) : Calls Tryz.prog 63 #[.slice apart part.length cpart, .slice al2 l.length cl2] w fun e w' => ∃ r : Bool, K r ∧ e = .returned (.bool r) ∧ Below w.heap.size w w' := by
 refine enter (args := [vSl apart part cpart, vSl al2 l cl2]) Tryz.func63 rfl Tryz.ntmps63 rfl hs ?_
 refine .seq (.region (.V ag0 ?_))
 refine .nil (.seqN (.seq (.seq (.region (.V ag0 ?_)))))
 refine .nil (.seqN (.block ?_))
 obtain ⟨I1, μ1, q77, q78⟩ := hF
 refine .loop' (σ := Int) (fun z => I1 z) (fun z => μ1 z) (fun z => [(0, vSl apart part cpart), (1, vSl al2 l cl2), (5, iV z)]) (fun _ => []) (fun _ => h) 0 q77 sb rfl (FH.le_refl _) ?_
 rintro i q77
 have hF := q78 i q77
 show J _ _ _ _ _ [(0, vSl apart part cpart), (1, vSl al2 l cl2), (5, iV i)] [] h
 refine .seq (.seq (.region (.V mv0 ?_)))
 refine .V mv0 ?_
 refine .V (ln rfl tS22.is) ?_
 refine .V bi0 ?_
 refine .nil (.seqN ?_)
 refine .cond rfl (fun q80 => ?_) (fun q80 => ?_)
 ·replace hF := hF.1 q80
  refine .skip (.seqN (.seq (.block (.seq (.region (.V mv0 ?_))))))
  refine .V mv0 ?_
  refine .V mv0 ?_
  obtain ⟨q89, hF⟩ := hF
  refine .V (ix rfl rfl tS22 (_q1.ne (by decide) (inb_pos q89)) q89) ?_
  refine .V (ld1 (v := iV (gt part i)) rfl tO3 (cellH (_q1.elemF q89 (by decide) 0 _ rfl))) ?_
  obtain ⟨q90, hF⟩ := hF
  obtain ⟨r2, q91⟩ : ∃ y_ : Bool, y_ = sp_has l (gt part i) := ⟨_, rfl⟩
  replace hF := hF r2 q91
  refine .C (cl (v := .bool r2) Tryz.call76 rfl rfl (fun w S => (by rw [q91]; exact c_has S.sub l al2 cl2 _q3 _q4 (gt part i) q90))) ?_
  refine .V (nt rfl) ?_
  refine .nil (.seqN ?_)
  refine .cond rfl (fun q92 => ?_) (fun q92 => ?_)
  ·replace hF := hF.1 q92
   refine .seq (.region (.V ag0 ?_))
   refine .nil (.seqN (.ret (.blkR (.seqR (.seqR (.blkR (.seqR ?_)))))))
   refine .res1 rfl (rvT rfl) (fun w' S => ⟨false, hF, rfl, S.below⟩)
  replace hF := hF.2 q92
  refine .skip (.blkN (.seqN (.region (.V mv0 ?_))))
  refine .V bi0 ?_
  refine .V ag0 ?_
  refine .nil ?_
  exact .RO (wr (i + 1)) hF.1 hF.2
 replace hF := hF.2 q80
 refine .exit (.seqX (.seqX (.blkX (.seqN (.seq (.region (.V ag0 ?_)))))))
 refine .nil (.seqN (.ret ?_))
 refine .res1 rfl (rvT rfl) (fun w' S => ⟨true, hF, rfl, S.below⟩)
theorem c_subset {h : FH} {w : World} (hs : Sub h w) (part : List Int) (apart : Option Addr) (cpart : Nat) (_q1 : RSl h apart part) (_q2 : part.length ≤ cpart) (l : List Int) (al2 : Option Addr) (cl2 : Nat) (_q3 : RSl h al2 l) (_q4 : l.length ≤ cl2) (hp : pre_subset part l) : Calls Tryz.prog 63 #[.slice apart part.length cpart, .slice al2 l.length cl2] w fun e w' => e = .returned (.bool (sp_subset part l)) ∧ Below w.heap.size w w' :=
 (w_subset hs part apart cpart _q1 _q2 l al2 cl2 _q3 _q4 (fun r => r = sp_subset part l) (ok_subset part l hp)).mono fun _ _ ⟨_, hk, he, hb⟩ => ⟨by rw [he, hk], hb⟩
set_option maxHeartbeats 8000000 in
theorem w_after {h : FH} {w : World} (hs : Sub h w) (t : Task) (at_ : Option Addr) (ct : Nat) (_q1 : RSl h at_ t.init) (_q2 : t.init.length ≤ ct) (at_2 : Option Addr) (ct2 : Nat) (_q3 : RSl h at_2 t.goal) (_q4 : t.goal.length ≤ ct2) (at_3 : Option Addr) (ct3 : Nat) (_q5 : RSl h at_3 t.ops) (_q6 : t.ops.length ≤ ct3) (s_ : List Int) (as_ : Option Addr) (cs_ : Nat) (_q7 : RSl h as_ s_) (_q8 : s_.length ≤ cs_) (op : Int) (K : (List Int) → Prop) (hF : F_after t s_ op K) : Calls Tryz.prog 64 #[.agg #[iV t.facts, .slice at_ t.init.length ct, .slice at_2 t.goal.length ct2, .slice at_3 t.ops.length ct3], .slice as_ s_.length cs_, iV op] w fun e w' => ∃ (r : List Int) (z : Option Addr × Nat) (h1 : FH), K r ∧ e = .returned (.slice z.1 r.length z.2) ∧ FH.le h h1 ∧ (RSl h1 z.1 r ∧ r.length ≤ z.2) ∧ SH (Kp.all w h) h1 w' [] := by
 refine enter (args := [.agg (tF t at_ ct at_2 ct2 at_3 ct3).toArray, vSl as_ s_ cs_, iV op]) Tryz.func64 rfl Tryz.ntmps64 rfl hs ?_
 refine .seq (.region ?_)
 refine bx (vs := (tF t at_ ct at_2 ct2 at_3 ct3)) rfl rfl rfl (fun pt => ?_)
 refine .V ag0 ?_
 refine .nil (.seqN (.seq (.region (.V ag0 ?_))))
 refine .nil (.seqN (.seq (.seq (.region (.V ag0 ?_)))))
 refine .nil (.seqN (.block ?_))
 refine .nilSl 3 1 ?_
 refine .KA [oL 3 1 none ([] : List Int) 0, Box pt (tF t at_ ct at_2 ct2 at_3 ct3)] ?_
 refine .sel0 [1, 0] (by decide) rfl ?_
 obtain ⟨I1, μ1, q396, q397⟩ := hF
 refine .loop' (σ := Int × List Int × Option Addr × Nat) (fun z => I1 z.1 z.2.1) (fun z => μ1 z.1 z.2.1) (fun z => [(1, vSl as_ s_ cs_), (2, iV op), (3, .pointer (some pt)), (7, vSl z.2.2.1 z.2.1 z.2.2.2), (8, iV z.1)]) (fun z => [Box pt (tF t at_ ct at_2 ct2 at_3 ct3), oL 3 1 z.2.2.1 z.2.1 z.2.2.2]) (fun _ => h) (0, ([] : List Int), none, 0) q396 sb rfl (FH.le_refl _) ?_
 rintro ⟨p, out, aout, cout⟩ q396
 have hF := q397 p out q396
 show J _ _ _ _ _ [(1, vSl as_ s_ cs_), (2, iV op), (3, .pointer (some pt)), (7, vSl aout out cout), (8, iV p)] [Box pt (tF t at_ ct at_2 ct2 at_3 ct3), oL 3 1 aout out cout] h
 refine .seq (.seq (.region (.V mv0 ?_)))
 refine .V (fa rfl tF25_0) ?_
 refine .V (ld1 rfl tO3 (cellB (off := 0) (k := 0) rfl rfl)) ?_
 refine .V bi0 ?_
 refine .nil (.seqN ?_)
 refine .cond rfl (fun q399 => ?_) (fun q399 => ?_)
 ·replace hF := hF.1 q399
  refine .skip (.seqN ?_)
  refine .share (σ := List Int × Option Addr × Nat) (fun z => F_after_J1 out p I1 μ1 z.1) (fun z => [(1, vSl as_ s_ cs_), (2, iV op), (3, .pointer (some pt)), (7, vSl z.2.1 z.1 z.2.2), (8, iV p)]) (fun z => [Box pt (tF t at_ ct at_2 ct2 at_3 ct3), oL 3 1 z.2.1 z.1 z.2.2]) (fun _ => h) ?_ (fun q437 => ?_)
  ·rintro ⟨out3, aout3, cout3⟩ hF
   show J _ _ _ _ _ [(1, vSl as_ s_ cs_), (2, iV op), (3, .pointer (some pt)), (7, vSl aout3 out3 cout3), (8, iV p)] [Box pt (tF t at_ ct at_2 ct2 at_3 ct3), oL 3 1 aout3 out3 cout3] h
   refine .region (.V mv0 ?_)
   refine .V bi0 ?_
   refine .V ag0 ?_
   refine .nil ?_
   exact .RO (wr (p + 1), out3, aout3, cout3) hF.1 hF.2
  refine .block ?_
  refine .share (σ := Bool) (fun z => F_after_J2 z out p I1 μ1) (fun z => [(1, vSl as_ s_ cs_), (2, iV op), (3, .pointer (some pt)), (7, vSl aout out cout), (8, iV p), (38, .bool z)]) (fun _ => [Box pt (tF t at_ ct at_2 ct2 at_3 ct3), oL 3 1 aout out cout]) (fun _ => h) ?_ (fun q454 => ?_)
  ·rintro t38 hF
   show J _ _ _ _ _ [(1, vSl as_ s_ cs_), (2, iV op), (3, .pointer (some pt)), (7, vSl aout out cout), (8, iV p), (38, .bool t38)] [Box pt (tF t at_ ct at_2 ct2 at_3 ct3), oL 3 1 aout out cout] h
   refine .cond rfl (fun q455 => ?_) (fun q455 => ?_)
   ·replace hF := hF.1 q455
    refine .region (.V mv0 ?_)
    refine .V mv0 ?_
    refine bs2 (cs := #[iV p]) (pv := [(0, iV p)]) tS22 rfl rfl (by decide) (by decide) rfl rfl rfl (fun a _ => ?_)
    refine .KA [oL 3 1 a ([p] : List Int) 1, Box pt (tF t at_ ct at_2 ct2 at_3 ct3), oL 3 1 aout out cout] ?_
    obtain ⟨q457, hF⟩ := hF
    have q458 : out.length + ([p] : List Int).length = ((out ++ ([p] : List Int))).length := len_app rfl rfl
    refine app (k := 2) (news := flL ([p] : List Int)) (cs' := flL (out ++ ([p] : List Int))) (nm := ((out ++ ([p] : List Int))).length) tS22 rfl (by decide) rfl rfl rfl (by rw [flL_len]; rfl) (srcS (k := 0) rfl) (flL_one _) (room_of q458 q457).1 (room_of q458 q457).2 q458 (flL_append _ _).symm rfl (fun a2 c => ?_)
    refine .KA [oL 3 1 a ([p] : List Int) 1, Box pt (tF t at_ ct at_2 ct2 at_3 ct3), oL 3 1 a2 (out ++ ([p] : List Int)) c] ?_
    refine .V ag0 ?_
    refine .nil (.blkN ?_)
    refine .sel0 [1, 2] (by decide) rfl ?_
    exact .US q437 ((out ++ ([p] : List Int)), a2, c) hF
   replace hF := hF.2 q455
   refine .skip (.blkN ?_)
   exact .US q437 (out, aout, cout) hF
  refine .region (.V (fa rfl tF25_3) ?_)
  refine .V (ld1 rfl tO23 (cellB (off := 3) (k := 0) rfl rfl)) ?_
  refine .V mv0 ?_
  obtain ⟨q459, hF⟩ := hF
  refine .V (ix rfl rfl tS23 (_q5.ne (by decide) (inb_pos q459)) q459) ?_
  refine .V (fa rfl tF54_1) ?_
  obtain ⟨_, ⟨a3, c2, a4, c3, a5, c4, rfl, ⟨q460, q461⟩, ⟨q462, q463⟩, q464, q465⟩, q466⟩ := _q5.elem q459
  refine .V (ld1 (v := .slice a4 ((gt t.ops op).add.length) c3) rfl tO22 (cellH (q466 (by decide) 1 _ rfl))) ?_
  refine .V mv0 ?_
  obtain ⟨q467, hF⟩ := hF
  obtain ⟨r2, q468⟩ : ∃ y_ : Bool, y_ = sp_has ((gt t.ops op).add) p := ⟨_, rfl⟩
  replace hF := hF r2 q468
  refine .C (cl (v := .bool r2) Tryz.call76 rfl rfl (fun w S => (by rw [q468]; exact c_has S.sub ((gt t.ops op).add) a4 c3 q463 q462 p q467))) ?_
  refine .V mv0 ?_
  rcases Bool.eq_false_or_eq_true (r2) with q469 | q469
  ·replace hF := hF.1 q469
   refine .GS q469 ?_
   refine .GS q469 ?_
   refine .GS q469 ?_
   refine .GS q469 ?_
   refine .GU ?_
   refine .GU ?_
   refine .GU ?_
   refine .GU ?_
   refine .GU ?_
   refine .GU ?_
   refine .GU ?_
   refine .GU ?_
   refine .GU ?_
   refine .GS q469 ?_
   refine .V (pkT rfl q469 rfl) ?_
   refine .nil ?_
   exact .US q454 true hF
  replace hF := hF.2 q469
  refine .GV mv0 q469 ?_
  refine .GV mv0 q469 ?_
  obtain ⟨q470, hF⟩ := hF
  obtain ⟨r3, q471⟩ : ∃ y_ : Bool, y_ = sp_has s_ p := ⟨_, rfl⟩
  replace hF := hF r3 q471
  refine .gc (cl (v := .bool r3) Tryz.call76 rfl rfl (fun w S => (by rw [q471]; exact c_has S.sub s_ as_ cs_ _q7 _q8 p q470))) rfl rfl rfl q469 rfl rfl ?_
  refine .GV mv0 q469 ?_
  rcases Bool.eq_false_or_eq_true (r3) with q472 | q472
  ·replace hF := hF.1 q472
   refine .GV (fa rfl tF25_3) q472 ?_
   refine .GV (ld1 rfl tO23 (cellB (off := 3) (k := 0) rfl rfl)) q472 ?_
   refine .GV mv0 q472 ?_
   refine .GV (ix rfl rfl tS23 (_q5.ne (by decide) (inb_pos q459)) q459) q472 ?_
   refine .GV (fa rfl tF54_2) q472 ?_
   refine .GV (ld1 (v := .slice a5 ((gt t.ops op).del.length) c4) rfl tO22 (cellH (q466 (by decide) 2 _ rfl))) q472 ?_
   refine .GV mv0 q472 ?_
   obtain ⟨q473, hF⟩ := hF
   obtain ⟨r4, q474⟩ : ∃ y_ : Bool, y_ = sp_has ((gt t.ops op).del) p := ⟨_, rfl⟩
   replace hF := hF r4 q474
   refine .gc (cl (v := .bool r4) Tryz.call76 rfl rfl (fun w S => (by rw [q474]; exact c_has S.sub ((gt t.ops op).del) a5 c4 q465 q464 p q473))) rfl rfl rfl q472 rfl rfl ?_
   refine .GV (nt rfl) q472 ?_
   refine .GV (pkT rfl q472 rfl) q469 ?_
   refine .V (pkF rfl q469 rfl) ?_
   refine .nil ?_
   exact .US q454 (!r4) hF
  replace hF := hF.2 q472
  refine .GS q472 ?_
  refine .GS q472 ?_
  refine .GS q472 ?_
  refine .GS q472 ?_
  refine .GS q472 ?_
  refine .GS q472 ?_
  refine .GS q472 ?_
  refine .GS q472 ?_
  refine .GS q472 ?_
  refine .GV (pkF rfl q472 rfl) q469 ?_
  refine .V (pkF rfl q469 rfl) ?_
  refine .nil ?_
  exact .US q454 false hF
 replace hF := hF.2 q399
 refine .exit (.seqX (.seqX (.blkX (.seqN (.seq (.region (.V mv0 ?_)))))))
 refine .V ag0 ?_
 refine .nil (.seqN ?_)
 refine .freezeL (k := 1) rfl (fun h1 le1 q476 q475 => ?_)
 refine .KA [Box pt (tF t at_ ct at_2 ct2 at_3 ct3), tru] ?_
 refine .ret ?_
 refine .res1 rfl (rvT rfl) (fun w' S => ⟨out, (aout, cout), h1, hF, rfl, (le1), ⟨(RSl.of q475), (q476)⟩, S.none⟩)
theorem c_after {h : FH} {w : World} (hs : Sub h w) (t : Task) (at_ : Option Addr) (ct : Nat) (_q1 : RSl h at_ t.init) (_q2 : t.init.length ≤ ct) (at_2 : Option Addr) (ct2 : Nat) (_q3 : RSl h at_2 t.goal) (_q4 : t.goal.length ≤ ct2) (at_3 : Option Addr) (ct3 : Nat) (_q5 : RSl h at_3 t.ops) (_q6 : t.ops.length ≤ ct3) (s_ : List Int) (as_ : Option Addr) (cs_ : Nat) (_q7 : RSl h as_ s_) (_q8 : s_.length ≤ cs_) (op : Int) (hp : pre_after t s_ op) : Calls Tryz.prog 64 #[.agg #[iV t.facts, .slice at_ t.init.length ct, .slice at_2 t.goal.length ct2, .slice at_3 t.ops.length ct3], .slice as_ s_.length cs_, iV op] w fun e w' => ∃ (z : Option Addr × Nat) (h1 : FH), e = .returned (.slice z.1 (sp_after t s_ op).length z.2) ∧ FH.le h h1 ∧ (RSl h1 z.1 (sp_after t s_ op) ∧ (sp_after t s_ op).length ≤ z.2) ∧ SH (Kp.all w h) h1 w' [] :=
 (w_after hs t at_ ct _q1 _q2 at_2 ct2 _q3 _q4 at_3 ct3 _q5 _q6 s_ as_ cs_ _q7 _q8 op (fun r => r = sp_after t s_ op) (ok_after t s_ op hp)).mono fun _ _ ⟨r, z, h1, hk, he, hl, hf, hS⟩ => by subst hk; exact ⟨z, h1, he, hl, hf, hS⟩
end Go.Proofs.YtojoehfldbimpaaGreatDoor.Pl

namespace Go.Proofs.YtojoehfldbimpaaGreatDoor.Pl
open Go Go.RowKit
theorem w_update {h : FH} {w : World} (hs : Sub h w) (s_ : List Int) (as_ : Option Addr) (cs_ : Nat) (_q1 : RSl h as_ s_) (_q2 : s_.length ≤ cs_) (add : List Int) (aadd : Option Addr) (cadd : Nat) (_q3 : RSl h aadd add) (_q4 : add.length ≤ cadd) (del : List Int) (adel : Option Addr) (cdel : Nat) (_q5 : RSl h adel del) (_q6 : del.length ≤ cdel) (K : (List Int) → Prop) (hF : F_update s_ add del K) : Calls Tryz.prog 83 #[.slice as_ s_.length cs_, .slice aadd add.length cadd, .slice adel del.length cdel] w fun e w' => ∃ (r : List Int) (z : Option Addr × Nat) (h1 : FH), K r ∧ e = .returned (.slice z.1 r.length z.2) ∧ FH.le h h1 ∧ True ∧ SH (Kp.all w h) h1 w' [OwnSl 3 1 z.1 r.length z.2 (flL r)] := by
 refine enter (args := [vSl as_ s_ cs_, vSl aadd add cadd, vSl adel del cdel]) Tryz.func83 rfl Tryz.ntmps83 rfl hs ?_
 refine .seq (.region (.V ag0 ?_))
 refine .nil (.seqN (.seq (.region (.V ag0 ?_))))
 refine .nil (.seqN (.seq (.seq (.region (.V mv0 ?_)))))
 refine .V (ln rfl tS22.is) ?_
 refine .V mv0 ?_
 refine .nil (.seqN (.block ?_))
 refine .nilSl 3 1 ?_
 refine .KA [oL 3 1 none ([] : List Int) 0] ?_
 obtain ⟨I1, μ1, q99, q100⟩ := hF
 refine .loop' (σ := Int × List Int × Option Addr × Nat) (fun z => I1 z.1 z.2.1) (fun z => μ1 z.1 z.2.1) (fun z => [(1, vSl aadd add cadd), (2, vSl adel del cdel), (7, vSl z.2.2.1 z.2.1 z.2.2.2), (12, vSl as_ s_ cs_), (13, iV ((s_.length : Nat) : Int)), (14, iV z.1)]) (fun z => [oL 3 1 z.2.2.1 z.2.1 z.2.2.2]) (fun _ => h) (0, ([] : List Int), none, 0) q99 sb rfl (FH.le_refl _) ?_
 rintro ⟨t14, out, aout, cout⟩ q99
 have hF := q100 t14 out q99
 show J _ _ _ _ _ [(1, vSl aadd add cadd), (2, vSl adel del cdel), (7, vSl aout out cout), (12, vSl as_ s_ cs_), (13, iV ((s_.length : Nat) : Int)), (14, iV t14)] [oL 3 1 aout out cout] h
 refine .seq (.region (.V bi0 ?_))
 refine .nil (.seqN (.seq ?_))
 refine .cond rfl (fun q103 => ?_) (fun q103 => ?_)
 ·replace hF := hF.1 q103
  refine .skip (.seqN ?_)
  refine .share (σ := List Int × Option Addr × Nat) (fun z => F_update_J1 out t14 I1 μ1 z.1) (fun z => [(1, vSl aadd add cadd), (2, vSl adel del cdel), (7, vSl z.2.1 z.1 z.2.2), (12, vSl as_ s_ cs_), (13, iV ((s_.length : Nat) : Int)), (14, iV t14)]) (fun z => [oL 3 1 z.2.1 z.1 z.2.2]) (fun _ => h) ?_ (fun q111 => ?_)
  ·rintro ⟨out3, aout3, cout3⟩ hF
   show J _ _ _ _ _ [(1, vSl aadd add cadd), (2, vSl adel del cdel), (7, vSl aout3 out3 cout3), (12, vSl as_ s_ cs_), (13, iV ((s_.length : Nat) : Int)), (14, iV t14)] [oL 3 1 aout3 out3 cout3] h
   refine .region (.V bi0 ?_)
   refine .V mv0 ?_
   refine .nil ?_
   exact .RO (wr (t14 + 1), out3, aout3, cout3) hF.1 hF.2
  refine .block (.seq (.region ?_))
  obtain ⟨q112, hF⟩ := hF
  refine .V (ix rfl rfl tS22 (_q1.ne (by decide) (inb_pos q112)) q112) ?_
  refine .V (ld1 (v := iV (gt s_ t14)) rfl tO3 (cellH (_q1.elemF q112 (by decide) 0 _ rfl))) ?_
  refine .V ag0 ?_
  refine .nil (.seqN (.seq (.region (.V mv0 ?_))))
  refine .V mv0 ?_
  obtain ⟨q113, hF⟩ := hF
  obtain ⟨r2, q114⟩ : ∃ y_ : Int × Bool, y_ = sp_bsearch del (gt s_ t14) := ⟨_, rfl⟩
  replace hF := hF r2 q114
  refine .C (cl (v := .tuple #[iV r2.1, .bool r2.2]) Tryz.call104 rfl rfl (fun w S => (by rw [q114]; exact c_bsearch S.sub del adel cdel _q5 _q6 (gt s_ t14) q113))) ?_
  refine .V mv0 ?_
  refine .V (ext rfl rfl) ?_
  refine .V (ext rfl rfl) ?_
  refine .V ag0 ?_
  refine .V ag0 ?_
  refine .nil (.seqN (.seq (.region (.V mv0 ?_))))
  refine .V (nt rfl) ?_
  refine .nil (.seqN ?_)
  refine .cond rfl (fun q115 => ?_) (fun q115 => ?_)
  ·replace hF := hF.1 q115
   refine .region (.V mv0 ?_)
   refine .V mv0 ?_
   refine bs2 (cs := #[iV (gt s_ t14)]) (pv := [(0, iV (gt s_ t14))]) tS22 rfl rfl (by decide) (by decide) rfl rfl rfl (fun a _ => ?_)
   refine .KA [oL 3 1 a ([(gt s_ t14)] : List Int) 1, oL 3 1 aout out cout] ?_
   obtain ⟨q117, hF⟩ := hF
   have q118 : out.length + ([(gt s_ t14)] : List Int).length = ((out ++ ([(gt s_ t14)] : List Int))).length := len_app rfl rfl
   refine app (k := 1) (news := flL ([(gt s_ t14)] : List Int)) (cs' := flL (out ++ ([(gt s_ t14)] : List Int))) (nm := ((out ++ ([(gt s_ t14)] : List Int))).length) tS22 rfl (by decide) rfl rfl rfl (by rw [flL_len]; rfl) (srcS (k := 0) rfl) (flL_one _) (room_of q118 q117).1 (room_of q118 q117).2 q118 (flL_append _ _).symm rfl (fun a2 c => ?_)
   refine .KA [oL 3 1 a ([(gt s_ t14)] : List Int) 1, oL 3 1 a2 (out ++ ([(gt s_ t14)] : List Int)) c] ?_
   refine .V ag0 ?_
   refine .nil (.blkN ?_)
   refine .sel0 [1] (by decide) rfl ?_
   exact .US q111 ((out ++ ([(gt s_ t14)] : List Int)), a2, c) hF
  replace hF := hF.2 q115
  refine .skip (.blkN ?_)
  exact .US q111 (out, aout, cout) hF
 replace hF := hF.2 q103
 refine .exit (.seqX (.seqX (.blkX (.seqN (.seq (.region (.V mv0 ?_)))))))
 refine .V mv0 ?_
 obtain ⟨q119, hF⟩ := hF
 have q120 : out.length + add.length = ((out ++ add)).length := len_app rfl rfl
 refine app (k := 0) (news := flL add) (cs' := flL (out ++ add)) (nm := ((out ++ add)).length) tS22 rfl (by decide) rfl rfl rfl (by rw [flL_len]; rfl) (srcH (fun q => _q3.ne (by decide) q) (_q3.raw)) (flL_one _) (room_of q120 q119).1 (room_of q120 q119).2 q120 (flL_append _ _).symm rfl (fun a3 c2 => ?_)
 refine .KA [oL 3 1 a3 (out ++ add) c2] ?_
 refine .V ag0 ?_
 refine .nil (.seqN (.seq (.region (.V mv0 ?_))))
 obtain ⟨q121, hF⟩ := hF
 obtain ⟨r3, q122⟩ : ∃ y_ : List Int, y_ = sp_sort (out ++ add) := ⟨_, rfl⟩
 replace hF := hF r3 q122
 refine callX (k := 0) (v := .tuple #[]) (X' := OwnSl 3 1 a3 ((out ++ add).length) c2 (flL r3)) rfl Tryz.call105 rfl rfl (fun w g hx sg hd hs' => ?_) rfl ?_
 ·rw [q122]; exact c_sort hs' (out ++ add) a3 c2 hx sg hd q121
 have q123 : r3.length = (out ++ add).length := by rw [q122]; exact (sort_len (out ++ add)).trans rfl
 refine .KA [OwnSl 3 1 a3 ((out ++ add).length) c2 (flL r3)] ?_
 refine .nil (.seqN (.seq (.region (.V mv0 ?_))))
 obtain ⟨q124, hF⟩ := hF
 obtain ⟨r4, q125⟩ : ∃ y_ : List Int, y_ = sp_compact r3 := ⟨_, rfl⟩
 replace hF := hF r4 q125
 refine callX (k := 0) (v := vSl a3 r4 c2) (X' := oL 3 1 a3 r4 c2) rfl Tryz.call106 rfl rfl (fun w g hx sg hd hs' => ?_) rfl ?_
 ·rw [q125]; have hc_ := c_compact hs' r3 a3 c2 (own_n (q123).symm hx) sg hd q124; rw [q123] at hc_; exact hc_
 refine .KA [oL 3 1 a3 r4 c2] ?_
 refine .V ag0 ?_
 refine .nil (.seqN (.ret ?_))
 refine .res1 rfl (rvT rfl) (fun w' S => ⟨r4, (a3, c2), h, hF, rfl, (FH.le_refl _), trivial, S.pick (k := 0) rfl⟩)
theorem c_update {h : FH} {w : World} (hs : Sub h w) (s_ : List Int) (as_ : Option Addr) (cs_ : Nat) (_q1 : RSl h as_ s_) (_q2 : s_.length ≤ cs_) (add : List Int) (aadd : Option Addr) (cadd : Nat) (_q3 : RSl h aadd add) (_q4 : add.length ≤ cadd) (del : List Int) (adel : Option Addr) (cdel : Nat) (_q5 : RSl h adel del) (_q6 : del.length ≤ cdel) (hp : pre_update s_ add del) : Calls Tryz.prog 83 #[.slice as_ s_.length cs_, .slice aadd add.length cadd, .slice adel del.length cdel] w fun e w' => ∃ (z : Option Addr × Nat) (h0 h1 : FH), e = .returned (.slice z.1 (sp_update s_ add del).length z.2) ∧ (True) ∧ FH.le h h1 ∧ SH (Kp.all w h0) h1 w' [OwnSl 3 1 z.1 (sp_update s_ add del).length z.2 (flL (sp_update s_ add del))] :=
 (w_update hs s_ as_ cs_ _q1 _q2 add aadd cadd _q3 _q4 del adel cdel _q5 _q6 (fun r => r = sp_update s_ add del) (ok_update s_ add del hp)).mono fun _ _ ⟨r, z, h1, hk, he, hl, hψ, hS⟩ => by subst hk; exact ⟨z, h, h1, he, hψ, hl, hS⟩
set_option maxHeartbeats 8000000 in
theorem w_contains2 {h : FH} {w : World} (hs : Sub h w) (s_ : List Int) (as_ : Option Addr) (cs_ : Nat) (_q1 : RSl h as_ s_) (_q2 : s_.length ≤ cs_) (part : List Int) (apart : Option Addr) (cpart : Nat) (_q3 : RSl h apart part) (_q4 : part.length ≤ cpart) (K : Bool → Prop) (hF : F_contains2 s_ part K) : Calls Tryz.prog 88 #[.slice as_ s_.length cs_, .slice apart part.length cpart] w fun e w' => ∃ r : Bool, K r ∧ e = .returned (.bool r) ∧ Below w.heap.size w w' := by
 refine enter (args := [vSl as_ s_ cs_, vSl apart part cpart]) Tryz.func88 rfl Tryz.ntmps88 rfl hs ?_
 refine .seq (.region (.V ag0 ?_))
 refine .nil (.seqN (.seq (.region (.V ag0 ?_))))
 refine .nil (.seqN (.seq (.seq (.region (.V mv0 ?_)))))
 refine .V (ln rfl tS22.is) ?_
 refine .V mv0 ?_
 refine .nil (.seqN (.block ?_))
 obtain ⟨I1, μ1, q1162, q1163⟩ := hF
 refine .loop' (σ := Int × Int) (fun z => I1 z.1 z.2) (fun z => μ1 z.1 z.2) (fun z => [(0, vSl as_ s_ cs_), (5, iV z.1), (8, vSl apart part cpart), (9, iV ((part.length : Nat) : Int)), (10, iV z.2)]) (fun _ => []) (fun _ => h) (0, 0) q1162 sb rfl (FH.le_refl _) ?_
 rintro ⟨i, t10⟩ q1162
 have hF := q1163 i t10 q1162
 show J _ _ _ _ _ [(0, vSl as_ s_ cs_), (5, iV i), (8, vSl apart part cpart), (9, iV ((part.length : Nat) : Int)), (10, iV t10)] [] h
 refine .seq (.region (.V bi0 ?_))
 refine .nil (.seqN (.seq ?_))
 refine .cond rfl (fun q1166 => ?_) (fun q1166 => ?_)
 ·replace hF := hF.1 q1166
  refine .skip (.seqN (.seq (.block (.seq (.region ?_)))))
  obtain ⟨q1319, hF⟩ := hF
  refine .V (ix rfl rfl tS22 (_q3.ne (by decide) (inb_pos q1319)) q1319) ?_
  refine .V (ld1 (v := iV (gt part t10)) rfl tO3 (cellH (_q3.elemF q1319 (by decide) 0 _ rfl))) ?_
  refine .V ag0 ?_
  refine .nil (.seqN (.seq (.block ?_)))
  obtain ⟨I2, μ2, q1380, q1381⟩ := hF
  refine .loop' (σ := Int) (fun z => I2 z) (fun z => μ2 z) (fun z => [(0, vSl as_ s_ cs_), (5, iV z), (7, iV (gt part t10)), (8, vSl apart part cpart), (9, iV ((part.length : Nat) : Int)), (10, iV t10)]) (fun _ => []) (fun _ => h) i q1380 sb rfl (FH.le_refl _) ?_
  rintro i3 q1380
  have hF := q1381 i3 q1380
  show J _ _ _ _ _ [(0, vSl as_ s_ cs_), (5, iV i3), (7, iV (gt part t10)), (8, vSl apart part cpart), (9, iV ((part.length : Nat) : Int)), (10, iV t10)] [] h
  refine .seq ?_
  refine .share (σ := Bool) (fun z => F_contains2_J1 s_ part K z i I2 μ2 t10 i3 I1 μ1) (fun z => [(0, vSl as_ s_ cs_), (5, iV i3), (7, iV (gt part t10)), (8, vSl apart part cpart), (9, iV ((part.length : Nat) : Int)), (10, iV t10), (25, .bool z)]) (fun _ => []) (fun _ => h) ?_ (fun q1384 => ?_)
  ·rintro t25 hF
   show J _ _ _ _ _ [(0, vSl as_ s_ cs_), (5, iV i3), (7, iV (gt part t10)), (8, vSl apart part cpart), (9, iV ((part.length : Nat) : Int)), (10, iV t10), (25, .bool t25)] [] h
   refine .cond rfl (fun q1386 => ?_) (fun q1386 => ?_)
   ·replace hF := hF.1 q1386
    refine .skip (.seqN (.block (.region (.V mv0 ?_))))
    refine .V bi0 ?_
    refine .V ag0 ?_
    refine .nil (.blkN ?_)
    exact .RO (wr (i3 + 1)) hF.1 hF.2
   replace hF := hF.2 q1386
   refine .exit (.seqX (.seqX (.blkX (.seqN ?_))))
   refine .share (σ := Bool) (fun z => F_contains2_J2 K i z t10 i3 I1 μ1) (fun z => [(0, vSl as_ s_ cs_), (5, iV i3), (8, vSl apart part cpart), (9, iV ((part.length : Nat) : Int)), (10, iV t10), (39, .bool z)]) (fun _ => []) (fun _ => h) ?_ (fun q1389 => ?_)
   ·rintro t39 hF
    show J _ _ _ _ _ [(0, vSl as_ s_ cs_), (5, iV i3), (8, vSl apart part cpart), (9, iV ((part.length : Nat) : Int)), (10, iV t10), (39, .bool t39)] [] h
    refine .cond rfl (fun q1390 => ?_) (fun q1390 => ?_)
    ·replace hF := hF.1 q1390
     refine .seq (.region (.V ag0 ?_))
     refine .nil (.seqN (.ret (.blkR (.seqR (.seqR (.blkR (.seqR ?_)))))))
     refine .res1 rfl (rvT rfl) (fun w' S => ⟨false, hF, rfl, S.below⟩)
    replace hF := hF.2 q1390
    refine .skip (.blkN (.seqN (.region (.V bi0 ?_))))
    refine .V mv0 ?_
    refine .nil ?_
    exact .RO (i3, wr (t10 + 1)) hF.1 hF.2
   refine .region (.V mv0 ?_)
   refine .V mv0 ?_
   refine .V (ln rfl tS22.is) ?_
   refine .V bi0 ?_
   refine .V mv0 ?_
   rcases Bool.eq_false_or_eq_true (i3 == ((s_.length : Nat) : Int)) with q1391 | q1391
   ·replace hF := hF.1 q1391
    refine .GS q1391 ?_
    refine .GS q1391 ?_
    refine .GS q1391 ?_
    refine .GS q1391 ?_
    refine .GS q1391 ?_
    refine .GS q1391 ?_
    refine .V (pkT rfl q1391 rfl) ?_
    refine .nil ?_
    exact .US q1389 true hF
   replace hF := hF.2 q1391
   refine .GV mv0 q1391 ?_
   refine .GV mv0 q1391 ?_
   obtain ⟨q1392, hF⟩ := hF
   refine .GV (ix rfl rfl tS22 (_q1.ne (by decide) (inb_pos q1392)) q1392) q1391 ?_
   refine .GV (ld1 (v := iV (gt s_ i3)) rfl tO3 (cellH (_q1.elemF q1392 (by decide) 0 _ rfl))) q1391 ?_
   refine .GV mv0 q1391 ?_
   refine .GV bi0 q1391 ?_
   refine .V (pkF rfl q1391 rfl) ?_
   refine .nil ?_
   exact .US q1389 ((gt s_ i3) != (gt part t10)) hF
  refine .region (.V mv0 ?_)
  refine .V mv0 ?_
  refine .V (ln rfl tS22.is) ?_
  refine .V bi0 ?_
  refine .V mv0 ?_
  rcases Bool.eq_false_or_eq_true (decide (i3 < ((s_.length : Nat) : Int))) with q1393 | q1393
  ·replace hF := hF.1 q1393
   refine .GV mv0 q1393 ?_
   refine .GV mv0 q1393 ?_
   obtain ⟨q1394, hF⟩ := hF
   refine .GV (ix rfl rfl tS22 (_q1.ne (by decide) (inb_pos q1394)) q1394) q1393 ?_
   refine .GV (ld1 (v := iV (gt s_ i3)) rfl tO3 (cellH (_q1.elemF q1394 (by decide) 0 _ rfl))) q1393 ?_
   refine .GV mv0 q1393 ?_
   refine .GV bi0 q1393 ?_
   refine .V (pkT rfl q1393 rfl) ?_
   refine .nil ?_
   exact .US q1384 (decide ((gt s_ i3) < (gt part t10))) hF
  replace hF := hF.2 q1393
  refine .GS q1393 ?_
  refine .GS q1393 ?_
  refine .GS q1393 ?_
  refine .GS q1393 ?_
  refine .GS q1393 ?_
  refine .GS q1393 ?_
  refine .V (pkF rfl q1393 rfl) ?_
  refine .nil ?_
  exact .US q1384 false hF
 replace hF := hF.2 q1166
 refine .exit (.seqX (.seqX (.blkX (.seqN (.seq (.region (.V ag0 ?_)))))))
 refine .nil (.seqN (.ret ?_))
 refine .res1 rfl (rvT rfl) (fun w' S => ⟨true, hF, rfl, S.below⟩)
theorem c_contains2 {h : FH} {w : World} (hs : Sub h w) (s_ : List Int) (as_ : Option Addr) (cs_ : Nat) (_q1 : RSl h as_ s_) (_q2 : s_.length ≤ cs_) (part : List Int) (apart : Option Addr) (cpart : Nat) (_q3 : RSl h apart part) (_q4 : part.length ≤ cpart) (hp : pre_contains2 s_ part) : Calls Tryz.prog 88 #[.slice as_ s_.length cs_, .slice apart part.length cpart] w fun e w' => e = .returned (.bool (sp_contains2 s_ part)) ∧ Below w.heap.size w w' :=
 (w_contains2 hs s_ as_ cs_ _q1 _q2 part apart cpart _q3 _q4 (fun r => r = sp_contains2 s_ part) (ok_contains2 s_ part hp)).mono fun _ _ ⟨_, hk, he, hb⟩ => ⟨by rw [he, hk], hb⟩
theorem w_next {h : FH} {w : World} (hs : Sub h w) (t : Task) (at_ : Option Addr) (ct : Nat) (_q1 : RSl h at_ t.init) (_q2 : t.init.length ≤ ct) (at_2 : Option Addr) (ct2 : Nat) (_q3 : RSl h at_2 t.goal) (_q4 : t.goal.length ≤ ct2) (at_3 : Option Addr) (ct3 : Nat) (_q5 : RSl h at_3 t.ops) (_q6 : t.ops.length ≤ ct3) (s_ : List Int) (as_ : Option Addr) (cs_ : Nat) (_q7 : RSl h as_ s_) (_q8 : s_.length ≤ cs_) (op : Int) (K : (List Int) → Prop) (hF : F_next t s_ op K) : Calls Tryz.prog 93 #[.agg #[iV t.facts, .slice at_ t.init.length ct, .slice at_2 t.goal.length ct2, .slice at_3 t.ops.length ct3], .slice as_ s_.length cs_, iV op] w fun e w' => ∃ (r : List Int) (z : Option Addr × Nat) (h1 : FH), K r ∧ e = .returned (.slice z.1 r.length z.2) ∧ FH.le h h1 ∧ (RSl h1 z.1 r ∧ r.length ≤ z.2) ∧ SH (Kp.all w h) h1 w' [] := by
 refine enter (args := [.agg (tF t at_ ct at_2 ct2 at_3 ct3).toArray, vSl as_ s_ cs_, iV op]) Tryz.func93 rfl Tryz.ntmps93 rfl hs ?_
 refine .seq (.region ?_)
 refine bx (vs := (tF t at_ ct at_2 ct2 at_3 ct3)) rfl rfl rfl (fun pt => ?_)
 refine .V ag0 ?_
 refine .nil (.seqN (.seq (.region (.V (fa rfl tF25_3) ?_))))
 refine .V (ld1 rfl tO23 (cellB (off := 3) (k := 0) rfl rfl)) ?_
 refine .V mv0 ?_
 obtain ⟨q9, hF⟩ := hF
 refine .V (ix rfl rfl tS23 (_q5.ne (by decide) (inb_pos q9)) q9) ?_
 obtain ⟨_, ⟨a, c, a2, c2, a3, c3, rfl, ⟨q10, q11⟩, ⟨q12, q13⟩, q14, q15⟩, q16⟩ := _q5.elem q9
 refine .V (ldA (cs := [.slice a ((gt t.ops op).pre.length) c, .slice a2 ((gt t.ops op).add.length) c2, .slice a3 ((gt t.ops op).del.length) c3, iV ((gt t.ops op).cost)]) rfl tA54 rfl (cellsH (q16 (by decide)))) ?_
 refine al tZ54 rfl (fun po => ?_)
 refine st (p := po) (off := 0) (k := 0) (vs := [.slice a ((gt t.ops op).pre.length) c, .slice a2 ((gt t.ops op).add.length) c2, .slice a3 ((gt t.ops op).del.length) c3, iV ((gt t.ops op).cost)]) rfl rfl rfl (fun w => (tA54 w).2) rfl rfl rfl rfl ?_
 refine .KA [Box po [.slice a ((gt t.ops op).pre.length) c, .slice a2 ((gt t.ops op).add.length) c2, .slice a3 ((gt t.ops op).del.length) c3, iV ((gt t.ops op).cost)], Box pt (tF t at_ ct at_2 ct2 at_3 ct3)] ?_
 refine .nil (.seqN (.seq (.region (.V mv0 ?_))))
 refine .V (fa rfl tF54_1) ?_
 refine .V (ld1 rfl tO22 (cellB (off := 1) (k := 0) rfl rfl)) ?_
 refine .V (fa rfl tF54_2) ?_
 refine .V (ld1 rfl tO22 (cellB (off := 2) (k := 0) rfl rfl)) ?_
 obtain ⟨q17, hF⟩ := hF
 obtain ⟨r2, q18⟩ : ∃ y_ : List Int, y_ = sp_update s_ ((gt t.ops op).add) ((gt t.ops op).del) := ⟨_, rfl⟩
 replace hF := hF r2 q18
 refine clO (α := Option Addr × Nat) (V := fun z => vSl z.1 r2 z.2) (Ψ := fun z => True) (B := fun z => [oL 3 1 z.1 r2 z.2]) Tryz.call83 rfl rfl (fun w S => (by rw [q18]; exact c_update S.sub s_ as_ cs_ _q7 _q8 ((gt t.ops op).add) a2 c2 q13 q12 ((gt t.ops op).del) a3 c3 q15 q14 q17)) rfl (fun z _ => ?_)
 obtain ⟨a4, c4⟩ := z
 refine .KA [oL 3 1 a4 r2 c4, Box po [.slice a ((gt t.ops op).pre.length) c, .slice a2 ((gt t.ops op).add.length) c2, .slice a3 ((gt t.ops op).del.length) c3, iV ((gt t.ops op).cost)], Box pt (tF t at_ ct at_2 ct2 at_3 ct3)] ?_
 refine .V ag0 ?_
 refine .nil (.seqN ?_)
 refine .freezeL (k := 0) rfl (fun h1 le1 q20 q19 => ?_)
 refine .KA [tru, Box po [.slice a ((gt t.ops op).pre.length) c, .slice a2 ((gt t.ops op).add.length) c2, .slice a3 ((gt t.ops op).del.length) c3, iV ((gt t.ops op).cost)], Box pt (tF t at_ ct at_2 ct2 at_3 ct3)] ?_
 refine .ret ?_
 refine .res1 rfl (rvT rfl) (fun w' S => ⟨r2, (a4, c4), h1, hF, rfl, (le1), ⟨(RSl.of q19), (q20)⟩, S.none⟩)
theorem c_next {h : FH} {w : World} (hs : Sub h w) (t : Task) (at_ : Option Addr) (ct : Nat) (_q1 : RSl h at_ t.init) (_q2 : t.init.length ≤ ct) (at_2 : Option Addr) (ct2 : Nat) (_q3 : RSl h at_2 t.goal) (_q4 : t.goal.length ≤ ct2) (at_3 : Option Addr) (ct3 : Nat) (_q5 : RSl h at_3 t.ops) (_q6 : t.ops.length ≤ ct3) (s_ : List Int) (as_ : Option Addr) (cs_ : Nat) (_q7 : RSl h as_ s_) (_q8 : s_.length ≤ cs_) (op : Int) (hp : pre_next t s_ op) : Calls Tryz.prog 93 #[.agg #[iV t.facts, .slice at_ t.init.length ct, .slice at_2 t.goal.length ct2, .slice at_3 t.ops.length ct3], .slice as_ s_.length cs_, iV op] w fun e w' => ∃ (z : Option Addr × Nat) (h1 : FH), e = .returned (.slice z.1 (sp_after t s_ op).length z.2) ∧ FH.le h h1 ∧ (RSl h1 z.1 (sp_after t s_ op) ∧ (sp_after t s_ op).length ≤ z.2) ∧ SH (Kp.all w h) h1 w' [] :=
 (w_next hs t at_ ct _q1 _q2 at_2 ct2 _q3 _q4 at_3 ct3 _q5 _q6 s_ as_ cs_ _q7 _q8 op (fun r => r = sp_after t s_ op) (ok_next t s_ op hp)).mono fun _ _ ⟨r, z, h1, hk, he, hl, hf, hS⟩ => by subst hk; exact ⟨z, h1, he, hl, hf, hS⟩
theorem w_compare {h : FH} {w : World} (hs : Sub h w) (x : Int) (y : Int) (K : Int → Prop) (hF : F_compare x y K) : Calls Tryz.prog 111 #[iV x, iV y] w fun e w' => ∃ r : Int, K r ∧ e = .returned (iV r) ∧ Below w.heap.size w w' := by
 refine enter (args := [iV x, iV y]) Tryz.func111 rfl Tryz.ntmps111 rfl hs ?_
 refine .seq (.region (.V ag0 ?_))
 refine .nil (.seqN (.seq (.region (.V mv0 ?_))))
 obtain ⟨r2, q1⟩ : ∃ y_ : Bool, y_ = sp_isNaN1 x := ⟨_, rfl⟩
 replace hF := hF r2 q1
 refine .C (cl (v := .bool r2) Tryz.call122 rfl rfl (fun w S => (by rw [q1]; exact c_isNaN1 S.sub x ))) ?_
 refine .V ag0 ?_
 refine .nil (.seqN (.seq (.region (.V mv0 ?_))))
 obtain ⟨r3, q2⟩ : ∃ y_ : Bool, y_ = sp_isNaN1 y := ⟨_, rfl⟩
 replace hF := hF r3 q2
 refine .C (cl (v := .bool r3) Tryz.call122 rfl rfl (fun w S => (by rw [q2]; exact c_isNaN1 S.sub y ))) ?_
 refine .V ag0 ?_
 refine .nil (.seqN (.seq (.seq (.region (.V mv0 ?_)))))
 refine .nil (.seqN ?_)
 refine .cond rfl (fun q6 => ?_) (fun q6 => ?_)
 ·replace hF := hF.1 q6
  refine .seq (.seq (.region (.V mv0 ?_)))
  refine .nil (.seqN ?_)
  refine .cond rfl (fun q8 => ?_) (fun q8 => ?_)
  ·replace hF := hF.1 q8
   refine .seq (.region (.V ag0 ?_))
   refine .nil (.seqN (.ret (.seqR (.seqR ?_))))
   refine .res1 rfl (rvT rfl) (fun w' S => ⟨0, hF, rfl, S.below⟩)
  replace hF := hF.2 q8
  refine .skip (.seqN (.seq (.region (.V ag0 ?_))))
  refine .nil (.seqN (.ret (.seqR ?_)))
  refine .res1 rfl (rvT rfl) (fun w' S => ⟨(-1), hF, rfl, S.below⟩)
 replace hF := hF.2 q6
 refine .skip (.seqN (.seq (.seq (.region (.V mv0 ?_)))))
 refine .nil (.seqN ?_)
 refine .cond rfl (fun q10 => ?_) (fun q10 => ?_)
 ·replace hF := hF.1 q10
  refine .seq (.region (.V ag0 ?_))
  refine .nil (.seqN (.ret (.seqR ?_)))
  refine .res1 rfl (rvT rfl) (fun w' S => ⟨1, hF, rfl, S.below⟩)
 replace hF := hF.2 q10
 refine .skip (.seqN (.seq (.seq (.region (.V mv0 ?_)))))
 refine .V mv0 ?_
 refine .V bi0 ?_
 refine .nil (.seqN ?_)
 refine .cond rfl (fun q12 => ?_) (fun q12 => ?_)
 ·replace hF := hF.1 q12
  refine .seq (.region (.V ag0 ?_))
  refine .nil (.seqN (.ret (.seqR ?_)))
  refine .res1 rfl (rvT rfl) (fun w' S => ⟨(-1), hF, rfl, S.below⟩)
 replace hF := hF.2 q12
 refine .skip (.seqN (.seq (.seq (.region (.V mv0 ?_)))))
 refine .V mv0 ?_
 refine .V bi0 ?_
 refine .nil (.seqN ?_)
 refine .cond rfl (fun q14 => ?_) (fun q14 => ?_)
 ·replace hF := hF.1 q14
  refine .seq (.region (.V ag0 ?_))
  refine .nil (.seqN (.ret (.seqR ?_)))
  refine .res1 rfl (rvT rfl) (fun w' S => ⟨1, hF, rfl, S.below⟩)
 replace hF := hF.2 q14
 refine .skip (.seqN (.seq (.region (.V ag0 ?_))))
 refine .nil (.seqN (.ret ?_))
 refine .res1 rfl (rvT rfl) (fun w' S => ⟨0, hF, rfl, S.below⟩)
theorem c_compare {h : FH} {w : World} (hs : Sub h w) (x : Int) (y : Int) : Calls Tryz.prog 111 #[iV x, iV y] w fun e w' => e = .returned (iV (sp_compare x y)) ∧ Below w.heap.size w w' :=
 (w_compare hs x y (fun r => r = sp_compare x y) (ok_compare x y)).mono fun _ _ ⟨_, hk, he, hb⟩ => ⟨by rw [he, hk], hb⟩
theorem w_changed {h : FH} {w : World} (hs : Sub h w) (facts : Int) (s_ : List Int) (as_ : Option Addr) (cs_ : Nat) (_q1 : RSl h as_ s_) (_q2 : s_.length ≤ cs_) (add : List Int) (aadd : Option Addr) (cadd : Nat) (_q3 : RSl h aadd add) (_q4 : add.length ≤ cadd) (del : List Int) (adel : Option Addr) (cdel : Nat) (_q5 : RSl h adel del) (_q6 : del.length ≤ cdel) (K : (List Int) → Prop) (hF : F_changed facts s_ add del K) : Calls Tryz.prog 58 #[iV facts, .slice as_ s_.length cs_, .slice aadd add.length cadd, .slice adel del.length cdel] w fun e w' => ∃ (r : List Int) (z : Option Addr × Nat) (h1 : FH), K r ∧ e = .returned (.slice z.1 r.length z.2) ∧ FH.le h h1 ∧ (RSl h1 z.1 r ∧ r.length ≤ z.2) ∧ SH (Kp.all w h) h1 w' [] := by
 refine enter (args := [iV facts, vSl as_ s_ cs_, vSl aadd add cadd, vSl adel del cdel]) Tryz.func58 rfl Tryz.ntmps58 rfl hs ?_
 refine .seq (.region (.V ag0 ?_))
 refine .nil (.seqN (.seq (.region (.V ag0 ?_))))
 refine .nil (.seqN (.seq (.seq (.region (.V ag0 ?_)))))
 refine .nil (.seqN (.block ?_))
 refine .nilSl 3 1 ?_
 refine .KA [oL 3 1 none ([] : List Int) 0] ?_
 obtain ⟨I1, μ1, q234, q235⟩ := hF
 refine .loop' (σ := Int × List Int × Option Addr × Nat) (fun z => I1 z.1 z.2.1) (fun z => μ1 z.1 z.2.1) (fun z => [(0, iV facts), (1, vSl as_ s_ cs_), (2, vSl aadd add cadd), (3, vSl adel del cdel), (9, vSl z.2.2.1 z.2.1 z.2.2.2), (10, iV z.1)]) (fun z => [oL 3 1 z.2.2.1 z.2.1 z.2.2.2]) (fun _ => h) (0, ([] : List Int), none, 0) q234 sb rfl (FH.le_refl _) ?_
 rintro ⟨p, out, aout, cout⟩ q234
 have hF := q235 p out q234
 show J _ _ _ _ _ [(0, iV facts), (1, vSl as_ s_ cs_), (2, vSl aadd add cadd), (3, vSl adel del cdel), (9, vSl aout out cout), (10, iV p)] [oL 3 1 aout out cout] h
 refine .seq (.seq (.region (.V mv0 ?_)))
 refine .V mv0 ?_
 refine .V bi0 ?_
 refine .nil (.seqN ?_)
 refine .cond rfl (fun q237 => ?_) (fun q237 => ?_)
 ·replace hF := hF.1 q237
  refine .skip (.seqN ?_)
  refine .share (σ := List Int × Option Addr × Nat) (fun z => F_changed_J1 out p I1 μ1 z.1) (fun z => [(0, iV facts), (1, vSl as_ s_ cs_), (2, vSl aadd add cadd), (3, vSl adel del cdel), (9, vSl z.2.1 z.1 z.2.2), (10, iV p)]) (fun z => [oL 3 1 z.2.1 z.1 z.2.2]) (fun _ => h) ?_ (fun q259 => ?_)
  ·rintro ⟨out3, aout3, cout3⟩ hF
   show J _ _ _ _ _ [(0, iV facts), (1, vSl as_ s_ cs_), (2, vSl aadd add cadd), (3, vSl adel del cdel), (9, vSl aout3 out3 cout3), (10, iV p)] [oL 3 1 aout3 out3 cout3] h
   refine .region (.V mv0 ?_)
   refine .V bi0 ?_
   refine .V ag0 ?_
   refine .nil ?_
   exact .RO (wr (p + 1), out3, aout3, cout3) hF.1 hF.2
  refine .block ?_
  refine .share (σ := Bool) (fun z => F_changed_J2 z out p I1 μ1) (fun z => [(0, iV facts), (1, vSl as_ s_ cs_), (2, vSl aadd add cadd), (3, vSl adel del cdel), (9, vSl aout out cout), (10, iV p), (29, .bool z)]) (fun _ => [oL 3 1 aout out cout]) (fun _ => h) ?_ (fun q268 => ?_)
  ·rintro t29 hF
   show J _ _ _ _ _ [(0, iV facts), (1, vSl as_ s_ cs_), (2, vSl aadd add cadd), (3, vSl adel del cdel), (9, vSl aout out cout), (10, iV p), (29, .bool t29)] [oL 3 1 aout out cout] h
   refine .cond rfl (fun q269 => ?_) (fun q269 => ?_)
   ·replace hF := hF.1 q269
    refine .region (.V mv0 ?_)
    refine .V mv0 ?_
    refine bs2 (cs := #[iV p]) (pv := [(0, iV p)]) tS22 rfl rfl (by decide) (by decide) rfl rfl rfl (fun a _ => ?_)
    refine .KA [oL 3 1 a ([p] : List Int) 1, oL 3 1 aout out cout] ?_
    obtain ⟨q271, hF⟩ := hF
    have q272 : out.length + ([p] : List Int).length = ((out ++ ([p] : List Int))).length := len_app rfl rfl
    refine app (k := 1) (news := flL ([p] : List Int)) (cs' := flL (out ++ ([p] : List Int))) (nm := ((out ++ ([p] : List Int))).length) tS22 rfl (by decide) rfl rfl rfl (by rw [flL_len]; rfl) (srcS (k := 0) rfl) (flL_one _) (room_of q272 q271).1 (room_of q272 q271).2 q272 (flL_append _ _).symm rfl (fun a2 c => ?_)
    refine .KA [oL 3 1 a ([p] : List Int) 1, oL 3 1 a2 (out ++ ([p] : List Int)) c] ?_
    refine .V ag0 ?_
    refine .nil (.blkN ?_)
    refine .sel0 [1] (by decide) rfl ?_
    exact .US q259 ((out ++ ([p] : List Int)), a2, c) hF
   replace hF := hF.2 q269
   refine .skip (.blkN ?_)
   exact .US q259 (out, aout, cout) hF
  refine .region (.V mv0 ?_)
  refine .V mv0 ?_
  obtain ⟨q273, hF⟩ := hF
  obtain ⟨r2, q274⟩ : ∃ y_ : Bool, y_ = sp_has add p := ⟨_, rfl⟩
  replace hF := hF r2 q274
  refine .C (cl (v := .bool r2) Tryz.call76 rfl rfl (fun w S => (by rw [q274]; exact c_has S.sub add aadd cadd _q3 _q4 p q273))) ?_
  refine .V mv0 ?_
  rcases Bool.eq_false_or_eq_true (r2) with q275 | q275
  ·replace hF := hF.1 q275
   refine .GS q275 ?_
   refine .GS q275 ?_
   refine .GS q275 ?_
   refine .GS q275 ?_
   refine .GU ?_
   refine .GU ?_
   refine .GU ?_
   refine .GU ?_
   refine .GS q275 ?_
   refine .V (pkT rfl q275 rfl) ?_
   refine .nil ?_
   exact .US q268 true hF
  replace hF := hF.2 q275
  refine .GV mv0 q275 ?_
  refine .GV mv0 q275 ?_
  obtain ⟨q276, hF⟩ := hF
  obtain ⟨r3, q277⟩ : ∃ y_ : Bool, y_ = sp_has s_ p := ⟨_, rfl⟩
  replace hF := hF r3 q277
  refine .gc (cl (v := .bool r3) Tryz.call76 rfl rfl (fun w S => (by rw [q277]; exact c_has S.sub s_ as_ cs_ _q1 _q2 p q276))) rfl rfl rfl q275 rfl rfl ?_
  refine .GV mv0 q275 ?_
  rcases Bool.eq_false_or_eq_true (r3) with q278 | q278
  ·replace hF := hF.1 q278
   refine .GV mv0 q278 ?_
   refine .GV mv0 q278 ?_
   obtain ⟨q279, hF⟩ := hF
   obtain ⟨r4, q280⟩ : ∃ y_ : Bool, y_ = sp_has del p := ⟨_, rfl⟩
   replace hF := hF r4 q280
   refine .gc (cl (v := .bool r4) Tryz.call76 rfl rfl (fun w S => (by rw [q280]; exact c_has S.sub del adel cdel _q5 _q6 p q279))) rfl rfl rfl q278 rfl rfl ?_
   refine .GV (nt rfl) q278 ?_
   refine .GV (pkT rfl q278 rfl) q275 ?_
   refine .V (pkF rfl q275 rfl) ?_
   refine .nil ?_
   exact .US q268 (!r4) hF
  replace hF := hF.2 q278
  refine .GS q278 ?_
  refine .GS q278 ?_
  refine .GS q278 ?_
  refine .GS q278 ?_
  refine .GV (pkF rfl q278 rfl) q275 ?_
  refine .V (pkF rfl q275 rfl) ?_
  refine .nil ?_
  exact .US q268 false hF
 replace hF := hF.2 q237
 refine .exit (.seqX (.seqX (.blkX (.seqN (.seq (.region (.V mv0 ?_)))))))
 refine .V ag0 ?_
 refine .nil (.seqN ?_)
 refine .freezeL (k := 0) rfl (fun h1 le1 q282 q281 => ?_)
 refine .KA [tru] ?_
 refine .ret ?_
 refine .res1 rfl (rvT rfl) (fun w' S => ⟨out, (aout, cout), h1, hF, rfl, (le1), ⟨(RSl.of q281), (q282)⟩, S.none⟩)
theorem c_changed {h : FH} {w : World} (hs : Sub h w) (facts : Int) (s_ : List Int) (as_ : Option Addr) (cs_ : Nat) (_q1 : RSl h as_ s_) (_q2 : s_.length ≤ cs_) (add : List Int) (aadd : Option Addr) (cadd : Nat) (_q3 : RSl h aadd add) (_q4 : add.length ≤ cadd) (del : List Int) (adel : Option Addr) (cdel : Nat) (_q5 : RSl h adel del) (_q6 : del.length ≤ cdel) (hp : pre_changed facts s_ add del) : Calls Tryz.prog 58 #[iV facts, .slice as_ s_.length cs_, .slice aadd add.length cadd, .slice adel del.length cdel] w fun e w' => ∃ (z : Option Addr × Nat) (h1 : FH), e = .returned (.slice z.1 (sp_changed facts s_ add del).length z.2) ∧ FH.le h h1 ∧ (RSl h1 z.1 (sp_changed facts s_ add del) ∧ (sp_changed facts s_ add del).length ≤ z.2) ∧ SH (Kp.all w h) h1 w' [] :=
 (w_changed hs facts s_ as_ cs_ _q1 _q2 add aadd cadd _q3 _q4 del adel cdel _q5 _q6 (fun r => r = sp_changed facts s_ add del) (ok_changed facts s_ add del hp)).mono fun _ _ ⟨r, z, h1, hk, he, hl, hf, hS⟩ => by subst hk; exact ⟨z, h1, he, hl, hf, hS⟩
end Go.Proofs.YtojoehfldbimpaaGreatDoor.Pl

namespace Go.Proofs
open Go.Shelf
def YtojoehfldbimpaaGreatDoor.lays176_ren : Go.Shelf.Ren := ⟨fun | 176 => 85 | 249 => 110 | 288 => 121 | 283 => 144 | 284 => 145 | 285 => 146 | 286 => 147 | 129 => 135 | 317 => 158 | 318 => 159 | 319 => 160 | 320 => 161 | 337 => 164 | 338 => 165 | n => n, fun | 37 => 110 | 2 => 2 | 3 => 3 | 53 => 137 | 4 => 4 | 9 => 9 | 171 => 155 | 0 => 0 | 173 => 157 | 212 => 171 | 51 => 148 | 5 => 5 | 20 => 20 | 213 => 172 | 46 => 131 | 232 => 177 | 233 => 178 | n => n, fun | 17 => 0 | 18 => 1 | 19 => 2 | n => n⟩
theorem YtojoehfldbimpaaGreatDoor.lays176 : Go.Proofs.LaysM.n176 Tryz.prog YtojoehfldbimpaaGreatDoor.lays176_ren := {
  mixed := by kernel_rfl
  f129 := Tryz.func135.trans (congrArg some (by kernel_rfl))
  f176 := Tryz.func85.trans (congrArg some (by kernel_rfl))
  f249 := Tryz.func110.trans (congrArg some (by kernel_rfl))
  f283 := Tryz.func144.trans (congrArg some (by kernel_rfl))
  f284 := Tryz.func145.trans (congrArg some (by kernel_rfl))
  f285 := Tryz.func146.trans (congrArg some (by kernel_rfl))
  f286 := Tryz.func147.trans (congrArg some (by kernel_rfl))
  f288 := Tryz.func121.trans (congrArg some (by kernel_rfl))
  f317 := Tryz.func158.trans (congrArg some (by kernel_rfl))
  f318 := Tryz.func159.trans (congrArg some (by kernel_rfl))
  f319 := Tryz.func160.trans (congrArg some (by kernel_rfl))
  f320 := Tryz.func161.trans (congrArg some (by kernel_rfl))
  f337 := Tryz.func164.trans (congrArg some (by kernel_rfl))
  f338 := Tryz.func165.trans (congrArg some (by kernel_rfl))
  t0 := Tryz.underlying0
  a0 := Tryz.isAgg0
  z0 := Tryz.sizeOf0
  v0 := Tryz.zeroValue0
  t2 := Tryz.underlying2
  a2 := Tryz.isAgg2
  z2 := Tryz.sizeOf2
  v2 := Tryz.zeroValue2
  t3 := Tryz.underlying3
  a3 := Tryz.isAgg3
  z3 := Tryz.sizeOf3
  v3 := Tryz.zeroValue3
  t4 := Tryz.underlying4
  a4 := Tryz.isAgg4
  z4 := Tryz.sizeOf4
  v4 := Tryz.zeroValue4
  t5 := Tryz.underlying5
  a5 := Tryz.isAgg5
  z5 := Tryz.sizeOf5
  v5 := Tryz.zeroValue5
  t9 := Tryz.underlying9
  a9 := Tryz.isAgg9
  z9 := Tryz.sizeOf9
  v9 := Tryz.zeroValue9
  t20 := Tryz.underlying20
  a20 := Tryz.isAgg20
  z20 := Tryz.sizeOf20
  v20 := Tryz.zeroValue20
  t37 := Tryz.underlying110
  a37 := Tryz.isAgg110
  z37 := Tryz.sizeOf110
  v37 := Tryz.zeroValue110
  t46 := Tryz.underlying131
  a46 := Tryz.isAgg131
  z46 := Tryz.sizeOf131
  v46 := Tryz.zeroValue131
  t51 := Tryz.underlying148
  a51 := Tryz.isAgg148
  z51 := Tryz.sizeOf148
  v51 := Tryz.zeroValue148
  t53 := Tryz.underlying137
  a53 := Tryz.isAgg137
  z53 := Tryz.sizeOf137
  v53 := Tryz.zeroValue137
  t171 := Tryz.underlying155
  a171 := Tryz.isAgg155
  z171 := Tryz.sizeOf155
  v171 := Tryz.zeroValue155
  t173 := Tryz.underlying157
  a173 := Tryz.isAgg157
  z173 := Tryz.sizeOf157
  v173 := Tryz.zeroValue157
  t212 := Tryz.underlying171
  a212 := Tryz.isAgg171
  z212 := Tryz.sizeOf171
  v212 := Tryz.zeroValue171
  t213 := Tryz.underlying172
  a213 := Tryz.isAgg172
  z213 := Tryz.sizeOf172
  t232 := Tryz.underlying177
  a232 := Tryz.isAgg177
  z232 := Tryz.sizeOf177
  v232 := Tryz.zeroValue177
  t233 := Tryz.underlying178
  a233 := Tryz.isAgg178
  z233 := Tryz.sizeOf178
  v233 := Tryz.zeroValue178
  g17 := by kernel_rfl
  g18 := by kernel_rfl
  g19 := by kernel_rfl
  i0 := by kernel_rfl
  i2 := by kernel_rfl
  i3 := by kernel_rfl
  i4 := by kernel_rfl
  i5 := by kernel_rfl
  i9 := by kernel_rfl
  i20 := by kernel_rfl
  i37 := by kernel_rfl
  i46 := by kernel_rfl
  i51 := by kernel_rfl
  i53 := by kernel_rfl
  i171 := by kernel_rfl
  i173 := by kernel_rfl
  i212 := by kernel_rfl
  i232 := by kernel_rfl
  i233 := by kernel_rfl
  m17 := by kernel_rfl
  m18 := by kernel_rfl
  m19 := by kernel_rfl }
end Go.Proofs

