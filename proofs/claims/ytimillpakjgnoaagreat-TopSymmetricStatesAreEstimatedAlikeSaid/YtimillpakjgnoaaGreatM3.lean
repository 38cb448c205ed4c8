import Derived.Test.YtimillpakjgnoaaGreatM2
import Derived.Test.YtimillpakjgnoaaGreatM1
import Derived.Shelf.SlSortCmp.NoneTotal
import Derived.Ground.SlsfProg
namespace Go.Proofs.YtimillpakjgnoaaGreat.Pl
open Go Go.RowKit
variable {t : Task} {s l : List Int}
structure CutI (t : Task) (s : List Int) (total : Int) (cuts : List Cut) (l : List Int) : Prop where
 good : GoodL t s l
 low : 0 ≤ total
 sum : total + bsum l ≤ 4000
 num : (cuts.length : Int) ≤ total
theorem allS_nodup (n : Nat) (p : Int → Bool) : ((allS n).filter p).Pairwise (· < ·) := (allS_sorted n).filter p
theorem filter_snoc (k : Nat) (p : Int → Bool) : (allS (k + 1)).filter p = (allS k).filter p ++ if p k = true then [(k : Int)] else [] := by
 rw [allS_succ, List.filter_append]
 congr 1
 cases h : p (k : Int) with
 | true => rw [filter1_pos h]; rfl
 | false => rw [filter1_neg h]; rfl
theorem cutgo_rest (k : Nat) (cuts : List Cut) (total : Int) (h : GoodL t s l) (g0 : gval t s l ≠ 0) (g1 : gval t s l ≠ 1000000000) : cutGo t s (k + 1) l cuts total = cutGo t s k (cutRest (srchOf t s l)) (cuts ++ [⟨cutOps (srchOf t s l), cutCost (srchOf t s l)⟩]) (total + cutCost (srchOf t s l)) := by
 rw [cutGo, h.gval_eq, if_neg g0, if_neg g1]
theorem costs_sum (tk : TaskOK t) : bsum (sp_costsR t) ≤ 4000 := by
 obtain ⟨h1, h2⟩ := costs_rng tk
 have key : ∀ l : List Int, (∀ c ∈ l, 0 ≤ c ∧ c ≤ 100) → bsum l ≤ 100 * l.length := fun l => by
  induction l with
  | nil => intro _; simp [bsum]
  | cons x r ih =>
   intro h
   have := ih fun c hc => h c (List.mem_cons_of_mem _ hc)
   have := h x (List.mem_cons_self ..)
   simp only [bsum, List.map_cons, List.sum_cons, List.length_cons] at *
   omega
 have := key _ h2
 have := tk.len
 omega
theorem ok_cuts : ∀ (t : Task) (s_ : List Int), F_cuts t s_ (fun r => r = sp_cuts t s_) := fun t s => by
 unfold F_cuts
 simp only [forall_eq, fault_ne, fault_eq]
 refine ⟨fun h => by rw [sp_cuts, if_neg h], fun h => ?_⟩
 obtain ⟨hv, hs⟩ := sf_ok h
 have tk := taskOK_of hv
 have hf := tk.facts
 have hol := tk.len
 have hgl := set_len hf.1 tk.goal
 obtain ⟨c1, c2⟩ := costs_rng tk
 refine ⟨hv, fun total cuts l _ => CutI t s total cuts l ∧ ∃ k : Nat, bsum l < k ∧ cutGo t s k l cuts total = sp_cuts t s, fun _ _ l _ => bsum l, ⟨⟨⟨hv, hs, c1, c2⟩, by omega, by have := costs_sum tk; omega, by simp⟩, 4001, by have := costs_sum tk; omega, by rw [sp_cuts, if_pos h]⟩, ?_⟩
 rintro total cuts l l2 ⟨ci, k0, hk0, hgo⟩
 have hg := ci.good
 obtain ⟨k, rfl⟩ : ∃ k, k0 = k + 1 := ⟨k0 - 1, by omega⟩
 have hvl := hg.vlen
 unfold F_cuts_L1 F_cuts_J1
 simp only [forall_eq, beq_iff_eq, beq_eq_false_iff_ne, ne_eq]
 have hpg : pre_greatest (sp_valuesG t s l ++ [0]) t.goal := by
  refine ⟨by omega, fun p hp => ?_, fun x hx => ?_⟩
  ·have := set_rng tk.goal p hp
   exact ⟨this.1, by rw [List.length_append, List.length_singleton]; omega⟩
  ·rcases List.mem_append.1 hx with g | g
   ·exact hg.val.bound.vals x g
   ·rw [List.mem_singleton.1 g]; omega
 have hsum := ci.sum
 have hlow := ci.low
 have hnum := ci.num
 rw [hg.gval_eq]
 refine ⟨⟨hv, hs, hg.len, hg.rng⟩, ⟨by rw [List.length_append, List.length_singleton]; simp only [maxLen]; omega, by rw [List.length_append, List.length_singleton]; omega⟩, hpg, fun q => ?_, fun q0 => ⟨fun q => ?_, fun q1 => ?_⟩⟩
 ·rw [← hgo, cutGo, hg.gval_eq, if_pos q]
 ·rw [← hgo, cutGo, hg.gval_eq, if_neg q0, if_pos q]
 have hgr := hg.grng
 have gpos : 0 < gval t s l := by omega
 rw [cutgo_rest k cuts total hg q0 q1] at hgo
 obtain ⟨cc0, cc1, cc2⟩ := cut_cost hg gpos q1
 obtain ⟨ng, nsum⟩ := cut_good hg gpos q1
 have hx0 : (⟨t, s, l, sp_valuesG t s l ++ [0]⟩ : SearchT) = srchOf t s l := rfl
 simp only [hx0]
 have hps := hg.pre
 have hzl : ((sp_zone (srchOf t s l)).length : Int) = t.facts + 1 := by
  unfold sp_zone
  rw [List.length_map, allS_len]
  show ((t.facts.toNat + 1 : Nat) : Int) = _
  omega
 have hbl : ((sp_beforeZ (srchOf t s l) (sp_zone (srchOf t s l))).length : Int) = t.facts + 1 := by
  unfold sp_beforeZ
  rw [List.length_map, allS_len]
  show ((t.facts.toNat + 1 : Nat) : Int) = _
  omega
 refine ⟨hps, ⟨hps, hzl⟩, fun i x l6 => ∃ q : Nat, i = q ∧ q ≤ t.ops.length ∧ l6 = (allS q).filter (leads (srchOf t s l) (sp_zone (srchOf t s l)) (sp_beforeZ (srchOf t s l) (sp_zone (srchOf t s l)))) ∧ x = cheapest l l6, fun i _ _ => (t.ops.length - i).toNat, ⟨0, rfl, Nat.zero_le _, rfl, rfl⟩, ?_⟩
 rintro _ x l6 ⟨q, rfl, ql, hl6, hx⟩
 have l6len : l6.length ≤ q := by rw [hl6]; exact Nat.le_trans (List.length_filter_le _ _) (by rw [allS_len]; exact Nat.le_refl _)
 unfold F_cuts_L2
 simp only [decide_eq_true_eq, decide_eq_false_iff_not, forall_eq, hx0]
 refine ⟨fun h => ?_, fun h => ?_⟩
 ·have hq : q < t.ops.length := by omega
  have hik : inb t.ops (q : Int) := ⟨by omega, h⟩
  have hls := tk.lens hik
  obtain ⟨r1, r2⟩ := hg.prng hq
  have hh := hardest_rng (x := srchOf t s l) hf.1 r1
  have next : ∀ (x' : Int) (l8 : List Int), l8 = (allS (q + 1)).filter (leads (srchOf t s l) (sp_zone (srchOf t s l)) (sp_beforeZ (srchOf t s l) (sp_zone (srchOf t s l)))) → x' = cheapest l l8 → F_cuts_J2 x (q : Int) (fun i x l6 => ∃ q : Nat, i = q ∧ q ≤ t.ops.length ∧ l6 = (allS q).filter (leads (srchOf t s l) (sp_zone (srchOf t s l)) (sp_beforeZ (srchOf t s l) (sp_zone (srchOf t s l)))) ∧ x = cheapest l l6) (fun i _ _ => (t.ops.length - i).toNat) x' l6 l8 := fun x' l8 h1 h2 => by
   unfold F_cuts_J2
   rw [w64 (by omega)]
   exact ⟨⟨q + 1, by omega, by omega, h1, h2⟩, by dsimp only; omega⟩
  have hlead : leads (srchOf t s l) (sp_zone (srchOf t s l)) (sp_beforeZ (srchOf t s l) (sp_zone (srchOf t s l))) (q : Int) = (gt (sp_beforeZ (srchOf t s l) (sp_zone (srchOf t s l))) (sp_hardest (srchOf t s l) (gt t.ops (q : Int)).pre) && (gt t.ops (q : Int)).add.any fun p => gt (sp_zone (srchOf t s l)) p) := rfl
  refine ⟨hik, hps.pre hik, ⟨hh.1, by
   show _ < ((sp_beforeZ (srchOf t s l) (sp_zone (srchOf t s l))).length : Int)
   have := hh.2; have e : (srchOf t s l).t.facts = t.facts := rfl; omega⟩, fun g => ?_, fun g => ?_⟩
  ·have e : gt (sp_beforeZ (srchOf t s l) (sp_zone (srchOf t s l))) (sp_hardest (srchOf t s l) (gt t.ops (q : Int)).pre) = false := by
    have g' : (!(gt (sp_beforeZ (srchOf t s l) (sp_zone (srchOf t s l))) (sp_hardest (srchOf t s l) (gt t.ops (q : Int)).pre))) = true := g
    simpa using g'
   have e2 : l6 = (allS (q + 1)).filter (leads (srchOf t s l) (sp_zone (srchOf t s l)) (sp_beforeZ (srchOf t s l) (sp_zone (srchOf t s l)))) := by
    rw [filter_snoc, hlead, e, hl6]; simp
   exact next _ _ e2 hx
  ·have e : gt (sp_beforeZ (srchOf t s l) (sp_zone (srchOf t s l))) (sp_hardest (srchOf t s l) (gt t.ops (q : Int)).pre) = true := by
    have g' : (!(gt (sp_beforeZ (srchOf t s l) (sp_zone (srchOf t s l))) (sp_hardest (srchOf t s l) (gt t.ops (q : Int)).pre))) = false := g
    simpa using g'
   refine ⟨fun j => ∃ m : Nat, j = m ∧ m ≤ (gt t.ops (q : Int)).add.length ∧ ∀ p ∈ (gt t.ops (q : Int)).add.take m, gt (sp_zone (srchOf t s l)) p = false, fun j => ((gt t.ops (q : Int)).add.length - j).toNat, ⟨0, rfl, Nat.zero_le _, fun p hp => absurd hp (by simp)⟩, ?_⟩
   rintro _ ⟨m, rfl, m1, hm0⟩
   unfold F_cuts_L3
   simp only [decide_eq_true_eq, decide_eq_false_iff_not]
   refine ⟨fun hm => ?_, fun hm => ?_⟩
   ·have hm' : m < (gt t.ops (q : Int)).add.length := by omega
    have hmem := gt_memN hm'
    have hpr := r2 _ hmem
    refine ⟨⟨by omega, hm⟩, ⟨hpr.1, by rw [hzl]; omega⟩, fun g2 => ⟨⟨by rw [List.length_append, List.length_singleton]; simp only [maxLen]; omega, by rw [List.length_append, List.length_singleton]; omega⟩, ⟨by omega, by rw [hg.len]; exact h⟩, ?_⟩, fun g2 => ?_⟩
    ·have e2 : l6 ++ [(q : Int)] = (allS (q + 1)).filter (leads (srchOf t s l) (sp_zone (srchOf t s l)) (sp_beforeZ (srchOf t s l) (sp_zone (srchOf t s l)))) := by
      rw [filter_snoc, hlead, e, hl6, Bool.true_and, List.any_eq_true.2 ⟨_, hmem, g2⟩]; simp
     refine next _ _ e2 ?_
     rw [hx]
     unfold cheapest
     rw [List.foldl_append]; rfl
    ·rw [w64 (by omega)]
     refine ⟨⟨m + 1, by omega, by omega, fun p hp => ?_⟩, by omega⟩
     rw [takeN_gt hm'] at hp
     rcases List.mem_append.1 hp with g | g
     ·exact hm0 p g
     ·rw [List.mem_singleton.1 g]; exact g2
   ·rw [List.take_of_length_le (by omega)] at hm0
    have e2 : l6 = (allS (q + 1)).filter (leads (srchOf t s l) (sp_zone (srchOf t s l)) (sp_beforeZ (srchOf t s l) (sp_zone (srchOf t s l)))) := by
     have e3 : ((gt t.ops (q : Int)).add.any fun p => gt (sp_zone (srchOf t s l)) p) = false := by
      rw [List.any_eq_false]
      intro p hp; rw [hm0 p hp]; decide
     rw [filter_snoc, hlead, e3, hl6]; simp
    exact next _ _ e2 hx
 ·have hqe : q = t.ops.length := by omega
  have hco : l6 = cutOps (srchOf t s l) := by rw [hl6, hqe]; rfl
  have hcx : x = cutCost (srchOf t s l) := by rw [hx, hco]; rfl
  have hsrt : l6.Pairwise (· < ·) := by rw [hl6]; exact allS_nodup _ _
  rw [← hcx] at cc0 cc1 cc2 nsum hgo
  rw [← hco] at cc2 hgo
  have hmemr : ∀ i ∈ l6, inb l i := fun i hi => by
   rw [hl6, List.mem_filter, mem_allS] at hi
   exact ⟨hi.1.1, by rw [hg.len]; omega⟩
  refine ⟨fun j l9 => ∃ m : Nat, j = m ∧ m ≤ l6.length ∧ l9 = (allS t.ops.length).map fun i => if i ∈ l6.take m then gt l i - x else gt l i, fun j _ => (l6.length - j).toNat, ⟨0, rfl, Nat.zero_le _, ?_⟩, ?_⟩
  ·refine ext_gt (by rw [List.length_map, allS_len, hg.len]) fun i hi => ?_
   rw [gt_map_all _ _ _ (by omega) (by rw [hg.len] at hi; omega)]
   simp
  rintro _ l9 ⟨m, rfl, m1, hl9⟩
  have l9len : l9.length = t.ops.length := by rw [hl9, List.length_map, allS_len]
  have l9at : ∀ i : Int, 0 ≤ i → i < t.ops.length → gt l9 i = if i ∈ l6.take m then gt l i - x else gt l i := fun i i0 i1 => by rw [hl9, gt_map_all _ _ _ i0 i1]
  unfold F_cuts_L4
  simp only [decide_eq_true_eq, decide_eq_false_iff_not, forall_eq]
  refine ⟨fun hm => ?_, fun hm => ?_⟩
  ·have hm' : m < l6.length := by omega
   have hmem := gt_memN hm'
   have hin := hmemr _ hmem
   have hin9 : inb l9 (gt l6 (m : Int)) := ⟨hin.1, by rw [l9len, ← hg.len]; exact hin.2⟩
   have hnot : gt l6 (m : Int) ∉ l6.take m := fun hc => by
    obtain ⟨j, hj, e⟩ := mem_gt hc
    have hj' : j < m := by rw [List.length_take] at hj; omega
    have e2 : gt (l6.take m) (j : Int) = gt l6 (j : Int) := by
     rw [gt_of ⟨by omega, by omega⟩, gt_of ⟨by omega, by omega⟩]; simp
    have := sorted_gt hsrt hj' hm'
    omega
   have hr := hg.rng _ (gt_mem hin)
   have hc2 := cc2 _ hmem
   have h9 : gt l9 (gt l6 (m : Int)) = gt l (gt l6 (m : Int)) := by
    rw [l9at _ hin.1 (by have := hin.2; rw [hg.len] at this; exact this), if_neg hnot]
   rw [h9, w64 (by omega), w64 (by omega)]
   refine ⟨⟨by omega, hm⟩, hin9, ⟨m + 1, by omega, by omega, ?_⟩, by omega⟩
   refine ext_gt (by rw [List.length_set, List.length_map, allS_len, l9len]) fun i hi => ?_
   rw [List.length_set, l9len] at hi
   rw [gt_map_all _ _ _ (by omega) (by omega), gt_setI hin9 (by omega), takeN_gt hm', l9at _ (by omega) (by omega)]
   by_cases e : (i : Int) = gt l6 (m : Int)
   ·rw [if_pos e, if_pos (List.mem_append.2 (.inr (by rw [e]; simp))), e]
   ·rw [if_neg e]
    have : (i : Int) ∈ l6.take m ++ [gt l6 (m : Int)] ↔ (i : Int) ∈ l6.take m := by
     rw [List.mem_append, List.mem_singleton]
     exact ⟨fun g => g.resolve_right e, .inl⟩
    simp only [this]
  ·have h9 : l9 = cutRest (srchOf t s l) := by
    rw [hl9, List.take_of_length_le (by omega)]
    unfold cutRest
    rw [← hco, ← hcx]
    rfl
   rw [← h9] at ng nsum hgo
   have hlc : (cuts ++ [(⟨l6, x⟩ : Cut)]).length = cuts.length + 1 := by rw [List.length_append, List.length_singleton]
   rw [w64 (by omega), hlc]
   exact ⟨⟨by simp only [maxLen]; omega, by omega⟩, ⟨⟨ng, by omega, by omega, by rw [hlc]; omega⟩, k, by omega, hgo⟩, by omega⟩
end Go.Proofs.YtimillpakjgnoaaGreat.Pl

namespace Go.Proofs.YtimillpakjgnoaaGreat.Pl
open Go Go.RowKit
variable {t : Task} {s l : List Int}
inductive Plan (t : Task) : (Int → Prop) → List Nat → Prop
 | nil (S : Int → Prop) : (∀ p ∈ t.goal, S p) → Plan t S []
 | cons (S : Int → Prop) (i : Nat) (r : List Nat) : i < t.ops.length → (∀ p ∈ (gt t.ops (i : Int)).pre, S p) → Plan t (fun p => p ∈ (gt t.ops (i : Int)).add ∨ (S p ∧ p ∉ (gt t.ops (i : Int)).del)) r → Plan t S (i :: r)
def pcost (l : List Int) (r : List Nat) : Int := (r.map fun i : Nat => gt l (i : Int)).sum
theorem Plan.ops {S : Int → Prop} {r : List Nat} (h : Plan t S r) : ∀ i ∈ r, i < t.ops.length := by
 induction h with
 | nil => intro i hi; cases hi
 | cons S i r hi _ _ ih =>
  intro j hj
  rcases List.mem_cons.1 hj with e | e
  ·rw [e]; exact hi
  ·exact ih j e
theorem plan_cut (h : GoodL t s l) (hg : 0 < gval t s l) {S : Int → Prop} {r : List Nat} (hp : Plan t S r) (hS : ∀ p, S p → Bef t s l p) : ∃ i ∈ r, (i : Int) ∈ cutOps (srchOf t s l) := by
 have tk := taskOK_of h.valid
 have hf := tk.facts
 induction hp with
 | nil S hgoal =>
  have hh := h.hard (set_rng tk.goal)
  have hm : sp_hardest (srchOf t s l) t.goal ∈ t.goal := (hardest_cases (srchOf t s l) _).resolve_left fun e => by
   rw [e] at hh
   have h2 := h.top
   have h3 : gt (srchOf t s l).value t.facts = gval t s l := hh
   omega
  exact absurd InZone.goal (before_out h hg (hS _ (hgoal _ hm)))
 | cons S i r hi hpre hrest ih =>
  by_cases hc : (i : Int) ∈ cutOps (srchOf t s l)
  ·exact ⟨i, List.mem_cons_self .., hc⟩
  have hb : Bef t s l (sp_hardest (srchOf t s l) (gt t.ops (i : Int)).pre) := by
   rcases hardest_cases (srchOf t s l) (gt t.ops (i : Int)).pre with e | e
   ·rw [e]; exact .top
   ·exact hS _ (hpre _ e)
  obtain ⟨j, hj, hjc⟩ := ih fun p hp => by
   rcases hp with hp | hp
   ·refine InBefore.step (x := srchOf t s l) i p hi hb hp ?_
    have hr := (h.prng hi).2 p hp
    cases e : gt (sp_zone (srchOf t s l)) p with
    | true => exact absurd ((mem_cut h).2 ⟨i, rfl, hi, hb, p, hp, (zone_iff (x := srchOf t s l) hf.1 hr.1 (Int.le_of_lt hr.2)).1 e⟩) hc
    | false => rfl
   ·exact hS p hp.1
  exact ⟨j, List.mem_cons_of_mem _ hj, hjc⟩
theorem pcost_cons (l : List Int) (i : Nat) (r : List Nat) : pcost l (i :: r) = gt l (i : Int) + pcost l r := by
 unfold pcost
 rw [List.map_cons, List.sum_cons]
theorem pcost_nonneg (h : GoodL t s l) : ∀ r : List Nat, (∀ i ∈ r, i < t.ops.length) → 0 ≤ pcost l r
 | [], _ => by simp [pcost]
 | i :: r, hr => by
  rw [pcost_cons]
  have h1 := pcost_nonneg h r fun j hj => hr j (List.mem_cons_of_mem _ hj)
  have h2 := (h.cost (hr i (List.mem_cons_self ..))).1
  omega
theorem pcost_cut (h : GoodL t s l) (hg : 0 < gval t s l) (hg2 : gval t s l ≠ 1000000000) : ∀ r : List Nat, (∀ i ∈ r, i < t.ops.length) → pcost (cutRest (srchOf t s l)) r ≤ pcost l r ∧ ((∃ i ∈ r, (i : Int) ∈ cutOps (srchOf t s l)) → pcost (cutRest (srchOf t s l)) r + cutCost (srchOf t s l) ≤ pcost l r)
 | [], _ => ⟨Int.le_refl _, fun ⟨_, h, _⟩ => absurd h (by simp)⟩
 | i :: r, hr => by
  obtain ⟨h1, h2⟩ := pcost_cut h hg hg2 r fun j hj => hr j (List.mem_cons_of_mem _ hj)
  obtain ⟨c0, c1, c2⟩ := cut_cost h hg hg2
  have e := cut_at h (hr i (List.mem_cons_self ..))
  rw [pcost_cons, pcost_cons]
  by_cases hc : (i : Int) ∈ cutOps (srchOf t s l)
  ·rw [if_pos hc] at e
   exact ⟨by omega, fun _ => by omega⟩
  ·rw [if_neg hc] at e
   refine ⟨by omega, fun ⟨j, hj, hjc⟩ => ?_⟩
   rcases List.mem_cons.1 hj with e2 | e2
   ·rw [e2] at hjc; exact absurd hjc hc
   ·have := h2 ⟨j, e2, hjc⟩; omega
theorem fold_max_lt {v : List Int} {c : Int} : ∀ (f : List Int) (m : Int), m < c → (∀ p ∈ f, gt v p < c) → f.foldl (fun out p => max out (gt v p)) m < c
 | [], _, h, _ => h
 | p :: r, m, h, hf => by
  rw [List.foldl_cons]
  have := hf p (List.mem_cons_self ..)
  exact fold_max_lt r _ (by omega) fun q hq => hf q (List.mem_cons_of_mem _ hq)
theorem plan_finite (h : GoodL t s l) {S : Int → Prop} {r : List Nat} (hp : Plan t S r) (hS : ∀ p, S p → gt (sp_valuesG t s l) p < 1000000000) : gval t s l < 1000000000 := by
 induction hp with
 | nil S hgoal => exact fold_max_lt _ _ (by omega) fun p hp => hS p (hgoal p hp)
 | cons S i r hi hpre hrest ih =>
  refine ih fun p hp => ?_
  rcases hp with hp | hp
  ·have h1 := h.val.bound.step i hi p hp
   have h2 : sp_greatest (sp_valuesG t s l) (gt t.ops (i : Int)).pre < 1000000000 := fold_max_lt _ _ (by omega) fun p hp => hS p (hpre p hp)
   have h3 := h.cost hi
   unfold sp_plus at h1
   split at h1 <;> omega
  ·exact hS p hp.1
theorem start_finite (h : GoodL t s l) : ∀ p ∈ s, gt (sp_valuesG t s l) p < 1000000000 := fun p hp => by rw [h.val.bound.zero p hp]; omega
theorem cutGo_le : ∀ (k : Nat) (l : List Int) (cuts : List Cut) (total : Int), GoodL t s l → ∀ r, Plan t (fun p => p ∈ s) r → (cutGo t s k l cuts total).2.1 ≤ total + pcost l r
 | 0, l, cuts, total, h, r, hr => by
  have := pcost_nonneg h r hr.ops
  show total ≤ _
  omega
 | k + 1, l, cuts, total, h, r, hr => by
  by_cases g0 : gval t s l = 0
  ·have := pcost_nonneg h r hr.ops
   rw [cutGo, h.gval_eq, if_pos g0]
   show total ≤ _
   omega
  by_cases g1 : gval t s l = 1000000000
  ·have := plan_finite h hr (start_finite h)
   omega
  have hgr := h.grng
  have gp : 0 < gval t s l := by omega
  rw [cutgo_rest k cuts total h g0 g1]
  have h1 := cutGo_le k _ (cuts ++ [⟨cutOps (srchOf t s l), cutCost (srchOf t s l)⟩]) (total + cutCost (srchOf t s l)) (cut_good h gp g1).1 r hr
  have h2 := (pcost_cut h gp g1 r hr.ops).2 (plan_cut h gp hr fun p hp => .start p hp)
  omega
theorem cutGo_most : ∀ (k : Nat) (l : List Int) (cuts : List Cut) (total : Int), GoodL t s l → total + bsum l ≤ 4000 → (cutGo t s k l cuts total).2.1 ≤ 1000000000
 | 0, l, cuts, total, h, hs => by
  show total ≤ _
  omega
 | k + 1, l, cuts, total, h, hs => by
  by_cases g0 : gval t s l = 0
  ·rw [cutGo, h.gval_eq, if_pos g0]
   show total ≤ _
   omega
  by_cases g1 : gval t s l = 1000000000
  ·rw [cutGo, h.gval_eq, if_neg g0, if_pos g1]
   exact Int.le_refl _
  have hgr := h.grng
  have gp : 0 < gval t s l := by omega
  rw [cutgo_rest k cuts total h g0 g1]
  obtain ⟨c0, _⟩ := cut_cost h gp g1
  obtain ⟨n1, n2⟩ := cut_good h gp g1
  exact cutGo_most k _ _ _ n1 (by omega)
theorem cutGo_fault : ∀ (k : Nat) (l : List Int) (cuts : List Cut) (total : Int), (cutGo t s k l cuts total).2.2 = ⟨0, 0⟩
 | 0, _, _, _ => rfl
 | k + 1, l, cuts, total => by
  rw [cutGo]
  split
  ·rfl
  split
  ·rfl
  ·exact cutGo_fault k _ _ _
theorem good_start (hv : sp_validate t = ⟨0, 0⟩) (hs : sp_isSet s t.facts = true) : GoodL t s (sp_costsR t) := ⟨hv, hs, (costs_rng (taskOK_of hv)).1, (costs_rng (taskOK_of hv)).2⟩
theorem cuts_spec (h : sp_stateFault t s = ⟨0, 0⟩) : (sp_cuts t s).2.2 = ⟨0, 0⟩ ∧ (sp_cuts t s).2.1 ≤ 1000000000 ∧ ∀ r, Plan t (fun p => p ∈ s) r → (sp_cuts t s).2.1 ≤ pcost (sp_costsR t) r := by
 obtain ⟨hv, hs⟩ := sf_ok h
 have g := good_start hv hs
 rw [sp_cuts, if_pos h]
 refine ⟨cutGo_fault _ _ _ _, cutGo_most _ _ _ _ g (by have := costs_sum (taskOK_of hv); omega), fun r hr => ?_⟩
 have := cutGo_le 4001 (sp_costsR t) [] 0 g r hr
 omega
end Go.Proofs.YtimillpakjgnoaaGreat.Pl

namespace Go.Proofs.YtimillpakjgnoaaGreat.Pl
open Go Go.RowKit
theorem pow32 : ∀ n : Nat, n < 32 → 0 < (2 : Int) ^ n ∧ (2 : Int) ^ n ≤ 2147483648 := by decide +kernel
theorem word_snoc (s : List Int) (p : Int) : sp_wordR (s ++ [p]) = sp_wordR s + 2 ^ p.toNat := by
 unfold sp_wordR
 rw [List.foldl_append]; rfl
theorem word_rng : ∀ (s : List Int), (∀ p ∈ s, 0 ≤ p ∧ p < 32) → ∀ k : Nat, k ≤ s.length → 0 ≤ sp_wordR (s.take k) ∧ sp_wordR (s.take k) ≤ k * 2147483648
 | s, h, 0, _ => by rw [List.take_zero]; exact ⟨by decide, by decide⟩
 | s, h, k + 1, hk => by
  obtain ⟨h1, h2⟩ := word_rng s h k (by omega)
  have hp := h _ (gt_memN (xs := s) (i := k) (by omega))
  have h3 := pow32 (gt s (k : Int)).toNat (by omega)
  rw [takeN_gt (by omega), word_snoc]
  omega
theorem ok_wordR : ∀ (s_ : List Int), pre_wordR s_ → F_wordR s_ (fun r => r = sp_wordR s_) := fun s ⟨hl, hr⟩ => by
 refine ⟨fun w i => ∃ k : Nat, i = k ∧ k ≤ s.length ∧ w = sp_wordR (s.take k), fun _ i => (s.length - i).toNat, ⟨0, rfl, Nat.zero_le _, rfl⟩, ?_⟩
 rintro _ _ ⟨k, rfl, k1, rfl⟩
 unfold F_wordR_L1
 simp only [decide_eq_true_eq, decide_eq_false_iff_not, forall_eq]
 refine ⟨fun h => ?_, fun h => by rw [List.take_of_length_le (by omega)]⟩
 have hk : k < s.length := by omega
 have hp := hr _ (gt_memN hk)
 have h1 := word_rng s hr k k1
 have h3 := pow32 (gt s (k : Int)).toNat (by omega)
 have e1 : IntKind.u64.wrap (gt s (k : Int)) = gt s (k : Int) := by rw [IntKind.wrap_u64]; omega
 have e2 : min ((gt s (k : Int))).toNat (IntKind.bits .i64) = (gt s (k : Int)).toNat := by
  show min _ 64 = _
  omega
 rw [e1, e2, w64 (n := (k : Int) + 1) (by omega), Int.one_mul, w64 (n := 2 ^ (gt s (k : Int)).toNat) (by omega), w64 (by omega)]
 exact ⟨⟨by omega, h⟩, hp.1, ⟨k + 1, by omega, by omega, by rw [takeN_gt hk, word_snoc]⟩, by omega⟩
theorem word_bits : ∀ (l : List Int) (w : Nat), l.Pairwise (· < ·) → (∀ p ∈ l, 0 ≤ p ∧ w < 2 ^ p.toNat) → ∀ i : Nat, (l.foldl (fun (w : Nat) p => w + 2 ^ p.toNat) w).testBit i = true ↔ (w.testBit i = true ∨ (i : Int) ∈ l)
 | [], _, _, _, _ => by simp
 | p :: r, w, hs, h, i => by
  obtain ⟨h1, h2⟩ := List.pairwise_cons.1 hs
  obtain ⟨p0, pw⟩ := h p (List.mem_cons_self ..)
  have hlt : w + 2 ^ p.toNat < 2 ^ (p.toNat + 1) := by rw [Nat.pow_succ]; omega
  rw [List.foldl_cons, word_bits r _ h2 (fun q hq => ⟨(h q (List.mem_cons_of_mem _ hq)).1, Nat.lt_of_lt_of_le hlt (Nat.pow_le_pow_right (by decide) (by have := h1 q hq; omega))⟩) i, List.mem_cons]
  have key : (w + 2 ^ p.toNat).testBit i = true ↔ (w.testBit i = true ∨ (i : Int) = p) := by
   rw [Nat.add_comm]
   rcases Nat.lt_trichotomy i p.toNat with g | g | g
   ·rw [Nat.testBit_two_pow_add_gt g]
    exact ⟨.inl, fun e => e.resolve_right (by omega)⟩
   ·subst g
    rw [Nat.testBit_two_pow_add_eq, Nat.testBit_lt_two_pow pw]
    exact ⟨fun _ => .inr (by omega), fun _ => rfl⟩
   ·rw [Nat.testBit_lt_two_pow (x := 2 ^ p.toNat + w) (Nat.lt_of_lt_of_le (by omega) (Nat.pow_le_pow_right (by decide) g)), Nat.testBit_lt_two_pow (x := w) (Nat.lt_of_lt_of_le pw (Nat.pow_le_pow_right (by decide) (Nat.le_of_lt g)))]
    exact ⟨fun e => (by cases e), fun e => e.elim (fun e => (by cases e)) (fun e => by omega)⟩
  rw [key, or_assoc]
theorem word_nat : ∀ (l : List Int) (w : Nat), l.foldl (fun (w : Int) p => w + 2 ^ p.toNat) (w : Int) = ((l.foldl (fun (w : Nat) p => w + 2 ^ p.toNat) w : Nat) : Int)
 | [], _ => rfl
 | p :: r, w => by
  rw [List.foldl_cons, List.foldl_cons, ← word_nat r]
  congr 1
theorem word_inj {n : Int} {a b : List Int} (ha : sp_isSet a n = true) (hb : sp_isSet b n = true) (h : sp_wordR a = sp_wordR b) : a = b := by
 have ea := word_nat a 0
 have eb := word_nat b 0
 have e : (a.foldl (fun (w : Nat) p => w + 2 ^ p.toNat) 0 : Nat) = (b.foldl (fun (w : Nat) p => w + 2 ^ p.toNat) 0 : Nat) := by
  have h' : a.foldl (fun (w : Int) p => w + 2 ^ p.toNat) ((0 : Nat) : Int) = b.foldl (fun (w : Int) p => w + 2 ^ p.toNat) ((0 : Nat) : Int) := h
  rw [ea, eb] at h'
  omega
 have ra := set_rng ha
 have rb := set_rng hb
 have wa := word_bits a 0 (set_sorted ha) fun p hp => ⟨(ra p hp).1, Nat.pow_pos (by decide)⟩
 have wb := word_bits b 0 (set_sorted hb) fun p hp => ⟨(rb p hp).1, Nat.pow_pos (by decide)⟩
 rw [e] at wa
 have key : ∀ i : Nat, (i : Int) ∈ a ↔ (i : Int) ∈ b := fun i => by
  have h1 := wa i
  have h2 := wb i
  simp only [Nat.zero_testBit, Bool.false_eq_true, false_or] at h1 h2
  exact h1.symm.trans h2
 refine sorted_ext a b (set_sorted ha) (set_sorted hb) fun x => ⟨fun hx => ?_, fun hx => ?_⟩
 ·have := ra x hx
  have e : x = (x.toNat : Int) := by omega
  rw [e] at hx ⊢; exact (key _).1 hx
 ·have := rb x hx
  have e : x = (x.toNat : Int) := by omega
  rw [e] at hx ⊢; exact (key _).2 hx
theorem set_word {t : Task} (tk : TaskOK t) {s : List Int} (hs : sp_isSet s t.facts = true) : pre_wordR s := by
 have hf := tk.facts
 have hl := set_len hf.1 hs
 exact ⟨by omega, fun p hp => by have := set_rng hs p hp; omega⟩
theorem gt_allS {n : Nat} {q : Nat} (h : q < n) : gt (allS n) (q : Int) = q := by
 have := gt_map_all (fun i => i) n (q : Int) (by omega) (by omega)
 rwa [List.map_id'] at this
theorem allS_dropN {n q : Nat} (h : q < n) : (allS n).drop q = (q : Int) :: (allS n).drop (q + 1) := by
 have := drop_gt (xs := allS n) (i := (q : Int)) ⟨by omega, by rw [allS_len]; omega⟩
 rw [gt_allS h] at this
 exact this
structure Sts (t : Task) (out : List (List Int)) : Prop where
 most : out.length ≤ 2000
 set : ∀ s ∈ out, sp_isSet s t.facts = true
theorem ok_reachedFrom : ∀ (t : Task) (s_ : List Int), pre_reachedFrom t s_ → F_reachedFrom t s_ (fun r => r = sp_reachedFrom t s_) := fun t s ⟨hv, hs⟩ => by
 have tk := taskOK_of hv
 have hf := tk.facts
 have hol := tk.len
 unfold F_reachedFrom
 simp only [forall_eq]
 refine ⟨set_word tk hs, fun i out words => ∃ m k : Nat, i = m ∧ m ≤ out.length ∧ m + k = 2001 ∧ Sts t out ∧ words = out.map sp_wordR ∧ rgo t k i out = sp_reachedFrom t s, fun i _ _ => (2001 - i).toNat, ⟨0, 2001, rfl, Nat.zero_le _, rfl, ⟨by simp, fun x hx => by rw [List.mem_singleton.1 hx]; exact hs⟩, rfl, rfl⟩, ?_⟩
 rintro _ out words ⟨m, k0, rfl, m1, hk0, st, rfl, hgo⟩
 have hmost := st.most
 obtain ⟨k, rfl⟩ : ∃ k, k0 = k + 1 := ⟨k0 - 1, by omega⟩
 unfold F_reachedFrom_L1
 simp only [decide_eq_true_eq, decide_eq_false_iff_not]
 refine ⟨fun h => ?_, fun h => by rw [← hgo, rgo, if_neg h]⟩
 rw [rgo, if_pos h] at hgo
 refine ⟨fun op o w => ∃ q : Nat, op = q ∧ q ≤ t.ops.length ∧ Sts t o ∧ out.length ≤ o.length ∧ w = o.map sp_wordR ∧ rops t m ((allS t.ops.length).drop q) o = rops t m (allS t.ops.length) out, fun op _ _ => (t.ops.length - op).toNat, ⟨0, rfl, Nat.zero_le _, st, Nat.le_refl _, rfl, rfl⟩, ?_⟩
 rintro _ o w ⟨q, rfl, q1, so, hle, rfl, hop⟩
 have omost := so.most
 unfold F_reachedFrom_L2
 simp only [decide_eq_true_eq, decide_eq_false_iff_not, forall_eq, beq_iff_eq, beq_eq_false_iff_ne, ne_eq]
 refine ⟨fun hq => ?_, fun hq => ?_⟩
 ·have hq' : q < t.ops.length := by omega
  have hik : inb t.ops (q : Int) := ⟨by omega, hq⟩
  have him : inb o (m : Int) := ⟨by omega, by omega⟩
  have hset := so.set _ (gt_mem him)
  have hsl := set_len hf.1 hset
  have pa : pre_applies t (gt o (m : Int)) (q : Int) := ⟨hv, hik, by omega⟩
  have hafter := after_set hf.1 (gt o (m : Int)) (q : Int)
  rw [allS_dropN hq', rops] at hop
  have next : ∀ o', rstep t (m : Int) o (q : Int) = some o' → Sts t o' → out.length ≤ o'.length → F_reachedFrom_J1 (q : Int) (fun op o w => ∃ q : Nat, op = q ∧ q ≤ t.ops.length ∧ Sts t o ∧ out.length ≤ o.length ∧ w = o.map sp_wordR ∧ rops t m ((allS t.ops.length).drop q) o = rops t m (allS t.ops.length) out) (fun op _ _ => (t.ops.length - op).toNat) o (o.map sp_wordR) o' (o'.map sp_wordR) := fun o' h1 h2 h3 => by
   unfold F_reachedFrom_J1
   rw [w64 (by omega)]
   rw [h1] at hop
   exact ⟨⟨q + 1, by omega, by omega, h2, h3, rfl, hop⟩, by dsimp only; omega⟩
  refine ⟨him, pa, fun g => ?_, fun g => ⟨pa, set_word tk hafter, show _ ≤ _ by rw [List.length_map]; omega, fun g2 => ?_, fun g2 => ⟨fun g3 => ?_, fun g3 => ⟨⟨by rw [List.length_append, List.length_singleton]; simp only [maxLen]; omega, by rw [List.length_append, List.length_singleton]; omega⟩, ⟨by rw [List.length_append, List.length_singleton, List.length_map]; simp only [maxLen]; omega, by rw [List.length_append, List.length_singleton, List.length_map]; omega⟩, ?_⟩⟩⟩⟩
  ·have g' : ¬ sp_applies t (gt o (m : Int)) (q : Int) = true := by
    intro e; rw [e] at g; cases g
   exact next o (by rw [rstep, if_neg g']) so hle
  ·have g' : sp_applies t (gt o (m : Int)) (q : Int) = true := by
    cases e : sp_applies t (gt o (m : Int)) (q : Int) with
    | true => rfl
    | false => rw [e] at g; cases g
   have g2' : sp_wordR (sp_after t (gt o (m : Int)) (q : Int)) ∈ o.map sp_wordR := of_decide_eq_true g2
   exact next o (by rw [rstep, if_pos g', if_pos g2']) so hle
  ·have g' : sp_applies t (gt o (m : Int)) (q : Int) = true := by
    cases e : sp_applies t (gt o (m : Int)) (q : Int) with
    | true => rfl
    | false => rw [e] at g; cases g
   have g2' : ¬ sp_wordR (sp_after t (gt o (m : Int)) (q : Int)) ∈ o.map sp_wordR := of_decide_eq_false g2
   have g3' : o.length = 2000 := by omega
   have e : rstep t (m : Int) o (q : Int) = none := by rw [rstep, if_pos g', if_neg g2', if_pos g3']
   rw [e] at hop
   rw [← hop] at hgo
   rw [← hgo]
  ·have g' : sp_applies t (gt o (m : Int)) (q : Int) = true := by
    cases e : sp_applies t (gt o (m : Int)) (q : Int) with
    | true => rfl
    | false => rw [e] at g; cases g
   have g2' : ¬ sp_wordR (sp_after t (gt o (m : Int)) (q : Int)) ∈ o.map sp_wordR := of_decide_eq_false g2
   have g3' : ¬ o.length = 2000 := by omega
   have e : rstep t (m : Int) o (q : Int) = some (o ++ [sp_after t (gt o (m : Int)) (q : Int)]) := by rw [rstep, if_pos g', if_neg g2', if_neg g3']
   have hn := next _ e ⟨by rw [List.length_append, List.length_singleton]; omega, fun x hx => by
    rcases List.mem_append.1 hx with c | c
    ·exact so.set x c
    ·rw [List.mem_singleton.1 c]; exact hafter⟩ (by rw [List.length_append]; omega)
   rw [List.map_append] at hn
   exact hn
 ·rw [List.drop_of_length_le (by rw [allS_len]; omega), rops] at hop
  rw [← hop] at hgo
  rw [w64 (by omega)]
  exact ⟨⟨m + 1, k, by omega, by omega, by omega, so, trivial, hgo⟩, by omega⟩
theorem gt_appA {α : Type} [Inhabited α] {v : List α} {p : Int} (h : inb v p) (z : α) : gt (v ++ [z]) p = gt v p := by
 rw [gt_of h, gt_of ⟨h.1, by have := h.2; rw [List.length_append, List.length_singleton]; omega⟩]
 exact List.getElem_append_left _
theorem rops_good {t : Task} (hf : 0 ≤ t.facts) {i : Int} {P : List (List Int) → Prop} (hP : ∀ o op, P o → o.length < 2000 → P (o ++ [sp_after t (gt o i) op])) : ∀ (l : List Int) (o o' : List (List Int)), o.length ≤ 2000 → P o → rops t i l o = some o' → o'.length ≤ 2000 ∧ P o'
 | [], o, o', hl, h, e => by
  rw [rops] at e
  cases e; exact ⟨hl, h⟩
 | op :: r, o, o', hl, h, e => by
  rw [rops] at e
  cases e2 : rstep t i o op with
  | none => rw [e2] at e; cases e
  | some o2 =>
   rw [e2] at e
   unfold rstep at e2
   split at e2
   ·split at e2
    ·cases e2; exact rops_good hf hP r o o' hl h e
    ·split at e2
     ·cases e2
     ·cases e2
      exact rops_good hf hP r _ o' (by rw [List.length_append, List.length_singleton]; omega) (hP o op h (by omega)) e
   ·cases e2; exact rops_good hf hP r o o' hl h e
theorem rgo_good {t : Task} (hf : 0 ≤ t.facts) {P : List (List Int) → Prop} (hP : ∀ i o op, P o → o.length < 2000 → P (o ++ [sp_after t (gt o i) op])) : ∀ (k : Nat) (i : Int) (o : List (List Int)), o.length ≤ 2000 → P o → (rgo t k i o).2 = true → (rgo t k i o).1.length ≤ 2000 ∧ P (rgo t k i o).1
 | 0, _, o, hl, h, _ => ⟨hl, h⟩
 | k + 1, i, o, hl, h, e => by
  rw [rgo] at e ⊢
  split
  ·rename_i hi
   rw [if_pos hi] at e
   cases e2 : rops t i (allS t.ops.length) o with
   | none => rw [e2] at e; cases e
   | some o2 =>
    rw [e2] at e
    obtain ⟨h1, h2⟩ := rops_good hf (P := P) (fun o op => hP i o op) _ _ _ hl h e2
    exact rgo_good hf hP k (i + 1) o2 h1 h2 e
  ·exact ⟨hl, h⟩
theorem reached_spec {t : Task} {s : List Int} (hv : sp_validate t = ⟨0, 0⟩) (hs : sp_isSet s t.facts = true) (h : (sp_reachedFrom t s).2 = true) : Sts t (sp_reachedFrom t s).1 ∧ 0 < (sp_reachedFrom t s).1.length ∧ gt (sp_reachedFrom t s).1 0 = s := by
 have tk := taskOK_of hv
 have hf := tk.facts
 obtain ⟨h1, h2, h3, h4⟩ := rgo_good hf.1 (P := fun o => (∀ x ∈ o, sp_isSet x t.facts = true) ∧ 0 < o.length ∧ gt o 0 = s) (fun i o op ⟨p1, p2, p3⟩ _ => ⟨fun x hx => by
   rcases List.mem_append.1 hx with c | c
   ·exact p1 x c
   ·rw [List.mem_singleton.1 c]; exact after_set hf.1 _ _, by rw [List.length_append]; omega, by
   rw [← p3]
   exact gt_appA ⟨by omega, by omega⟩ _⟩) 2001 0 [s] (by simp) ⟨fun x hx => by rw [List.mem_singleton.1 hx]; exact hs, by simp, rfl⟩ h
 exact ⟨⟨h1, h2⟩, h3, h4⟩
end Go.Proofs.YtimillpakjgnoaaGreat.Pl

namespace Go.Proofs.YtimillpakjgnoaaGreat.Pl
open Go Go.RowKit
theorem gt_mapA {α β : Type} [Inhabited α] [Inhabited β] {xs : List α} {i : Int} (f : α → β) (h : inb xs i) : gt (xs.map f) i = f (gt xs i) := by
 rw [gt_of h, gt_of ⟨h.1, by rw [List.length_map]; exact h.2⟩]
 simp
theorem flat_len {α β : Type} (f : α → List β) (c : Nat) : ∀ l : List α, (∀ x ∈ l, (f x).length ≤ c) → (l.flatMap f).length ≤ c * l.length
 | [], _ => by simp
 | x :: r, h => by
  have h1 := flat_len f c r fun y hy => h y (List.mem_cons_of_mem _ hy)
  have h2 := h x (List.mem_cons_self ..)
  rw [List.flatMap_cons, List.length_append, List.length_cons, Nat.mul_succ]
  omega
theorem arcsK_len (t : Task) (l : List (List Int)) (i op : Int) (n : Nat) : (arcsK t l i op n).length ≤ n := by
 unfold arcsK
 rw [List.length_map]
 exact Nat.le_trans (List.length_filter_le _ _) (by rw [allS_len]; exact Nat.le_refl _)
theorem arcsO_len {t : Task} {l : List (List Int)} (hl : l.length ≤ 2000) (i : Int) (n : Nat) : (arcsO t l i n).length ≤ 2000 * n := by
 have := flat_len (fun op => if sp_applies t (gt l i) op = true then arcsK t l i op l.length else []) 2000 (allS n) fun op _ => by
  split
  ·exact Nat.le_trans (arcsK_len ..) hl
  ·simp
 rwa [allS_len] at this
theorem arcsI_len {t : Task} {l : List (List Int)} (hl : l.length ≤ 2000) (ho : t.ops.length ≤ 40) (n : Nat) : (arcsI t l n).length ≤ 80000 * n := by
 have := flat_len (fun i => arcsO t l i t.ops.length) 80000 (allS n) fun op _ => Nat.le_trans (arcsO_len hl _ _) (by omega)
 rwa [allS_len] at this
theorem arcsI_succ (t : Task) (l : List (List Int)) (n : Nat) : arcsI t l (n + 1) = arcsI t l n ++ arcsO t l n t.ops.length := by
 unfold arcsI
 rw [allS_succ, List.flatMap_append, List.flatMap_cons, List.flatMap_nil, List.append_nil]
theorem arcsO_succ (t : Task) (l : List (List Int)) (i : Int) (n : Nat) : arcsO t l i (n + 1) = arcsO t l i n ++ if sp_applies t (gt l i) (n : Int) = true then arcsK t l i n l.length else [] := by
 unfold arcsO
 rw [allS_succ, List.flatMap_append, List.flatMap_cons, List.flatMap_nil, List.append_nil]
theorem arcsK_succ (t : Task) (l : List (List Int)) (i op : Int) (n : Nat) : arcsK t l i op (n + 1) = arcsK t l i op n ++ if sp_wordR (gt l (n : Int)) = sp_wordR (sp_after t (gt l i) op) then [(i, (n : Int), (gt t.ops op).cost)] else [] := by
 unfold arcsK
 rw [filter_snoc, List.map_append]
 congr 1
 by_cases h : sp_wordR (gt l (n : Int)) = sp_wordR (sp_after t (gt l i) op)
 ·rw [if_pos h, if_pos (decide_eq_true h)]; rfl
 ·rw [if_neg h, if_neg (by rw [decide_eq_false h]; decide)]; rfl
structure Arc (t : Task) (l : List (List Int)) (a : Int × Int × Int) (i op k : Nat) : Prop where
 hi : i < l.length
 hop : op < t.ops.length
 hk : k < l.length
 app : sp_applies t (gt l (i : Int)) (op : Int) = true
 word : sp_wordR (gt l (k : Int)) = sp_wordR (sp_after t (gt l (i : Int)) (op : Int))
 eq : a = ((i : Int), (k : Int), (gt t.ops (op : Int)).cost)
theorem allS_nat {n : Nat} {x : Int} (h : x ∈ allS n) : ∃ q : Nat, x = q ∧ q < n := by
 have := mem_allS.1 h
 exact ⟨x.toNat, by omega, by omega⟩
theorem arc_of {t : Task} {l : List (List Int)} {a : Int × Int × Int} (h : a ∈ arcsI t l l.length) : ∃ i op k : Nat, Arc t l a i op k := by
 unfold arcsI at h
 obtain ⟨x, hx, h⟩ := List.mem_flatMap.1 h
 obtain ⟨i, rfl, hi⟩ := allS_nat hx
 unfold arcsO at h
 obtain ⟨y, hy, h⟩ := List.mem_flatMap.1 h
 obtain ⟨op, rfl, hop⟩ := allS_nat hy
 split at h
 ·rename_i ha
  unfold arcsK at h
  obtain ⟨z, hz, e⟩ := List.mem_map.1 h
  obtain ⟨hz1, hz2⟩ := List.mem_filter.1 hz
  obtain ⟨k, rfl, hk⟩ := allS_nat hz1
  exact ⟨i, op, k, hi, hop, hk, ha, of_decide_eq_true hz2, e.symm⟩
 ·cases h
theorem bsum_set : ∀ (d : List Int) (i : Nat) (v : Int) (h : i < d.length), 0 ≤ v → v < d[i] → bsum (d.set i v) < bsum d
 | [], _, _, h, _, _ => absurd h (Nat.not_lt_zero _)
 | x :: r, 0, v, _, h0, h1 => by
  simp only [List.getElem_cons_zero] at h1
  simp only [List.set_cons_zero, bsum, List.map_cons, List.sum_cons]
  omega
 | x :: r, i + 1, v, h, h0, h1 => by
  have := bsum_set r i v (by simpa using h) h0 (by simpa using h1)
  simp only [List.set_cons_succ, bsum, List.map_cons, List.sum_cons] at this ⊢
  omega
structure Rng (l : List (List Int)) (out : List Int) : Prop where
 len : out.length = l.length
 vals : ∀ x ∈ out, 0 ≤ x ∧ x ≤ 1000000000
theorem Rng.init (t : Task) (l : List (List Int)) : Rng l (bfInit t l) := ⟨List.length_map _, fun x hx => by
 unfold bfInit at hx
 obtain ⟨s, _, e⟩ := List.mem_map.1 hx
 rw [← e]
 split <;> omega⟩
theorem cost_rng {t : Task} (tk : TaskOK t) {op : Nat} (h : op < t.ops.length) : 0 ≤ (gt t.ops (op : Int)).cost ∧ (gt t.ops (op : Int)).cost ≤ 100 := by
 obtain ⟨h1, h2⟩ := costs_rng tk
 have := h2 (gt t.ops (op : Int)).cost (List.mem_map.2 ⟨_, gt_memN h, rfl⟩)
 exact this
theorem relax_pos {out : List Int} {a : Int × Int × Int} (h : gt out a.2.1 < 1000000000 ∧ gt out a.2.1 + a.2.2 < gt out a.1) : relaxB out a = out.set a.1.toNat (gt out a.2.1 + a.2.2) := by
 unfold relaxB; rw [if_pos h]
theorem relax_neg {out : List Int} {a : Int × Int × Int} (h : ¬ (gt out a.2.1 < 1000000000 ∧ gt out a.2.1 + a.2.2 < gt out a.1)) : relaxB out a = out := by
 unfold relaxB; rw [if_neg h]
theorem Rng.relax {t : Task} (tk : TaskOK t) {l : List (List Int)} {out : List Int} (h : Rng l out) {a : Int × Int × Int} {i op k : Nat} (ha : Arc t l a i op k) : Rng l (relaxB out a) ∧ (gt out a.2.1 < 1000000000 ∧ gt out a.2.1 + a.2.2 < gt out a.1 → bsum (relaxB out a) < bsum out) := by
 have e1 : a.1 = (i : Int) := by rw [ha.eq]
 have e2 : a.2.1 = (k : Int) := by rw [ha.eq]
 have e3 : a.2.2 = (gt t.ops (op : Int)).cost := by rw [ha.eq]
 have hc := cost_rng tk ha.hop
 have hi : i < out.length := by rw [h.len]; exact ha.hi
 have hk : k < out.length := by rw [h.len]; exact ha.hk
 have vi := h.vals _ (gt_memN hi)
 have vk := h.vals _ (gt_memN hk)
 by_cases q : gt out a.2.1 < 1000000000 ∧ gt out a.2.1 + a.2.2 < gt out a.1
 ·rw [relax_pos q]
  rw [e1, e2, e3] at q ⊢
  refine ⟨⟨by rw [List.length_set]; exact h.len, fun x hx => ?_⟩, fun _ => bsum_set _ _ _ hi (by omega) ?_⟩
  ·rcases List.mem_or_eq_of_mem_set hx with g | g
   ·exact h.vals x g
   ·omega
  ·have e4 : gt out (i : Int) = out[i] := by rw [gt_of ⟨by omega, by omega⟩]; rfl
   rw [e4] at q
   exact q.2
 ·rw [relax_neg q]
  exact ⟨h, fun g => absurd g q⟩
theorem bf_rest {A : List (Int × Int × Int)} {k : Nat} {out : List Int} (h : A.foldl relaxB out ≠ out) : bfGo A (k + 1) out = bfGo A k (A.foldl relaxB out) := by
 rw [bfGo, if_neg h]
theorem ok_costsRef : ∀ (t : Task) (l : List (List Int)), pre_costsRef t l → F_costsRef t l (fun r => r = sp_costsRef t l) := fun t l ⟨hv, hl, hset⟩ => by
 have tk := taskOK_of hv
 have hf := tk.facts
 have hol := tk.len
 have hgl := set_len hf.1 tk.goal
 refine ⟨fun i out words => ∃ m : Nat, i = m ∧ m ≤ l.length ∧ out = bfInit t (l.take m) ∧ words = (l.take m).map sp_wordR, fun i _ _ => (l.length - i).toNat, ⟨0, rfl, Nat.zero_le _, rfl, rfl⟩, ?_⟩
 rintro _ out words ⟨m, rfl, m1, ho, hw⟩
 have olen : out.length = m := by rw [ho]; unfold bfInit; rw [List.length_map, List.length_take]; omega
 have wlen : words.length = m := by rw [hw, List.length_map, List.length_take]; omega
 unfold F_costsRef_L1
 simp only [decide_eq_true_eq, decide_eq_false_iff_not, forall_eq]
 refine ⟨fun h => ?_, fun h => ?_⟩
 ·have hm : m < l.length := by omega
  have hs := hset _ (gt_memN hm)
  have hsl := set_len hf.1 hs
  have r8 : ∀ (xs : List Int) (y : Int), xs.length = m → room (xs ++ [y]).length 8 := fun xs y e => ⟨by rw [List.length_append, List.length_singleton]; simp only [maxLen]; omega, by rw [List.length_append, List.length_singleton]; omega⟩
  have nw : words ++ [sp_wordR (gt l (m : Int))] = (l.take (m + 1)).map sp_wordR := by rw [takeN_gt hm, List.map_append, ← hw]; rfl
  have no : ∀ v, v = (if sp_subset t.goal (gt l (m : Int)) = true then (0 : Int) else 1000000000) → out ++ [v] = bfInit t (l.take (m + 1)) := fun v e => by
   rw [takeN_gt hm, ho, e]; unfold bfInit; rw [List.map_append]; rfl
  unfold F_costsRef_J1
  rw [w64 (by omega)]
  exact ⟨⟨by omega, h⟩, set_word tk hs, r8 _ _ wlen, ⟨by omega, by omega⟩, fun g => ⟨r8 _ _ olen, ⟨m + 1, by omega, by omega, no _ (by rw [if_pos g]), nw⟩, by dsimp only; omega⟩, fun g => ⟨r8 _ _ olen, ⟨m + 1, by omega, by omega, no _ (by rw [if_neg (by rw [g]; decide)]), nw⟩, by dsimp only; omega⟩⟩
 have hml : m = l.length := by omega
 rw [List.take_of_length_le (by omega)] at ho hw
 refine ⟨fun i f to c => ∃ q : Nat, i = q ∧ q ≤ l.length ∧ f = (arcsI t l q).map (·.1) ∧ to = (arcsI t l q).map (·.2.1) ∧ c = (arcsI t l q).map (·.2.2), fun i _ _ _ => (l.length - i).toNat, ⟨0, rfl, Nat.zero_le _, rfl, rfl, rfl⟩, ?_⟩
 rintro _ f to c ⟨q, rfl, q1, hfr, hto, hco⟩
 unfold F_costsRef_L2
 simp only [decide_eq_true_eq, decide_eq_false_iff_not]
 refine ⟨fun h => ?_, fun h => ?_⟩
 ·have hq : q < l.length := by omega
  have hs := hset _ (gt_memN hq)
  have hsl := set_len hf.1 hs
  refine ⟨fun op f to c => ∃ r : Nat, op = r ∧ r ≤ t.ops.length ∧ f = (arcsI t l q ++ arcsO t l q r).map (·.1) ∧ to = (arcsI t l q ++ arcsO t l q r).map (·.2.1) ∧ c = (arcsI t l q ++ arcsO t l q r).map (·.2.2), fun op _ _ _ => (t.ops.length - op).toNat, ⟨0, rfl, Nat.zero_le _, ?_, ?_, ?_⟩, ?_⟩
  ·rw [hfr]; simp [arcsO, allS]
  ·rw [hto]; simp [arcsO, allS]
  ·rw [hco]; simp [arcsO, allS]
  rintro _ f3 to3 c3 ⟨r, rfl, r1, hf3, ht3, hc3⟩
  unfold F_costsRef_L3
  simp only [decide_eq_true_eq, decide_eq_false_iff_not, forall_eq]
  refine ⟨fun hr => ?_, fun hr => ?_⟩
  ·have hr' : r < t.ops.length := by omega
   have hik : inb t.ops (r : Int) := ⟨by omega, hr⟩
   have pa : pre_applies t (gt l (q : Int)) (r : Int) := ⟨hv, hik, by omega⟩
   have next : ∀ (f5 to5 c5 : List Int), f5 = (arcsI t l q ++ arcsO t l q (r + 1)).map (·.1) → to5 = (arcsI t l q ++ arcsO t l q (r + 1)).map (·.2.1) → c5 = (arcsI t l q ++ arcsO t l q (r + 1)).map (·.2.2) → F_costsRef_J2 f3 to3 c3 (r : Int) f5 to5 c5 (fun op f to c => ∃ r : Nat, op = r ∧ r ≤ t.ops.length ∧ f = (arcsI t l q ++ arcsO t l q r).map (·.1) ∧ to = (arcsI t l q ++ arcsO t l q r).map (·.2.1) ∧ c = (arcsI t l q ++ arcsO t l q r).map (·.2.2)) (fun op _ _ _ => (t.ops.length - op).toNat) := fun f5 to5 c5 h1 h2 h3 => by
    unfold F_costsRef_J2
    rw [w64 (by omega)]
    exact ⟨⟨r + 1, by omega, by omega, h1, h2, h3⟩, by dsimp only; omega⟩
   refine ⟨⟨by omega, h⟩, pa, fun g => ⟨pa, set_word tk (after_set hf.1 _ _), fun k f to c => ∃ z : Nat, k = z ∧ z ≤ l.length ∧ f = (arcsI t l q ++ arcsO t l q r ++ arcsK t l q r z).map (·.1) ∧ to = (arcsI t l q ++ arcsO t l q r ++ arcsK t l q r z).map (·.2.1) ∧ c = (arcsI t l q ++ arcsO t l q r ++ arcsK t l q r z).map (·.2.2), fun k _ _ _ => (l.length - k).toNat, ⟨0, rfl, Nat.zero_le _, ?_, ?_, ?_⟩, ?_⟩, fun g => ?_⟩
   ·rw [hf3]; simp [arcsK, allS]
   ·rw [ht3]; simp [arcsK, allS]
   ·rw [hc3]; simp [arcsK, allS]
   ·rintro _ f6 to6 c6 ⟨z, rfl, z1, hf6, ht6, hc6⟩
    have alen : (arcsI t l q ++ arcsO t l q r ++ arcsK t l q r z).length ≤ 200000000 := by
     rw [List.length_append, List.length_append]
     have a1 := arcsI_len (t := t) hl hol q
     have a2 := arcsO_len (t := t) hl (q : Int) r
     have a3 := arcsK_len t l q r z
     omega
    have r8 : ∀ (xs : List Int) (y : Int), xs.length = (arcsI t l q ++ arcsO t l q r ++ arcsK t l q r z).length → room (xs ++ [y]).length 8 := fun xs y e => ⟨by rw [List.length_append, List.length_singleton]; simp only [maxLen]; omega, by rw [List.length_append, List.length_singleton]; omega⟩
    unfold F_costsRef_L4
    simp only [decide_eq_true_eq, decide_eq_false_iff_not, beq_iff_eq, beq_eq_false_iff_ne, ne_eq]
    have step : ∀ (f8 to8 c8 : List Int), f8 = (arcsI t l q ++ arcsO t l q r ++ arcsK t l q r (z + 1)).map (·.1) → to8 = (arcsI t l q ++ arcsO t l q r ++ arcsK t l q r (z + 1)).map (·.2.1) → c8 = (arcsI t l q ++ arcsO t l q r ++ arcsK t l q r (z + 1)).map (·.2.2) → z < l.length → F_costsRef_J3 (z : Int) (fun k f to c => ∃ z : Nat, k = z ∧ z ≤ l.length ∧ f = (arcsI t l q ++ arcsO t l q r ++ arcsK t l q r z).map (·.1) ∧ to = (arcsI t l q ++ arcsO t l q r ++ arcsK t l q r z).map (·.2.1) ∧ c = (arcsI t l q ++ arcsO t l q r ++ arcsK t l q r z).map (·.2.2)) (fun k _ _ _ => (l.length - k).toNat) f6 to6 c6 f8 to8 c8 := fun f8 to8 c8 h1 h2 h3 hz => by
     unfold F_costsRef_J3
     rw [w64 (by omega)]
     exact ⟨⟨z + 1, by omega, by omega, h1, h2, h3⟩, by dsimp only; omega⟩
    refine ⟨fun hz => ?_, fun hz => ?_⟩
    ·have hz' : z < l.length := by omega
     have ewk : gt words (z : Int) = sp_wordR (gt l (z : Int)) := by rw [hw]; exact gt_mapA _ ⟨by omega, by omega⟩
     rw [ewk]
     refine ⟨⟨by omega, hz⟩, fun g2 => ⟨r8 _ _ (by rw [hf6, List.length_map]), r8 _ _ (by rw [ht6, List.length_map]), hik, r8 _ _ (by rw [hc6, List.length_map]), step _ _ _ ?_ ?_ ?_ hz'⟩, fun g2 => step _ _ _ ?_ ?_ ?_ hz'⟩
     ·rw [arcsK_succ, if_pos g2, hf6]; simp
     ·rw [arcsK_succ, if_pos g2, ht6]; simp
     ·rw [arcsK_succ, if_pos g2, hc6]; simp
     ·rw [arcsK_succ, if_neg g2, hf6]; simp
     ·rw [arcsK_succ, if_neg g2, ht6]; simp
     ·rw [arcsK_succ, if_neg g2, hc6]; simp
    ·have hze : z = l.length := by omega
     subst hze
     refine next _ _ _ ?_ ?_ ?_
     ·rw [arcsO_succ, if_pos g, hf6, List.append_assoc]
     ·rw [arcsO_succ, if_pos g, ht6, List.append_assoc]
     ·rw [arcsO_succ, if_pos g, hc6, List.append_assoc]
   ·have g' : ¬ sp_applies t (gt l (q : Int)) (r : Int) = true := by rw [g]; decide
    refine next _ _ _ ?_ ?_ ?_
    ·rw [arcsO_succ, if_neg g', hf3, List.append_nil]
    ·rw [arcsO_succ, if_neg g', ht3, List.append_nil]
    ·rw [arcsO_succ, if_neg g', hc3, List.append_nil]
  ·have hre : r = t.ops.length := by omega
   subst hre
   rw [← arcsI_succ] at hf3 ht3 hc3
   rw [w64 (by omega)]
   exact ⟨⟨q + 1, by omega, by omega, hf3, ht3, hc3⟩, by omega⟩
 have hql : q = l.length := by omega
 subst hql
 have arcs : ∀ a ∈ arcsI t l l.length, ∃ i op k : Nat, Arc t l a i op k := fun a ha => arc_of ha
 have hspec : sp_costsRef t l = bfGo (arcsI t l l.length) (bsum (bfInit t l) + 1) (bfInit t l) := rfl
 have hAlen := arcsI_len (t := t) hl hol l.length
 generalize hA : arcsI t l l.length = A at hfr hto hco arcs hspec hAlen
 refine ⟨fun ag out => Rng l out ∧ (ag = true → ∃ k : Nat, bsum out < k ∧ bfGo A k out = sp_costsRef t l) ∧ (ag = false → out = sp_costsRef t l), fun ag out => 2 * bsum out + (if ag = true then 1 else 0), ⟨by rw [ho]; exact Rng.init t l, fun _ => ⟨_, Nat.lt_succ_self _, by rw [ho]; exact hspec.symm⟩, fun e => absurd e (by decide)⟩, ?_⟩
 rintro ag o4 ⟨rg4, ht4, hf4⟩
 unfold F_costsRef_L5
 refine ⟨fun hag => ?_, fun hag => hf4 hag⟩
 subst hag
 obtain ⟨k0, hk0, hgo⟩ := ht4 rfl
 obtain ⟨k, rfl⟩ : ∃ k, k0 = k + 1 := ⟨k0 - 1, by omega⟩
 refine ⟨fun ag a o => ∃ z : Nat, a = z ∧ z ≤ A.length ∧ o = (A.take z).foldl relaxB o4 ∧ Rng l o ∧ (ag = true → bsum o < bsum o4) ∧ (ag = false → o = o4), fun _ a _ => (A.length - a).toNat, ⟨0, rfl, Nat.zero_le _, rfl, rg4, fun e => absurd e (by decide), fun _ => rfl⟩, ?_⟩
 rintro ag3 _ o6 ⟨z, rfl, z1, ho6, rg6, ht6, hf6⟩
 have flen : f.length = A.length := by rw [hfr, List.length_map]
 unfold F_costsRef_L6
 simp only [decide_eq_true_eq, decide_eq_false_iff_not, forall_eq, flen]
 refine ⟨fun hz => ?_, fun hz => ?_⟩
 ·have hz' : z < A.length := by omega
  have hin : inb A (z : Int) := ⟨by omega, hz⟩
  obtain ⟨i, op, k2, ha⟩ := arcs _ (gt_mem hin)
  have nx : (A.take (z + 1)).foldl relaxB o4 = relaxB o6 (gt A (z : Int)) := by rw [takeN_gt hz', List.foldl_append, ← ho6]; rfl
  have e1 : gt f (z : Int) = (gt A (z : Int)).1 := by rw [hfr]; exact gt_mapA _ hin
  have e2 : gt to (z : Int) = (gt A (z : Int)).2.1 := by rw [hto]; exact gt_mapA _ hin
  have e3 : gt c (z : Int) = (gt A (z : Int)).2.2 := by rw [hco]; exact gt_mapA _ hin
  have a1 : (gt A (z : Int)).1 = (i : Int) := by rw [ha.eq]
  have a2 : (gt A (z : Int)).2.1 = (k2 : Int) := by rw [ha.eq]
  have a3 : (gt A (z : Int)).2.2 = (gt t.ops (op : Int)).cost := by rw [ha.eq]
  have hc := cost_rng tk ha.hop
  have ini : inb o6 (gt f (z : Int)) := by rw [e1, a1]; exact ⟨by omega, by rw [rg6.len]; have := ha.hi; omega⟩
  have ink : inb o6 (gt to (z : Int)) := by rw [e2, a2]; exact ⟨by omega, by rw [rg6.len]; have := ha.hk; omega⟩
  have vk := rg6.vals _ (gt_mem ink)
  have vc : 0 ≤ gt c (z : Int) ∧ gt c (z : Int) ≤ 100 := by rw [e3, a3]; exact hc
  have inz : ∀ xs : List Int, xs.length = A.length → inb xs (z : Int) := fun xs e => ⟨by omega, by omega⟩
  have izf := inz f flen
  have izt := inz to (by rw [hto, List.length_map])
  have izc := inz c (by rw [hco, List.length_map])
  obtain ⟨rr1, rr2⟩ := rg6.relax tk ha
  have skip : ¬ (gt o6 (gt A (z : Int)).2.1 < 1000000000 ∧ gt o6 (gt A (z : Int)).2.1 + (gt A (z : Int)).2.2 < gt o6 (gt A (z : Int)).1) → F_costsRef_J4 (z : Int) (fun ag a o => ∃ z : Nat, a = z ∧ z ≤ A.length ∧ o = (A.take z).foldl relaxB o4 ∧ Rng l o ∧ (ag = true → bsum o < bsum o4) ∧ (ag = false → o = o4)) (fun _ a _ => (A.length - a).toNat) ag3 o6 ag3 o6 := fun hn => by
   unfold F_costsRef_J4
   rw [w64 (by omega)]
   refine ⟨⟨z + 1, by omega, by omega, by rw [nx, relax_neg hn], rg6, ht6, hf6⟩, by dsimp only; omega⟩
  unfold F_costsRef_J5
  rw [w64 (n := gt o6 (gt to (z : Int)) + gt c (z : Int)) (by omega)]
  refine ⟨izt, ink, fun g => ⟨izc, izf, ini, fun g2 => ⟨izf, izt, ink, izc, ini, fun d hd => ?_⟩, fun g2 => skip ?_⟩, fun g => ⟨fun e => absurd e (by decide), fun _ => skip ?_⟩⟩
  ·have g2' := of_decide_eq_true g2
   rw [e2] at g
   rw [e1, e2, e3] at g2'
   have hd' : d = relaxB o6 (gt A (z : Int)) := by rw [relax_pos ⟨g, g2'⟩, hd, e1, e2, e3]
   have hlt := rr2 ⟨g, g2'⟩
   rw [← hd'] at hlt nx rr1
   unfold F_costsRef_J4
   rw [w64 (by omega)]
   refine ⟨⟨z + 1, by omega, by omega, nx.symm, rr1, fun _ => ?_, fun e => absurd e (by decide)⟩, by dsimp only; omega⟩
   cases h3 : ag3 with
   | true => have := ht6 h3; omega
   | false => rw [hf6 h3] at hlt; exact hlt
  ·have g2' := of_decide_eq_false g2
   rw [e1, e2, e3] at g2'
   exact fun q => g2' q.2
  ·rw [e2] at g
   exact fun q => g q.1
 ·have hze : z = A.length := by omega
  rw [List.take_of_length_le (by omega)] at ho6
  refine ⟨⟨rg6, fun e => ?_, fun e => ?_⟩, ?_⟩
  ·have h1 := ht6 e
   refine ⟨k, by omega, ?_⟩
   have hne : A.foldl relaxB o4 ≠ o4 := fun e2 => by rw [← ho6] at e2; rw [e2] at h1; omega
   rw [bf_rest hne, ← ho6] at hgo
   exact hgo
  ·have h1 := hf6 e
   rw [bfGo, if_pos (by rw [← ho6, h1])] at hgo
   rw [h1]; exact hgo
  ·cases h3 : ag3 with
   | true => have := ht6 h3; simp; omega
   | false => rw [hf6 h3]; simp
end Go.Proofs.YtimillpakjgnoaaGreat.Pl

namespace Go.Proofs.YtimillpakjgnoaaGreat.Pl
open Go Go.RowKit
def Snd (t : Task) (l : List (List Int)) (out : List Int) : Prop := ∀ i : Nat, i < l.length → gt out (i : Int) < 1000000000 → ∃ r, Plan t (fun p => p ∈ gt l (i : Int)) r ∧ pcost (sp_costsR t) r = gt out (i : Int)
theorem costsR_at {t : Task} {i : Nat} (h : i < t.ops.length) : gt (sp_costsR t) (i : Int) = (gt t.ops (i : Int)).cost := gt_mapA _ ⟨by omega, by omega⟩
theorem Snd.init (t : Task) (l : List (List Int)) : Snd t l (bfInit t l) := fun i hi h => by
 have e : gt (bfInit t l) (i : Int) = if sp_subset t.goal (gt l (i : Int)) = true then 0 else 1000000000 := gt_mapA _ ⟨by omega, by omega⟩
 rw [e] at h ⊢
 split at h
 ·rename_i hs
  rw [if_pos hs]
  exact ⟨[], .nil _ (subset_iff.1 hs), rfl⟩
 ·omega
theorem Snd.relax {t : Task} (tk : TaskOK t) {l : List (List Int)} (hset : ∀ s ∈ l, sp_isSet s t.facts = true) {out : List Int} (rg : Rng l out) (h : Snd t l out) {a : Int × Int × Int} {i op k : Nat} (ha : Arc t l a i op k) : Snd t l (relaxB out a) := by
 have hf := tk.facts
 have e1 : a.1 = (i : Int) := by rw [ha.eq]
 have e2 : a.2.1 = (k : Int) := by rw [ha.eq]
 have e3 : a.2.2 = (gt t.ops (op : Int)).cost := by rw [ha.eq]
 by_cases q : gt out a.2.1 < 1000000000 ∧ gt out a.2.1 + a.2.2 < gt out a.1
 ·rw [relax_pos q]
  rw [e1, e2, e3] at q ⊢
  intro j hj hlt
  have hin : inb out (i : Int) := ⟨by omega, by rw [rg.len]; have := ha.hi; omega⟩
  rw [gt_setI hin (by omega)] at hlt ⊢
  by_cases e : (j : Int) = (i : Int)
  ·rw [if_pos e]
   have ej : j = i := by omega
   subst ej
   obtain ⟨r, hr, hc⟩ := h k ha.hk q.1
   refine ⟨op :: r, .cons _ op r ha.hop (fun p hp => subset_iff.1 ha.app p hp) ?_, ?_⟩
   ·have ek : gt l (k : Int) = sp_after t (gt l (j : Int)) (op : Int) := word_inj (hset _ (gt_memN ha.hk)) (after_set hf.1 _ _) ha.word
    rw [ek] at hr
    have hj2 := set_rng (hset _ (gt_memN ha.hi))
    have hop := tk.op (i := (op : Int)) ⟨by omega, by have := ha.hop; omega⟩
    have es : (fun p => p ∈ sp_after t (gt l (j : Int)) (op : Int)) = fun p => p ∈ (gt t.ops (op : Int)).add ∨ (p ∈ gt l (j : Int) ∧ p ∉ (gt t.ops (op : Int)).del) := funext fun p => propext (by
     rw [mem_after hf.1]
     constructor
     ·exact fun g => g.2
     ·intro g
      refine ⟨?_, g⟩
      rcases g with g | g
      ·exact set_rng hop.2.1 p g
      ·exact hj2 p g.1)
    rw [es] at hr
    exact hr
   ·rw [pcost_cons, hc, costsR_at ha.hop]; omega
  ·rw [if_neg e] at hlt ⊢
   exact h j hj hlt
 ·rw [relax_neg q]; exact h
theorem fold_snd {t : Task} (tk : TaskOK t) {l : List (List Int)} (hset : ∀ s ∈ l, sp_isSet s t.facts = true) : ∀ (A : List (Int × Int × Int)) (out : List Int), (∀ a ∈ A, ∃ i op k : Nat, Arc t l a i op k) → Rng l out → Snd t l out → Rng l (A.foldl relaxB out) ∧ Snd t l (A.foldl relaxB out)
 | [], _, _, rg, h => ⟨rg, h⟩
 | a :: A, out, hA, rg, h => by
  obtain ⟨i, op, k, ha⟩ := hA a (List.mem_cons_self ..)
  rw [List.foldl_cons]
  exact fold_snd tk hset A _ (fun b hb => hA b (List.mem_cons_of_mem _ hb)) (rg.relax tk ha).1 (h.relax tk hset rg ha)
theorem bf_snd {t : Task} (tk : TaskOK t) {l : List (List Int)} (hset : ∀ s ∈ l, sp_isSet s t.facts = true) {A : List (Int × Int × Int)} (hA : ∀ a ∈ A, ∃ i op k : Nat, Arc t l a i op k) : ∀ (n : Nat) (out : List Int), Rng l out → Snd t l out → Rng l (bfGo A n out) ∧ Snd t l (bfGo A n out)
 | 0, _, rg, h => ⟨rg, h⟩
 | n + 1, out, rg, h => by
  rw [bfGo]
  split
  ·exact ⟨rg, h⟩
  ·obtain ⟨h1, h2⟩ := fold_snd tk hset A out hA rg h
   exact bf_snd tk hset hA n _ h1 h2
theorem costs_snd {t : Task} (tk : TaskOK t) {l : List (List Int)} (hset : ∀ s ∈ l, sp_isSet s t.facts = true) : Rng l (sp_costsRef t l) ∧ Snd t l (sp_costsRef t l) := bf_snd tk hset (fun _ ha => arc_of ha) _ _ (Rng.init t l) (Snd.init t l)
theorem ok_bestFrom : ∀ (t : Task) (s_ : List Int), pre_bestFrom t s_ → F_bestFrom t s_ (fun r => r = sp_bestFrom t s_) := fun t s ⟨hv, hs⟩ => by
 have tk := taskOK_of hv
 unfold F_bestFrom
 simp only [forall_eq]
 refine ⟨⟨hv, hs⟩, fun g => ?_, fun g => ?_⟩
 ·have g' : ¬ (sp_reachedFrom t s).2 = true := fun e => by rw [e] at g; cases g
  rw [sp_bestFrom, if_neg g']
 ·have g' : (sp_reachedFrom t s).2 = true := by
   cases e : (sp_reachedFrom t s).2 with
   | true => rfl
   | false => rw [e] at g; cases g
  obtain ⟨h1, h2, h3⟩ := reached_spec hv hs g'
  obtain ⟨r1, _⟩ := costs_snd tk h1.set
  exact ⟨⟨hv, h1.most, h1.set⟩, ⟨by omega, by rw [r1.len]; omega⟩, by rw [sp_bestFrom, if_pos g']⟩
theorem best_spec {t : Task} {s : List Int} (hv : sp_validate t = ⟨0, 0⟩) (hs : sp_isSet s t.facts = true) : sp_bestFrom t s < 0 ∨ sp_bestFrom t s = 1000000000 ∨ ∃ r, Plan t (fun p => p ∈ s) r ∧ pcost (sp_costsR t) r = sp_bestFrom t s := by
 have tk := taskOK_of hv
 by_cases g : (sp_reachedFrom t s).2 = true
 ·obtain ⟨h1, h2, h3⟩ := reached_spec hv hs g
  obtain ⟨r1, r2⟩ := costs_snd tk h1.set
  rw [sp_bestFrom, if_pos g]
  have hr := r1.vals _ (gt_memN (i := 0) (by rw [r1.len]; exact h2))
  have hr' : 0 ≤ gt (sp_costsRef t (sp_reachedFrom t s).1) 0 ∧ gt (sp_costsRef t (sp_reachedFrom t s).1) 0 ≤ 1000000000 := hr
  by_cases e : gt (sp_costsRef t (sp_reachedFrom t s).1) 0 = 1000000000
  ·exact .inr (.inl e)
  ·obtain ⟨r, q1, q2⟩ := r2 0 h2 (by show gt _ 0 < _; omega)
   refine .inr (.inr ⟨r, ?_, q2⟩)
   have q1' : Plan t (fun p => p ∈ gt (sp_reachedFrom t s).1 0) r := q1
   rw [h3] at q1'
   exact q1'
 ·rw [sp_bestFrom, if_neg g]
  exact .inl (by omega)
end Go.Proofs.YtimillpakjgnoaaGreat.Pl

namespace Go.Proofs.YtimillpakjgnoaaGreat.Pl
open Go Go.RowKit
theorem find_spec {ops : List Operator} {used : List Bool} {want : Operator} {i : Nat} (h : symFind ops used want = some i) : i < ops.length ∧ gt used (i : Int) = false ∧ gt ops (i : Int) = want := by
 unfold symFind at h
 have h1 := List.mem_of_find?_eq_some h
 have h2 := List.find?_some h
 rw [List.mem_range] at h1
 simp only [Bool.and_eq_true, Bool.not_eq_true', decide_eq_true_eq] at h2
 exact ⟨h1, h2.1, h2.2⟩
theorem symGo_spec {ops : List Operator} {perm : List Int} : ∀ (rest : List Operator) (used : List Bool) (out : List Int), used.length = ops.length → (symGo ops perm rest used out).2 = true → ∃ g : List Nat, g.length = rest.length ∧ (∀ (k : Nat) (h1 : k < g.length) (h2 : k < rest.length), g[k] < ops.length ∧ gt ops (g[k] : Int) = opImage perm rest[k]) ∧ g.Nodup ∧ ∀ x ∈ g, gt used (x : Int) = false
 | [], _, _, _, _ => ⟨[], rfl, fun _ h => absurd h (Nat.not_lt_zero _), List.nodup_nil, fun _ h => absurd h (by simp)⟩
 | o :: r, used, out, hu, h => by
  rw [symGo] at h
  cases e : symFind ops used (opImage perm o) with
  | none => rw [e] at h; cases h
  | some i =>
   rw [e] at h
   obtain ⟨f1, f2, f3⟩ := find_spec e
   obtain ⟨g, g1, g2, g3, g4⟩ := symGo_spec r (used.set i true) (out ++ [(i : Int)]) (by rw [List.length_set]; exact hu) h
   have hin : inb used (i : Int) := ⟨by omega, by omega⟩
   have hset : ∀ x : Nat, gt (used.set i true) (x : Int) = if (x : Int) = (i : Int) then true else gt used (x : Int) := fun x => gt_setI (x := true) hin (by omega)
   refine ⟨i :: g, by simp [g1], fun k h1 h2 => ?_, List.nodup_cons.2 ⟨fun hm => ?_, g3⟩, fun x hx => ?_⟩
   ·cases k with
    | zero => exact ⟨f1, f3⟩
    | succ k => exact g2 k (by simpa using h1) (by simpa using h2)
   ·have := g4 i hm
    rw [hset, if_pos rfl] at this
    cases this
   ·rcases List.mem_cons.1 hx with q | q
    ·rw [q]; exact f2
    ·have := g4 x q
     rw [hset] at this
     split at this
     ·cases this
     ·exact this
structure Sym (t : Task) (perm : List Int) (g : List Nat) : Prop where
 len : (perm.length : Int) = t.facts
 rng : ∀ x ∈ perm, 0 ≤ x ∧ x < t.facts
 nodup : perm.Nodup
 goal : sp_image perm t.goal = t.goal
 glen : g.length = t.ops.length
 gop : ∀ k : Nat, k < t.ops.length → g.getD k 0 < t.ops.length ∧ gt t.ops ((g.getD k 0 : Nat) : Int) = opImage perm (gt t.ops (k : Int))
 gsur : ∀ j : Nat, j < t.ops.length → ∃ k : Nat, k < t.ops.length ∧ g.getD k 0 = j
theorem sym_of {t : Task} {perm : List Int} (h : perm ∈ sp_symAll t) : ∃ g, Sym t perm g := by
 obtain ⟨h1, h2, h3, h4⟩ := symAll_mem h
 unfold sp_symOps at h4
 split at h4
 ·rename_i hg
  obtain ⟨g, g1, g2, g3, _⟩ := symGo_spec _ _ _ (by rw [List.length_replicate]) h4
  have hk : ∀ k : Nat, k < t.ops.length → g.getD k 0 < t.ops.length ∧ gt t.ops ((g.getD k 0 : Nat) : Int) = opImage perm (gt t.ops (k : Int)) := fun k hk => by
   have hkg : k < g.length := by omega
   have e : g.getD k 0 = g[k] := by rw [List.getD_eq_getElem?_getD, List.getElem?_eq_getElem hkg]; rfl
   have e2 : gt t.ops (k : Int) = t.ops[k] := by rw [gt_of ⟨by omega, by omega⟩]; rfl
   rw [e, e2]
   exact g2 k hkg hk
  refine ⟨g, h1, h2, h3, hg, g1, hk, fun j hj => ?_⟩
  by_cases hm : j ∈ g
  ·obtain ⟨k, hk2, e⟩ := List.getElem_of_mem hm
   exact ⟨k, by omega, by rw [List.getD_eq_getElem?_getD, List.getElem?_eq_getElem hk2]; exact e⟩
  ·have := nodup_len t.ops.length (j :: g) (List.nodup_cons.2 ⟨hm, g3⟩) fun v hv => by
    rcases List.mem_cons.1 hv with q | q
    ·omega
    ·obtain ⟨k, hk2, e⟩ := List.getElem_of_mem q
     have := (g2 k hk2 (by omega)).1
     omega
   rw [List.length_cons] at this
   omega
 ·cases h4
variable {t : Task} {perm : List Int} {g : List Nat}
theorem Sym.at_ (h : Sym t perm g) {p : Int} (p0 : 0 ≤ p) (p1 : p < t.facts) : 0 ≤ gt perm p ∧ gt perm p < t.facts := h.rng _ (gt_mem ⟨p0, by rw [h.len]; exact p1⟩)
theorem Sym.inj (h : Sym t perm g) {p q : Int} (p0 : 0 ≤ p) (p1 : p < t.facts) (q0 : 0 ≤ q) (q1 : q < t.facts) (e : gt perm p = gt perm q) : p = q := by
 have hl := h.len
 rw [gt_of ⟨p0, by omega⟩, gt_of ⟨q0, by omega⟩] at e
 have := (List.getElem_inj h.nodup).1 e
 omega
theorem Sym.sur (h : Sym t perm g) {q : Int} (q0 : 0 ≤ q) (q1 : q < t.facts) : ∃ p : Int, (0 ≤ p ∧ p < t.facts) ∧ gt perm p = q := by
 have hl := h.len
 by_cases hm : q ∈ perm
 ·obtain ⟨i, hi, e⟩ := mem_gt hm
  exact ⟨i, by omega, e⟩
 ·have hn : (q.toNat :: perm.map Int.toNat).Nodup := by
   refine List.nodup_cons.2 ⟨fun hc => ?_, ?_⟩
   ·obtain ⟨x, hx, e⟩ := List.mem_map.1 hc
    have := h.rng x hx
    have : x = q := by omega
    exact hm (this ▸ hx)
   ·refine List.pairwise_map.2 (List.Pairwise.imp_of_mem ?_ h.nodup)
    intro a b ha hb hne e
    have := h.rng a ha
    have := h.rng b hb
    exact hne (by omega)
  have := nodup_len t.facts.toNat _ hn fun v hv => by
   rcases List.mem_cons.1 hv with e | e
   ·omega
   ·obtain ⟨x, hx, e2⟩ := List.mem_map.1 e
    have := h.rng x hx
    omega
  rw [List.length_cons, List.length_map] at this
  omega
theorem mem_image {s : List Int} {q : Int} : q ∈ sp_image perm s ↔ ∃ p ∈ s, gt perm p = q := by
 unfold sp_image
 rw [mem_sort, List.mem_map]
theorem Sym.image_set (h : Sym t perm g) {s : List Int} (hs : sp_isSet s t.facts = true) : sp_isSet (sp_image perm s) t.facts = true := by
 have hr := set_rng hs
 refine decide_eq_true ⟨?_, fun x hx => ?_⟩
 ·have h1 := sort_sorted (s.map fun p => gt perm p)
  have h2 : (s.map fun p => gt perm p).Nodup := by
   refine List.pairwise_map.2 (List.Pairwise.imp_of_mem ?_ (set_sorted hs))
   intro a b ha hb hlt e
   have ra := hr a ha
   have rb := hr b hb
   have := h.inj ra.1 ra.2 rb.1 rb.2 e
   omega
  have h3 : (sp_image perm s).Nodup := (List.mergeSort_perm _ _).nodup_iff.2 h2
  refine (List.Pairwise.and h1 h3).imp ?_
  intro a b hab
  have := hab.1
  have := hab.2
  omega
 ·obtain ⟨p, hp, e⟩ := mem_image.1 hx
  rw [← e]
  exact h.at_ (hr p hp).1 (hr p hp).2
theorem Sym.plan (h : Sym t perm g) (tk : TaskOK t) {S : Int → Prop} {r : List Nat} (hp : Plan t S r) (hS : ∀ p, S p → 0 ≤ p ∧ p < t.facts) : Plan t (fun q => ∃ p, S p ∧ gt perm p = q) (r.map fun i => g.getD i 0) := by
 induction hp with
 | nil S hgoal =>
  refine .nil _ fun q hq => ?_
  rw [← h.goal] at hq
  obtain ⟨p, hp, e⟩ := mem_image.1 hq
  exact ⟨p, hgoal p hp, e⟩
 | cons S i r hi hpre _ ih =>
  obtain ⟨g1, g2⟩ := h.gop i hi
  have hop := tk.op (i := (i : Int)) ⟨by omega, by omega⟩
  have ra := set_rng hop.2.1
  have rd := set_rng hop.2.2.1
  have ih := ih fun p hp => by
   rcases hp with hp | hp
   ·exact ra p hp
   ·exact hS p hp.1
  rw [List.map_cons]
  refine .cons _ _ _ g1 (fun q hq => ?_) ?_
  ·rw [g2] at hq
   obtain ⟨p, hp, e⟩ := mem_image.1 hq
   exact ⟨p, hpre p hp, e⟩
  ·rw [g2]
   have es : (fun q => ∃ p, (p ∈ (gt t.ops (i : Int)).add ∨ (S p ∧ p ∉ (gt t.ops (i : Int)).del)) ∧ gt perm p = q) = fun q => q ∈ (opImage perm (gt t.ops (i : Int))).add ∨ ((∃ p, S p ∧ gt perm p = q) ∧ q ∉ (opImage perm (gt t.ops (i : Int))).del) := funext fun q => propext (by
    constructor
    ·rintro ⟨p, hp, e⟩
     rcases hp with hp | ⟨hp, hd⟩
     ·exact .inl (mem_image.2 ⟨p, hp, e⟩)
     ·refine .inr ⟨⟨p, hp, e⟩, fun hc => ?_⟩
      obtain ⟨p2, hp2, e2⟩ := mem_image.1 hc
      have r1 := hS p hp
      have r2 := rd p2 hp2
      have := h.inj r2.1 r2.2 r1.1 r1.2 (e2.trans e.symm)
      exact hd (this ▸ hp2)
    ·rintro (hq | ⟨⟨p, hp, e⟩, hd⟩)
     ·obtain ⟨p, hp, e⟩ := mem_image.1 hq
      exact ⟨p, .inl hp, e⟩
     ·exact ⟨p, .inr ⟨hp, fun hc => hd (mem_image.2 ⟨p, hc, e⟩)⟩, e⟩)
   rw [es] at ih
   exact ih
theorem Sym.cost (h : Sym t perm g) {i : Nat} (hi : i < t.ops.length) : gt (sp_costsR t) ((g.getD i 0 : Nat) : Int) = gt (sp_costsR t) (i : Int) := by
 obtain ⟨g1, g2⟩ := h.gop i hi
 rw [costsR_at g1, costsR_at hi, g2]
 rfl
theorem Sym.pcost (h : Sym t perm g) : ∀ r : List Nat, (∀ i ∈ r, i < t.ops.length) → pcost (sp_costsR t) (r.map fun i => g.getD i 0) = Pl.pcost (sp_costsR t) r
 | [], _ => rfl
 | i :: r, hr => by
  rw [List.map_cons, pcost_cons, pcost_cons, h.cost (hr i (List.mem_cons_self ..)), h.pcost r fun j hj => hr j (List.mem_cons_of_mem _ hj)]
theorem Sym.plan_image (h : Sym t perm g) (tk : TaskOK t) {s : List Int} (hs : sp_isSet s t.facts = true) {r : List Nat} (hp : Plan t (fun p => p ∈ s) r) : ∃ r', Plan t (fun p => p ∈ sp_image perm s) r' ∧ Pl.pcost (sp_costsR t) r' = Pl.pcost (sp_costsR t) r := by
 refine ⟨_, ?_, h.pcost r hp.ops⟩
 have h1 := h.plan tk hp (set_rng hs)
 have es : (fun q => ∃ p, p ∈ s ∧ gt perm p = q) = fun q => q ∈ sp_image perm s := funext fun q => propext mem_image.symm
 rw [es] at h1
 exact h1
theorem foldl_congr_mem (f1 f2 : Int → Int → Int) : ∀ (l : List Int) (m : Int), (∀ p ∈ l, ∀ z, f1 z p = f2 z p) → l.foldl f1 m = l.foldl f2 m
 | [], _, _ => rfl
 | p :: r, m, h => by
  rw [List.foldl_cons, List.foldl_cons, h p (List.mem_cons_self ..)]
  exact foldl_congr_mem f1 f2 r _ fun q hq => h q (List.mem_cons_of_mem _ hq)
structure CombS (comb : List Int → List Int → Int) : Prop where
 base : Comb comb
 perm : ∀ v f f', Vals v → (∀ p ∈ f, inb v p) → List.Perm f f' → comb v f = comb v f'
 map : ∀ (v w : List Int) (k : Int → Int) (f : List Int), (∀ p ∈ f, gt v (k p) = gt w p) → comb v (f.map k) = comb w f
theorem combS_greatest : CombS sp_greatest := by
 refine ⟨comb_greatest, fun v f f' _ _ hp => ?_, fun v w k f h => ?_⟩
 ·unfold sp_greatest
  exact List.Perm.foldl_eq' hp (fun x _ y _ z => by omega) 0
 ·unfold sp_greatest
  rw [List.foldl_map]
  exact foldl_congr_mem _ _ f 0 fun p hp m => by rw [h p hp]
theorem combS_sum : CombS sp_sumR := by
 refine ⟨comb_sum, fun v f f' hv hf hp => ?_, fun v w k f h => ?_⟩
 ·unfold sp_sumR
  refine List.Perm.foldl_eq' hp (fun x hx y hy z => ?_) 0
  have h1 := gt_vals hv (hf x hx)
  have h2 := gt_vals hv (hf y hy)
  unfold sp_plus
  generalize gt v x = a at h1
  generalize gt v y = b at h2
  split <;> split <;> split <;> split <;> omega
 ·unfold sp_sumR
  rw [List.foldl_map]
  exact foldl_congr_mem _ _ f 0 fun p hp m => by rw [h p hp]
theorem CombS.image {comb : List Int → List Int → Int} (hc : CombS comb) (h : Sym t perm g) {v w f : List Int} (hv : Vals v) (hl : (v.length : Int) = t.facts) (hf : ∀ p ∈ f, 0 ≤ p ∧ p < t.facts) (hvw : ∀ p ∈ f, gt v (gt perm p) = gt w p) : comb v (sp_image perm f) = comb w f := by
 rw [← hc.map v w (fun p => gt perm p) f hvw]
 refine (hc.perm v _ _ hv (fun q hq => ?_) (List.mergeSort_perm _ _).symm).symm
 obtain ⟨p, hp, e⟩ := List.mem_map.1 hq
 have := h.at_ (hf p hp).1 (hf p hp).2
 exact ⟨by omega, by omega⟩
theorem values_sym {comb : List Int → List Int → Int} (hc : CombS comb) (h : Sym t perm g) (tk : TaskOK t) {s : List Int} (hs : sp_isSet s t.facts = true) : comb (sp_values comb t s (sp_costsR t)) t.goal = comb (sp_values comb t (sp_image perm s) (sp_costsR t)) t.goal := by
 have hf := tk.facts
 obtain ⟨c1, c2⟩ := costs_rng tk
 have hi := h.image_set hs
 have v1 := values_is hc.base tk hs c1 c2
 have v2 := values_is hc.base tk hi c1 c2
 generalize sp_values comb t s (sp_costsR t) = v at v1
 generalize sp_values comb t (sp_image perm s) (sp_costsR t) = u at v2
 have vl := v1.bound.len
 have ul := v2.bound.len
 have hsr := set_rng hs
 have rngp : ∀ i : Nat, i < t.ops.length → (∀ p ∈ (gt t.ops (i : Int)).pre, 0 ≤ p ∧ p < t.facts) ∧ ∀ p ∈ (gt t.ops (i : Int)).add, 0 ≤ p ∧ p < t.facts := fun i hi => by
  have hop := tk.op (i := (i : Int)) ⟨by omega, by omega⟩
  exact ⟨set_rng hop.1, set_rng hop.2.1⟩
 have le1 : ∀ p : Int, 0 ≤ p → p < t.facts → gt u (gt perm p) ≤ gt v p := by
  have hw : ∀ p : Int, 0 ≤ p → p < t.facts → gt ((allS t.facts.toNat).map fun p => gt u (gt perm p)) p = gt u (gt perm p) := fun p p0 p1 => gt_map_all _ _ _ p0 (by omega)
  have wl : (((allS t.facts.toNat).map fun p => gt u (gt perm p)).length : Int) = t.facts := by rw [List.length_map, allS_len]; omega
  generalize ((allS t.facts.toNat).map fun p => gt u (gt perm p)) = w at hw wl
  have wv : Vals w := fun x hx => by
   obtain ⟨i, hi, e⟩ := mem_gt hx
   rw [← e, hw i (by omega) (by omega)]
   have := h.at_ (p := (i : Int)) (by omega) (by omega)
   exact gt_vals v2.bound.vals ⟨by omega, by omega⟩
  have hb : IsBound comb t s (sp_costsR t) w := by
   refine ⟨wl, wv, fun p hp => ?_, fun i hi p hp => ?_⟩
   ·rw [hw p (hsr p hp).1 (hsr p hp).2]
    exact v2.bound.zero _ (mem_image.2 ⟨p, hp, rfl⟩)
   ·obtain ⟨g1, g2⟩ := h.gop i hi
    obtain ⟨r1, r2⟩ := rngp i hi
    have hst := v2.bound.step _ g1 (gt perm p) (by rw [g2]; exact mem_image.2 ⟨p, hp, rfl⟩)
    rw [h.cost hi, g2] at hst
    rw [hw p (r2 p hp).1 (r2 p hp).2]
    have e : comb u (opImage perm (gt t.ops (i : Int))).pre = comb w (gt t.ops (i : Int)).pre := hc.image h v2.bound.vals ul r1 fun p hp => (hw p (r1 p hp).1 (r1 p hp).2).symm
    rw [e] at hst
    exact hst
  exact fun p p0 p1 => by rw [← hw p p0 p1]; exact v1.top w hb p p0 p1
 obtain ⟨k, hk⟩ : ∃ k : Int → Int, ∀ q : Int, 0 ≤ q → q < t.facts → (0 ≤ k q ∧ k q < t.facts) ∧ gt perm (k q) = q := by
  have : ∀ q : Int, ∃ p : Int, 0 ≤ q → q < t.facts → (0 ≤ p ∧ p < t.facts) ∧ gt perm p = q := fun q => by
   by_cases hq : 0 ≤ q ∧ q < t.facts
   ·obtain ⟨p, hp, e⟩ := h.sur hq.1 hq.2
    exact ⟨p, fun _ _ => ⟨hp, e⟩⟩
   ·exact ⟨0, fun a b => absurd ⟨a, b⟩ hq⟩
  exact Classical.axiomOfChoice this
 have kp : ∀ p : Int, 0 ≤ p → p < t.facts → k (gt perm p) = p := fun p p0 p1 => by
  have h1 := h.at_ p0 p1
  obtain ⟨h2, h3⟩ := hk _ h1.1 h1.2
  exact h.inj h2.1 h2.2 p0 p1 h3
 have le2 : ∀ q : Int, 0 ≤ q → q < t.facts → gt v (k q) ≤ gt u q := by
  have hw : ∀ q : Int, 0 ≤ q → q < t.facts → gt ((allS t.facts.toNat).map fun q => gt v (k q)) q = gt v (k q) := fun p p0 p1 => gt_map_all _ _ _ p0 (by omega)
  have wl : (((allS t.facts.toNat).map fun q => gt v (k q)).length : Int) = t.facts := by rw [List.length_map, allS_len]; omega
  generalize ((allS t.facts.toNat).map fun q => gt v (k q)) = w at hw wl
  have wv : Vals w := fun x hx => by
   obtain ⟨i, hi, e⟩ := mem_gt hx
   rw [← e, hw i (by omega) (by omega)]
   have := (hk (i : Int) (by omega) (by omega)).1
   exact gt_vals v1.bound.vals ⟨by omega, by omega⟩
  have hb : IsBound comb t (sp_image perm s) (sp_costsR t) w := by
   refine ⟨wl, wv, fun q hq => ?_, fun j hj q hq => ?_⟩
   ·obtain ⟨p, hp, e⟩ := mem_image.1 hq
    have := h.at_ (hsr p hp).1 (hsr p hp).2
    rw [← e, hw _ this.1 this.2, kp p (hsr p hp).1 (hsr p hp).2]
    exact v1.bound.zero p hp
   ·obtain ⟨i, hi, e⟩ := h.gsur j hj
    obtain ⟨g1, g2⟩ := h.gop i hi
    rw [e] at g1 g2
    have hcj := h.cost hi
    rw [e] at hcj
    obtain ⟨r1, r2⟩ := rngp i hi
    rw [g2] at hq ⊢
    obtain ⟨p, hp, e2⟩ := mem_image.1 hq
    have hpr := h.at_ (r2 p hp).1 (r2 p hp).2
    rw [← e2, hw _ hpr.1 hpr.2, kp p (r2 p hp).1 (r2 p hp).2, hcj]
    have e3 : comb w (opImage perm (gt t.ops (i : Int))).pre = comb v (gt t.ops (i : Int)).pre := hc.image h wv wl r1 fun p hp => by
     have := h.at_ (r1 p hp).1 (r1 p hp).2
     rw [hw _ this.1 this.2, kp p (r1 p hp).1 (r1 p hp).2]
    rw [e3]
    exact v1.bound.step i hi p hp
  exact fun q q0 q1 => by rw [← hw q q0 q1]; exact v2.top w hb q q0 q1
 have eq : ∀ p : Int, 0 ≤ p → p < t.facts → gt u (gt perm p) = gt v p := fun p p0 p1 => by
  have h1 := le1 p p0 p1
  have h3 := h.at_ p0 p1
  have h2 := le2 _ h3.1 h3.2
  rw [kp p p0 p1] at h2
  omega
 have hgr := set_rng tk.goal
 have := hc.image h v2.bound.vals ul hgr fun p hp => eq p (hgr p hp).1 (hgr p hp).2
 rw [h.goal] at this
 exact this.symm
end Go.Proofs.YtimillpakjgnoaaGreat.Pl

namespace Go.Proofs.YtimillpakjgnoaaGreat.Pl
open Go Go.RowKit
theorem canon_cases {t : Task} {s : List Int} : ∀ (l : List (List Int)) (best : List Int), (∀ x ∈ l, x ∈ sp_symAll t) → (best = s ∨ ∃ perm ∈ sp_symAll t, best = sp_image perm s) → (l.foldl (canonStep s) best = s ∨ ∃ perm ∈ sp_symAll t, l.foldl (canonStep s) best = sp_image perm s)
 | [], _, _, h => h
 | p :: r, best, hl, h => by
  rw [List.foldl_cons]
  refine canon_cases r _ (fun x hx => hl x (List.mem_cons_of_mem _ hx)) ?_
  unfold canonStep
  split
  ·exact .inr ⟨p, hl p (List.mem_cons_self ..), rfl⟩
  ·exact h
theorem law_main {t : Task} {s c : List Int} (h : sp_stateFault t s = ⟨0, 0⟩) (hc : c = s ∨ ∃ perm ∈ sp_symAll t, c = sp_image perm s) : sp_stateFault t c = ⟨0, 0⟩ ∧ (sp_relMax t s).2.1 = (sp_relMax t c).2.1 ∧ (sp_relAdd t s).2.1 = (sp_relAdd t c).2.1 ∧ (sp_bestFrom t s < 0 ∨ ((sp_cuts t s).2.1 ≤ sp_bestFrom t s ∧ (sp_cuts t c).2.1 ≤ sp_bestFrom t s)) := by
 obtain ⟨hv, hs⟩ := sf_ok h
 have tk := taskOK_of hv
 have key : sp_stateFault t c = ⟨0, 0⟩ ∧ (sp_relMax t s).2.1 = (sp_relMax t c).2.1 ∧ (sp_relAdd t s).2.1 = (sp_relAdd t c).2.1 ∧ ∀ r, Plan t (fun p => p ∈ s) r → ∃ r', Plan t (fun p => p ∈ c) r' ∧ pcost (sp_costsR t) r' = pcost (sp_costsR t) r := by
  rcases hc with e | ⟨perm, hp, e⟩
  ·rw [e]; exact ⟨h, rfl, rfl, fun r hr => ⟨r, hr, rfl⟩⟩
  ·obtain ⟨g, sy⟩ := sym_of hp
   have hi := sy.image_set hs
   have h2 : sp_stateFault t c = ⟨0, 0⟩ := by rw [e, sp_stateFault, if_pos hv, if_pos hi]
   refine ⟨h2, ?_, ?_, fun r hr => ?_⟩
   ·rw [sp_relMax, if_pos h, sp_relMax, if_pos h2, e]
    exact values_sym combS_greatest sy tk hs
   ·rw [sp_relAdd, if_pos h, sp_relAdd, if_pos h2, e]
    exact values_sym combS_sum sy tk hs
   ·rw [e]; exact sy.plan_image tk hs hr
 obtain ⟨k1, k2, k3, k4⟩ := key
 refine ⟨k1, k2, k3, ?_⟩
 obtain ⟨_, a2, a3⟩ := cuts_spec h
 obtain ⟨_, b2, b3⟩ := cuts_spec k1
 rcases best_spec hv hs with q | q | ⟨r, hr, hcst⟩
 ·exact .inl q
 ·exact .inr ⟨by omega, by omega⟩
 ·obtain ⟨r', hr', hc'⟩ := k4 r hr
  have h1 := a3 r hr
  have h2 := b3 r' hr'
  exact .inr ⟨by omega, by omega⟩
theorem sf_code {t : Task} {s : List Int} : (sp_stateFault t s).code = 0 → sp_stateFault t s = ⟨0, 0⟩ := fun h => by
 unfold sp_stateFault at h ⊢
 split
 ·rename_i hv
  rw [if_pos hv] at h
  split
  ·rfl
  ·rename_i hs
   rw [if_neg hs] at h
   exact absurd h (show ¬ (5 : Int) = 0 by decide)
 ·rename_i hv
  rw [if_neg hv] at h
  exact validate_code h
theorem ok_lawSym : ∀ (t : Task) (s_ : List Int), F_lawSym t s_ (fun r => r = sp_lawSym t s_) := fun t s => by
 unfold F_lawSym
 simp only [forall_eq]
 refine ⟨fun g => absurd g (by decide), fun _ => ?_⟩
 unfold F_lawSym_J1
 simp only [forall_eq]
 by_cases h : sp_stateFault t s = ⟨0, 0⟩
 ·by_cases h6 : 6 < t.facts
  ·have e : sp_canonical t s = ([], ⟨10, -8⟩) := by rw [sp_canonical, if_pos h, if_pos h6]
   rw [e]
   exact ⟨fun _ => ⟨fun _ => rfl, fun g => absurd g (by decide)⟩, fun g => absurd g (by decide)⟩
  ·have e : sp_canonical t s = ((sp_symAll t).foldl (canonStep s) s, ⟨0, 0⟩) := by rw [sp_canonical, if_pos h, if_neg h6]
   obtain ⟨k1, k2, k3, k4⟩ := law_main h (canon_cases (t := t) (s := s) (sp_symAll t) s (fun _ hx => hx) (.inl rfl))
   rw [e]
   simp only
   generalize (sp_symAll t).foldl (canonStep s) s = c at k1 k2 k3 k4
   obtain ⟨hv, hs⟩ := sf_ok h
   have c1 : (sp_relMax t s).2.2 = ⟨0, 0⟩ := by rw [sp_relMax, if_pos h]
   have c2 : (sp_relMax t c).2.2 = ⟨0, 0⟩ := by rw [sp_relMax, if_pos k1]
   have c3 : (sp_relAdd t s).2.2 = ⟨0, 0⟩ := by rw [sp_relAdd, if_pos h]
   have c4 : (sp_relAdd t c).2.2 = ⟨0, 0⟩ := by rw [sp_relAdd, if_pos k1]
   have c5 := (cuts_spec h).1
   have c6 := (cuts_spec k1).1
   rw [c1, c2, c3, c4, c5, c6, k2, k3]
   have no : ¬ (((0 : Int) != 0) = true) := by decide
   refine ⟨fun g => absurd g (by decide), fun _ => ⟨⟨hv, hs⟩, fun g => absurd g no, fun _ => ⟨fun g => absurd g no, fun _ => ⟨fun g => absurd g no, fun _ => ⟨fun g => absurd g no, fun _ => ⟨fun g => absurd g no, fun _ => ⟨fun g => absurd g no, fun _ => ⟨fun g => absurd g (by simp), fun _ => ?_⟩⟩⟩⟩⟩⟩⟩⟩
   unfold F_lawSym_J2
   simp only [decide_eq_true_eq, decide_eq_false_iff_not]
   refine ⟨fun g => absurd g (by simp), fun _ => ⟨fun _ => rfl, fun g => ?_⟩⟩
   obtain ⟨q1, q2⟩ := k4.resolve_left g
   exact ⟨fun _ => decide_eq_true q2, fun g2 => absurd q1 g2⟩
 ·have e : sp_canonical t s = ([], sp_stateFault t s) := by rw [sp_canonical, if_neg h]
  have hn : (sp_stateFault t s).code ≠ 0 := fun g => h (sf_code g)
  rw [e]
  simp only
  have hb : ((sp_stateFault t s).code != 0) = true := by simpa using hn
  exact ⟨fun _ => ⟨fun _ => rfl, fun g => absurd g (by decide)⟩, fun g => absurd g (by rw [hb]; decide)⟩
end Go.Proofs.YtimillpakjgnoaaGreat.Pl

namespace Go.Proofs.YtimillpakjgnoaaGreat.Pl
open Go Go.RowKit
theorem ok_cloneO : ∀ (s_ : List Int), pre_clone s_ → F_cloneO s_ (fun r => r = sp_clone s_) := fun s hp => ok_clone s hp
theorem ok_optimalK : ∀ (t : Task), pre_optimalK t → F_optimalK t (fun r => r = sp_optimalK t) := fun t h => by
 unfold F_optimalK
 refine ⟨h, fun _ _ => ⟨by simp [pre_word], fun _ _ => ⟨by simp [pre_word], fun _ _ _ _ _ _ _ _ => ⟨by simp [pre_all], fun _ _ => ⟨by simp [pre_sortW, U32], fun _ _ => rfl⟩⟩⟩⟩⟩
theorem ok_kernWorks : F_kernWorks (fun r => r = sp_kernWorks) := by
 unfold F_kernWorks
 exact ⟨rfl, fun _ _ _ _ => rfl⟩
end Go.Proofs.YtimillpakjgnoaaGreat.Pl

namespace Go.Proofs.YtimillpakjgnoaaGreat.Pl
open Go Go.RowKit
abbrev tF (t : Task) (a : Option Addr) (c : Nat) (a2 : Option Addr) (c2 : Nat) (a3 : Option Addr) (c3 : Nat) (r : List Value := []) : List Value := iV t.facts :: vSl a t.init c :: vSl a2 t.goal c2 :: vSl a3 t.ops c3 :: r
theorem w_isNaN1 {h : FH} {w : World} (hs : Sub h w) (x : Int) (K : Bool → Prop) (hF : F_isNaN1 x K) : Calls Tryz.prog 99 #[iV x] w fun e w' => ∃ r : Bool, K r ∧ e = .returned (.bool r) ∧ Below w.heap.size w w' := by
 refine enter (args := [iV x]) Tryz.func99 rfl Tryz.ntmps99 rfl hs ?_
 refine .seq (.region (.V ag0 ?_))
 refine .nil (.seqN (.seq (.region (.V mv0 ?_))))
 refine .V mv0 ?_
 refine .V bi0 ?_
 refine .V ag0 ?_
 refine .nil (.seqN (.ret ?_))
 refine .res1 rfl (rvT rfl) (fun w' S => ⟨x != x, hF, rfl, S.below⟩)
theorem c_isNaN1 {h : FH} {w : World} (hs : Sub h w) (x : Int) : Calls Tryz.prog 99 #[iV x] w fun e w' => e = .returned (.bool (sp_isNaN1 x)) ∧ Below w.heap.size w w' :=
 (w_isNaN1 hs x (fun r => r = sp_isNaN1 x) (ok_isNaN1 x)).mono fun _ _ ⟨_, hk, he, hb⟩ => ⟨by rw [he, hk], hb⟩
theorem w_isNaN2 {h : FH} {w : World} (hs : Sub h w) (x : Int) (K : Bool → Prop) (hF : F_isNaN2 x K) : Calls Tryz.prog 129 #[iV x] w fun e w' => ∃ r : Bool, K r ∧ e = .returned (.bool r) ∧ Below w.heap.size w w' := by
 refine enter (args := [iV x]) Tryz.func129 rfl Tryz.ntmps129 rfl hs ?_
 refine .seq (.region (.V ag0 ?_))
 refine .nil (.seqN (.seq (.region (.V mv0 ?_))))
 refine .V mv0 ?_
 refine .V bi0 ?_
 refine .V ag0 ?_
 refine .nil (.seqN (.ret ?_))
 refine .res1 rfl (rvT rfl) (fun w' S => ⟨x != x, hF, rfl, S.below⟩)
theorem c_isNaN2 {h : FH} {w : World} (hs : Sub h w) (x : Int) : Calls Tryz.prog 129 #[iV x] w fun e w' => e = .returned (.bool (sp_isNaN1 x)) ∧ Below w.heap.size w w' :=
 (w_isNaN2 hs x (fun r => r = sp_isNaN1 x) (ok_isNaN2 x)).mono fun _ _ ⟨_, hk, he, hb⟩ => ⟨by rw [he, hk], hb⟩
theorem w_less {h : FH} {w : World} (hs : Sub h w) (x : Int) (y : Int) (K : Bool → Prop) (hF : F_less x y K) : Calls Tryz.prog 125 #[iV x, iV y] w fun e w' => ∃ r : Bool, K r ∧ e = .returned (.bool r) ∧ Below w.heap.size w w' := by
 refine enter (args := [iV x, iV y]) Tryz.func125 rfl Tryz.ntmps125 rfl hs ?_
 refine .seq (.region (.V ag0 ?_))
 refine .nil (.seqN (.seq (.region (.V mv0 ?_))))
 obtain ⟨r2, q5⟩ : ∃ y_ : Bool, y_ = sp_isNaN1 x := ⟨_, rfl⟩
 replace hF := hF r2 q5
 refine .C (cl (v := .bool r2) Tryz.call99 rfl rfl (fun w S => (by rw [q5]; exact c_isNaN1 S.sub x ))) ?_
 refine .V mv0 ?_
 rcases Bool.eq_false_or_eq_true (r2) with q6 | q6
 ·replace hF := hF.1 q6
  refine .GV mv0 q6 ?_
  obtain ⟨r3, q7⟩ : ∃ y_ : Bool, y_ = sp_isNaN1 y := ⟨_, rfl⟩
  replace hF := hF r3 q7
  refine .gc (cl (v := .bool r3) Tryz.call99 rfl rfl (fun w S => (by rw [q7]; exact c_isNaN1 S.sub y ))) rfl rfl rfl q6 rfl rfl ?_
  refine .GV (nt rfl) q6 ?_
  refine .V (pkT rfl q6 rfl) ?_
  refine .V mv0 ?_
  rcases Bool.eq_false_or_eq_true (!r3) with q8 | q8
  ·replace hF := hF.1 q8
   refine .GS q8 ?_
   refine .GS q8 ?_
   refine .GS q8 ?_
   refine .V (pkT rfl q8 rfl) ?_
   refine .V ag0 ?_
   refine .nil (.seqN (.ret ?_))
   refine .res1 rfl (rvT rfl) (fun w' S => ⟨true, hF, rfl, S.below⟩)
  replace hF := hF.2 q8
  refine .GV mv0 q8 ?_
  refine .GV mv0 q8 ?_
  refine .GV bi0 q8 ?_
  refine .V (pkF rfl q8 rfl) ?_
  refine .V ag0 ?_
  refine .nil (.seqN (.ret ?_))
  refine .res1 rfl (rvT rfl) (fun w' S => ⟨decide (x < y), hF, rfl, S.below⟩)
 replace hF := hF.2 q6
 refine .GS q6 ?_
 refine .GS q6 ?_
 refine .GS q6 ?_
 refine .V (pkF rfl q6 rfl) ?_
 refine .V mv0 ?_
 refine .gv mv0 rfl rfl rfl rfl rfl rfl ?_
 refine .gv mv0 rfl rfl rfl rfl rfl rfl ?_
 refine .gv bi0 rfl rfl rfl rfl rfl rfl ?_
 refine .V (pkF rfl rfl rfl) ?_
 refine .V ag0 ?_
 refine .nil (.seqN (.ret ?_))
 refine .res1 rfl (rvT rfl) (fun w' S => ⟨decide (x < y), hF, rfl, S.below⟩)
theorem c_less {h : FH} {w : World} (hs : Sub h w) (x : Int) (y : Int) : Calls Tryz.prog 125 #[iV x, iV y] w fun e w' => e = .returned (.bool (sp_less x y)) ∧ Below w.heap.size w w' :=
 (w_less hs x y (fun r => r = sp_less x y) (ok_less x y)).mono fun _ _ ⟨_, hk, he, hb⟩ => ⟨by rw [he, hk], hb⟩
set_option maxHeartbeats 8000000 in
theorem w_bsearch {h : FH} {w : World} (hs : Sub h w) (x : List Int) (ax : Option Addr) (cx : Nat) (_q1 : RSl h ax x) (_q2 : x.length ≤ cx) (target : Int) (K : (Int × Bool) → Prop) (hF : F_bsearch x target K) : Calls Tryz.prog 105 #[.slice ax x.length cx, iV target] w fun e w' => ∃ r : Int × Bool, K r ∧ e = .returned (.tuple #[iV r.1, .bool r.2]) ∧ Below w.heap.size w w' := by
 refine enter (args := [vSl ax x cx, iV target]) Tryz.func105 rfl Tryz.ntmps105 rfl hs ?_
 refine .seq (.region (.V ag0 ?_))
 refine .V ag0 ?_
 refine .nil (.seqN (.seq (.region (.V mv0 ?_))))
 refine .V (ln rfl tS22.is) ?_
 refine .V ag0 ?_
 refine .nil (.seqN (.seq (.region (.V mv0 ?_))))
 refine .V ag0 ?_
 refine .V ag0 ?_
 refine .nil (.seqN (.seq (.block ?_)))
 obtain ⟨I1, μ1, q55, q56⟩ := hF
 refine .loop' (σ := Int × Int) (fun z => I1 z.1 z.2) (fun z => μ1 z.1 z.2) (fun z => [(0, vSl ax x cx), (1, iV target), (6, iV ((x.length : Nat) : Int)), (7, iV z.1), (8, iV z.2)]) (fun _ => []) (fun _ => h) (0, ((x.length : Nat) : Int)) q55 sb rfl (FH.le_refl _) ?_
 rintro ⟨i, j⟩ q55
 have hF := q56 i j q55
 show J _ _ _ _ _ [(0, vSl ax x cx), (1, iV target), (6, iV ((x.length : Nat) : Int)), (7, iV i), (8, iV j)] [] h
 refine .seq (.seq (.region (.V mv0 ?_)))
 refine .V mv0 ?_
 refine .V bi0 ?_
 refine .nil (.seqN ?_)
 refine .cond rfl (fun q58 => ?_) (fun q58 => ?_)
 ·replace hF := hF.1 q58
  refine .skip (.seqN (.block (.seq (.region (.V mv0 ?_)))))
  refine .V mv0 ?_
  refine .V bi0 ?_
  refine .V (cv Tryz.underlying3 Tryz.underlying152 rfl) ?_
  obtain ⟨x2, q59⟩ : ∃ y_ : Int, y_ = (Int.fdiv (IntKind.u64.wrap (wr (i + j))) (2 ^ (min ((1 : Int)).toNat (IntKind.bits .u64)))) := ⟨_, rfl⟩
  replace hF := hF x2 q59
  refine .v (v := .int .u64 x2) (by rw [q59]; exact bsh rfl rfl (by decide) rfl) rfl rfl rfl ?_
  refine .V (cv Tryz.underlying152 Tryz.underlying3 rfl) ?_
  refine .V ag0 ?_
  refine .nil (.seqN (.seq (.region (.V mv0 ?_))))
  refine .V mv0 ?_
  obtain ⟨q60, hF⟩ := hF
  refine .V (ix rfl rfl tS22 (_q1.ne (by decide) (inb_pos q60)) q60) ?_
  refine .V (ld1 (v := iV (gt x (wr (x2)))) rfl tO3 (cellH (_q1.elemF q60 (by decide) 0 _ rfl))) ?_
  refine .V mv0 ?_
  obtain ⟨r2, q61⟩ : ∃ y_ : Bool, y_ = sp_less (gt x (wr (x2))) target := ⟨_, rfl⟩
  replace hF := hF r2 q61
  refine .C (cl (v := .bool r2) Tryz.call125 rfl rfl (fun w S => (by rw [q61]; exact c_less S.sub (gt x (wr (x2))) target ))) ?_
  refine .nil (.seqN ?_)
  refine .cond rfl (fun q62 => ?_) (fun q62 => ?_)
  ·replace hF := hF.1 q62
   refine .region (.V mv0 ?_)
   refine .V bi0 ?_
   refine .V ag0 ?_
   refine .nil (.blkN ?_)
   exact .RO (wr ((wr (x2)) + 1), j) hF.1 hF.2
  replace hF := hF.2 q62
  refine .region (.V mv0 ?_)
  refine .V ag0 ?_
  refine .nil (.blkN ?_)
  exact .RO (i, wr (x2)) hF.1 hF.2
 replace hF := hF.2 q58
 refine .exit (.seqX (.seqX (.blkX (.seqN (.seq (.region (.V mv0 ?_)))))))
 refine .V mv0 ?_
 refine .V mv0 ?_
 refine .V bi0 ?_
 refine .V mv0 ?_
 rcases Bool.eq_false_or_eq_true (decide (i < ((x.length : Nat) : Int))) with q69 | q69
 ·replace hF := hF.1 q69
  refine .GV mv0 q69 ?_
  refine .GV mv0 q69 ?_
  obtain ⟨q70, hF⟩ := hF
  refine .GV (ix rfl rfl tS22 (_q1.ne (by decide) (inb_pos q70)) q70) q69 ?_
  refine .GV (ld1 (v := iV (gt x i)) rfl tO3 (cellH (_q1.elemF q70 (by decide) 0 _ rfl))) q69 ?_
  refine .GV mv0 q69 ?_
  refine .GV bi0 q69 ?_
  refine .GV mv0 q69 ?_
  rcases Bool.eq_false_or_eq_true ((gt x i) == target) with q71 | q71
  ·replace hF := hF.1 q71
   refine .GS q71 ?_
   refine .GS q71 ?_
   refine .GS q71 ?_
   refine .GS q71 ?_
   refine .GS q71 ?_
   refine .GS q71 ?_
   refine .GU ?_
   refine .GU ?_
   refine .GS q71 ?_
   refine .GV (pkT rfl q71 rfl) q69 ?_
   refine .V (pkT rfl q69 rfl) ?_
   refine .V ag0 ?_
   refine .V ag0 ?_
   refine .nil (.seqN (.ret ?_))
   refine .res2 rfl (rvT rfl) (rvT rfl) (fun w' S => ⟨(i, true), hF, rfl, S.below⟩)
  replace hF := hF.2 q71
  refine .GV mv0 q71 ?_
  refine .GV mv0 q71 ?_
  refine .GV (ix rfl rfl tS22 (_q1.ne (by decide) (inb_pos q70)) q70) q71 ?_
  refine .GV (ld1 (v := iV (gt x i)) rfl tO3 (cellH (_q1.elemF q70 (by decide) 0 _ rfl))) q71 ?_
  obtain ⟨r3, q72⟩ : ∃ y_ : Bool, y_ = sp_isNaN1 (gt x i) := ⟨_, rfl⟩
  replace hF := hF r3 q72
  refine .gc (cl (v := .bool r3) Tryz.call129 rfl rfl (fun w S => (by rw [q72]; exact c_isNaN2 S.sub (gt x i) ))) rfl rfl rfl q71 rfl rfl ?_
  refine .GV mv0 q71 ?_
  rcases Bool.eq_false_or_eq_true (r3) with q73 | q73
  ·replace hF := hF.1 q73
   refine .GV mv0 q73 ?_
   obtain ⟨r4, q74⟩ : ∃ y_ : Bool, y_ = sp_isNaN1 target := ⟨_, rfl⟩
   replace hF := hF r4 q74
   refine .gc (cl (v := .bool r4) Tryz.call129 rfl rfl (fun w S => (by rw [q74]; exact c_isNaN2 S.sub target ))) rfl rfl rfl q73 rfl rfl ?_
   refine .GV (pkT rfl q73 rfl) q71 ?_
   refine .GV (pkF rfl q71 rfl) q69 ?_
   refine .V (pkT rfl q69 rfl) ?_
   refine .V ag0 ?_
   refine .V ag0 ?_
   refine .nil (.seqN (.ret ?_))
   refine .res2 rfl (rvT rfl) (rvT rfl) (fun w' S => ⟨(i, r4), hF, rfl, S.below⟩)
  replace hF := hF.2 q73
  refine .GS q73 ?_
  refine .GS q73 ?_
  refine .GV (pkF rfl q73 rfl) q71 ?_
  refine .GV (pkF rfl q71 rfl) q69 ?_
  refine .V (pkT rfl q69 rfl) ?_
  refine .V ag0 ?_
  refine .V ag0 ?_
  refine .nil (.seqN (.ret ?_))
  refine .res2 rfl (rvT rfl) (rvT rfl) (fun w' S => ⟨(i, false), hF, rfl, S.below⟩)
 replace hF := hF.2 q69
 refine .GS q69 ?_
 refine .GS q69 ?_
 refine .GS q69 ?_
 refine .GS q69 ?_
 refine .GS q69 ?_
 refine .GS q69 ?_
 refine .GS q69 ?_
 refine .GU ?_
 refine .GU ?_
 refine .GU ?_
 refine .GU ?_
 refine .GU ?_
 refine .GU ?_
 refine .GU ?_
 refine .GU ?_
 refine .GU ?_
 refine .GS q69 ?_
 refine .V (pkF rfl q69 rfl) ?_
 refine .V ag0 ?_
 refine .V ag0 ?_
 refine .nil (.seqN (.ret ?_))
 refine .res2 rfl (rvT rfl) (rvT rfl) (fun w' S => ⟨(i, false), hF, rfl, S.below⟩)
theorem c_bsearch {h : FH} {w : World} (hs : Sub h w) (x : List Int) (ax : Option Addr) (cx : Nat) (_q1 : RSl h ax x) (_q2 : x.length ≤ cx) (target : Int) (hp : pre_bsearch x target) : Calls Tryz.prog 105 #[.slice ax x.length cx, iV target] w fun e w' => e = .returned (.tuple #[iV (sp_bsearch x target).1, .bool (sp_bsearch x target).2]) ∧ Below w.heap.size w w' :=
 (w_bsearch hs x ax cx _q1 _q2 target (fun r => r = sp_bsearch x target) (ok_bsearch x target hp)).mono fun _ _ ⟨_, hk, he, hb⟩ => ⟨by rw [he, hk], hb⟩
theorem w_indexF {h : FH} {w : World} (hs : Sub h w) (s_ : List Int) (as_ : Option Addr) (cs_ : Nat) (_q1 : RSl h as_ s_) (_q2 : s_.length ≤ cs_) (pf : Int → Bool) (Df : Int → Prop) (ff : FuncId) (firstf capsf : Array Value) (hff : ∀ args w, (callFunc ff args).run Tryz.prog w = .ok (.enter ff args) w) (hpf : ∀ (x : Int) (w' : World), Df x → Sub h w' → Calls Tryz.prog ff (firstf.toList ++ [(iV x : Value)] ++ capsf.toList).toArray w' fun e w'' => e = .returned (.bool (pf x)) ∧ Below w'.heap.size w' w'') (K : Int → Prop) (hF : F_indexF s_ pf Df K) : Calls Tryz.prog 128 #[.slice as_ s_.length cs_, .func (.func ff) firstf capsf] w fun e w' => ∃ r : Int, K r ∧ e = .returned (iV r) ∧ Below w.heap.size w w' := by
 refine enter (args := [vSl as_ s_ cs_, .func (.func ff) firstf capsf]) Tryz.func128 rfl Tryz.ntmps128 rfl hs ?_
 refine .seq (.region (.V ag0 ?_))
 refine .nil (.seqN (.seq (.seq (.region (.V mv0 ?_)))))
 refine .V (ln rfl tS22.is) ?_
 refine .V mv0 ?_
 refine .nil (.seqN (.block ?_))
 obtain ⟨I1, μ1, q80, q81⟩ := hF
 refine .loop' (σ := Int) (fun z => I1 z) (fun z => μ1 z) (fun z => [(0, vSl as_ s_ cs_), (1, .func (.func ff) firstf capsf), (7, iV ((s_.length : Nat) : Int)), (8, iV z)]) (fun _ => []) (fun _ => h) 0 q80 sb rfl (FH.le_refl _) ?_
 rintro t8 q80
 have hF := q81 t8 q80
 show J _ _ _ _ _ [(0, vSl as_ s_ cs_), (1, .func (.func ff) firstf capsf), (7, iV ((s_.length : Nat) : Int)), (8, iV t8)] [] h
 refine .seq (.region (.V bi0 ?_))
 refine .nil (.seqN (.seq ?_))
 refine .cond rfl (fun q84 => ?_) (fun q84 => ?_)
 ·replace hF := hF.1 q84
  refine .skip (.seqN (.seq (.block (.seq (.region (.V mv0 ?_))))))
  refine .V ag0 ?_
  refine .nil (.seqN (.seq (.region (.V mv0 ?_))))
  refine .V mv0 ?_
  refine .V mv0 ?_
  obtain ⟨q93, hF⟩ := hF
  refine .V (ix rfl rfl tS22 (_q1.ne (by decide) (inb_pos q93)) q93) ?_
  refine .V (ld1 (v := iV (gt s_ t8)) rfl tO3 (cellH (_q1.elemF q93 (by decide) 0 _ rfl))) ?_
  obtain ⟨q94, hF⟩ := hF
  obtain ⟨r2, q95⟩ : ∃ y_ : Bool, y_ = pf (gt s_ t8) := ⟨_, rfl⟩
  replace hF := hF r2 q95
  refine .C (cl (v := .bool r2) hff rfl rfl (fun w S => (by rw [q95]; exact hpf (gt s_ t8) w q94 (S.sub.anti (FH.le_refl _))))) ?_
  refine .nil (.seqN ?_)
  refine .cond rfl (fun q96 => ?_) (fun q96 => ?_)
  ·replace hF := hF.1 q96
   refine .seq (.region (.V mv0 ?_))
   refine .V ag0 ?_
   refine .nil (.seqN (.ret (.blkR (.seqR (.seqR (.blkR (.seqR ?_)))))))
   refine .res1 rfl (rvT rfl) (fun w' S => ⟨t8, hF, rfl, S.below⟩)
  replace hF := hF.2 q96
  refine .skip (.blkN (.seqN (.region (.V bi0 ?_))))
  refine .V mv0 ?_
  refine .nil ?_
  exact .RO (wr (t8 + 1)) hF.1 hF.2
 replace hF := hF.2 q84
 refine .exit (.seqX (.seqX (.blkX (.seqN (.seq (.region (.V ag0 ?_)))))))
 refine .nil (.seqN (.ret ?_))
 refine .res1 rfl (rvT rfl) (fun w' S => ⟨(-1), hF, rfl, S.below⟩)
theorem c_indexF {h : FH} {w : World} (hs : Sub h w) (s_ : List Int) (as_ : Option Addr) (cs_ : Nat) (_q1 : RSl h as_ s_) (_q2 : s_.length ≤ cs_) (pf : Int → Bool) (Df : Int → Prop) (ff : FuncId) (firstf capsf : Array Value) (hff : ∀ args w, (callFunc ff args).run Tryz.prog w = .ok (.enter ff args) w) (hpf : ∀ (x : Int) (w' : World), Df x → Sub h w' → Calls Tryz.prog ff (firstf.toList ++ [(iV x : Value)] ++ capsf.toList).toArray w' fun e w'' => e = .returned (.bool (pf x)) ∧ Below w'.heap.size w' w'') (hp : pre_any s_ pf Df) : Calls Tryz.prog 128 #[.slice as_ s_.length cs_, .func (.func ff) firstf capsf] w fun e w' => e = .returned (iV (sp_indexF s_ pf Df)) ∧ Below w.heap.size w w' :=
 (w_indexF hs s_ as_ cs_ _q1 _q2 pf Df ff firstf capsf hff hpf (fun r => r = sp_indexF s_ pf Df) (ok_indexF s_ pf Df hp)).mono fun _ _ ⟨_, hk, he, hb⟩ => ⟨by rw [he, hk], hb⟩
theorem w_containsF {h : FH} {w : World} (hs : Sub h w) (s_ : List Int) (as_ : Option Addr) (cs_ : Nat) (_q1 : RSl h as_ s_) (_q2 : s_.length ≤ cs_) (pf : Int → Bool) (Df : Int → Prop) (ff : FuncId) (firstf capsf : Array Value) (hff : ∀ args w, (callFunc ff args).run Tryz.prog w = .ok (.enter ff args) w) (hpf : ∀ (x : Int) (w' : World), Df x → Sub h w' → Calls Tryz.prog ff (firstf.toList ++ [(iV x : Value)] ++ capsf.toList).toArray w' fun e w'' => e = .returned (.bool (pf x)) ∧ Below w'.heap.size w' w'') (K : Bool → Prop) (hF : F_containsF s_ pf Df K) : Calls Tryz.prog 103 #[.slice as_ s_.length cs_, .func (.func ff) firstf capsf] w fun e w' => ∃ r : Bool, K r ∧ e = .returned (.bool r) ∧ Below w.heap.size w w' := by
 refine enter (args := [vSl as_ s_ cs_, .func (.func ff) firstf capsf]) Tryz.func103 rfl Tryz.ntmps103 rfl hs ?_
 refine .seq (.region (.V ag0 ?_))
 refine .nil (.seqN (.seq (.region (.V mv0 ?_))))
 refine .V mv0 ?_
 obtain ⟨q3, hF⟩ := hF
 obtain ⟨r2, q4⟩ : ∃ y_ : Int, y_ = sp_indexF s_ pf Df := ⟨_, rfl⟩
 replace hF := hF r2 q4
 refine .C (cl (v := iV r2) Tryz.call128 rfl rfl (fun w S => (by rw [q4]; exact c_indexF S.sub s_ as_ cs_ _q1 _q2 pf Df ff firstf capsf hff hpf q3))) ?_
 refine .V bi0 ?_
 refine .V ag0 ?_
 refine .nil (.seqN (.ret ?_))
 refine .res1 rfl (rvT rfl) (fun w' S => ⟨decide (0 ≤ r2), hF, rfl, S.below⟩)
theorem c_containsF {h : FH} {w : World} (hs : Sub h w) (s_ : List Int) (as_ : Option Addr) (cs_ : Nat) (_q1 : RSl h as_ s_) (_q2 : s_.length ≤ cs_) (pf : Int → Bool) (Df : Int → Prop) (ff : FuncId) (firstf capsf : Array Value) (hff : ∀ args w, (callFunc ff args).run Tryz.prog w = .ok (.enter ff args) w) (hpf : ∀ (x : Int) (w' : World), Df x → Sub h w' → Calls Tryz.prog ff (firstf.toList ++ [(iV x : Value)] ++ capsf.toList).toArray w' fun e w'' => e = .returned (.bool (pf x)) ∧ Below w'.heap.size w' w'') (hp : pre_any s_ pf Df) : Calls Tryz.prog 103 #[.slice as_ s_.length cs_, .func (.func ff) firstf capsf] w fun e w' => e = .returned (.bool (sp_any s_ pf Df)) ∧ Below w.heap.size w w' :=
 (w_containsF hs s_ as_ cs_ _q1 _q2 pf Df ff firstf capsf hff hpf (fun r => r = sp_any s_ pf Df) (ok_containsF s_ pf Df hp)).mono fun _ _ ⟨_, hk, he, hb⟩ => ⟨by rw [he, hk], hb⟩
set_option maxHeartbeats 8000000 in
theorem w_isSet {h : FH} {w : World} (hs : Sub h w) (l : List Int) (al2 : Option Addr) (cl2 : Nat) (_q1 : RSl h al2 l) (_q2 : l.length ≤ cl2) (n_ : Int) (K : Bool → Prop) (hF : F_isSet l n_ K) : Calls Tryz.prog 36 #[.slice al2 l.length cl2, iV n_] w fun e w' => ∃ r : Bool, K r ∧ e = .returned (.bool r) ∧ Below w.heap.size w w' := by
 refine enter (args := [vSl al2 l cl2, iV n_]) Tryz.func36 rfl Tryz.ntmps36 rfl hs ?_
 refine .seq (.region (.V ag0 ?_))
 refine .nil (.seqN (.seq (.seq (.region (.V mv0 ?_)))))
 refine .V (ln rfl tS22.is) ?_
 refine .V mv0 ?_
 refine .nil (.seqN (.block ?_))
 obtain ⟨I1, μ1, q161, q162⟩ := hF
 refine .loop' (σ := Int) (fun z => I1 z) (fun z => μ1 z) (fun z => [(0, vSl al2 l cl2), (1, iV n_), (7, vSl al2 l cl2), (8, iV ((l.length : Nat) : Int)), (9, iV z)]) (fun _ => []) (fun _ => h) 0 q161 sb rfl (FH.le_refl _) ?_
 rintro t9 q161
 have hF := q162 t9 q161
 show J _ _ _ _ _ [(0, vSl al2 l cl2), (1, iV n_), (7, vSl al2 l cl2), (8, iV ((l.length : Nat) : Int)), (9, iV t9)] [] h
 refine .seq (.region (.V bi0 ?_))
 refine .nil (.seqN (.seq ?_))
 refine .cond rfl (fun q165 => ?_) (fun q165 => ?_)
 ·replace hF := hF.1 q165
  refine .skip (.seqN (.seq (.block (.seq (.region (.V mv0 ?_))))))
  obtain ⟨q188, hF⟩ := hF
  refine .V (ix rfl rfl tS22 (_q1.ne (by decide) (inb_pos q188)) q188) ?_
  refine .V (ld1 (v := iV (gt l t9)) rfl tO3 (cellH (_q1.elemF q188 (by decide) 0 _ rfl))) ?_
  refine .V ag0 ?_
  refine .V ag0 ?_
  refine .nil (.seqN ?_)
  refine .share (σ := Bool) (fun z => F_isSet_J1 K z t9 I1 μ1) (fun z => [(0, vSl al2 l cl2), (1, iV n_), (7, vSl al2 l cl2), (8, iV ((l.length : Nat) : Int)), (9, iV t9), (33, .bool z)]) (fun _ => []) (fun _ => h) ?_ (fun q193 => ?_)
  ·rintro t33 hF
   show J _ _ _ _ _ [(0, vSl al2 l cl2), (1, iV n_), (7, vSl al2 l cl2), (8, iV ((l.length : Nat) : Int)), (9, iV t9), (33, .bool t33)] [] h
   refine .cond rfl (fun q194 => ?_) (fun q194 => ?_)
   ·replace hF := hF.1 q194
    refine .seq (.region (.V ag0 ?_))
    refine .nil (.seqN (.ret (.blkR (.seqR (.seqR (.blkR (.seqR ?_)))))))
    refine .res1 rfl (rvT rfl) (fun w' S => ⟨false, hF, rfl, S.below⟩)
   replace hF := hF.2 q194
   refine .skip (.blkN (.seqN (.region (.V bi0 ?_))))
   refine .V mv0 ?_
   refine .nil ?_
   exact .RO (wr (t9 + 1)) hF.1 hF.2
  refine .region (.V mv0 ?_)
  refine .V bi0 ?_
  refine .V mv0 ?_
  rcases Bool.eq_false_or_eq_true (decide ((gt l t9) < 0)) with q195 | q195
  ·replace hF := hF.1 q195
   refine .GS q195 ?_
   refine .GS q195 ?_
   refine .GS q195 ?_
   refine .V (pkT rfl q195 rfl) ?_
   refine .V mv0 ?_
   refine .gS rfl rfl rfl rfl rfl rfl ?_
   refine .gS rfl rfl rfl rfl rfl rfl ?_
   refine .gS rfl rfl rfl rfl rfl rfl ?_
   refine .GU ?_
   refine .GU ?_
   refine .GU ?_
   refine .GU ?_
   refine .GU ?_
   refine .GU ?_
   refine .GU ?_
   refine .gS rfl rfl rfl rfl rfl rfl ?_
   refine .V (pkT rfl rfl rfl) ?_
   refine .nil ?_
   exact .US q193 true hF
  replace hF := hF.2 q195
  refine .GV mv0 q195 ?_
  refine .GV mv0 q195 ?_
  refine .GV bi0 q195 ?_
  refine .V (pkF rfl q195 rfl) ?_
  refine .V mv0 ?_
  rcases Bool.eq_false_or_eq_true (decide (n_ ≤ (gt l t9))) with q196 | q196
  ·replace hF := hF.1 q196
   refine .GS q196 ?_
   refine .GS q196 ?_
   refine .GS q196 ?_
   refine .GU ?_
   refine .GU ?_
   refine .GU ?_
   refine .GU ?_
   refine .GU ?_
   refine .GU ?_
   refine .GU ?_
   refine .GS q196 ?_
   refine .V (pkT rfl q196 rfl) ?_
   refine .nil ?_
   exact .US q193 true hF
  replace hF := hF.2 q196
  refine .GV mv0 q196 ?_
  refine .GV bi0 q196 ?_
  refine .GV mv0 q196 ?_
  rcases Bool.eq_false_or_eq_true (decide (0 < t9)) with q197 | q197
  ·replace hF := hF.1 q197
   refine .GV mv0 q197 ?_
   refine .GV mv0 q197 ?_
   refine .GV mv0 q197 ?_
   refine .GV bi0 q197 ?_
   obtain ⟨q198, hF⟩ := hF
   refine .GV (ix rfl rfl tS22 (_q1.ne (by decide) (inb_pos q198)) q198) q197 ?_
   refine .GV (ld1 (v := iV (gt l (wr (t9 - 1)))) rfl tO3 (cellH (_q1.elemF q198 (by decide) 0 _ rfl))) q197 ?_
   refine .GV bi0 q197 ?_
   refine .GV (pkT rfl q197 rfl) q196 ?_
   refine .V (pkF rfl q196 rfl) ?_
   refine .nil ?_
   exact .US q193 (decide ((gt l t9) ≤ (gt l (wr (t9 - 1))))) hF
  replace hF := hF.2 q197
  refine .GS q197 ?_
  refine .GS q197 ?_
  refine .GS q197 ?_
  refine .GS q197 ?_
  refine .GS q197 ?_
  refine .GS q197 ?_
  refine .GS q197 ?_
  refine .GV (pkF rfl q197 rfl) q196 ?_
  refine .V (pkF rfl q196 rfl) ?_
  refine .nil ?_
  exact .US q193 false hF
 replace hF := hF.2 q165
 refine .exit (.seqX (.seqX (.blkX (.seqN (.seq (.region (.V ag0 ?_)))))))
 refine .nil (.seqN (.ret ?_))
 refine .res1 rfl (rvT rfl) (fun w' S => ⟨true, hF, rfl, S.below⟩)
theorem c_isSet {h : FH} {w : World} (hs : Sub h w) (l : List Int) (al2 : Option Addr) (cl2 : Nat) (_q1 : RSl h al2 l) (_q2 : l.length ≤ cl2) (n_ : Int) (hp : pre_isSet l n_) : Calls Tryz.prog 36 #[.slice al2 l.length cl2, iV n_] w fun e w' => e = .returned (.bool (sp_isSet l n_)) ∧ Below w.heap.size w w' :=
 (w_isSet hs l al2 cl2 _q1 _q2 n_ (fun r => r = sp_isSet l n_) (ok_isSet l n_ hp)).mono fun _ _ ⟨_, hk, he, hb⟩ => ⟨by rw [he, hk], hb⟩
theorem w_meets1 {h : FH} {w : World} (hs : Sub h w) (x : Int) (x2 : List Int) (ax2 : Option Addr) (cx2 : Nat) (_q1 : RSl h ax2 x2) (_q2 : x2.length ≤ cx2) (px2 : Addr) (_q3 : CellsAt h px2 [.slice ax2 x2.length cx2]) (K : Bool → Prop) (hF : F_meets1 x x2 K) : Calls Tryz.prog 104 #[iV x, .pointer (some px2)] w fun e w' => ∃ r : Bool, K r ∧ e = .returned (.bool r) ∧ Below w.heap.size w w' := by
 refine enter (args := [iV x, .pointer (some px2)]) Tryz.func104 rfl Tryz.ntmps104 rfl hs ?_
 refine .seq (.region (.V ag0 ?_))
 refine .nil (.seqN (.seq (.region (.V (ld1 (v := vSl ax2 x2 cx2) rfl tO22 (cellH (CellsAt.mono (FH.le_refl _) _q3 0 _ rfl))) ?_))))
 refine .V mv0 ?_
 obtain ⟨q4, hF⟩ := hF
 obtain ⟨r2, q5⟩ : ∃ y_ : Int × Bool, y_ = sp_bsearch x2 x := ⟨_, rfl⟩
 replace hF := hF r2 q5
 refine .C (cl (v := .tuple #[iV r2.1, .bool r2.2]) Tryz.call105 rfl rfl (fun w S => (by rw [q5]; exact c_bsearch S.sub x2 ax2 cx2 _q1 _q2 x q4))) ?_
 refine .V mv0 ?_
 refine .V (ext rfl rfl) ?_
 refine .V (ext rfl rfl) ?_
 refine .V ag0 ?_
 refine .V ag0 ?_
 refine .nil (.seqN (.seq (.region (.V mv0 ?_))))
 refine .V ag0 ?_
 refine .nil (.seqN (.ret ?_))
 refine .res1 rfl (rvT rfl) (fun w' S => ⟨r2.2, hF, rfl, S.below⟩)
theorem c_meets1 {h : FH} {w : World} (hs : Sub h w) (x : Int) (x2 : List Int) (ax2 : Option Addr) (cx2 : Nat) (_q1 : RSl h ax2 x2) (_q2 : x2.length ≤ cx2) (px2 : Addr) (_q3 : CellsAt h px2 [.slice ax2 x2.length cx2]) (hp : pre_meets1 x x2) : Calls Tryz.prog 104 #[iV x, .pointer (some px2)] w fun e w' => e = .returned (.bool (sp_meets1 x x2)) ∧ Below w.heap.size w w' :=
 (w_meets1 hs x x2 ax2 cx2 _q1 _q2 px2 _q3 (fun r => r = sp_meets1 x x2) (ok_meets1 x x2 hp)).mono fun _ _ ⟨_, hk, he, hb⟩ => ⟨by rw [he, hk], hb⟩
theorem w_meets {h : FH} {w : World} (hs : Sub h w) (a : List Int) (aa : Option Addr) (ca : Nat) (_q1 : RSl h aa a) (_q2 : a.length ≤ ca) (b : List Int) (ab : Option Addr) (cb : Nat) (_q3 : RSl h ab b) (_q4 : b.length ≤ cb) (K : Bool → Prop) (hF : F_meets a b K) : Calls Tryz.prog 73 #[.slice aa a.length ca, .slice ab b.length cb] w fun e w' => ∃ r : Bool, K r ∧ e = .returned (.bool r) ∧ Below w.heap.size w w' := by
 refine enter (args := [vSl aa a ca, vSl ab b cb]) Tryz.func73 rfl Tryz.ntmps73 rfl hs ?_
 refine .seq (.region ?_)
 refine bx (vs := [vSl ab b cb]) rfl rfl rfl (fun pb => ?_)
 refine .V ag0 ?_
 refine .nil (.seqN (.seq (.region (.V mv0 ?_))))
 refine .V (mkf (vf := []) (vc := [.pointer (some pb)]) rfl rfl) ?_
 obtain ⟨q5, hF⟩ := hF
 obtain ⟨r2, q6⟩ : ∃ y_ : Bool, y_ = sp_any a (fun y_ : Int => sp_meets1 y_ b) (fun y_ : Int => pre_meets1 y_ b) := ⟨_, rfl⟩
 replace hF := hF r2 q6
 refine .C (cl (v := .bool r2) Tryz.call103 rfl rfl (fun w S => (by rw [q6]; obtain ⟨h_, hl_, hs_, hb_⟩ := lookB S (k := 0) rfl; exact c_containsF hs_ a aa ca (RSl.mono hl_ _q1) _q2 (fun y_ : Int => sp_meets1 y_ b) (fun y_ : Int => pre_meets1 y_ b) 104 #[] #[.pointer (some pb)] Tryz.call104 (fun x w' hD hs' => c_meets1 hs' x b ab cb (RSl.mono hl_ _q3) _q4 pb hb_ hD) q5))) ?_
 refine .V ag0 ?_
 refine .nil (.seqN (.ret ?_))
 refine .res1 rfl (rvT rfl) (fun w' S => ⟨r2, hF, rfl, S.below⟩)
theorem c_meets {h : FH} {w : World} (hs : Sub h w) (a : List Int) (aa : Option Addr) (ca : Nat) (_q1 : RSl h aa a) (_q2 : a.length ≤ ca) (b : List Int) (ab : Option Addr) (cb : Nat) (_q3 : RSl h ab b) (_q4 : b.length ≤ cb) (hp : pre_meets a b) : Calls Tryz.prog 73 #[.slice aa a.length ca, .slice ab b.length cb] w fun e w' => e = .returned (.bool (sp_meets a b)) ∧ Below w.heap.size w w' :=
 (w_meets hs a aa ca _q1 _q2 b ab cb _q3 _q4 (fun r => r = sp_meets a b) (ok_meets a b hp)).mono fun _ _ ⟨_, hk, he, hb⟩ => ⟨by rw [he, hk], hb⟩
set_option maxHeartbeats 8000000 in
theorem w_operator {h : FH} {w : World} (hs : Sub h w) (o : Operator) (ao : Option Addr) (co : Nat) (_q1 : RSl h ao o.pre) (_q2 : o.pre.length ≤ co) (ao2 : Option Addr) (co2 : Nat) (_q3 : RSl h ao2 o.add) (_q4 : o.add.length ≤ co2) (ao3 : Option Addr) (co3 : Nat) (_q5 : RSl h ao3 o.del) (_q6 : o.del.length ≤ co3) (facts : Int) (K : Int → Prop) (hF : F_operator o facts K) : Calls Tryz.prog 37 #[.agg #[.slice ao o.pre.length co, .slice ao2 o.add.length co2, .slice ao3 o.del.length co3, iV o.cost], iV facts] w fun e w' => ∃ r : Int, K r ∧ e = .returned (iV r) ∧ Below w.heap.size w w' := by
 refine enter (args := [.agg #[vSl ao o.pre co, vSl ao2 o.add co2, vSl ao3 o.del co3, iV o.cost], iV facts]) Tryz.func37 rfl Tryz.ntmps37 rfl hs ?_
 refine .seq (.region ?_)
 refine bx (vs := [vSl ao o.pre co, vSl ao2 o.add co2, vSl ao3 o.del co3, iV o.cost]) rfl rfl rfl (fun po => ?_)
 refine .V ag0 ?_
 refine .nil (.seqN (.seq (.block ?_)))
 refine .share (σ := Bool) (fun z => F_operator_J1 o K z) (fun z => [(2, .pointer (some po)), (5, .bool z)]) (fun _ => [Box po [vSl ao o.pre co, vSl ao2 o.add co2, vSl ao3 o.del co3, iV o.cost]]) (fun _ => h) ?_ (fun q74 => ?_)
 ·rintro t5 hF
  show J _ _ _ _ _ [(2, .pointer (some po)), (5, .bool t5)] [Box po [vSl ao o.pre co, vSl ao2 o.add co2, vSl ao3 o.del co3, iV o.cost]] h
  refine .cond rfl (fun q75 => ?_) (fun q75 => ?_)
  ·replace hF := hF.1 q75
   refine .seq (.region (.V ag0 ?_))
   refine .nil (.seqN (.ret (.blkR (.seqR ?_))))
   refine .res1 rfl (rvT rfl) (fun w' S => ⟨5, hF, rfl, S.below⟩)
  replace hF := hF.2 q75
  refine .share (σ := Bool) (fun z => F_operator_J2 K z) (fun z => [(32, .bool z)]) (fun _ => []) (fun _ => h) ?_ (fun q77 => ?_)
  ·rintro t32 hF
   show J _ _ _ _ _ [(32, .bool t32)] [] h
   refine .cond rfl (fun q78 => ?_) (fun q78 => ?_)
   ·replace hF := hF.1 q78
    refine .seq (.region (.V ag0 ?_))
    refine .nil (.seqN (.ret (.blkR (.seqR ?_))))
    refine .res1 rfl (rvT rfl) (fun w' S => ⟨3, hF, rfl, S.below⟩)
   replace hF := hF.2 q78
   refine .skip (.blkN (.seqN (.seq (.region (.V ag0 ?_)))))
   refine .nil (.seqN (.ret ?_))
   refine .res1 rfl (rvT rfl) (fun w' S => ⟨0, hF, rfl, S.below⟩)
  refine .region (.V (fa rfl tF52_3) ?_)
  refine .V (ld1 rfl tO3 (cellB (off := 3) (k := 0) rfl rfl)) ?_
  refine .V bi0 ?_
  refine .V mv0 ?_
  rcases Bool.eq_false_or_eq_true (decide (o.cost < 0)) with q79 | q79
  ·replace hF := hF.1 q79
   refine .GS q79 ?_
   refine .GS q79 ?_
   refine .GS q79 ?_
   refine .V (pkT rfl q79 rfl) ?_
   refine .V ag0 ?_
   refine .nil ?_
   refine .sel0 [] (by decide) rfl ?_
   exact .US q77 true hF
  replace hF := hF.2 q79
  refine .GV (fa rfl tF52_3) q79 ?_
  refine .GV (ld1 rfl tO3 (cellB (off := 3) (k := 0) rfl rfl)) q79 ?_
  refine .GV bi0 q79 ?_
  refine .V (pkF rfl q79 rfl) ?_
  refine .V ag0 ?_
  refine .nil ?_
  refine .sel0 [] (by decide) rfl ?_
  exact .US q77 (decide (100 < o.cost)) hF
 refine .region (.V (fa rfl tF52_0) ?_)
 refine .V (ld1 rfl tO22 (cellB (off := 0) (k := 0) rfl rfl)) ?_
 refine .V mv0 ?_
 obtain ⟨q80, hF⟩ := hF
 obtain ⟨r2, q81⟩ : ∃ y_ : Bool, y_ = sp_isSet o.pre facts := ⟨_, rfl⟩
 replace hF := hF r2 q81
 refine .C (cl (v := .bool r2) Tryz.call36 rfl rfl (fun w S => (by rw [q81]; exact c_isSet S.sub o.pre ao co _q1 _q2 facts q80))) ?_
 refine .V (nt rfl) ?_
 refine .V mv0 ?_
 rcases Bool.eq_false_or_eq_true (!r2) with q82 | q82
 ·replace hF := hF.1 q82
  refine .GS q82 ?_
  refine .GS q82 ?_
  refine .GS q82 ?_
  refine .GS q82 ?_
  refine .GS q82 ?_
  refine .V (pkT rfl q82 rfl) ?_
  refine .V mv0 ?_
  refine .gS rfl rfl rfl rfl rfl rfl ?_
  refine .gS rfl rfl rfl rfl rfl rfl ?_
  refine .gS rfl rfl rfl rfl rfl rfl ?_
  refine .gS rfl rfl rfl rfl rfl rfl ?_
  refine .gS rfl rfl rfl rfl rfl rfl ?_
  refine .V (pkT rfl rfl rfl) ?_
  refine .V mv0 ?_
  refine .gS rfl rfl rfl rfl rfl rfl ?_
  refine .gS rfl rfl rfl rfl rfl rfl ?_
  refine .gS rfl rfl rfl rfl rfl rfl ?_
  refine .gS rfl rfl rfl rfl rfl rfl ?_
  refine .gS rfl rfl rfl rfl rfl rfl ?_
  refine .V (pkT rfl rfl rfl) ?_
  refine .V ag0 ?_
  refine .nil ?_
  exact .US q74 true hF
 replace hF := hF.2 q82
 refine .GV (fa rfl tF52_1) q82 ?_
 refine .GV (ld1 rfl tO22 (cellB (off := 1) (k := 0) rfl rfl)) q82 ?_
 refine .GV mv0 q82 ?_
 obtain ⟨q83, hF⟩ := hF
 obtain ⟨r3, q84⟩ : ∃ y_ : Bool, y_ = sp_isSet o.add facts := ⟨_, rfl⟩
 replace hF := hF r3 q84
 refine .gc (cl (v := .bool r3) Tryz.call36 rfl rfl (fun w S => (by rw [q84]; exact c_isSet S.sub o.add ao2 co2 _q3 _q4 facts q83))) rfl rfl rfl q82 rfl rfl ?_
 refine .GV (nt rfl) q82 ?_
 refine .V (pkF rfl q82 rfl) ?_
 refine .V mv0 ?_
 rcases Bool.eq_false_or_eq_true (!r3) with q85 | q85
 ·replace hF := hF.1 q85
  refine .GS q85 ?_
  refine .GS q85 ?_
  refine .GS q85 ?_
  refine .GS q85 ?_
  refine .GS q85 ?_
  refine .V (pkT rfl q85 rfl) ?_
  refine .V mv0 ?_
  refine .gS rfl rfl rfl rfl rfl rfl ?_
  refine .gS rfl rfl rfl rfl rfl rfl ?_
  refine .gS rfl rfl rfl rfl rfl rfl ?_
  refine .gS rfl rfl rfl rfl rfl rfl ?_
  refine .gS rfl rfl rfl rfl rfl rfl ?_
  refine .V (pkT rfl rfl rfl) ?_
  refine .V ag0 ?_
  refine .nil ?_
  exact .US q74 true hF
 replace hF := hF.2 q85
 refine .GV (fa rfl tF52_2) q85 ?_
 refine .GV (ld1 rfl tO22 (cellB (off := 2) (k := 0) rfl rfl)) q85 ?_
 refine .GV mv0 q85 ?_
 obtain ⟨q86, hF⟩ := hF
 obtain ⟨r4, q87⟩ : ∃ y_ : Bool, y_ = sp_isSet o.del facts := ⟨_, rfl⟩
 replace hF := hF r4 q87
 refine .gc (cl (v := .bool r4) Tryz.call36 rfl rfl (fun w S => (by rw [q87]; exact c_isSet S.sub o.del ao3 co3 _q5 _q6 facts q86))) rfl rfl rfl q85 rfl rfl ?_
 refine .GV (nt rfl) q85 ?_
 refine .V (pkF rfl q85 rfl) ?_
 refine .V mv0 ?_
 rcases Bool.eq_false_or_eq_true (!r4) with q88 | q88
 ·replace hF := hF.1 q88
  refine .GS q88 ?_
  refine .GS q88 ?_
  refine .GS q88 ?_
  refine .GS q88 ?_
  refine .GS q88 ?_
  refine .V (pkT rfl q88 rfl) ?_
  refine .V ag0 ?_
  refine .nil ?_
  exact .US q74 true hF
 replace hF := hF.2 q88
 refine .GV (fa rfl tF52_1) q88 ?_
 refine .GV (ld1 rfl tO22 (cellB (off := 1) (k := 0) rfl rfl)) q88 ?_
 refine .GV (fa rfl tF52_2) q88 ?_
 refine .GV (ld1 rfl tO22 (cellB (off := 2) (k := 0) rfl rfl)) q88 ?_
 obtain ⟨q89, hF⟩ := hF
 obtain ⟨r5, q90⟩ : ∃ y_ : Bool, y_ = sp_meets o.add o.del := ⟨_, rfl⟩
 replace hF := hF r5 q90
 refine .gc (cl (v := .bool r5) Tryz.call73 rfl rfl (fun w S => (by rw [q90]; exact c_meets S.sub o.add ao2 co2 _q3 _q4 o.del ao3 co3 _q5 _q6 q89))) rfl rfl rfl q88 rfl rfl ?_
 refine .V (pkF rfl q88 rfl) ?_
 refine .V ag0 ?_
 refine .nil ?_
 exact .US q74 r5 hF
theorem c_operator {h : FH} {w : World} (hs : Sub h w) (o : Operator) (ao : Option Addr) (co : Nat) (_q1 : RSl h ao o.pre) (_q2 : o.pre.length ≤ co) (ao2 : Option Addr) (co2 : Nat) (_q3 : RSl h ao2 o.add) (_q4 : o.add.length ≤ co2) (ao3 : Option Addr) (co3 : Nat) (_q5 : RSl h ao3 o.del) (_q6 : o.del.length ≤ co3) (facts : Int) (hp : pre_operator o facts) : Calls Tryz.prog 37 #[.agg #[.slice ao o.pre.length co, .slice ao2 o.add.length co2, .slice ao3 o.del.length co3, iV o.cost], iV facts] w fun e w' => e = .returned (iV (sp_operator o facts)) ∧ Below w.heap.size w w' :=
 (w_operator hs o ao co _q1 _q2 ao2 co2 _q3 _q4 ao3 co3 _q5 _q6 facts (fun r => r = sp_operator o facts) (ok_operator o facts hp)).mono fun _ _ ⟨_, hk, he, hb⟩ => ⟨by rw [he, hk], hb⟩
set_option maxHeartbeats 8000000 in
theorem w_validate {h : FH} {w : World} (hs : Sub h w) (t : Task) (at_ : Option Addr) (ct : Nat) (_q1 : RSl h at_ t.init) (_q2 : t.init.length ≤ ct) (at_2 : Option Addr) (ct2 : Nat) (_q3 : RSl h at_2 t.goal) (_q4 : t.goal.length ≤ ct2) (at_3 : Option Addr) (ct3 : Nat) (_q5 : RSl h at_3 t.ops) (_q6 : t.ops.length ≤ ct3) (K : Fault → Prop) (hF : F_validate t K) : Calls Tryz.prog 15 #[.agg #[iV t.facts, .slice at_ t.init.length ct, .slice at_2 t.goal.length ct2, .slice at_3 t.ops.length ct3]] w fun e w' => ∃ r : Fault, K r ∧ e = .returned (.agg #[iV r.code, iV r.index]) ∧ Below w.heap.size w w' := by
 refine enter (args := [.agg (tF t at_ ct at_2 ct2 at_3 ct3).toArray]) Tryz.func15 rfl Tryz.ntmps15 rfl hs ?_
 refine .seq (.region ?_)
 refine bx (vs := (tF t at_ ct at_2 ct2 at_3 ct3)) rfl rfl rfl (fun pt => ?_)
 refine al tZ27 rfl (fun pv => ?_)
 refine .nil (.seqN (.seq (.block ?_)))
 refine .share (σ := Bool) (fun z => F_validate_J1 t K z) (fun z => [(1, .pointer (some pt)), (2, .pointer (some pv)), (6, .bool z)]) (fun _ => [Box pt (tF t at_ ct at_2 ct2 at_3 ct3), Box pv [iV 0, iV 0]]) (fun _ => h) ?_ (fun q30 => ?_)
 ·rintro t6 hF
  show J _ _ _ _ _ [(1, .pointer (some pt)), (2, .pointer (some pv)), (6, .bool t6)] [Box pt (tF t at_ ct at_2 ct2 at_3 ct3), Box pv [iV 0, iV 0]] h
  refine .cond rfl (fun q31 => ?_) (fun q31 => ?_)
  ·replace hF := hF.1 q31
   refine .seq (.region (.V (bld (cs := #[iV 3, iV (-1)]) (pv := [(0, iV 3), (1, iV (-1))]) tB27 rfl rfl) ?_))
   refine st (p := pv) (off := 0) (k := 1) (vs := [iV 3, iV (-1)]) rfl rfl rfl (fun w => (tA27 w).2) rfl rfl rfl rfl ?_
   refine .KA [Box pt (tF t at_ ct at_2 ct2 at_3 ct3), Box pv [iV 3, iV (-1)]] ?_
   refine .nil (.seqN (.ret (.blkR (.seqR ?_))))
   refine .res1 rfl (rvC rfl tA27 (k := 1) rfl rfl) (fun w' S => ⟨(⟨3, (-1)⟩ : Fault), hF, rfl, S.below⟩)
  replace hF := hF.2 q31
  refine .seq (.region (.V (fa rfl tF25_1) ?_))
  refine .V (ld1 rfl tO22 (cellB (off := 1) (k := 0) rfl rfl)) ?_
  refine .V (fa rfl tF25_0) ?_
  refine .V (ld1 rfl tO3 (cellB (off := 0) (k := 0) rfl rfl)) ?_
  obtain ⟨q32, hF⟩ := hF
  obtain ⟨r2, q33⟩ : ∃ y_ : Bool, y_ = sp_isSet t.init t.facts := ⟨_, rfl⟩
  replace hF := hF r2 q33
  refine .C (cl (v := .bool r2) Tryz.call36 rfl rfl (fun w S => (by rw [q33]; exact c_isSet S.sub t.init at_ ct _q1 _q2 t.facts q32))) ?_
  refine .V (nt rfl) ?_
  refine .V ag0 ?_
  refine .nil (.seqN ?_)
  refine .cond rfl (fun q34 => ?_) (fun q34 => ?_)
  ·replace hF := hF.1 q34
   refine .seq (.region (.V (bld (cs := #[iV 5, iV (-2)]) (pv := [(0, iV 5), (1, iV (-2))]) tB27 rfl rfl) ?_))
   refine st (p := pv) (off := 0) (k := 1) (vs := [iV 5, iV (-2)]) rfl rfl rfl (fun w => (tA27 w).2) rfl rfl rfl rfl ?_
   refine .KA [Box pt (tF t at_ ct at_2 ct2 at_3 ct3), Box pv [iV 5, iV (-2)]] ?_
   refine .nil (.seqN (.ret (.blkR (.seqR ?_))))
   refine .res1 rfl (rvC rfl tA27 (k := 1) rfl rfl) (fun w' S => ⟨(⟨5, (-2)⟩ : Fault), hF, rfl, S.below⟩)
  replace hF := hF.2 q34
  refine .seq (.region (.V (fa rfl tF25_2) ?_))
  refine .V (ld1 rfl tO22 (cellB (off := 2) (k := 0) rfl rfl)) ?_
  refine .V (fa rfl tF25_0) ?_
  refine .V (ld1 rfl tO3 (cellB (off := 0) (k := 0) rfl rfl)) ?_
  obtain ⟨q35, hF⟩ := hF
  obtain ⟨r3, q36⟩ : ∃ y_ : Bool, y_ = sp_isSet t.goal t.facts := ⟨_, rfl⟩
  replace hF := hF r3 q36
  refine .C (cl (v := .bool r3) Tryz.call36 rfl rfl (fun w S => (by rw [q36]; exact c_isSet S.sub t.goal at_2 ct2 _q3 _q4 t.facts q35))) ?_
  refine .V (nt rfl) ?_
  refine .V ag0 ?_
  refine .nil (.seqN ?_)
  refine .cond rfl (fun q37 => ?_) (fun q37 => ?_)
  ·replace hF := hF.1 q37
   refine .seq (.region (.V (bld (cs := #[iV 5, iV (-3)]) (pv := [(0, iV 5), (1, iV (-3))]) tB27 rfl rfl) ?_))
   refine st (p := pv) (off := 0) (k := 1) (vs := [iV 5, iV (-3)]) rfl rfl rfl (fun w => (tA27 w).2) rfl rfl rfl rfl ?_
   refine .KA [Box pt (tF t at_ ct at_2 ct2 at_3 ct3), Box pv [iV 5, iV (-3)]] ?_
   refine .nil (.seqN (.ret (.blkR (.seqR ?_))))
   refine .res1 rfl (rvC rfl tA27 (k := 1) rfl rfl) (fun w' S => ⟨(⟨5, (-3)⟩ : Fault), hF, rfl, S.below⟩)
  replace hF := hF.2 q37
  refine .seq (.region (.V (fa rfl tF25_3) ?_))
  refine .V (ld1 rfl tO23 (cellB (off := 3) (k := 0) rfl rfl)) ?_
  refine .V (ln rfl tS23.is) ?_
  refine .V bi0 ?_
  refine .V ag0 ?_
  refine .nil (.seqN ?_)
  refine .cond rfl (fun q38 => ?_) (fun q38 => ?_)
  ·replace hF := hF.1 q38
   refine .seq (.region (.V (bld (cs := #[iV 2, iV (-1)]) (pv := [(0, iV 2), (1, iV (-1))]) tB27 rfl rfl) ?_))
   refine st (p := pv) (off := 0) (k := 1) (vs := [iV 2, iV (-1)]) rfl rfl rfl (fun w => (tA27 w).2) rfl rfl rfl rfl ?_
   refine .KA [Box pt (tF t at_ ct at_2 ct2 at_3 ct3), Box pv [iV 2, iV (-1)]] ?_
   refine .nil (.seqN (.ret (.blkR (.seqR ?_))))
   refine .res1 rfl (rvC rfl tA27 (k := 1) rfl rfl) (fun w' S => ⟨(⟨2, (-1)⟩ : Fault), hF, rfl, S.below⟩)
  replace hF := hF.2 q38
  refine .skip (.blkN (.seqN (.seq (.seq (.region (.V (fa rfl tF25_3) ?_))))))
  refine .V (ld1 rfl tO23 (cellB (off := 3) (k := 0) rfl rfl)) ?_
  refine .V (ln rfl tS23.is) ?_
  refine .V mv0 ?_
  refine .nil (.seqN (.block ?_))
  obtain ⟨I1, μ1, q221, q222⟩ := hF
  refine .loop' (σ := Int) (fun z => I1 z) (fun z => μ1 z) (fun z => [(1, .pointer (some pt)), (2, .pointer (some pv)), (39, vSl at_3 t.ops ct3), (40, iV ((t.ops.length : Nat) : Int)), (41, iV z)]) (fun _ => [Box pt (tF t at_ ct at_2 ct2 at_3 ct3), Box pv [iV 0, iV 0]]) (fun _ => h) 0 q221 sb rfl (FH.le_refl _) ?_
  rintro t41 q221
  have hF := q222 t41 q221
  show J _ _ _ _ _ [(1, .pointer (some pt)), (2, .pointer (some pv)), (39, vSl at_3 t.ops ct3), (40, iV ((t.ops.length : Nat) : Int)), (41, iV t41)] [Box pt (tF t at_ ct at_2 ct2 at_3 ct3), Box pv [iV 0, iV 0]] h
  refine .seq (.region (.V bi0 ?_))
  refine .nil (.seqN (.seq ?_))
  refine .cond rfl (fun q225 => ?_) (fun q225 => ?_)
  ·replace hF := hF.1 q225
   refine .skip (.seqN (.seq (.block (.seq (.region (.V mv0 ?_))))))
   obtain ⟨q248, hF⟩ := hF
   refine .V (ix rfl rfl tS23 (_q5.ne (by decide) (inb_pos q248)) q248) ?_
   obtain ⟨_, ⟨a, c, a2, c2, a3, c3, rfl, ⟨q249, q250⟩, ⟨q251, q252⟩, q253, q254⟩, q255⟩ := _q5.elem q248
   refine .V (ldA (cs := [.slice a ((gt t.ops t41).pre.length) c, .slice a2 ((gt t.ops t41).add.length) c2, .slice a3 ((gt t.ops t41).del.length) c3, iV ((gt t.ops t41).cost)]) rfl tA52 rfl (cellsH (q255 (by decide)))) ?_
   refine al tZ52 rfl (fun po => ?_)
   refine .V ag0 ?_
   refine st (p := po) (off := 0) (k := 0) (vs := [.slice a ((gt t.ops t41).pre.length) c, .slice a2 ((gt t.ops t41).add.length) c2, .slice a3 ((gt t.ops t41).del.length) c3, iV ((gt t.ops t41).cost)]) rfl rfl rfl (fun w => (tA52 w).2) rfl rfl rfl rfl ?_
   refine .KA [Box po [.slice a ((gt t.ops t41).pre.length) c, .slice a2 ((gt t.ops t41).add.length) c2, .slice a3 ((gt t.ops t41).del.length) c3, iV ((gt t.ops t41).cost)], Box pt (tF t at_ ct at_2 ct2 at_3 ct3), Box pv [iV 0, iV 0]] ?_
   refine .nil (.seqN (.seq (.region (.V (ldA (cs := [.slice a ((gt t.ops t41).pre.length) c, .slice a2 ((gt t.ops t41).add.length) c2, .slice a3 ((gt t.ops t41).del.length) c3, iV ((gt t.ops t41).cost)]) rfl tA52 rfl (cellsB (off := 0) (k := 0) rfl (m := 4) rfl)) ?_))))
   refine .V (fa rfl tF25_0) ?_
   refine .V (ld1 rfl tO3 (cellB (off := 0) (k := 1) rfl rfl)) ?_
   obtain ⟨q256, hF⟩ := hF
   obtain ⟨r4, q257⟩ : ∃ y_ : Int, y_ = sp_operator (gt t.ops t41) t.facts := ⟨_, rfl⟩
   replace hF := hF r4 q257
   refine .C (cl (v := iV r4) Tryz.call37 rfl rfl (fun w S => (by rw [q257]; exact c_operator S.sub (gt t.ops t41) a c q250 q249 a2 c2 q252 q251 a3 c3 q254 q253 t.facts q256))) ?_
   refine .V ag0 ?_
   refine .nil (.seqN (.seq (.region (.V mv0 ?_))))
   refine .V bi0 ?_
   refine .nil (.seqN ?_)
   refine .cond rfl (fun q258 => ?_) (fun q258 => ?_)
   ·replace hF := hF.1 q258
    refine .seq (.region (.V mv0 ?_))
    refine .V mv0 ?_
    refine .V (bld (cs := #[iV r4, iV t41]) (pv := [(0, iV r4), (1, iV t41)]) tB27 rfl rfl) ?_
    refine st (p := pv) (off := 0) (k := 2) (vs := [iV r4, iV t41]) rfl rfl rfl (fun w => (tA27 w).2) rfl rfl rfl rfl ?_
    refine .KA [Box po [.slice a ((gt t.ops t41).pre.length) c, .slice a2 ((gt t.ops t41).add.length) c2, .slice a3 ((gt t.ops t41).del.length) c3, iV ((gt t.ops t41).cost)], Box pt (tF t at_ ct at_2 ct2 at_3 ct3), Box pv [iV r4, iV t41]] ?_
    refine .nil (.seqN (.ret (.blkR (.seqR (.seqR (.blkR (.seqR ?_)))))))
    refine .res1 rfl (rvC rfl tA27 (k := 2) rfl rfl) (fun w' S => ⟨(⟨r4, t41⟩ : Fault), hF, rfl, S.below⟩)
   replace hF := hF.2 q258
   refine .skip (.blkN (.seqN (.region (.V bi0 ?_))))
   refine .V mv0 ?_
   refine .nil ?_
   refine .sel0 [1, 2] (by decide) rfl ?_
   exact .RO (wr (t41 + 1)) hF.1 hF.2
  replace hF := hF.2 q225
  refine .exit (.seqX (.seqX (.blkX (.seqN (.seq (.region (.V (bld (cs := #[iV 0, iV 0]) (pv := []) tB27 rfl rfl) ?_)))))))
  refine st (p := pv) (off := 0) (k := 1) (vs := [iV 0, iV 0]) rfl rfl rfl (fun w => (tA27 w).2) rfl rfl rfl rfl ?_
  refine .KA [Box pt (tF t at_ ct at_2 ct2 at_3 ct3), Box pv [iV 0, iV 0]] ?_
  refine .nil (.seqN (.ret ?_))
  refine .res1 rfl (rvC rfl tA27 (k := 1) rfl rfl) (fun w' S => ⟨(⟨0, 0⟩ : Fault), hF, rfl, S.below⟩)
 refine .region (.V (fa rfl tF25_0) ?_)
 refine .V (ld1 rfl tO3 (cellB (off := 0) (k := 1) rfl rfl)) ?_
 refine .V bi0 ?_
 refine .V mv0 ?_
 rcases Bool.eq_false_or_eq_true (decide (t.facts < 0)) with q259 | q259
 ·replace hF := hF.1 q259
  refine .GS q259 ?_
  refine .GS q259 ?_
  refine .GS q259 ?_
  refine .V (pkT rfl q259 rfl) ?_
  refine .V ag0 ?_
  refine .nil ?_
  refine .sel0 [1, 0] (by decide) rfl ?_
  exact .US q30 true hF
 replace hF := hF.2 q259
 refine .GV (fa rfl tF25_0) q259 ?_
 refine .GV (ld1 rfl tO3 (cellB (off := 0) (k := 1) rfl rfl)) q259 ?_
 refine .GV bi0 q259 ?_
 refine .V (pkF rfl q259 rfl) ?_
 refine .V ag0 ?_
 refine .nil ?_
 refine .sel0 [1, 0] (by decide) rfl ?_
 exact .US q30 (decide (24 < t.facts)) hF
theorem c_validate {h : FH} {w : World} (hs : Sub h w) (t : Task) (at_ : Option Addr) (ct : Nat) (_q1 : RSl h at_ t.init) (_q2 : t.init.length ≤ ct) (at_2 : Option Addr) (ct2 : Nat) (_q3 : RSl h at_2 t.goal) (_q4 : t.goal.length ≤ ct2) (at_3 : Option Addr) (ct3 : Nat) (_q5 : RSl h at_3 t.ops) (_q6 : t.ops.length ≤ ct3) : Calls Tryz.prog 15 #[.agg #[iV t.facts, .slice at_ t.init.length ct, .slice at_2 t.goal.length ct2, .slice at_3 t.ops.length ct3]] w fun e w' => e = .returned (.agg #[iV (sp_validate t).code, iV (sp_validate t).index]) ∧ Below w.heap.size w w' :=
 (w_validate hs t at_ ct _q1 _q2 at_2 ct2 _q3 _q4 at_3 ct3 _q5 _q6 (fun r => r = sp_validate t) (ok_validate t)).mono fun _ _ ⟨_, hk, he, hb⟩ => ⟨by rw [he, hk], hb⟩
theorem w_steps {h : FH} {w : World} (hs : Sub h w) (operators : Int) (plan : List Int) (aplan : Option Addr) (cplan : Nat) (_q1 : RSl h aplan plan) (_q2 : plan.length ≤ cplan) (K : Fault → Prop) (hF : F_steps operators plan K) : Calls Tryz.prog 74 #[iV operators, .slice aplan plan.length cplan] w fun e w' => ∃ r : Fault, K r ∧ e = .returned (.agg #[iV r.code, iV r.index]) ∧ Below w.heap.size w w' := by
 refine enter (args := [iV operators, vSl aplan plan cplan]) Tryz.func74 rfl Tryz.ntmps74 rfl hs ?_
 refine .seq (.region ?_)
 refine al tZ27 rfl (fun pv => ?_)
 refine .nil (.seqN (.seq (.seq (.region (.V mv0 ?_)))))
 refine .V (ln rfl tS22.is) ?_
 refine .V bi0 ?_
 refine .nil (.seqN ?_)
 refine .cond rfl (fun q4 => ?_) (fun q4 => ?_)
 ·replace hF := hF.1 q4
  refine .seq (.region (.V (bld (cs := #[iV 2, iV (-5)]) (pv := [(0, iV 2), (1, iV (-5))]) tB27 rfl rfl) ?_))
  refine st (p := pv) (off := 0) (k := 0) (vs := [iV 2, iV (-5)]) rfl rfl rfl (fun w => (tA27 w).2) rfl rfl rfl rfl ?_
  refine .KA [Box pv [iV 2, iV (-5)]] ?_
  refine .nil (.seqN (.ret (.seqR ?_)))
  refine .res1 rfl (rvC rfl tA27 (k := 0) rfl rfl) (fun w' S => ⟨(⟨2, (-5)⟩ : Fault), hF, rfl, S.below⟩)
 replace hF := hF.2 q4
 refine .skip (.seqN (.seq (.seq (.region (.V mv0 ?_)))))
 refine .V (ln rfl tS22.is) ?_
 refine .V mv0 ?_
 refine .nil (.seqN (.block ?_))
 obtain ⟨I1, μ1, q97, q98⟩ := hF
 refine .loop' (σ := Int) (fun z => I1 z) (fun z => μ1 z) (fun z => [(0, iV operators), (4, .pointer (some pv)), (11, vSl aplan plan cplan), (12, iV ((plan.length : Nat) : Int)), (13, iV z)]) (fun _ => [Box pv [iV 0, iV 0]]) (fun _ => h) 0 q97 sb rfl (FH.le_refl _) ?_
 rintro t13 q97
 have hF := q98 t13 q97
 show J _ _ _ _ _ [(0, iV operators), (4, .pointer (some pv)), (11, vSl aplan plan cplan), (12, iV ((plan.length : Nat) : Int)), (13, iV t13)] [Box pv [iV 0, iV 0]] h
 refine .seq (.region (.V bi0 ?_))
 refine .nil (.seqN (.seq ?_))
 refine .cond rfl (fun q101 => ?_) (fun q101 => ?_)
 ·replace hF := hF.1 q101
  refine .skip (.seqN (.seq (.block (.seq (.region ?_)))))
  obtain ⟨q112, hF⟩ := hF
  refine .V (ix rfl rfl tS22 (_q1.ne (by decide) (inb_pos q112)) q112) ?_
  refine .V (ld1 (v := iV (gt plan t13)) rfl tO3 (cellH (_q1.elemF q112 (by decide) 0 _ rfl))) ?_
  refine .V ag0 ?_
  refine .nil (.seqN ?_)
  refine .share (σ := Bool) (fun z => F_steps_J1 K z t13 I1 μ1) (fun z => [(0, iV operators), (4, .pointer (some pv)), (11, vSl aplan plan cplan), (12, iV ((plan.length : Nat) : Int)), (13, iV t13), (23, .bool z)]) (fun _ => [Box pv [iV 0, iV 0]]) (fun _ => h) ?_ (fun q114 => ?_)
  ·rintro t23 hF
   show J _ _ _ _ _ [(0, iV operators), (4, .pointer (some pv)), (11, vSl aplan plan cplan), (12, iV ((plan.length : Nat) : Int)), (13, iV t13), (23, .bool t23)] [Box pv [iV 0, iV 0]] h
   refine .cond rfl (fun q115 => ?_) (fun q115 => ?_)
   ·replace hF := hF.1 q115
    refine .seq (.region (.V (bld (cs := #[iV 3, iV (-6)]) (pv := [(0, iV 3), (1, iV (-6))]) tB27 rfl rfl) ?_))
    refine st (p := pv) (off := 0) (k := 0) (vs := [iV 3, iV (-6)]) rfl rfl rfl (fun w => (tA27 w).2) rfl rfl rfl rfl ?_
    refine .KA [Box pv [iV 3, iV (-6)]] ?_
    refine .nil (.seqN (.ret (.blkR (.seqR (.seqR (.blkR (.seqR ?_)))))))
    refine .res1 rfl (rvC rfl tA27 (k := 0) rfl rfl) (fun w' S => ⟨(⟨3, (-6)⟩ : Fault), hF, rfl, S.below⟩)
   replace hF := hF.2 q115
   refine .skip (.blkN (.seqN (.region (.V bi0 ?_))))
   refine .V mv0 ?_
   refine .nil ?_
   exact .RO (wr (t13 + 1)) hF.1 hF.2
  refine .region (.V mv0 ?_)
  refine .V bi0 ?_
  refine .V mv0 ?_
  rcases Bool.eq_false_or_eq_true (decide ((gt plan t13) < 0)) with q116 | q116
  ·replace hF := hF.1 q116
   refine .GS q116 ?_
   refine .GS q116 ?_
   refine .GS q116 ?_
   refine .V (pkT rfl q116 rfl) ?_
   refine .nil ?_
   exact .US q114 true hF
  replace hF := hF.2 q116
  refine .GV mv0 q116 ?_
  refine .GV mv0 q116 ?_
  refine .GV bi0 q116 ?_
  refine .V (pkF rfl q116 rfl) ?_
  refine .nil ?_
  exact .US q114 (decide (operators ≤ (gt plan t13))) hF
 replace hF := hF.2 q101
 refine .exit (.seqX (.seqX (.blkX (.seqN (.seq (.region (.V (bld (cs := #[iV 0, iV 0]) (pv := []) tB27 rfl rfl) ?_)))))))
 refine st (p := pv) (off := 0) (k := 0) (vs := [iV 0, iV 0]) rfl rfl rfl (fun w => (tA27 w).2) rfl rfl rfl rfl ?_
 refine .KA [Box pv [iV 0, iV 0]] ?_
 refine .nil (.seqN (.ret ?_))
 refine .res1 rfl (rvC rfl tA27 (k := 0) rfl rfl) (fun w' S => ⟨(⟨0, 0⟩ : Fault), hF, rfl, S.below⟩)
theorem c_steps {h : FH} {w : World} (hs : Sub h w) (operators : Int) (plan : List Int) (aplan : Option Addr) (cplan : Nat) (_q1 : RSl h aplan plan) (_q2 : plan.length ≤ cplan) (hp : pre_steps operators plan) : Calls Tryz.prog 74 #[iV operators, .slice aplan plan.length cplan] w fun e w' => e = .returned (.agg #[iV (sp_steps operators plan).code, iV (sp_steps operators plan).index]) ∧ Below w.heap.size w w' :=
 (w_steps hs operators plan aplan cplan _q1 _q2 (fun r => r = sp_steps operators plan) (ok_steps operators plan hp)).mono fun _ _ ⟨_, hk, he, hb⟩ => ⟨by rw [he, hk], hb⟩
theorem w_planFault {h : FH} {w : World} (hs : Sub h w) (t : Task) (at_ : Option Addr) (ct : Nat) (_q1 : RSl h at_ t.init) (_q2 : t.init.length ≤ ct) (at_2 : Option Addr) (ct2 : Nat) (_q3 : RSl h at_2 t.goal) (_q4 : t.goal.length ≤ ct2) (at_3 : Option Addr) (ct3 : Nat) (_q5 : RSl h at_3 t.ops) (_q6 : t.ops.length ≤ ct3) (plan : List Int) (aplan : Option Addr) (cplan : Nat) (_q7 : RSl h aplan plan) (_q8 : plan.length ≤ cplan) (K : Fault → Prop) (hF : F_planFault t plan K) : Calls Tryz.prog 38 #[.agg #[iV t.facts, .slice at_ t.init.length ct, .slice at_2 t.goal.length ct2, .slice at_3 t.ops.length ct3], .slice aplan plan.length cplan] w fun e w' => ∃ r : Fault, K r ∧ e = .returned (.agg #[iV r.code, iV r.index]) ∧ Below w.heap.size w w' := by
 refine enter (args := [.agg (tF t at_ ct at_2 ct2 at_3 ct3).toArray, vSl aplan plan cplan]) Tryz.func38 rfl Tryz.ntmps38 rfl hs ?_
 refine .seq (.region ?_)
 refine bx (vs := (tF t at_ ct at_2 ct2 at_3 ct3)) rfl rfl rfl (fun pt => ?_)
 refine al tZ27 rfl (fun pv => ?_)
 refine .nil (.seqN (.seq (.seq (.region (.V (ldA (cs := (tF t at_ ct at_2 ct2 at_3 ct3)) rfl tA25 rfl (cellsB (off := 0) (k := 1) rfl (m := 4) rfl)) ?_)))))
 obtain ⟨r2, q9⟩ : ∃ y_ : Fault, y_ = sp_validate t := ⟨_, rfl⟩
 replace hF := hF r2 q9
 refine .C (cl (v := .agg #[iV r2.code, iV r2.index]) Tryz.call15 rfl rfl (fun w S => (by rw [q9]; exact c_validate S.sub t at_ ct _q1 _q2 at_2 ct2 _q3 _q4 at_3 ct3 _q5 _q6 ))) ?_
 refine al tZ27 rfl (fun pf => ?_)
 refine st (p := pf) (off := 0) (k := 0) (vs := [iV r2.code, iV r2.index]) rfl rfl rfl (fun w => (tA27 w).2) rfl rfl rfl rfl ?_
 refine .KA [Box pf [iV r2.code, iV r2.index], Box pv [iV 0, iV 0], Box pt (tF t at_ ct at_2 ct2 at_3 ct3)] ?_
 refine .nil (.seqN (.seq (.region (.V (ldA (cs := [iV r2.code, iV r2.index]) rfl tA27 rfl (cellsB (off := 0) (k := 0) rfl (m := 2) rfl)) ?_))))
 refine .V (bld (cs := #[iV 0, iV 0]) (pv := []) tB27 rfl rfl) ?_
 refine .V (ne2 tE27 rfl rfl) ?_
 refine .nil (.seqN ?_)
 refine .cond rfl (fun q11 => ?_) (fun q11 => ?_)
 ·replace hF := hF.1 q11
  refine .seq (.region (.V (ldA (cs := [iV r2.code, iV r2.index]) rfl tA27 rfl (cellsB (off := 0) (k := 0) rfl (m := 2) rfl)) ?_))
  refine st (p := pv) (off := 0) (k := 1) (vs := [iV r2.code, iV r2.index]) rfl rfl rfl (fun w => (tA27 w).2) rfl rfl rfl rfl ?_
  refine .KA [Box pf [iV r2.code, iV r2.index], Box pv [iV r2.code, iV r2.index], Box pt (tF t at_ ct at_2 ct2 at_3 ct3)] ?_
  refine .nil (.seqN (.ret (.seqR ?_)))
  refine .res1 rfl (rvC rfl tA27 (k := 1) rfl rfl) (fun w' S => ⟨r2, hF, rfl, S.below⟩)
 replace hF := hF.2 q11
 refine .skip (.seqN (.seq (.region (.V (fa rfl tF25_3) ?_))))
 refine .V (ld1 rfl tO23 (cellB (off := 3) (k := 2) rfl rfl)) ?_
 refine .V (ln rfl tS23.is) ?_
 refine .V mv0 ?_
 obtain ⟨q12, hF⟩ := hF
 obtain ⟨r3, q13⟩ : ∃ y_ : Fault, y_ = sp_steps ((t.ops.length : Nat) : Int) plan := ⟨_, rfl⟩
 replace hF := hF r3 q13
 refine .C (cl (v := .agg #[iV r3.code, iV r3.index]) Tryz.call74 rfl rfl (fun w S => (by rw [q13]; exact c_steps S.sub ((t.ops.length : Nat) : Int) plan aplan cplan _q7 _q8 q12))) ?_
 refine st (p := pv) (off := 0) (k := 1) (vs := [iV r3.code, iV r3.index]) rfl rfl rfl (fun w => (tA27 w).2) rfl rfl rfl rfl ?_
 refine .KA [Box pf [iV r2.code, iV r2.index], Box pv [iV r3.code, iV r3.index], Box pt (tF t at_ ct at_2 ct2 at_3 ct3)] ?_
 refine .nil (.seqN (.ret ?_))
 refine .res1 rfl (rvC rfl tA27 (k := 1) rfl rfl) (fun w' S => ⟨r3, hF, rfl, S.below⟩)
theorem c_planFault {h : FH} {w : World} (hs : Sub h w) (t : Task) (at_ : Option Addr) (ct : Nat) (_q1 : RSl h at_ t.init) (_q2 : t.init.length ≤ ct) (at_2 : Option Addr) (ct2 : Nat) (_q3 : RSl h at_2 t.goal) (_q4 : t.goal.length ≤ ct2) (at_3 : Option Addr) (ct3 : Nat) (_q5 : RSl h at_3 t.ops) (_q6 : t.ops.length ≤ ct3) (plan : List Int) (aplan : Option Addr) (cplan : Nat) (_q7 : RSl h aplan plan) (_q8 : plan.length ≤ cplan) : Calls Tryz.prog 38 #[.agg #[iV t.facts, .slice at_ t.init.length ct, .slice at_2 t.goal.length ct2, .slice at_3 t.ops.length ct3], .slice aplan plan.length cplan] w fun e w' => e = .returned (.agg #[iV (sp_planFault t plan).code, iV (sp_planFault t plan).index]) ∧ Below w.heap.size w w' :=
 (w_planFault hs t at_ ct _q1 _q2 at_2 ct2 _q3 _q4 at_3 ct3 _q5 _q6 plan aplan cplan _q7 _q8 (fun r => r = sp_planFault t plan) (ok_planFault t plan)).mono fun _ _ ⟨_, hk, he, hb⟩ => ⟨by rw [he, hk], hb⟩
theorem w_clone {h : FH} {w : World} (hs : Sub h w) (s_ : List Int) (as_ : Option Addr) (cs_ : Nat) (_q1 : RSl h as_ s_) (_q2 : s_.length ≤ cs_) (K : (List Int) → Prop) (hF : F_clone s_ K) : Calls Tryz.prog 26 #[.slice as_ s_.length cs_] w fun e w' => ∃ (r : List Int) (z : Option Addr × Nat) (h1 : FH), K r ∧ e = .returned (.slice z.1 r.length z.2) ∧ FH.le h h1 ∧ (RSl h1 z.1 r ∧ r.length ≤ z.2) ∧ SH (Kp.all w h) h1 w' [] := by
 refine enter (args := [vSl as_ s_ cs_]) Tryz.func26 rfl Tryz.ntmps26 rfl hs ?_
 refine .seq (.region (.V ag0 ?_))
 refine .nil (.seqN (.seq (.seq (.region (.V mv0 ?_)))))
 refine .V (eqnil tS22.is rfl rfl) ?_
 refine .nil (.seqN ?_)
 refine .cond rfl (fun q4 => ?_) (fun _ => ?_)
 ·replace hF := hF.1 (RSl.nil_of _q1 (by decide) q4)
  refine .seq (.region (.V ag0 ?_))
  refine .nil (.seqN (.ret (.seqR ?_)))
  refine .res1 rfl (rvT rfl) (fun w' S => ⟨([] : List Int), (none, 0), h, hF, rfl, (FH.le_refl _), ⟨RSl.nil_, (Nat.le_refl 0)⟩, S.none⟩)
 replace hF := hF.2
 refine .skip (.seqN (.seq (.region ?_)))
 refine bs2 (cs := #[]) (pv := []) tS22 rfl rfl (by decide) (by decide) rfl rfl rfl (fun a _ => ?_)
 refine .KA [oL 3 1 a ([] : List Int) 0] ?_
 refine .V mv0 ?_
 obtain ⟨q6, hF⟩ := hF
 have q7 : ([] : List Int).length + s_.length = ((([] : List Int) ++ s_)).length := len_app rfl rfl
 refine app (k := 0) (news := flL s_) (cs' := flL (([] : List Int) ++ s_)) (nm := ((([] : List Int) ++ s_)).length) tS22 rfl (by decide) rfl rfl rfl ((flL_len _).trans rfl) (srcH (fun q => _q1.ne (by decide) q) (_q1.raw)) (flL_one _) (room_of q7 q6).1 (room_of q7 q6).2 q7 (flL_append _ _).symm rfl (fun a2 c => ?_)
 refine .KA [oL 3 1 a2 (([] : List Int) ++ s_) c] ?_
 refine .V ag0 ?_
 refine .nil (.seqN ?_)
 refine .freezeL (k := 0) rfl (fun h1 le1 q9 q8 => ?_)
 refine .KA [tru] ?_
 refine .ret ?_
 refine .res1 rfl (rvT rfl) (fun w' S => ⟨(([] : List Int) ++ s_), (a2, c), h1, hF, rfl, (le1), ⟨(RSl.of q8), (q9)⟩, S.none⟩)
theorem c_clone {h : FH} {w : World} (hs : Sub h w) (s_ : List Int) (as_ : Option Addr) (cs_ : Nat) (_q1 : RSl h as_ s_) (_q2 : s_.length ≤ cs_) (hp : pre_clone s_) : Calls Tryz.prog 26 #[.slice as_ s_.length cs_] w fun e w' => ∃ (z : Option Addr × Nat) (h1 : FH), e = .returned (.slice z.1 (sp_clone s_).length z.2) ∧ FH.le h h1 ∧ (RSl h1 z.1 (sp_clone s_) ∧ (sp_clone s_).length ≤ z.2) ∧ SH (Kp.all w h) h1 w' [] :=
 (w_clone hs s_ as_ cs_ _q1 _q2 (fun r => r = sp_clone s_) (ok_clone s_ hp)).mono fun _ _ ⟨r, z, h1, hk, he, hl, hf, hS⟩ => by subst hk; exact ⟨z, h1, he, hl, hf, hS⟩
theorem w_cloneO {h : FH} {w : World} (hs : Sub h w) (s_ : List Int) (as_ : Option Addr) (cs_ : Nat) (_q1 : RSl h as_ s_) (_q2 : s_.length ≤ cs_) (K : (List Int) → Prop) (hF : F_cloneO s_ K) : Calls Tryz.prog 26 #[.slice as_ s_.length cs_] w fun e w' => ∃ (r : List Int) (z : Option Addr × Nat) (h1 : FH), K r ∧ e = .returned (.slice z.1 r.length z.2) ∧ FH.le h h1 ∧ True ∧ SH (Kp.all w h) h1 w' [OwnSl 3 1 z.1 r.length z.2 (flL r)] := by
 refine enter (args := [vSl as_ s_ cs_]) Tryz.func26 rfl Tryz.ntmps26 rfl hs ?_
 refine .seq (.region (.V ag0 ?_))
 refine .nil (.seqN (.seq (.seq (.region (.V mv0 ?_)))))
 refine .V (eqnil tS22.is rfl rfl) ?_
 refine .nil (.seqN ?_)
 refine .cond rfl (fun q4 => ?_) (fun _ => ?_)
 ·replace hF := hF.1 (RSl.nil_of _q1 (by decide) q4)
  refine .seq (.region (.V ag0 ?_))
  refine .nil (.seqN ?_)
  refine .nilSl 3 1 ?_
  refine .KA [oL 3 1 none ([] : List Int) 0] ?_
  refine .ret (.seqR ?_)
  refine .res1 rfl (rvT rfl) (fun w' S => ⟨([] : List Int), (none, 0), h, hF, rfl, (FH.le_refl _), trivial, S.pick (k := 0) rfl⟩)
 replace hF := hF.2
 refine .skip (.seqN (.seq (.region ?_)))
 refine bs2 (cs := #[]) (pv := []) tS22 rfl rfl (by decide) (by decide) rfl rfl rfl (fun a _ => ?_)
 refine .KA [oL 3 1 a ([] : List Int) 0] ?_
 refine .V mv0 ?_
 obtain ⟨q6, hF⟩ := hF
 have q7 : ([] : List Int).length + s_.length = ((([] : List Int) ++ s_)).length := len_app rfl rfl
 refine app (k := 0) (news := flL s_) (cs' := flL (([] : List Int) ++ s_)) (nm := ((([] : List Int) ++ s_)).length) tS22 rfl (by decide) rfl rfl rfl ((flL_len _).trans rfl) (srcH (fun q => _q1.ne (by decide) q) (_q1.raw)) (flL_one _) (room_of q7 q6).1 (room_of q7 q6).2 q7 (flL_append _ _).symm rfl (fun a2 c => ?_)
 refine .KA [oL 3 1 a2 (([] : List Int) ++ s_) c] ?_
 refine .V ag0 ?_
 refine .nil (.seqN (.ret ?_))
 refine .res1 rfl (rvT rfl) (fun w' S => ⟨(([] : List Int) ++ s_), (a2, c), h, hF, rfl, (FH.le_refl _), trivial, S.pick (k := 0) rfl⟩)
theorem c_cloneO {h : FH} {w : World} (hs : Sub h w) (s_ : List Int) (as_ : Option Addr) (cs_ : Nat) (_q1 : RSl h as_ s_) (_q2 : s_.length ≤ cs_) (hp : pre_clone s_) : Calls Tryz.prog 26 #[.slice as_ s_.length cs_] w fun e w' => ∃ (z : Option Addr × Nat) (h0 h1 : FH), e = .returned (.slice z.1 (sp_clone s_).length z.2) ∧ (True) ∧ FH.le h h1 ∧ SH (Kp.all w h0) h1 w' [OwnSl 3 1 z.1 (sp_clone s_).length z.2 (flL (sp_clone s_))] :=
 (w_cloneO hs s_ as_ cs_ _q1 _q2 (fun r => r = sp_clone s_) (ok_cloneO s_ hp)).mono fun _ _ ⟨r, z, h1, hk, he, hl, hψ, hS⟩ => by subst hk; exact ⟨z, h, h1, he, hψ, hl, hS⟩
theorem w_update {h : FH} {w : World} (hs : Sub h w) (s_ : List Int) (as_ : Option Addr) (cs_ : Nat) (_q1 : RSl h as_ s_) (_q2 : s_.length ≤ cs_) (add : List Int) (aadd : Option Addr) (cadd : Nat) (_q3 : RSl h aadd add) (_q4 : add.length ≤ cadd) (del : List Int) (adel : Option Addr) (cdel : Nat) (_q5 : RSl h adel del) (_q6 : del.length ≤ cdel) (K : (List Int) → Prop) (hF : F_update s_ add del K) : Calls Tryz.prog 92 #[.slice as_ s_.length cs_, .slice aadd add.length cadd, .slice adel del.length cdel] w fun e w' => ∃ (r : List Int) (z : Option Addr × Nat) (h1 : FH), K r ∧ e = .returned (.slice z.1 r.length z.2) ∧ FH.le h h1 ∧ True ∧ SH (Kp.all w h) h1 w' [OwnSl 3 1 z.1 r.length z.2 (flL r)] := by
 refine enter (args := [vSl as_ s_ cs_, vSl aadd add cadd, vSl adel del cdel]) Tryz.func92 rfl Tryz.ntmps92 rfl hs ?_
 refine .seq (.region (.V ag0 ?_))
 refine .nil (.seqN (.seq (.region (.V ag0 ?_))))
 refine .nil (.seqN (.seq (.seq (.region (.V mv0 ?_)))))
 refine .V (ln rfl tS22.is) ?_
 refine .V mv0 ?_
 refine .nil (.seqN (.block ?_))
 refine .nilSl 3 1 ?_
 refine .KA [oL 3 1 none ([] : List Int) 0] ?_
 obtain ⟨I1, μ1, q99, q100⟩ := hF
 refine .loop' (σ := Int × List Int × Option Addr × Nat) (fun z => I1 z.1 z.2.1) (fun z => μ1 z.1 z.2.1) (fun z => [(1, vSl aadd add cadd), (2, vSl adel del cdel), (7, vSl z.2.2.1 z.2.1 z.2.2.2), (12, vSl as_ s_ cs_), (13, iV ((s_.length : Nat) : Int)), (14, iV z.1)]) (fun z => [oL 3 1 z.2.2.1 z.2.1 z.2.2.2]) (fun _ => h) (0, ([] : List Int), none, 0) q99 sb rfl (FH.le_refl _) ?_
 rintro ⟨t14, out, aout, cout⟩ q99
 have hF := q100 t14 out q99
 show J _ _ _ _ _ [(1, vSl aadd add cadd), (2, vSl adel del cdel), (7, vSl aout out cout), (12, vSl as_ s_ cs_), (13, iV ((s_.length : Nat) : Int)), (14, iV t14)] [oL 3 1 aout out cout] h
 refine .seq (.region (.V bi0 ?_))
 refine .nil (.seqN (.seq ?_))
 refine .cond rfl (fun q103 => ?_) (fun q103 => ?_)
 ·replace hF := hF.1 q103
  refine .skip (.seqN ?_)
  refine .share (σ := List Int × Option Addr × Nat) (fun z => F_update_J1 out t14 I1 μ1 z.1) (fun z => [(1, vSl aadd add cadd), (2, vSl adel del cdel), (7, vSl z.2.1 z.1 z.2.2), (12, vSl as_ s_ cs_), (13, iV ((s_.length : Nat) : Int)), (14, iV t14)]) (fun z => [oL 3 1 z.2.1 z.1 z.2.2]) (fun _ => h) ?_ (fun q111 => ?_)
  ·rintro ⟨out3, aout3, cout3⟩ hF
   show J _ _ _ _ _ [(1, vSl aadd add cadd), (2, vSl adel del cdel), (7, vSl aout3 out3 cout3), (12, vSl as_ s_ cs_), (13, iV ((s_.length : Nat) : Int)), (14, iV t14)] [oL 3 1 aout3 out3 cout3] h
   refine .region (.V bi0 ?_)
   refine .V mv0 ?_
   refine .nil ?_
   exact .RO (wr (t14 + 1), out3, aout3, cout3) hF.1 hF.2
  refine .block (.seq (.region ?_))
  obtain ⟨q112, hF⟩ := hF
  refine .V (ix rfl rfl tS22 (_q1.ne (by decide) (inb_pos q112)) q112) ?_
  refine .V (ld1 (v := iV (gt s_ t14)) rfl tO3 (cellH (_q1.elemF q112 (by decide) 0 _ rfl))) ?_
  refine .V ag0 ?_
  refine .nil (.seqN (.seq (.region (.V mv0 ?_))))
  refine .V mv0 ?_
  obtain ⟨q113, hF⟩ := hF
  obtain ⟨r2, q114⟩ : ∃ y_ : Int × Bool, y_ = sp_bsearch del (gt s_ t14) := ⟨_, rfl⟩
  replace hF := hF r2 q114
  refine .C (cl (v := .tuple #[iV r2.1, .bool r2.2]) Tryz.call105 rfl rfl (fun w S => (by rw [q114]; exact c_bsearch S.sub del adel cdel _q5 _q6 (gt s_ t14) q113))) ?_
  refine .V mv0 ?_
  refine .V (ext rfl rfl) ?_
  refine .V (ext rfl rfl) ?_
  refine .V ag0 ?_
  refine .V ag0 ?_
  refine .nil (.seqN (.seq (.region (.V mv0 ?_))))
  refine .V (nt rfl) ?_
  refine .nil (.seqN ?_)
  refine .cond rfl (fun q115 => ?_) (fun q115 => ?_)
  ·replace hF := hF.1 q115
   refine .region (.V mv0 ?_)
   refine .V mv0 ?_
   refine bs2 (cs := #[iV (gt s_ t14)]) (pv := [(0, iV (gt s_ t14))]) tS22 rfl rfl (by decide) (by decide) rfl rfl rfl (fun a _ => ?_)
   refine .KA [oL 3 1 a ([(gt s_ t14)] : List Int) 1, oL 3 1 aout out cout] ?_
   obtain ⟨q117, hF⟩ := hF
   have q118 : out.length + ([(gt s_ t14)] : List Int).length = ((out ++ ([(gt s_ t14)] : List Int))).length := len_app rfl rfl
   refine app (k := 1) (news := flL ([(gt s_ t14)] : List Int)) (cs' := flL (out ++ ([(gt s_ t14)] : List Int))) (nm := ((out ++ ([(gt s_ t14)] : List Int))).length) tS22 rfl (by decide) rfl rfl rfl ((flL_len _).trans rfl) (srcS (k := 0) rfl) (flL_one _) (room_of q118 q117).1 (room_of q118 q117).2 q118 (flL_append _ _).symm rfl (fun a2 c => ?_)
   refine .KA [oL 3 1 a ([(gt s_ t14)] : List Int) 1, oL 3 1 a2 (out ++ ([(gt s_ t14)] : List Int)) c] ?_
   refine .V ag0 ?_
   refine .nil (.blkN ?_)
   refine .sel0 [1] (by decide) rfl ?_
   exact .US q111 ((out ++ ([(gt s_ t14)] : List Int)), a2, c) hF
  replace hF := hF.2 q115
  refine .skip (.blkN ?_)
  exact .US q111 (out, aout, cout) hF
 replace hF := hF.2 q103
 refine .exit (.seqX (.seqX (.blkX (.seqN (.seq (.region (.V mv0 ?_)))))))
 refine .V mv0 ?_
 obtain ⟨q119, hF⟩ := hF
 have q120 : out.length + add.length = ((out ++ add)).length := len_app rfl rfl
 refine app (k := 0) (news := flL add) (cs' := flL (out ++ add)) (nm := ((out ++ add)).length) tS22 rfl (by decide) rfl rfl rfl ((flL_len _).trans rfl) (srcH (fun q => _q3.ne (by decide) q) (_q3.raw)) (flL_one _) (room_of q120 q119).1 (room_of q120 q119).2 q120 (flL_append _ _).symm rfl (fun a3 c2 => ?_)
 refine .KA [oL 3 1 a3 (out ++ add) c2] ?_
 refine .V ag0 ?_
 refine .nil (.seqN (.seq (.region (.V mv0 ?_))))
 obtain ⟨q121, hF⟩ := hF
 obtain ⟨r3, q122⟩ : ∃ y_ : List Int, y_ = sp_sort (out ++ add) := ⟨_, rfl⟩
 replace hF := hF r3 q122
 refine callX (k := 0) (v := .tuple #[]) (X' := OwnSl 3 1 a3 ((out ++ add).length) c2 (flL r3)) rfl Tryz.call62 rfl rfl (fun w g hx sg hd hs' => ?_) rfl ?_
 ·rw [q122]; exact c_sort hs' (out ++ add) a3 c2 hx sg hd q121
 have q123 : r3.length = (out ++ add).length := by rw [q122]; exact (sort_len (out ++ add)).trans rfl
 refine .KA [OwnSl 3 1 a3 ((out ++ add).length) c2 (flL r3)] ?_
 refine .nil (.seqN (.seq (.region (.V mv0 ?_))))
 obtain ⟨q124, hF⟩ := hF
 obtain ⟨r4, q125⟩ : ∃ y_ : List Int, y_ = sp_compact r3 := ⟨_, rfl⟩
 replace hF := hF r4 q125
 refine callX (k := 0) (v := vSl a3 r4 c2) (X' := oL 3 1 a3 r4 c2) rfl Tryz.call118 rfl rfl (fun w g hx sg hd hs' => ?_) rfl ?_
 ·rw [q125]; have hc_ := c_compact hs' r3 a3 c2 (own_n (q123).symm hx) sg hd q124; rw [q123] at hc_; exact hc_
 refine .KA [oL 3 1 a3 r4 c2] ?_
 refine .V ag0 ?_
 refine .nil (.seqN (.ret ?_))
 refine .res1 rfl (rvT rfl) (fun w' S => ⟨r4, (a3, c2), h, hF, rfl, (FH.le_refl _), trivial, S.pick (k := 0) rfl⟩)
theorem c_update {h : FH} {w : World} (hs : Sub h w) (s_ : List Int) (as_ : Option Addr) (cs_ : Nat) (_q1 : RSl h as_ s_) (_q2 : s_.length ≤ cs_) (add : List Int) (aadd : Option Addr) (cadd : Nat) (_q3 : RSl h aadd add) (_q4 : add.length ≤ cadd) (del : List Int) (adel : Option Addr) (cdel : Nat) (_q5 : RSl h adel del) (_q6 : del.length ≤ cdel) (hp : pre_update s_ add del) : Calls Tryz.prog 92 #[.slice as_ s_.length cs_, .slice aadd add.length cadd, .slice adel del.length cdel] w fun e w' => ∃ (z : Option Addr × Nat) (h0 h1 : FH), e = .returned (.slice z.1 (sp_update s_ add del).length z.2) ∧ (True) ∧ FH.le h h1 ∧ SH (Kp.all w h0) h1 w' [OwnSl 3 1 z.1 (sp_update s_ add del).length z.2 (flL (sp_update s_ add del))] :=
 (w_update hs s_ as_ cs_ _q1 _q2 add aadd cadd _q3 _q4 del adel cdel _q5 _q6 (fun r => r = sp_update s_ add del) (ok_update s_ add del hp)).mono fun _ _ ⟨r, z, h1, hk, he, hl, hψ, hS⟩ => by subst hk; exact ⟨z, h, h1, he, hψ, hl, hS⟩
set_option maxHeartbeats 8000000 in
theorem w_contains2 {h : FH} {w : World} (hs : Sub h w) (s_ : List Int) (as_ : Option Addr) (cs_ : Nat) (_q1 : RSl h as_ s_) (_q2 : s_.length ≤ cs_) (part : List Int) (apart : Option Addr) (cpart : Nat) (_q3 : RSl h apart part) (_q4 : part.length ≤ cpart) (K : Bool → Prop) (hF : F_contains2 s_ part K) : Calls Tryz.prog 55 #[.slice as_ s_.length cs_, .slice apart part.length cpart] w fun e w' => ∃ r : Bool, K r ∧ e = .returned (.bool r) ∧ Below w.heap.size w w' := by
 refine enter (args := [vSl as_ s_ cs_, vSl apart part cpart]) Tryz.func55 rfl Tryz.ntmps55 rfl hs ?_
 refine .seq (.region (.V ag0 ?_))
 refine .nil (.seqN (.seq (.region (.V ag0 ?_))))
 refine .nil (.seqN (.seq (.seq (.region (.V mv0 ?_)))))
 refine .V (ln rfl tS22.is) ?_
 refine .V mv0 ?_
 refine .nil (.seqN (.block ?_))
 obtain ⟨I1, μ1, q1162, q1163⟩ := hF
 refine .loop' (σ := Int × Int) (fun z => I1 z.1 z.2) (fun z => μ1 z.1 z.2) (fun z => [(0, vSl as_ s_ cs_), (5, iV z.1), (8, vSl apart part cpart), (9, iV ((part.length : Nat) : Int)), (10, iV z.2)]) (fun _ => []) (fun _ => h) (0, 0) q1162 sb rfl (FH.le_refl _) ?_
 rintro ⟨i, t10⟩ q1162
 have hF := q1163 i t10 q1162
 show J _ _ _ _ _ [(0, vSl as_ s_ cs_), (5, iV i), (8, vSl apart part cpart), (9, iV ((part.length : Nat) : Int)), (10, iV t10)] [] h
 refine .seq (.region (.V bi0 ?_))
 refine .nil (.seqN (.seq ?_))
 refine .cond rfl (fun q1166 => ?_) (fun q1166 => ?_)
 ·replace hF := hF.1 q1166
  refine .skip (.seqN (.seq (.block (.seq (.region ?_)))))
  obtain ⟨q1319, hF⟩ := hF
  refine .V (ix rfl rfl tS22 (_q3.ne (by decide) (inb_pos q1319)) q1319) ?_
  refine .V (ld1 (v := iV (gt part t10)) rfl tO3 (cellH (_q3.elemF q1319 (by decide) 0 _ rfl))) ?_
  refine .V ag0 ?_
  refine .nil (.seqN (.seq (.block ?_)))
  obtain ⟨I2, μ2, q1380, q1381⟩ := hF
  refine .loop' (σ := Int) (fun z => I2 z) (fun z => μ2 z) (fun z => [(0, vSl as_ s_ cs_), (5, iV z), (7, iV (gt part t10)), (8, vSl apart part cpart), (9, iV ((part.length : Nat) : Int)), (10, iV t10)]) (fun _ => []) (fun _ => h) i q1380 sb rfl (FH.le_refl _) ?_
  rintro i3 q1380
  have hF := q1381 i3 q1380
  show J _ _ _ _ _ [(0, vSl as_ s_ cs_), (5, iV i3), (7, iV (gt part t10)), (8, vSl apart part cpart), (9, iV ((part.length : Nat) : Int)), (10, iV t10)] [] h
  refine .seq ?_
  refine .share (σ := Bool) (fun z => F_contains2_J1 s_ part K z i I2 μ2 t10 i3 I1 μ1) (fun z => [(0, vSl as_ s_ cs_), (5, iV i3), (7, iV (gt part t10)), (8, vSl apart part cpart), (9, iV ((part.length : Nat) : Int)), (10, iV t10), (25, .bool z)]) (fun _ => []) (fun _ => h) ?_ (fun q1384 => ?_)
  ·rintro t25 hF
   show J _ _ _ _ _ [(0, vSl as_ s_ cs_), (5, iV i3), (7, iV (gt part t10)), (8, vSl apart part cpart), (9, iV ((part.length : Nat) : Int)), (10, iV t10), (25, .bool t25)] [] h
   refine .cond rfl (fun q1386 => ?_) (fun q1386 => ?_)
   ·replace hF := hF.1 q1386
    refine .skip (.seqN (.block (.region (.V mv0 ?_))))
    refine .V bi0 ?_
    refine .V ag0 ?_
    refine .nil (.blkN ?_)
    exact .RO (wr (i3 + 1)) hF.1 hF.2
   replace hF := hF.2 q1386
   refine .exit (.seqX (.seqX (.blkX (.seqN ?_))))
   refine .share (σ := Bool) (fun z => F_contains2_J2 K i z t10 i3 I1 μ1) (fun z => [(0, vSl as_ s_ cs_), (5, iV i3), (8, vSl apart part cpart), (9, iV ((part.length : Nat) : Int)), (10, iV t10), (39, .bool z)]) (fun _ => []) (fun _ => h) ?_ (fun q1389 => ?_)
   ·rintro t39 hF
    show J _ _ _ _ _ [(0, vSl as_ s_ cs_), (5, iV i3), (8, vSl apart part cpart), (9, iV ((part.length : Nat) : Int)), (10, iV t10), (39, .bool t39)] [] h
    refine .cond rfl (fun q1390 => ?_) (fun q1390 => ?_)
    ·replace hF := hF.1 q1390
     refine .seq (.region (.V ag0 ?_))
     refine .nil (.seqN (.ret (.blkR (.seqR (.seqR (.blkR (.seqR ?_)))))))
     refine .res1 rfl (rvT rfl) (fun w' S => ⟨false, hF, rfl, S.below⟩)
    replace hF := hF.2 q1390
    refine .skip (.blkN (.seqN (.region (.V bi0 ?_))))
    refine .V mv0 ?_
    refine .nil ?_
    exact .RO (i3, wr (t10 + 1)) hF.1 hF.2
   refine .region (.V mv0 ?_)
   refine .V mv0 ?_
   refine .V (ln rfl tS22.is) ?_
   refine .V bi0 ?_
   refine .V mv0 ?_
   rcases Bool.eq_false_or_eq_true (i3 == ((s_.length : Nat) : Int)) with q1391 | q1391
   ·replace hF := hF.1 q1391
    refine .GS q1391 ?_
    refine .GS q1391 ?_
    refine .GS q1391 ?_
    refine .GS q1391 ?_
    refine .GS q1391 ?_
    refine .GS q1391 ?_
    refine .V (pkT rfl q1391 rfl) ?_
    refine .nil ?_
    exact .US q1389 true hF
   replace hF := hF.2 q1391
   refine .GV mv0 q1391 ?_
   refine .GV mv0 q1391 ?_
   obtain ⟨q1392, hF⟩ := hF
   refine .GV (ix rfl rfl tS22 (_q1.ne (by decide) (inb_pos q1392)) q1392) q1391 ?_
   refine .GV (ld1 (v := iV (gt s_ i3)) rfl tO3 (cellH (_q1.elemF q1392 (by decide) 0 _ rfl))) q1391 ?_
   refine .GV mv0 q1391 ?_
   refine .GV bi0 q1391 ?_
   refine .V (pkF rfl q1391 rfl) ?_
   refine .nil ?_
   exact .US q1389 ((gt s_ i3) != (gt part t10)) hF
  refine .region (.V mv0 ?_)
  refine .V mv0 ?_
  refine .V (ln rfl tS22.is) ?_
  refine .V bi0 ?_
  refine .V mv0 ?_
  rcases Bool.eq_false_or_eq_true (decide (i3 < ((s_.length : Nat) : Int))) with q1393 | q1393
  ·replace hF := hF.1 q1393
   refine .GV mv0 q1393 ?_
   refine .GV mv0 q1393 ?_
   obtain ⟨q1394, hF⟩ := hF
   refine .GV (ix rfl rfl tS22 (_q1.ne (by decide) (inb_pos q1394)) q1394) q1393 ?_
   refine .GV (ld1 (v := iV (gt s_ i3)) rfl tO3 (cellH (_q1.elemF q1394 (by decide) 0 _ rfl))) q1393 ?_
   refine .GV mv0 q1393 ?_
   refine .GV bi0 q1393 ?_
   refine .V (pkT rfl q1393 rfl) ?_
   refine .nil ?_
   exact .US q1384 (decide ((gt s_ i3) < (gt part t10))) hF
  replace hF := hF.2 q1393
  refine .GS q1393 ?_
  refine .GS q1393 ?_
  refine .GS q1393 ?_
  refine .GS q1393 ?_
  refine .GS q1393 ?_
  refine .GS q1393 ?_
  refine .V (pkF rfl q1393 rfl) ?_
  refine .nil ?_
  exact .US q1384 false hF
 replace hF := hF.2 q1166
 refine .exit (.seqX (.seqX (.blkX (.seqN (.seq (.region (.V ag0 ?_)))))))
 refine .nil (.seqN (.ret ?_))
 refine .res1 rfl (rvT rfl) (fun w' S => ⟨true, hF, rfl, S.below⟩)
theorem c_contains2 {h : FH} {w : World} (hs : Sub h w) (s_ : List Int) (as_ : Option Addr) (cs_ : Nat) (_q1 : RSl h as_ s_) (_q2 : s_.length ≤ cs_) (part : List Int) (apart : Option Addr) (cpart : Nat) (_q3 : RSl h apart part) (_q4 : part.length ≤ cpart) (hp : pre_contains2 s_ part) : Calls Tryz.prog 55 #[.slice as_ s_.length cs_, .slice apart part.length cpart] w fun e w' => e = .returned (.bool (sp_contains2 s_ part)) ∧ Below w.heap.size w w' :=
 (w_contains2 hs s_ as_ cs_ _q1 _q2 part apart cpart _q3 _q4 (fun r => r = sp_contains2 s_ part) (ok_contains2 s_ part hp)).mono fun _ _ ⟨_, hk, he, hb⟩ => ⟨by rw [he, hk], hb⟩
theorem w_can {h : FH} {w : World} (hs : Sub h w) (t : Task) (at_ : Option Addr) (ct : Nat) (_q1 : RSl h at_ t.init) (_q2 : t.init.length ≤ ct) (at_2 : Option Addr) (ct2 : Nat) (_q3 : RSl h at_2 t.goal) (_q4 : t.goal.length ≤ ct2) (at_3 : Option Addr) (ct3 : Nat) (_q5 : RSl h at_3 t.ops) (_q6 : t.ops.length ≤ ct3) (s_ : List Int) (as_ : Option Addr) (cs_ : Nat) (_q7 : RSl h as_ s_) (_q8 : s_.length ≤ cs_) (op : Int) (K : Bool → Prop) (hF : F_can t s_ op K) : Calls Tryz.prog 82 #[.agg #[iV t.facts, .slice at_ t.init.length ct, .slice at_2 t.goal.length ct2, .slice at_3 t.ops.length ct3], .slice as_ s_.length cs_, iV op] w fun e w' => ∃ r : Bool, K r ∧ e = .returned (.bool r) ∧ Below w.heap.size w w' := by
 refine enter (args := [.agg (tF t at_ ct at_2 ct2 at_3 ct3).toArray, vSl as_ s_ cs_, iV op]) Tryz.func82 rfl Tryz.ntmps82 rfl hs ?_
 refine .seq (.region ?_)
 refine bx (vs := (tF t at_ ct at_2 ct2 at_3 ct3)) rfl rfl rfl (fun pt => ?_)
 refine .V ag0 ?_
 refine .nil (.seqN (.seq (.region (.V mv0 ?_))))
 refine .V (fa rfl tF25_3) ?_
 refine .V (ld1 rfl tO23 (cellB (off := 3) (k := 0) rfl rfl)) ?_
 refine .V mv0 ?_
 obtain ⟨q9, hF⟩ := hF
 refine .V (ix rfl rfl tS23 (_q5.ne (by decide) (inb_pos q9)) q9) ?_
 refine .V (fa rfl tF52_0) ?_
 obtain ⟨_, ⟨a, c, a2, c2, a3, c3, rfl, ⟨q10, q11⟩, ⟨q12, q13⟩, q14, q15⟩, q16⟩ := _q5.elem q9
 refine .V (ld1 (v := .slice a ((gt t.ops op).pre.length) c) rfl tO22 (cellH (q16 (by decide) 0 _ rfl))) ?_
 obtain ⟨q17, hF⟩ := hF
 obtain ⟨r2, q18⟩ : ∃ y_ : Bool, y_ = sp_contains2 s_ ((gt t.ops op).pre) := ⟨_, rfl⟩
 replace hF := hF r2 q18
 refine .C (cl (v := .bool r2) Tryz.call55 rfl rfl (fun w S => (by rw [q18]; exact c_contains2 S.sub s_ as_ cs_ _q7 _q8 ((gt t.ops op).pre) a c q11 q10 q17))) ?_
 refine .V ag0 ?_
 refine .nil (.seqN (.ret ?_))
 refine .res1 rfl (rvT rfl) (fun w' S => ⟨r2, hF, rfl, S.below⟩)
theorem c_can {h : FH} {w : World} (hs : Sub h w) (t : Task) (at_ : Option Addr) (ct : Nat) (_q1 : RSl h at_ t.init) (_q2 : t.init.length ≤ ct) (at_2 : Option Addr) (ct2 : Nat) (_q3 : RSl h at_2 t.goal) (_q4 : t.goal.length ≤ ct2) (at_3 : Option Addr) (ct3 : Nat) (_q5 : RSl h at_3 t.ops) (_q6 : t.ops.length ≤ ct3) (s_ : List Int) (as_ : Option Addr) (cs_ : Nat) (_q7 : RSl h as_ s_) (_q8 : s_.length ≤ cs_) (op : Int) (hp : pre_can t s_ op) : Calls Tryz.prog 82 #[.agg #[iV t.facts, .slice at_ t.init.length ct, .slice at_2 t.goal.length ct2, .slice at_3 t.ops.length ct3], .slice as_ s_.length cs_, iV op] w fun e w' => e = .returned (.bool (sp_applies t s_ op)) ∧ Below w.heap.size w w' :=
 (w_can hs t at_ ct _q1 _q2 at_2 ct2 _q3 _q4 at_3 ct3 _q5 _q6 s_ as_ cs_ _q7 _q8 op (fun r => r = sp_applies t s_ op) (ok_can t s_ op hp)).mono fun _ _ ⟨_, hk, he, hb⟩ => ⟨by rw [he, hk], hb⟩
theorem w_next {h : FH} {w : World} (hs : Sub h w) (t : Task) (at_ : Option Addr) (ct : Nat) (_q1 : RSl h at_ t.init) (_q2 : t.init.length ≤ ct) (at_2 : Option Addr) (ct2 : Nat) (_q3 : RSl h at_2 t.goal) (_q4 : t.goal.length ≤ ct2) (at_3 : Option Addr) (ct3 : Nat) (_q5 : RSl h at_3 t.ops) (_q6 : t.ops.length ≤ ct3) (s_ : List Int) (as_ : Option Addr) (cs_ : Nat) (_q7 : RSl h as_ s_) (_q8 : s_.length ≤ cs_) (op : Int) (K : (List Int) → Prop) (hF : F_next t s_ op K) : Calls Tryz.prog 58 #[.agg #[iV t.facts, .slice at_ t.init.length ct, .slice at_2 t.goal.length ct2, .slice at_3 t.ops.length ct3], .slice as_ s_.length cs_, iV op] w fun e w' => ∃ (r : List Int) (z : Option Addr × Nat) (h1 : FH), K r ∧ e = .returned (.slice z.1 r.length z.2) ∧ FH.le h h1 ∧ (RSl h1 z.1 r ∧ r.length ≤ z.2) ∧ SH (Kp.all w h) h1 w' [] := by
 refine enter (args := [.agg (tF t at_ ct at_2 ct2 at_3 ct3).toArray, vSl as_ s_ cs_, iV op]) Tryz.func58 rfl Tryz.ntmps58 rfl hs ?_
 refine .seq (.region ?_)
 refine bx (vs := (tF t at_ ct at_2 ct2 at_3 ct3)) rfl rfl rfl (fun pt => ?_)
 refine .V ag0 ?_
 refine .nil (.seqN (.seq (.region (.V (fa rfl tF25_3) ?_))))
 refine .V (ld1 rfl tO23 (cellB (off := 3) (k := 0) rfl rfl)) ?_
 refine .V mv0 ?_
 obtain ⟨q9, hF⟩ := hF
 refine .V (ix rfl rfl tS23 (_q5.ne (by decide) (inb_pos q9)) q9) ?_
 obtain ⟨_, ⟨a, c, a2, c2, a3, c3, rfl, ⟨q10, q11⟩, ⟨q12, q13⟩, q14, q15⟩, q16⟩ := _q5.elem q9
 refine .V (ldA (cs := [.slice a ((gt t.ops op).pre.length) c, .slice a2 ((gt t.ops op).add.length) c2, .slice a3 ((gt t.ops op).del.length) c3, iV ((gt t.ops op).cost)]) rfl tA52 rfl (cellsH (q16 (by decide)))) ?_
 refine al tZ52 rfl (fun po => ?_)
 refine st (p := po) (off := 0) (k := 0) (vs := [.slice a ((gt t.ops op).pre.length) c, .slice a2 ((gt t.ops op).add.length) c2, .slice a3 ((gt t.ops op).del.length) c3, iV ((gt t.ops op).cost)]) rfl rfl rfl (fun w => (tA52 w).2) rfl rfl rfl rfl ?_
 refine .KA [Box po [.slice a ((gt t.ops op).pre.length) c, .slice a2 ((gt t.ops op).add.length) c2, .slice a3 ((gt t.ops op).del.length) c3, iV ((gt t.ops op).cost)], Box pt (tF t at_ ct at_2 ct2 at_3 ct3)] ?_
 refine .nil (.seqN (.seq (.region (.V mv0 ?_))))
 refine .V (fa rfl tF52_1) ?_
 refine .V (ld1 rfl tO22 (cellB (off := 1) (k := 0) rfl rfl)) ?_
 refine .V (fa rfl tF52_2) ?_
 refine .V (ld1 rfl tO22 (cellB (off := 2) (k := 0) rfl rfl)) ?_
 obtain ⟨q17, hF⟩ := hF
 obtain ⟨r2, q18⟩ : ∃ y_ : List Int, y_ = sp_update s_ ((gt t.ops op).add) ((gt t.ops op).del) := ⟨_, rfl⟩
 replace hF := hF r2 q18
 refine clO (α := Option Addr × Nat) (V := fun z => vSl z.1 r2 z.2) (Ψ := fun z => True) (B := fun z => [oL 3 1 z.1 r2 z.2]) Tryz.call92 rfl rfl (fun w S => (by rw [q18]; exact c_update S.sub s_ as_ cs_ _q7 _q8 ((gt t.ops op).add) a2 c2 q13 q12 ((gt t.ops op).del) a3 c3 q15 q14 q17)) rfl (fun z _ => ?_)
 obtain ⟨a4, c4⟩ := z
 refine .KA [oL 3 1 a4 r2 c4, Box po [.slice a ((gt t.ops op).pre.length) c, .slice a2 ((gt t.ops op).add.length) c2, .slice a3 ((gt t.ops op).del.length) c3, iV ((gt t.ops op).cost)], Box pt (tF t at_ ct at_2 ct2 at_3 ct3)] ?_
 refine .V ag0 ?_
 refine .nil (.seqN ?_)
 refine .freezeL (k := 0) rfl (fun h1 le1 q20 q19 => ?_)
 refine .KA [tru, Box po [.slice a ((gt t.ops op).pre.length) c, .slice a2 ((gt t.ops op).add.length) c2, .slice a3 ((gt t.ops op).del.length) c3, iV ((gt t.ops op).cost)], Box pt (tF t at_ ct at_2 ct2 at_3 ct3)] ?_
 refine .ret ?_
 refine .res1 rfl (rvT rfl) (fun w' S => ⟨r2, (a4, c4), h1, hF, rfl, (le1), ⟨(RSl.of q19), (q20)⟩, S.none⟩)
theorem c_next {h : FH} {w : World} (hs : Sub h w) (t : Task) (at_ : Option Addr) (ct : Nat) (_q1 : RSl h at_ t.init) (_q2 : t.init.length ≤ ct) (at_2 : Option Addr) (ct2 : Nat) (_q3 : RSl h at_2 t.goal) (_q4 : t.goal.length ≤ ct2) (at_3 : Option Addr) (ct3 : Nat) (_q5 : RSl h at_3 t.ops) (_q6 : t.ops.length ≤ ct3) (s_ : List Int) (as_ : Option Addr) (cs_ : Nat) (_q7 : RSl h as_ s_) (_q8 : s_.length ≤ cs_) (op : Int) (hp : pre_next t s_ op) : Calls Tryz.prog 58 #[.agg #[iV t.facts, .slice at_ t.init.length ct, .slice at_2 t.goal.length ct2, .slice at_3 t.ops.length ct3], .slice as_ s_.length cs_, iV op] w fun e w' => ∃ (z : Option Addr × Nat) (h1 : FH), e = .returned (.slice z.1 (sp_after t s_ op).length z.2) ∧ FH.le h h1 ∧ (RSl h1 z.1 (sp_after t s_ op) ∧ (sp_after t s_ op).length ≤ z.2) ∧ SH (Kp.all w h) h1 w' [] :=
 (w_next hs t at_ ct _q1 _q2 at_2 ct2 _q3 _q4 at_3 ct3 _q5 _q6 s_ as_ cs_ _q7 _q8 op (fun r => r = sp_after t s_ op) (ok_next t s_ op hp)).mono fun _ _ ⟨r, z, h1, hk, he, hl, hf, hS⟩ => by subst hk; exact ⟨z, h1, he, hl, hf, hS⟩
theorem w_srun {h : FH} {w : World} (hs : Sub h w) (t : Task) (at_ : Option Addr) (ct : Nat) (_q1 : RSl h at_ t.init) (_q2 : t.init.length ≤ ct) (at_2 : Option Addr) (ct2 : Nat) (_q3 : RSl h at_2 t.goal) (_q4 : t.goal.length ≤ ct2) (at_3 : Option Addr) (ct3 : Nat) (_q5 : RSl h at_3 t.ops) (_q6 : t.ops.length ≤ ct3) (s_ : List Int) (as_ : Option Addr) (cs_ : Nat) (_q7 : RSl h as_ s_) (_q8 : s_.length ≤ cs_) (plan : List Int) (aplan : Option Addr) (cplan : Nat) (_q9 : RSl h aplan plan) (_q10 : plan.length ≤ cplan) (K : (List (List Int)) → Prop) (hF : F_srun t s_ plan K) : Calls Tryz.prog 75 #[.agg #[iV t.facts, .slice at_ t.init.length ct, .slice at_2 t.goal.length ct2, .slice at_3 t.ops.length ct3], .slice as_ s_.length cs_, .slice aplan plan.length cplan] w fun e w' => ∃ (r : List (List Int)) (z : Option Addr × Nat) (h1 : FH), K r ∧ e = .returned (.slice z.1 r.length z.2) ∧ FH.le h h1 ∧ (RSl h1 z.1 r ∧ r.length ≤ z.2) ∧ SH (Kp.all w h) h1 w' [] := by
 refine enter (args := [.agg (tF t at_ ct at_2 ct2 at_3 ct3).toArray, vSl as_ s_ cs_, vSl aplan plan cplan]) Tryz.func75 rfl Tryz.ntmps75 rfl hs ?_
 refine .seq (.region ?_)
 refine bx (vs := (tF t at_ ct at_2 ct2 at_3 ct3)) rfl rfl rfl (fun pt => ?_)
 refine .V ag0 ?_
 refine .nil (.seqN (.seq (.region (.V mv0 ?_))))
 obtain ⟨q11, hF⟩ := hF
 obtain ⟨r2, q12⟩ : ∃ y_ : List Int, y_ = sp_clone s_ := ⟨_, rfl⟩
 replace hF := hF r2 q12
 refine clR (α := Option Addr × Nat) (Φ := fun h1 z => RSl h1 z.1 r2 ∧ r2.length ≤ z.2) (V := fun z => vSl z.1 r2 z.2) Tryz.call26 rfl rfl (fun w S => (by rw [q12]; exact c_clone S.sub s_ as_ cs_ _q7 _q8 q11)) rfl (fun z h1 le1 hz => ?_)
 obtain ⟨a, c⟩ := z
 obtain ⟨q13, q14⟩ := hz
 refine bs2 (cs := #[vSl a r2 c]) (pv := [(0, vSl a r2 c)]) tS68 rfl rfl (by decide) (by decide) rfl rfl rfl (fun a2 _ => ?_)
 refine .KA [OwnSl 22 1 a2 (([r2] : List (List Int)).length) 1 [vSl a r2 c], Box pt (tF t at_ ct at_2 ct2 at_3 ct3)] ?_
 refine .V ag0 ?_
 refine .nil (.seqN (.seq (.seq (.region (.V mv0 ?_)))))
 refine .V (ln rfl tS22.is) ?_
 refine .V mv0 ?_
 refine .nil (.seqN (.block ?_))
 refine .sel0 [1, 0] (by decide) rfl ?_
 obtain ⟨I1, μ1, q260, q261⟩ := hF
 refine .loop' (σ := List Int × Int × List (List Int) × Option Addr × Nat × Option Addr × Nat × List Value × FH) (fun z => I1 z.1 z.2.1 z.2.2.1 ∧ RSl z.2.2.2.2.2.2.2.2 z.2.2.2.1 z.1 ∧ z.1.length ≤ z.2.2.2.2.1 ∧ RepL z.2.2.2.2.2.2.2.2 z.2.2.1 z.2.2.2.2.2.2.2.1 ∧ FH.le h1 z.2.2.2.2.2.2.2.2) (fun z => μ1 z.1 z.2.1 z.2.2.1) (fun z => [(1, vSl z.2.2.2.1 z.1 z.2.2.2.2.1), (3, .pointer (some pt)), (7, vSl z.2.2.2.2.2.1 z.2.2.1 z.2.2.2.2.2.2.1), (13, vSl aplan plan cplan), (14, iV ((plan.length : Nat) : Int)), (15, iV z.2.1)]) (fun z => [Box pt (tF t at_ ct at_2 ct2 at_3 ct3), OwnSl 22 1 z.2.2.2.2.2.1 z.2.2.1.length z.2.2.2.2.2.2.1 z.2.2.2.2.2.2.2.1]) (fun z => z.2.2.2.2.2.2.2.2) (s_, 0, ([r2] : List (List Int)), as_, cs_, a2, 1, [vSl a r2 c], h1) ⟨q260, (_q7.mono (le1)), _q8, (show RepL h1 ([r2] : List (List Int)) [vSl a r2 c] from ⟨[vSl a r2 c], _, rfl, ⟨a, c, rfl, q14, q13⟩, rfl⟩), (FH.le_refl _)⟩ sb rfl (FH.le_refl _) ?_
 rintro ⟨s_2, t15, out, as2, cs, aout, cout, csout, h20⟩ ⟨q260, q210, q211, q212, q213⟩
 have hF := q261 s_2 t15 out q260
 show J _ _ _ _ _ [(1, vSl as2 s_2 cs), (3, .pointer (some pt)), (7, vSl aout out cout), (13, vSl aplan plan cplan), (14, iV ((plan.length : Nat) : Int)), (15, iV t15)] [Box pt (tF t at_ ct at_2 ct2 at_3 ct3), OwnSl 22 1 aout out.length cout csout] h20
 refine .seq (.region (.V bi0 ?_))
 refine .nil (.seqN (.seq ?_))
 refine .cond rfl (fun q264 => ?_) (fun q264 => ?_)
 ·replace hF := hF.1 q264
  refine .skip (.seqN (.seq (.block (.seq (.region ?_)))))
  obtain ⟨q291, hF⟩ := hF
  refine .V (ix rfl rfl tS22 (_q9.ne (by decide) (inb_pos q291)) q291) ?_
  refine .V (ld1 (v := iV (gt plan t15)) rfl tO3 (cellH ((_q9.mono (FH.le_trans (le1) (q213))).elemF q291 (by decide) 0 _ rfl))) ?_
  refine .V ag0 ?_
  refine .nil (.seqN (.seq (.seq (.region (.V (ldA (cs := (tF t at_ ct at_2 ct2 at_3 ct3)) rfl tA25 rfl (cellsB (off := 0) (k := 0) rfl (m := 4) rfl)) ?_)))))
  refine .V mv0 ?_
  refine .V mv0 ?_
  obtain ⟨q292, hF⟩ := hF
  obtain ⟨r3, q293⟩ : ∃ y_ : Bool, y_ = sp_applies t s_2 (gt plan t15) := ⟨_, rfl⟩
  replace hF := hF r3 q293
  refine .C (cl (v := .bool r3) Tryz.call82 rfl rfl (fun w S => (by rw [q293]; exact c_can S.sub t at_ ct (_q1.mono (FH.le_trans (le1) (q213))) _q2 at_2 ct2 (_q3.mono (FH.le_trans (le1) (q213))) _q4 at_3 ct3 (_q5.mono (FH.le_trans (le1) (q213))) _q6 s_2 as2 cs q210 q211 (gt plan t15) q292))) ?_
  refine .V (nt rfl) ?_
  refine .nil (.seqN ?_)
  refine .cond rfl (fun q295 => ?_) (fun q295 => ?_)
  ·replace hF := hF.1 q295
   refine .exit (.seqX ?_)
   refine .blkY rfl ?_
   refine .seqX (.seqX (.blkX (.seqN (.seq (.region (.V mv0 ?_))))))
   refine .V ag0 ?_
   refine .nil (.seqN ?_)
   refine .freezeL (k := 1) rfl (fun h27 le27 q297 q296 => ?_)
   refine .KA [Box pt (tF t at_ ct at_2 ct2 at_3 ct3), tru] ?_
   refine .ret ?_
   refine .res1 rfl (rvT rfl) (fun w' S => ⟨out, (aout, cout), h27, hF, rfl, (FH.le_trans (FH.le_trans (le1) (q213)) (le27)), ⟨(show RSl h27 aout out from ⟨_, q212.mono (le27), q296⟩), (q297)⟩, S.none⟩)
  replace hF := hF.2 q295
  refine .skip (.seqN (.seq (.region (.V (ldA (cs := (tF t at_ ct at_2 ct2 at_3 ct3)) rfl tA25 rfl (cellsB (off := 0) (k := 0) rfl (m := 4) rfl)) ?_))))
  refine .V mv0 ?_
  refine .V mv0 ?_
  obtain ⟨q298, hF⟩ := hF
  obtain ⟨r4, q299⟩ : ∃ y_ : List Int, y_ = sp_after t s_2 (gt plan t15) := ⟨_, rfl⟩
  replace hF := hF r4 q299
  refine clR (α := Option Addr × Nat) (Φ := fun h1 z => RSl h1 z.1 r4 ∧ r4.length ≤ z.2) (V := fun z => vSl z.1 r4 z.2) Tryz.call58 rfl rfl (fun w S => (by rw [q299]; exact c_next S.sub t at_ ct (_q1.mono (FH.le_trans (le1) (q213))) _q2 at_2 ct2 (_q3.mono (FH.le_trans (le1) (q213))) _q4 at_3 ct3 (_q5.mono (FH.le_trans (le1) (q213))) _q6 s_2 as2 cs q210 q211 (gt plan t15) q298)) rfl (fun z h28 le28 hz => ?_)
  obtain ⟨a3, c2⟩ := z
  obtain ⟨q300, q301⟩ := hz
  refine .V ag0 ?_
  refine .nil (.seqN (.region (.V mv0 ?_)))
  refine .V mv0 ?_
  refine bs2 (cs := #[vSl a3 r4 c2]) (pv := [(0, vSl a3 r4 c2)]) tS68 rfl rfl (by decide) (by decide) rfl rfl rfl (fun a4 _ => ?_)
  refine .KA [OwnSl 22 1 a4 (([r4] : List (List Int)).length) 1 [vSl a3 r4 c2], Box pt (tF t at_ ct at_2 ct2 at_3 ct3), OwnSl 22 1 aout out.length cout csout] ?_
  obtain ⟨q303, hF⟩ := hF
  have q304 : out.length + ([r4] : List (List Int)).length = ((out ++ ([r4] : List (List Int)))).length := len_app rfl rfl
  have q305 := RepL.append (RepL.mono (le28) q212) (show RepL h28 ([r4] : List (List Int)) [.slice a3 r4.length c2] from ⟨[.slice a3 r4.length c2], _, rfl, ⟨a3, c2, rfl, q301, q300⟩, rfl⟩)
  refine app (k := 2) (news := [vSl a3 r4 c2]) (cs' := (csout ++ [vSl a3 r4 c2])) (nm := ((out ++ ([r4] : List (List Int)))).length) tS68 rfl (by decide) rfl rfl rfl (RepL.len (show RepL h28 ([r4] : List (List Int)) [vSl a3 r4 c2] from ⟨[vSl a3 r4 c2], _, rfl, ⟨a3, c2, rfl, q301, q300⟩, rfl⟩)) (srcS (k := 0) rfl) (RepL.one (show RepL h28 ([r4] : List (List Int)) [vSl a3 r4 c2] from ⟨[vSl a3 r4 c2], _, rfl, ⟨a3, c2, rfl, q301, q300⟩, rfl⟩)) (room_of q304 q303).1 (room_of q304 q303).2 q304 rfl rfl (fun a5 c3 => ?_)
  refine .KA [OwnSl 22 1 a4 (([r4] : List (List Int)).length) 1 [vSl a3 r4 c2], Box pt (tF t at_ ct at_2 ct2 at_3 ct3), OwnSl 22 1 a5 ((out ++ ([r4] : List (List Int))).length) c3 (csout ++ [vSl a3 r4 c2])] ?_
  refine .V ag0 ?_
  refine .nil (.blkN (.seqN (.region (.V bi0 ?_))))
  refine .V mv0 ?_
  refine .nil ?_
  refine .sel0 [1, 2] (by decide) rfl ?_
  exact .RO (r4, wr (t15 + 1), (out ++ ([r4] : List (List Int))), a3, c2, a5, c3, (csout ++ [vSl a3 r4 c2]), h28) ⟨hF.1, q300, q301, q305, (FH.le_trans (q213) (le28))⟩ hF.2
 replace hF := hF.2 q264
 refine .exit (.seqX (.seqX (.blkX (.seqN (.seq (.region (.V mv0 ?_)))))))
 refine .V ag0 ?_
 refine .nil (.seqN ?_)
 refine .freezeL (k := 1) rfl (fun h29 le29 q307 q306 => ?_)
 refine .KA [Box pt (tF t at_ ct at_2 ct2 at_3 ct3), tru] ?_
 refine .ret ?_
 refine .res1 rfl (rvT rfl) (fun w' S => ⟨out, (aout, cout), h29, hF, rfl, (FH.le_trans (FH.le_trans (le1) (q213)) (le29)), ⟨(show RSl h29 aout out from ⟨_, q212.mono (le29), q306⟩), (q307)⟩, S.none⟩)
theorem c_srun {h : FH} {w : World} (hs : Sub h w) (t : Task) (at_ : Option Addr) (ct : Nat) (_q1 : RSl h at_ t.init) (_q2 : t.init.length ≤ ct) (at_2 : Option Addr) (ct2 : Nat) (_q3 : RSl h at_2 t.goal) (_q4 : t.goal.length ≤ ct2) (at_3 : Option Addr) (ct3 : Nat) (_q5 : RSl h at_3 t.ops) (_q6 : t.ops.length ≤ ct3) (s_ : List Int) (as_ : Option Addr) (cs_ : Nat) (_q7 : RSl h as_ s_) (_q8 : s_.length ≤ cs_) (plan : List Int) (aplan : Option Addr) (cplan : Nat) (_q9 : RSl h aplan plan) (_q10 : plan.length ≤ cplan) (hp : pre_srun t s_ plan) : Calls Tryz.prog 75 #[.agg #[iV t.facts, .slice at_ t.init.length ct, .slice at_2 t.goal.length ct2, .slice at_3 t.ops.length ct3], .slice as_ s_.length cs_, .slice aplan plan.length cplan] w fun e w' => ∃ (z : Option Addr × Nat) (h1 : FH), e = .returned (.slice z.1 (sp_srun t s_ plan).length z.2) ∧ FH.le h h1 ∧ (RSl h1 z.1 (sp_srun t s_ plan) ∧ (sp_srun t s_ plan).length ≤ z.2) ∧ SH (Kp.all w h) h1 w' [] :=
 (w_srun hs t at_ ct _q1 _q2 at_2 ct2 _q3 _q4 at_3 ct3 _q5 _q6 s_ as_ cs_ _q7 _q8 plan aplan cplan _q9 _q10 (fun r => r = sp_srun t s_ plan) (ok_srun t s_ plan hp)).mono fun _ _ ⟨r, z, h1, hk, he, hl, hf, hS⟩ => by subst hk; exact ⟨z, h1, he, hl, hf, hS⟩
theorem w_works {h : FH} {w : World} (hs : Sub h w) (t : Task) (at_ : Option Addr) (ct : Nat) (_q1 : RSl h at_ t.init) (_q2 : t.init.length ≤ ct) (at_2 : Option Addr) (ct2 : Nat) (_q3 : RSl h at_2 t.goal) (_q4 : t.goal.length ≤ ct2) (at_3 : Option Addr) (ct3 : Nat) (_q5 : RSl h at_3 t.ops) (_q6 : t.ops.length ≤ ct3) (s_ : List Int) (as_ : Option Addr) (cs_ : Nat) (_q7 : RSl h as_ s_) (_q8 : s_.length ≤ cs_) (plan : List Int) (aplan : Option Addr) (cplan : Nat) (_q9 : RSl h aplan plan) (_q10 : plan.length ≤ cplan) (K : Bool → Prop) (hF : F_works t s_ plan K) : Calls Tryz.prog 39 #[.agg #[iV t.facts, .slice at_ t.init.length ct, .slice at_2 t.goal.length ct2, .slice at_3 t.ops.length ct3], .slice as_ s_.length cs_, .slice aplan plan.length cplan] w fun e w' => ∃ r : Bool, K r ∧ e = .returned (.bool r) ∧ Below w.heap.size w w' := by
 refine enter (args := [.agg (tF t at_ ct at_2 ct2 at_3 ct3).toArray, vSl as_ s_ cs_, vSl aplan plan cplan]) Tryz.func39 rfl Tryz.ntmps39 rfl hs ?_
 refine .seq (.region ?_)
 refine bx (vs := (tF t at_ ct at_2 ct2 at_3 ct3)) rfl rfl rfl (fun pt => ?_)
 refine .V ag0 ?_
 refine .nil (.seqN (.seq (.region (.V (ldA (cs := (tF t at_ ct at_2 ct2 at_3 ct3)) rfl tA25 rfl (cellsB (off := 0) (k := 0) rfl (m := 4) rfl)) ?_))))
 refine .V mv0 ?_
 refine .V mv0 ?_
 obtain ⟨q11, hF⟩ := hF
 obtain ⟨r2, q12⟩ : ∃ y_ : List (List Int), y_ = sp_srun t s_ plan := ⟨_, rfl⟩
 replace hF := hF r2 q12
 refine clR (α := Option Addr × Nat) (Φ := fun h1 z => RSl h1 z.1 r2 ∧ r2.length ≤ z.2) (V := fun z => vSl z.1 r2 z.2) Tryz.call75 rfl rfl (fun w S => (by rw [q12]; exact c_srun S.sub t at_ ct _q1 _q2 at_2 ct2 _q3 _q4 at_3 ct3 _q5 _q6 s_ as_ cs_ _q7 _q8 plan aplan cplan _q9 _q10 q11)) rfl (fun z h1 le1 hz => ?_)
 obtain ⟨a, c⟩ := z
 obtain ⟨q13, q14⟩ := hz
 refine .V ag0 ?_
 refine .nil (.seqN (.seq ?_))
 refine .open_ (by kernel_rfl) (by kernel_rfl) ?_
 refine .V mv0 ?_
 refine .V (ln rfl tS68.is) ?_
 refine .V mv0 ?_
 refine .V (ln rfl tS22.is) ?_
 refine .V bi0 ?_
 obtain ⟨x, q23⟩ : ∃ y_ : Bool, y_ = (((r2.length : Nat) : Int) == (wr (((plan.length : Nat) : Int) + 1))) := ⟨_, rfl⟩
 replace hF := hF x q23
 refine .v (v := .bool x) (by rw [q23]; exact bi rfl rfl rfl) rfl rfl rfl ?_
 refine .V mv0 ?_
 rcases Bool.eq_false_or_eq_true (x) with q24 | q24
 ·replace hF := hF.1 q24
  refine .GV mv0 q24 ?_
  refine .GV mv0 q24 ?_
  refine .GV (ln rfl tS22.is) q24 ?_
  obtain ⟨q25, hF⟩ := hF
  refine .GV (ix rfl rfl tS68 (q13.ne (by decide) (inb_pos q25)) q25) q24 ?_
  obtain ⟨_, ⟨a2, c2, rfl, q26, q27⟩, q28⟩ := q13.elem q25
  refine .GV (ld1 (v := .slice a2 ((gt r2 ((plan.length : Nat) : Int)).length) c2) rfl tO22 (cellH (q28 (by decide) 0 _ rfl))) q24 ?_
  refine .GV (fa rfl tF25_2) q24 ?_
  refine .GV (ld1 rfl tO22 (cellB (off := 2) (k := 0) rfl rfl)) q24 ?_
  obtain ⟨q29, hF⟩ := hF
  obtain ⟨r3, q30⟩ : ∃ y_ : Bool, y_ = sp_contains2 (gt r2 ((plan.length : Nat) : Int)) t.goal := ⟨_, rfl⟩
  replace hF := hF r3 q30
  refine .gc (cl (v := .bool r3) Tryz.call55 rfl rfl (fun w S => (by rw [q30]; exact c_contains2 S.sub (gt r2 ((plan.length : Nat) : Int)) a2 c2 q27 q26 t.goal at_2 ct2 (_q3.mono (le1)) _q4 q29))) rfl rfl rfl q24 rfl rfl ?_
  refine .V (pkT rfl q24 rfl) ?_
  refine .V ag0 ?_
  refine .fin ?_
  refine .seqN (.ret ?_)
  refine .res1 rfl (rvT rfl) (fun w' S => ⟨r3, hF, rfl, S.below⟩)
 replace hF := hF.2 q24
 refine .GS q24 ?_
 refine .GS q24 ?_
 refine .GS q24 ?_
 refine .GS q24 ?_
 refine .GS q24 ?_
 refine .GS q24 ?_
 refine .GS q24 ?_
 refine .GS q24 ?_
 refine .V (pkF rfl q24 rfl) ?_
 refine .V ag0 ?_
 refine .fin ?_
 refine .seqN (.ret ?_)
 refine .res1 rfl (rvT rfl) (fun w' S => ⟨false, hF, rfl, S.below⟩)
theorem c_works {h : FH} {w : World} (hs : Sub h w) (t : Task) (at_ : Option Addr) (ct : Nat) (_q1 : RSl h at_ t.init) (_q2 : t.init.length ≤ ct) (at_2 : Option Addr) (ct2 : Nat) (_q3 : RSl h at_2 t.goal) (_q4 : t.goal.length ≤ ct2) (at_3 : Option Addr) (ct3 : Nat) (_q5 : RSl h at_3 t.ops) (_q6 : t.ops.length ≤ ct3) (s_ : List Int) (as_ : Option Addr) (cs_ : Nat) (_q7 : RSl h as_ s_) (_q8 : s_.length ≤ cs_) (plan : List Int) (aplan : Option Addr) (cplan : Nat) (_q9 : RSl h aplan plan) (_q10 : plan.length ≤ cplan) (hp : pre_works t s_ plan) : Calls Tryz.prog 39 #[.agg #[iV t.facts, .slice at_ t.init.length ct, .slice at_2 t.goal.length ct2, .slice at_3 t.ops.length ct3], .slice as_ s_.length cs_, .slice aplan plan.length cplan] w fun e w' => e = .returned (.bool (sp_rworks t s_ plan)) ∧ Below w.heap.size w w' :=
 (w_works hs t at_ ct _q1 _q2 at_2 ct2 _q3 _q4 at_3 ct3 _q5 _q6 s_ as_ cs_ _q7 _q8 plan aplan cplan _q9 _q10 (fun r => r = sp_rworks t s_ plan) (ok_works t s_ plan hp)).mono fun _ _ ⟨_, hk, he, hb⟩ => ⟨by rw [he, hk], hb⟩
theorem w_solves {h : FH} {w : World} (hs : Sub h w) (t : Task) (at_ : Option Addr) (ct : Nat) (_q1 : RSl h at_ t.init) (_q2 : t.init.length ≤ ct) (at_2 : Option Addr) (ct2 : Nat) (_q3 : RSl h at_2 t.goal) (_q4 : t.goal.length ≤ ct2) (at_3 : Option Addr) (ct3 : Nat) (_q5 : RSl h at_3 t.ops) (_q6 : t.ops.length ≤ ct3) (plan : List Int) (aplan : Option Addr) (cplan : Nat) (_q7 : RSl h aplan plan) (_q8 : plan.length ≤ cplan) (K : (Bool × Fault) → Prop) (hF : F_solves t plan K) : Calls Tryz.prog 19 #[.agg #[iV t.facts, .slice at_ t.init.length ct, .slice at_2 t.goal.length ct2, .slice at_3 t.ops.length ct3], .slice aplan plan.length cplan] w fun e w' => ∃ r : Bool × Fault, K r ∧ e = .returned (.tuple #[.bool r.1, .agg #[iV r.2.code, iV r.2.index]]) ∧ Below w.heap.size w w' := by
 refine enter (args := [.agg (tF t at_ ct at_2 ct2 at_3 ct3).toArray, vSl aplan plan cplan]) Tryz.func19 rfl Tryz.ntmps19 rfl hs ?_
 refine .seq (.region ?_)
 refine bx (vs := (tF t at_ ct at_2 ct2 at_3 ct3)) rfl rfl rfl (fun pt => ?_)
 refine .V ag0 ?_
 refine al tZ27 rfl (fun pv => ?_)
 refine .nil (.seqN (.seq (.seq (.region (.V (ldA (cs := (tF t at_ ct at_2 ct2 at_3 ct3)) rfl tA25 rfl (cellsB (off := 0) (k := 1) rfl (m := 4) rfl)) ?_)))))
 refine .V mv0 ?_
 obtain ⟨r2, q9⟩ : ∃ y_ : Fault, y_ = sp_planFault t plan := ⟨_, rfl⟩
 replace hF := hF r2 q9
 refine .C (cl (v := .agg #[iV r2.code, iV r2.index]) Tryz.call38 rfl rfl (fun w S => (by rw [q9]; exact c_planFault S.sub t at_ ct _q1 _q2 at_2 ct2 _q3 _q4 at_3 ct3 _q5 _q6 plan aplan cplan _q7 _q8 ))) ?_
 refine al tZ27 rfl (fun pf => ?_)
 refine st (p := pf) (off := 0) (k := 0) (vs := [iV r2.code, iV r2.index]) rfl rfl rfl (fun w => (tA27 w).2) rfl rfl rfl rfl ?_
 refine .KA [Box pf [iV r2.code, iV r2.index], Box pv [iV 0, iV 0], Box pt (tF t at_ ct at_2 ct2 at_3 ct3)] ?_
 refine .nil (.seqN (.seq (.region (.V (ldA (cs := [iV r2.code, iV r2.index]) rfl tA27 rfl (cellsB (off := 0) (k := 0) rfl (m := 2) rfl)) ?_))))
 refine .V (bld (cs := #[iV 0, iV 0]) (pv := []) tB27 rfl rfl) ?_
 refine .V (ne2 tE27 rfl rfl) ?_
 refine .nil (.seqN ?_)
 refine .cond rfl (fun q11 => ?_) (fun q11 => ?_)
 ·replace hF := hF.1 q11
  refine .seq ?_
  refine .openL (by kernel_rfl) rfl (by kernel_rfl) (by kernel_rfl) ?_
  refine .V (ldA (cs := [iV r2.code, iV r2.index]) rfl tA27 rfl (cellsB (off := 0) (k := 0) rfl (m := 2) rfl)) ?_
  refine .V ag0 ?_
  refine .tail ?_
  refine st (p := pv) (off := 0) (k := 1) (vs := [iV r2.code, iV r2.index]) rfl rfl rfl (fun w => (tA27 w).2) rfl rfl rfl rfl ?_
  refine .KA [Box pf [iV r2.code, iV r2.index], Box pv [iV r2.code, iV r2.index], Box pt (tF t at_ ct at_2 ct2 at_3 ct3)] ?_
  refine .nil (.seqN (.ret (.seqR ?_)))
  refine .res2 rfl (rvT rfl) (rvC rfl tA27 (k := 1) rfl rfl) (fun w' S => ⟨(false, r2), hF, rfl, S.below⟩)
 replace hF := hF.2 q11
 refine .skip (.seqN (.seq (.region (.V (ldA (cs := (tF t at_ ct at_2 ct2 at_3 ct3)) rfl tA25 rfl (cellsB (off := 0) (k := 2) rfl (m := 4) rfl)) ?_))))
 refine .V (fa rfl tF25_1) ?_
 refine .V (ld1 rfl tO22 (cellB (off := 1) (k := 2) rfl rfl)) ?_
 refine .V mv0 ?_
 obtain ⟨q12, hF⟩ := hF
 obtain ⟨r3, q13⟩ : ∃ y_ : Bool, y_ = sp_rworks t t.init plan := ⟨_, rfl⟩
 replace hF := hF r3 q13
 refine .C (cl (v := .bool r3) Tryz.call39 rfl rfl (fun w S => (by rw [q13]; exact c_works S.sub t at_ ct _q1 _q2 at_2 ct2 _q3 _q4 at_3 ct3 _q5 _q6 t.init at_ ct _q1 _q2 plan aplan cplan _q7 _q8 q12))) ?_
 refine .V (bld (cs := #[iV 0, iV 0]) (pv := []) tB27 rfl rfl) ?_
 refine .V ag0 ?_
 refine st (p := pv) (off := 0) (k := 1) (vs := [iV 0, iV 0]) rfl rfl rfl (fun w => (tA27 w).2) rfl rfl rfl rfl ?_
 refine .KA [Box pf [iV r2.code, iV r2.index], Box pv [iV 0, iV 0], Box pt (tF t at_ ct at_2 ct2 at_3 ct3)] ?_
 refine .nil (.seqN (.ret ?_))
 refine .res2 rfl (rvT rfl) (rvC rfl tA27 (k := 1) rfl rfl) (fun w' S => ⟨(r3, (⟨0, 0⟩ : Fault)), hF, rfl, S.below⟩)
theorem c_solves {h : FH} {w : World} (hs : Sub h w) (t : Task) (at_ : Option Addr) (ct : Nat) (_q1 : RSl h at_ t.init) (_q2 : t.init.length ≤ ct) (at_2 : Option Addr) (ct2 : Nat) (_q3 : RSl h at_2 t.goal) (_q4 : t.goal.length ≤ ct2) (at_3 : Option Addr) (ct3 : Nat) (_q5 : RSl h at_3 t.ops) (_q6 : t.ops.length ≤ ct3) (plan : List Int) (aplan : Option Addr) (cplan : Nat) (_q7 : RSl h aplan plan) (_q8 : plan.length ≤ cplan) : Calls Tryz.prog 19 #[.agg #[iV t.facts, .slice at_ t.init.length ct, .slice at_2 t.goal.length ct2, .slice at_3 t.ops.length ct3], .slice aplan plan.length cplan] w fun e w' => e = .returned (.tuple #[.bool (sp_solves t plan).1, .agg #[iV (sp_solves t plan).2.code, iV (sp_solves t plan).2.index]]) ∧ Below w.heap.size w w' :=
 (w_solves hs t at_ ct _q1 _q2 at_2 ct2 _q3 _q4 at_3 ct3 _q5 _q6 plan aplan cplan _q7 _q8 (fun r => r = sp_solves t plan) (ok_solves t plan)).mono fun _ _ ⟨_, hk, he, hb⟩ => ⟨by rw [he, hk], hb⟩
theorem w_compare {h : FH} {w : World} (hs : Sub h w) (x : Int) (y : Int) (K : Int → Prop) (hF : F_compare x y K) : Calls Tryz.prog 63 #[iV x, iV y] w fun e w' => ∃ r : Int, K r ∧ e = .returned (iV r) ∧ Below w.heap.size w w' := by
 refine enter (args := [iV x, iV y]) Tryz.func63 rfl Tryz.ntmps63 rfl hs ?_
 refine .seq (.region (.V ag0 ?_))
 refine .nil (.seqN (.seq (.region (.V mv0 ?_))))
 obtain ⟨r2, q1⟩ : ∃ y_ : Bool, y_ = sp_isNaN1 x := ⟨_, rfl⟩
 replace hF := hF r2 q1
 refine .C (cl (v := .bool r2) Tryz.call99 rfl rfl (fun w S => (by rw [q1]; exact c_isNaN1 S.sub x ))) ?_
 refine .V ag0 ?_
 refine .nil (.seqN (.seq (.region (.V mv0 ?_))))
 obtain ⟨r3, q2⟩ : ∃ y_ : Bool, y_ = sp_isNaN1 y := ⟨_, rfl⟩
 replace hF := hF r3 q2
 refine .C (cl (v := .bool r3) Tryz.call99 rfl rfl (fun w S => (by rw [q2]; exact c_isNaN1 S.sub y ))) ?_
 refine .V ag0 ?_
 refine .nil (.seqN (.seq (.seq (.region (.V mv0 ?_)))))
 refine .nil (.seqN ?_)
 refine .cond rfl (fun q6 => ?_) (fun q6 => ?_)
 ·replace hF := hF.1 q6
  refine .seq (.seq (.region (.V mv0 ?_)))
  refine .nil (.seqN ?_)
  refine .cond rfl (fun q8 => ?_) (fun q8 => ?_)
  ·replace hF := hF.1 q8
   refine .seq (.region (.V ag0 ?_))
   refine .nil (.seqN (.ret (.seqR (.seqR ?_))))
   refine .res1 rfl (rvT rfl) (fun w' S => ⟨0, hF, rfl, S.below⟩)
  replace hF := hF.2 q8
  refine .skip (.seqN (.seq (.region (.V ag0 ?_))))
  refine .nil (.seqN (.ret (.seqR ?_)))
  refine .res1 rfl (rvT rfl) (fun w' S => ⟨(-1), hF, rfl, S.below⟩)
 replace hF := hF.2 q6
 refine .skip (.seqN (.seq (.seq (.region (.V mv0 ?_)))))
 refine .nil (.seqN ?_)
 refine .cond rfl (fun q10 => ?_) (fun q10 => ?_)
 ·replace hF := hF.1 q10
  refine .seq (.region (.V ag0 ?_))
  refine .nil (.seqN (.ret (.seqR ?_)))
  refine .res1 rfl (rvT rfl) (fun w' S => ⟨1, hF, rfl, S.below⟩)
 replace hF := hF.2 q10
 refine .skip (.seqN (.seq (.seq (.region (.V mv0 ?_)))))
 refine .V mv0 ?_
 refine .V bi0 ?_
 refine .nil (.seqN ?_)
 refine .cond rfl (fun q12 => ?_) (fun q12 => ?_)
 ·replace hF := hF.1 q12
  refine .seq (.region (.V ag0 ?_))
  refine .nil (.seqN (.ret (.seqR ?_)))
  refine .res1 rfl (rvT rfl) (fun w' S => ⟨(-1), hF, rfl, S.below⟩)
 replace hF := hF.2 q12
 refine .skip (.seqN (.seq (.seq (.region (.V mv0 ?_)))))
 refine .V mv0 ?_
 refine .V bi0 ?_
 refine .nil (.seqN ?_)
 refine .cond rfl (fun q14 => ?_) (fun q14 => ?_)
 ·replace hF := hF.1 q14
  refine .seq (.region (.V ag0 ?_))
  refine .nil (.seqN (.ret (.seqR ?_)))
  refine .res1 rfl (rvT rfl) (fun w' S => ⟨1, hF, rfl, S.below⟩)
 replace hF := hF.2 q14
 refine .skip (.seqN (.seq (.region (.V ag0 ?_))))
 refine .nil (.seqN (.ret ?_))
 refine .res1 rfl (rvT rfl) (fun w' S => ⟨0, hF, rfl, S.below⟩)
theorem c_compare {h : FH} {w : World} (hs : Sub h w) (x : Int) (y : Int) : Calls Tryz.prog 63 #[iV x, iV y] w fun e w' => e = .returned (iV (sp_compare x y)) ∧ Below w.heap.size w w' :=
 (w_compare hs x y (fun r => r = sp_compare x y) (ok_compare x y)).mono fun _ _ ⟨_, hk, he, hb⟩ => ⟨by rw [he, hk], hb⟩
set_option maxHeartbeats 8000000 in
theorem w_scompare {h : FH} {w : World} (hs : Sub h w) (s1 : List Int) (as1 : Option Addr) (cs1 : Nat) (_q1 : RSl h as1 s1) (_q2 : s1.length ≤ cs1) (s2 : List Int) (as2 : Option Addr) (cs2 : Nat) (_q3 : RSl h as2 s2) (_q4 : s2.length ≤ cs2) (K : Int → Prop) (hF : F_scompare s1 s2 K) : Calls Tryz.prog 29 #[.slice as1 s1.length cs1, .slice as2 s2.length cs2] w fun e w' => ∃ r : Int, K r ∧ e = .returned (iV r) ∧ Below w.heap.size w w' := by
 refine enter (args := [vSl as1 s1 cs1, vSl as2 s2 cs2]) Tryz.func29 rfl Tryz.ntmps29 rfl hs ?_
 refine .seq (.region (.V ag0 ?_))
 refine .nil (.seqN (.seq (.seq (.region (.V mv0 ?_)))))
 refine .V (ln rfl tS22.is) ?_
 refine .V mv0 ?_
 refine .nil (.seqN (.block ?_))
 obtain ⟨I1, μ1, q112, q113⟩ := hF
 refine .loop' (σ := Int) (fun z => I1 z) (fun z => μ1 z) (fun z => [(0, vSl as1 s1 cs1), (1, vSl as2 s2 cs2), (9, vSl as1 s1 cs1), (10, iV ((s1.length : Nat) : Int)), (11, iV z)]) (fun _ => []) (fun _ => h) 0 q112 sb rfl (FH.le_refl _) ?_
 rintro t11 q112
 have hF := q113 t11 q112
 show J _ _ _ _ _ [(0, vSl as1 s1 cs1), (1, vSl as2 s2 cs2), (9, vSl as1 s1 cs1), (10, iV ((s1.length : Nat) : Int)), (11, iV t11)] [] h
 refine .seq (.region (.V bi0 ?_))
 refine .nil (.seqN (.seq ?_))
 refine .cond rfl (fun q116 => ?_) (fun q116 => ?_)
 ·replace hF := hF.1 q116
  refine .skip (.seqN (.seq (.block (.seq (.region (.V mv0 ?_))))))
  obtain ⟨q129, hF⟩ := hF
  refine .V (ix rfl rfl tS22 (_q1.ne (by decide) (inb_pos q129)) q129) ?_
  refine .V (ld1 (v := iV (gt s1 t11)) rfl tO3 (cellH (_q1.elemF q129 (by decide) 0 _ rfl))) ?_
  refine .V ag0 ?_
  refine .V ag0 ?_
  refine .nil (.seqN (.seq (.seq (.region (.V mv0 ?_)))))
  refine .V mv0 ?_
  refine .V (ln rfl tS22.is) ?_
  refine .V bi0 ?_
  refine .nil (.seqN ?_)
  refine .cond rfl (fun q131 => ?_) (fun q131 => ?_)
  ·replace hF := hF.1 q131
   refine .seq (.region (.V ag0 ?_))
   refine .nil (.seqN (.ret (.seqR (.blkR (.seqR (.seqR (.blkR (.seqR ?_))))))))
   refine .res1 rfl (rvT rfl) (fun w' S => ⟨1, hF, rfl, S.below⟩)
  replace hF := hF.2 q131
  refine .skip (.seqN (.seq (.region (.V mv0 ?_))))
  refine .V mv0 ?_
  obtain ⟨q132, hF⟩ := hF
  refine .V (ix rfl rfl tS22 (_q3.ne (by decide) (inb_pos q132)) q132) ?_
  refine .V (ld1 (v := iV (gt s2 t11)) rfl tO3 (cellH (_q3.elemF q132 (by decide) 0 _ rfl))) ?_
  refine .V ag0 ?_
  refine .nil (.seqN (.seq (.region (.V mv0 ?_))))
  refine .V mv0 ?_
  obtain ⟨r2, q133⟩ : ∃ y_ : Int, y_ = sp_compare (gt s1 t11) (gt s2 t11) := ⟨_, rfl⟩
  replace hF := hF r2 q133
  refine .C (cl (v := iV r2) Tryz.call63 rfl rfl (fun w S => (by rw [q133]; exact c_compare S.sub (gt s1 t11) (gt s2 t11) ))) ?_
  refine .V ag0 ?_
  refine .nil (.seqN (.seq (.region (.V mv0 ?_))))
  refine .V bi0 ?_
  refine .nil (.seqN ?_)
  refine .cond rfl (fun q134 => ?_) (fun q134 => ?_)
  ·replace hF := hF.1 q134
   refine .seq (.region (.V mv0 ?_))
   refine .V ag0 ?_
   refine .nil (.seqN (.ret (.blkR (.seqR (.seqR (.blkR (.seqR ?_)))))))
   refine .res1 rfl (rvT rfl) (fun w' S => ⟨r2, hF, rfl, S.below⟩)
  replace hF := hF.2 q134
  refine .skip (.blkN (.seqN (.region (.V bi0 ?_))))
  refine .V mv0 ?_
  refine .nil ?_
  exact .RO (wr (t11 + 1)) hF.1 hF.2
 replace hF := hF.2 q116
 refine .exit (.seqX (.seqX (.blkX (.seqN (.seq (.seq (.region (.V mv0 ?_))))))))
 refine .V (ln rfl tS22.is) ?_
 refine .V mv0 ?_
 refine .V (ln rfl tS22.is) ?_
 refine .V bi0 ?_
 refine .nil (.seqN ?_)
 refine .cond rfl (fun q136 => ?_) (fun q136 => ?_)
 ·replace hF := hF.1 q136
  refine .seq (.region (.V ag0 ?_))
  refine .nil (.seqN (.ret (.seqR ?_)))
  refine .res1 rfl (rvT rfl) (fun w' S => ⟨(-1), hF, rfl, S.below⟩)
 replace hF := hF.2 q136
 refine .skip (.seqN (.seq (.region (.V ag0 ?_))))
 refine .nil (.seqN (.ret ?_))
 refine .res1 rfl (rvT rfl) (fun w' S => ⟨0, hF, rfl, S.below⟩)
theorem c_scompare {h : FH} {w : World} (hs : Sub h w) (s1 : List Int) (as1 : Option Addr) (cs1 : Nat) (_q1 : RSl h as1 s1) (_q2 : s1.length ≤ cs1) (s2 : List Int) (as2 : Option Addr) (cs2 : Nat) (_q3 : RSl h as2 s2) (_q4 : s2.length ≤ cs2) (hp : pre_scompare s1 s2) : Calls Tryz.prog 29 #[.slice as1 s1.length cs1, .slice as2 s2.length cs2] w fun e w' => e = .returned (iV (sp_scompare s1 s2)) ∧ Below w.heap.size w w' :=
 (w_scompare hs s1 as1 cs1 _q1 _q2 s2 as2 cs2 _q3 _q4 (fun r => r = sp_scompare s1 s2) (ok_scompare s1 s2 hp)).mono fun _ _ ⟨_, hk, he, hb⟩ => ⟨by rw [he, hk], hb⟩
end Go.Proofs.YtimillpakjgnoaaGreat.Pl

namespace Go.Proofs.YtimillpakjgnoaaGreat.Pl
open Go Go.RowKit
theorem w_sequal {h : FH} {w : World} (hs : Sub h w) (s1 : List Int) (as1 : Option Addr) (cs1 : Nat) (_q1 : RSl h as1 s1) (_q2 : s1.length ≤ cs1) (s2 : List Int) (as2 : Option Addr) (cs2 : Nat) (_q3 : RSl h as2 s2) (_q4 : s2.length ≤ cs2) (K : Bool → Prop) (hF : F_sequal s1 s2 K) : Calls Tryz.prog 96 #[.slice as1 s1.length cs1, .slice as2 s2.length cs2] w fun e w' => ∃ r : Bool, K r ∧ e = .returned (.bool r) ∧ Below w.heap.size w w' := by
 refine enter (args := [vSl as1 s1 cs1, vSl as2 s2 cs2]) Tryz.func96 rfl Tryz.ntmps96 rfl hs ?_
 refine .seq (.region (.V ag0 ?_))
 refine .nil (.seqN (.seq (.seq (.region (.V mv0 ?_)))))
 refine .V (ln rfl tS22.is) ?_
 refine .V mv0 ?_
 refine .V (ln rfl tS22.is) ?_
 refine .V bi0 ?_
 refine .nil (.seqN ?_)
 refine .cond rfl (fun q6 => ?_) (fun q6 => ?_)
 ·replace hF := hF.1 q6
  refine .seq (.region (.V ag0 ?_))
  refine .nil (.seqN (.ret (.seqR ?_)))
  refine .res1 rfl (rvT rfl) (fun w' S => ⟨false, hF, rfl, S.below⟩)
 replace hF := hF.2 q6
 refine .skip (.seqN (.seq (.seq (.region (.V mv0 ?_)))))
 refine .V (ln rfl tS22.is) ?_
 refine .V mv0 ?_
 refine .nil (.seqN (.block ?_))
 obtain ⟨I1, μ1, q69, q70⟩ := hF
 refine .loop' (σ := Int) (fun z => I1 z) (fun z => μ1 z) (fun z => [(0, vSl as1 s1 cs1), (1, vSl as2 s2 cs2), (12, iV ((s1.length : Nat) : Int)), (13, iV z)]) (fun _ => []) (fun _ => h) 0 q69 sb rfl (FH.le_refl _) ?_
 rintro t13 q69
 have hF := q70 t13 q69
 show J _ _ _ _ _ [(0, vSl as1 s1 cs1), (1, vSl as2 s2 cs2), (12, iV ((s1.length : Nat) : Int)), (13, iV t13)] [] h
 refine .seq (.region (.V bi0 ?_))
 refine .nil (.seqN (.seq ?_))
 refine .cond rfl (fun q73 => ?_) (fun q73 => ?_)
 ·replace hF := hF.1 q73
  refine .skip (.seqN (.seq (.block (.seq (.region (.V mv0 ?_))))))
  refine .V ag0 ?_
  refine .nil (.seqN (.seq ?_))
  refine .open_ (by kernel_rfl) (by kernel_rfl) ?_
  refine .V mv0 ?_
  refine .V mv0 ?_
  obtain ⟨q80, hF⟩ := hF
  refine .V (ix rfl rfl tS22 (_q1.ne (by decide) (inb_pos q80)) q80) ?_
  refine .V (ld1 (v := iV (gt s1 t13)) rfl tO3 (cellH (_q1.elemF q80 (by decide) 0 _ rfl))) ?_
  refine .V mv0 ?_
  refine .V mv0 ?_
  obtain ⟨q81, hF⟩ := hF
  refine .V (ix rfl rfl tS22 (_q3.ne (by decide) (inb_pos q81)) q81) ?_
  refine .V (ld1 (v := iV (gt s2 t13)) rfl tO3 (cellH (_q3.elemF q81 (by decide) 0 _ rfl))) ?_
  refine .V bi0 ?_
  refine .fin ?_
  refine .seqN ?_
  refine .cond rfl (fun q82 => ?_) (fun q82 => ?_)
  ·replace hF := hF.1 q82
   refine .seq (.region (.V ag0 ?_))
   refine .nil (.seqN (.ret (.blkR (.seqR (.seqR (.blkR (.seqR ?_)))))))
   refine .res1 rfl (rvT rfl) (fun w' S => ⟨false, hF, rfl, S.below⟩)
  replace hF := hF.2 q82
  refine .skip (.blkN (.seqN (.region (.V bi0 ?_))))
  refine .V mv0 ?_
  refine .nil ?_
  exact .RO (wr (t13 + 1)) hF.1 hF.2
 replace hF := hF.2 q73
 refine .exit (.seqX (.seqX (.blkX (.seqN (.seq (.region (.V ag0 ?_)))))))
 refine .nil (.seqN (.ret ?_))
 refine .res1 rfl (rvT rfl) (fun w' S => ⟨true, hF, rfl, S.below⟩)
theorem c_sequal {h : FH} {w : World} (hs : Sub h w) (s1 : List Int) (as1 : Option Addr) (cs1 : Nat) (_q1 : RSl h as1 s1) (_q2 : s1.length ≤ cs1) (s2 : List Int) (as2 : Option Addr) (cs2 : Nat) (_q3 : RSl h as2 s2) (_q4 : s2.length ≤ cs2) (hp : pre_sequal s1 s2) : Calls Tryz.prog 96 #[.slice as1 s1.length cs1, .slice as2 s2.length cs2] w fun e w' => e = .returned (.bool (sp_sequal s1 s2)) ∧ Below w.heap.size w w' :=
 (w_sequal hs s1 as1 cs1 _q1 _q2 s2 as2 cs2 _q3 _q4 (fun r => r = sp_sequal s1 s2) (ok_sequal s1 s2 hp)).mono fun _ _ ⟨_, hk, he, hb⟩ => ⟨by rw [he, hk], hb⟩
theorem w_stateFault {h : FH} {w : World} (hs : Sub h w) (t : Task) (at_ : Option Addr) (ct : Nat) (_q1 : RSl h at_ t.init) (_q2 : t.init.length ≤ ct) (at_2 : Option Addr) (ct2 : Nat) (_q3 : RSl h at_2 t.goal) (_q4 : t.goal.length ≤ ct2) (at_3 : Option Addr) (ct3 : Nat) (_q5 : RSl h at_3 t.ops) (_q6 : t.ops.length ≤ ct3) (s_ : List Int) (as_ : Option Addr) (cs_ : Nat) (_q7 : RSl h as_ s_) (_q8 : s_.length ≤ cs_) (K : Fault → Prop) (hF : F_stateFault t s_ K) : Calls Tryz.prog 25 #[.agg #[iV t.facts, .slice at_ t.init.length ct, .slice at_2 t.goal.length ct2, .slice at_3 t.ops.length ct3], .slice as_ s_.length cs_] w fun e w' => ∃ r : Fault, K r ∧ e = .returned (.agg #[iV r.code, iV r.index]) ∧ Below w.heap.size w w' := by
 refine enter (args := [.agg (tF t at_ ct at_2 ct2 at_3 ct3).toArray, vSl as_ s_ cs_]) Tryz.func25 rfl Tryz.ntmps25 rfl hs ?_
 refine .seq (.region ?_)
 refine bx (vs := (tF t at_ ct at_2 ct2 at_3 ct3)) rfl rfl rfl (fun pt => ?_)
 refine al tZ27 rfl (fun pv => ?_)
 refine .nil (.seqN (.seq (.seq (.region (.V (ldA (cs := (tF t at_ ct at_2 ct2 at_3 ct3)) rfl tA25 rfl (cellsB (off := 0) (k := 1) rfl (m := 4) rfl)) ?_)))))
 obtain ⟨r2, q9⟩ : ∃ y_ : Fault, y_ = sp_validate t := ⟨_, rfl⟩
 replace hF := hF r2 q9
 refine .C (cl (v := .agg #[iV r2.code, iV r2.index]) Tryz.call15 rfl rfl (fun w S => (by rw [q9]; exact c_validate S.sub t at_ ct _q1 _q2 at_2 ct2 _q3 _q4 at_3 ct3 _q5 _q6 ))) ?_
 refine al tZ27 rfl (fun pf => ?_)
 refine st (p := pf) (off := 0) (k := 0) (vs := [iV r2.code, iV r2.index]) rfl rfl rfl (fun w => (tA27 w).2) rfl rfl rfl rfl ?_
 refine .KA [Box pf [iV r2.code, iV r2.index], Box pv [iV 0, iV 0], Box pt (tF t at_ ct at_2 ct2 at_3 ct3)] ?_
 refine .nil (.seqN (.seq (.region (.V (ldA (cs := [iV r2.code, iV r2.index]) rfl tA27 rfl (cellsB (off := 0) (k := 0) rfl (m := 2) rfl)) ?_))))
 refine .V (bld (cs := #[iV 0, iV 0]) (pv := []) tB27 rfl rfl) ?_
 refine .V (ne2 tE27 rfl rfl) ?_
 refine .nil (.seqN ?_)
 refine .cond rfl (fun q11 => ?_) (fun q11 => ?_)
 ·replace hF := hF.1 q11
  refine .seq (.region (.V (ldA (cs := [iV r2.code, iV r2.index]) rfl tA27 rfl (cellsB (off := 0) (k := 0) rfl (m := 2) rfl)) ?_))
  refine st (p := pv) (off := 0) (k := 1) (vs := [iV r2.code, iV r2.index]) rfl rfl rfl (fun w => (tA27 w).2) rfl rfl rfl rfl ?_
  refine .KA [Box pf [iV r2.code, iV r2.index], Box pv [iV r2.code, iV r2.index], Box pt (tF t at_ ct at_2 ct2 at_3 ct3)] ?_
  refine .nil (.seqN (.ret (.seqR ?_)))
  refine .res1 rfl (rvC rfl tA27 (k := 1) rfl rfl) (fun w' S => ⟨r2, hF, rfl, S.below⟩)
 replace hF := hF.2 q11
 refine .skip (.seqN (.seq (.seq (.region (.V mv0 ?_)))))
 refine .V (fa rfl tF25_0) ?_
 refine .V (ld1 rfl tO3 (cellB (off := 0) (k := 2) rfl rfl)) ?_
 obtain ⟨q12, hF⟩ := hF
 obtain ⟨r3, q13⟩ : ∃ y_ : Bool, y_ = sp_isSet s_ t.facts := ⟨_, rfl⟩
 replace hF := hF r3 q13
 refine .C (cl (v := .bool r3) Tryz.call36 rfl rfl (fun w S => (by rw [q13]; exact c_isSet S.sub s_ as_ cs_ _q7 _q8 t.facts q12))) ?_
 refine .V (nt rfl) ?_
 refine .nil (.seqN ?_)
 refine .cond rfl (fun q15 => ?_) (fun q15 => ?_)
 ·replace hF := hF.1 q15
  refine .seq (.region (.V (bld (cs := #[iV 5, iV (-4)]) (pv := [(0, iV 5), (1, iV (-4))]) tB27 rfl rfl) ?_))
  refine st (p := pv) (off := 0) (k := 1) (vs := [iV 5, iV (-4)]) rfl rfl rfl (fun w => (tA27 w).2) rfl rfl rfl rfl ?_
  refine .KA [Box pf [iV r2.code, iV r2.index], Box pv [iV 5, iV (-4)], Box pt (tF t at_ ct at_2 ct2 at_3 ct3)] ?_
  refine .nil (.seqN (.ret (.seqR ?_)))
  refine .res1 rfl (rvC rfl tA27 (k := 1) rfl rfl) (fun w' S => ⟨(⟨5, (-4)⟩ : Fault), hF, rfl, S.below⟩)
 replace hF := hF.2 q15
 refine .skip (.seqN (.seq (.region (.V (bld (cs := #[iV 0, iV 0]) (pv := []) tB27 rfl rfl) ?_))))
 refine st (p := pv) (off := 0) (k := 1) (vs := [iV 0, iV 0]) rfl rfl rfl (fun w => (tA27 w).2) rfl rfl rfl rfl ?_
 refine .KA [Box pf [iV r2.code, iV r2.index], Box pv [iV 0, iV 0], Box pt (tF t at_ ct at_2 ct2 at_3 ct3)] ?_
 refine .nil (.seqN (.ret ?_))
 refine .res1 rfl (rvC rfl tA27 (k := 1) rfl rfl) (fun w' S => ⟨(⟨0, 0⟩ : Fault), hF, rfl, S.below⟩)
theorem c_stateFault {h : FH} {w : World} (hs : Sub h w) (t : Task) (at_ : Option Addr) (ct : Nat) (_q1 : RSl h at_ t.init) (_q2 : t.init.length ≤ ct) (at_2 : Option Addr) (ct2 : Nat) (_q3 : RSl h at_2 t.goal) (_q4 : t.goal.length ≤ ct2) (at_3 : Option Addr) (ct3 : Nat) (_q5 : RSl h at_3 t.ops) (_q6 : t.ops.length ≤ ct3) (s_ : List Int) (as_ : Option Addr) (cs_ : Nat) (_q7 : RSl h as_ s_) (_q8 : s_.length ≤ cs_) : Calls Tryz.prog 25 #[.agg #[iV t.facts, .slice at_ t.init.length ct, .slice at_2 t.goal.length ct2, .slice at_3 t.ops.length ct3], .slice as_ s_.length cs_] w fun e w' => e = .returned (.agg #[iV (sp_stateFault t s_).code, iV (sp_stateFault t s_).index]) ∧ Below w.heap.size w w' :=
 (w_stateFault hs t at_ ct _q1 _q2 at_2 ct2 _q3 _q4 at_3 ct3 _q5 _q6 s_ as_ cs_ _q7 _q8 (fun r => r = sp_stateFault t s_) (ok_stateFault t s_)).mono fun _ _ ⟨_, hk, he, hb⟩ => ⟨by rw [he, hk], hb⟩
theorem w_word {h : FH} {w : World} (hs : Sub h w) (s_ : List Int) (as_ : Option Addr) (cs_ : Nat) (_q1 : RSl h as_ s_) (_q2 : s_.length ≤ cs_) (K : Int → Prop) (hF : F_word s_ K) : Calls Tryz.prog 76 #[.slice as_ s_.length cs_] w fun e w' => ∃ r : Int, K r ∧ e = .returned (.int .u32 r) ∧ Below w.heap.size w w' := by
 refine enter (args := [vSl as_ s_ cs_]) Tryz.func76 rfl Tryz.ntmps76 rfl hs ?_
 refine .seq (.region (.V ag0 ?_))
 refine .nil (.seqN (.seq (.region (.V ag0 ?_))))
 refine .nil (.seqN (.seq (.seq (.region (.V mv0 ?_)))))
 refine .V (ln rfl tS22.is) ?_
 refine .V mv0 ?_
 refine .nil (.seqN (.block ?_))
 obtain ⟨I1, μ1, q65, q66⟩ := hF
 refine .loop' (σ := Int × Int) (fun z => I1 z.1 z.2) (fun z => μ1 z.1 z.2) (fun z => [(3, .int .u32 z.1), (6, vSl as_ s_ cs_), (7, iV ((s_.length : Nat) : Int)), (8, iV z.2)]) (fun _ => []) (fun _ => h) (0, 0) q65 sb rfl (FH.le_refl _) ?_
 rintro ⟨w_, t8⟩ q65
 have hF := q66 w_ t8 q65
 show J _ _ _ _ _ [(3, .int .u32 w_), (6, vSl as_ s_ cs_), (7, iV ((s_.length : Nat) : Int)), (8, iV t8)] [] h
 refine .seq (.region (.V bi0 ?_))
 refine .nil (.seqN (.seq ?_))
 refine .cond rfl (fun q69 => ?_) (fun q69 => ?_)
 ·replace hF := hF.1 q69
  refine .skip (.seqN (.seq (.block (.seq (.region ?_)))))
  obtain ⟨q76, hF⟩ := hF
  refine .V (ix rfl rfl tS22 (_q1.ne (by decide) (inb_pos q76)) q76) ?_
  refine .V (ld1 (v := iV (gt s_ t8)) rfl tO3 (cellH (_q1.elemF q76 (by decide) 0 _ rfl))) ?_
  refine .V ag0 ?_
  refine .nil (.seqN (.region (.V mv0 ?_)))
  refine .V mv0 ?_
  obtain ⟨q77, hF⟩ := hF
  obtain ⟨x, q78⟩ : ∃ y_ : Int, y_ = (IntKind.u32.wrap (1 * 2 ^ (min (((gt s_ t8) : Int)).toNat (IntKind.bits .u32)))) := ⟨_, rfl⟩
  replace hF := hF x q78
  refine .v (v := .int .u32 x) (by rw [q78]; exact bsh rfl rfl q77 rfl) rfl rfl rfl ?_
  refine .V bi0 ?_
  refine .V ag0 ?_
  refine .nil (.blkN (.seqN (.region (.V bi0 ?_))))
  refine .V mv0 ?_
  refine .nil ?_
  exact .RO (bits .or .u32 w_ x, wr (t8 + 1)) hF.1 hF.2
 replace hF := hF.2 q69
 refine .exit (.seqX (.seqX (.blkX (.seqN (.seq (.region (.V mv0 ?_)))))))
 refine .V ag0 ?_
 refine .nil (.seqN (.ret ?_))
 refine .res1 rfl (rvT rfl) (fun w' S => ⟨w_, hF, rfl, S.below⟩)
theorem c_word {h : FH} {w : World} (hs : Sub h w) (s_ : List Int) (as_ : Option Addr) (cs_ : Nat) (_q1 : RSl h as_ s_) (_q2 : s_.length ≤ cs_) (hp : pre_word s_) : Calls Tryz.prog 76 #[.slice as_ s_.length cs_] w fun e w' => e = .returned (.int .u32 (sp_word s_)) ∧ Below w.heap.size w w' :=
 (w_word hs s_ as_ cs_ _q1 _q2 (fun r => r = sp_word s_) (ok_word s_ hp)).mono fun _ _ ⟨_, hk, he, hb⟩ => ⟨by rw [he, hk], hb⟩
theorem w_facts {h : FH} {w : World} (hs : Sub h w) (w_ : Int) (K : (List Int) → Prop) (hF : F_facts w_ K) : Calls Tryz.prog 44 #[.int .u32 w_] w fun e w' => ∃ (r : List Int) (z : Option Addr × Nat) (h1 : FH), K r ∧ e = .returned (.slice z.1 r.length z.2) ∧ FH.le h h1 ∧ (RSl h1 z.1 r ∧ r.length ≤ z.2) ∧ SH (Kp.all w h) h1 w' [] := by
 refine enter (args := [.int .u32 w_]) Tryz.func44 rfl Tryz.ntmps44 rfl hs ?_
 refine .seq (.region (.V ag0 ?_))
 refine .nil (.seqN (.seq (.region (.V ag0 ?_))))
 refine .nil (.seqN (.seq (.seq (.region (.V mv0 ?_)))))
 refine .nil (.seqN (.block ?_))
 refine .nilSl 3 1 ?_
 refine .KA [oL 3 1 none ([] : List Int) 0] ?_
 obtain ⟨I1, μ1, q73, q74⟩ := hF
 refine .loop' (σ := Int × List Int × Option Addr × Nat) (fun z => I1 z.1 z.2.1) (fun z => μ1 z.1 z.2.1) (fun z => [(0, .int .u32 w_), (3, vSl z.2.2.1 z.2.1 z.2.2.2), (5, iV z.1)]) (fun z => [oL 3 1 z.2.2.1 z.2.1 z.2.2.2]) (fun _ => h) (0, ([] : List Int), none, 0) q73 sb rfl (FH.le_refl _) ?_
 rintro ⟨t5, out, aout, cout⟩ q73
 have hF := q74 t5 out q73
 show J _ _ _ _ _ [(0, .int .u32 w_), (3, vSl aout out cout), (5, iV t5)] [oL 3 1 aout out cout] h
 refine .seq (.region (.V bi0 ?_))
 refine .nil (.seqN (.seq ?_))
 refine .cond rfl (fun q77 => ?_) (fun q77 => ?_)
 ·replace hF := hF.1 q77
  refine .skip (.seqN ?_)
  refine .share (σ := List Int × Option Addr × Nat) (fun z => F_facts_J1 out t5 I1 μ1 z.1) (fun z => [(0, .int .u32 w_), (3, vSl z.2.1 z.1 z.2.2), (5, iV t5)]) (fun z => [oL 3 1 z.2.1 z.1 z.2.2]) (fun _ => h) ?_ (fun q84 => ?_)
  ·rintro ⟨out3, aout3, cout3⟩ hF
   show J _ _ _ _ _ [(0, .int .u32 w_), (3, vSl aout3 out3 cout3), (5, iV t5)] [oL 3 1 aout3 out3 cout3] h
   refine .region (.V bi0 ?_)
   refine .V mv0 ?_
   refine .nil ?_
   exact .RO (wr (t5 + 1), out3, aout3, cout3) hF.1 hF.2
  refine .block (.seq (.region (.V mv0 ?_)))
  refine .V ag0 ?_
  refine .nil (.seqN (.seq (.region (.V mv0 ?_))))
  refine .V mv0 ?_
  obtain ⟨q85, hF⟩ := hF
  refine .V (bsh rfl rfl q85 rfl) ?_
  obtain ⟨x, q86⟩ : ∃ y_ : Int, y_ = (bits .and .u32 (Int.fdiv w_ (2 ^ (min ((t5 : Int)).toNat (IntKind.bits .u32)))) 1) := ⟨_, rfl⟩
  replace hF := hF x q86
  refine .v (v := .int .u32 x) (by rw [q86]; exact bi rfl rfl rfl) rfl rfl rfl ?_
  refine .V bi0 ?_
  refine .nil (.seqN ?_)
  refine .cond rfl (fun q87 => ?_) (fun q87 => ?_)
  ·replace hF := hF.1 q87
   refine .region (.V mv0 ?_)
   refine .V mv0 ?_
   refine bs2 (cs := #[iV t5]) (pv := [(0, iV t5)]) tS22 rfl rfl (by decide) (by decide) rfl rfl rfl (fun a _ => ?_)
   refine .KA [oL 3 1 a ([t5] : List Int) 1, oL 3 1 aout out cout] ?_
   obtain ⟨q89, hF⟩ := hF
   have q90 : out.length + ([t5] : List Int).length = ((out ++ ([t5] : List Int))).length := len_app rfl rfl
   refine app (k := 1) (news := flL ([t5] : List Int)) (cs' := flL (out ++ ([t5] : List Int))) (nm := ((out ++ ([t5] : List Int))).length) tS22 rfl (by decide) rfl rfl rfl ((flL_len _).trans rfl) (srcS (k := 0) rfl) (flL_one _) (room_of q90 q89).1 (room_of q90 q89).2 q90 (flL_append _ _).symm rfl (fun a2 c => ?_)
   refine .KA [oL 3 1 a ([t5] : List Int) 1, oL 3 1 a2 (out ++ ([t5] : List Int)) c] ?_
   refine .V ag0 ?_
   refine .nil (.blkN ?_)
   refine .sel0 [1] (by decide) rfl ?_
   exact .US q84 ((out ++ ([t5] : List Int)), a2, c) hF
  replace hF := hF.2 q87
  refine .skip (.blkN ?_)
  exact .US q84 (out, aout, cout) hF
 replace hF := hF.2 q77
 refine .exit (.seqX (.seqX (.blkX (.seqN (.seq (.region (.V mv0 ?_)))))))
 refine .V ag0 ?_
 refine .nil (.seqN ?_)
 refine .freezeL (k := 0) rfl (fun h1 le1 q92 q91 => ?_)
 refine .KA [tru] ?_
 refine .ret ?_
 refine .res1 rfl (rvT rfl) (fun w' S => ⟨out, (aout, cout), h1, hF, rfl, (le1), ⟨(RSl.of q91), (q92)⟩, S.none⟩)
theorem c_facts {h : FH} {w : World} (hs : Sub h w) (w_ : Int) (hp : pre_facts w_) : Calls Tryz.prog 44 #[.int .u32 w_] w fun e w' => ∃ (z : Option Addr × Nat) (h1 : FH), e = .returned (.slice z.1 (sp_facts w_).length z.2) ∧ FH.le h h1 ∧ (RSl h1 z.1 (sp_facts w_) ∧ (sp_facts w_).length ≤ z.2) ∧ SH (Kp.all w h) h1 w' [] :=
 (w_facts hs w_ (fun r => r = sp_facts w_) (ok_facts w_ hp)).mono fun _ _ ⟨r, z, h1, hk, he, hl, hf, hS⟩ => by subst hk; exact ⟨z, h1, he, hl, hf, hS⟩
theorem w_wcmp {h : FH} {w : World} (hs : Sub h w) (a : Int) (b : Int) (K : Int → Prop) (hF : F_wcmp a b K) : Calls Tryz.prog 43 #[.int .u32 a, .int .u32 b] w fun e w' => ∃ r : Int, K r ∧ e = .returned (iV r) ∧ Below w.heap.size w w' := by
 refine enter (args := [.int .u32 a, .int .u32 b]) Tryz.func43 rfl Tryz.ntmps43 rfl hs ?_
 refine .seq (.region (.V ag0 ?_))
 refine .nil (.seqN (.seq (.region (.V mv0 ?_))))
 obtain ⟨q1, hF⟩ := hF
 obtain ⟨r2, q2⟩ : ∃ y_ : List Int, y_ = sp_facts a := ⟨_, rfl⟩
 replace hF := hF r2 q2
 refine clR (α := Option Addr × Nat) (Φ := fun h1 z => RSl h1 z.1 r2 ∧ r2.length ≤ z.2) (V := fun z => vSl z.1 r2 z.2) Tryz.call44 rfl rfl (fun w S => (by rw [q2]; exact c_facts S.sub a q1)) rfl (fun z h1 le1 hz => ?_)
 obtain ⟨a2, c⟩ := z
 obtain ⟨q3, q4⟩ := hz
 refine .V mv0 ?_
 obtain ⟨q5, hF⟩ := hF
 obtain ⟨r3, q6⟩ : ∃ y_ : List Int, y_ = sp_facts b := ⟨_, rfl⟩
 replace hF := hF r3 q6
 refine clR (α := Option Addr × Nat) (Φ := fun h1 z => RSl h1 z.1 r3 ∧ r3.length ≤ z.2) (V := fun z => vSl z.1 r3 z.2) Tryz.call44 rfl rfl (fun w S => (by rw [q6]; exact c_facts S.sub b q5)) rfl (fun z h2 le2 hz => ?_)
 obtain ⟨a3, c2⟩ := z
 obtain ⟨q7, q8⟩ := hz
 obtain ⟨q9, hF⟩ := hF
 obtain ⟨r4, q10⟩ : ∃ y_ : Int, y_ = sp_scompare r2 r3 := ⟨_, rfl⟩
 replace hF := hF r4 q10
 refine .C (cl (v := iV r4) Tryz.call29 rfl rfl (fun w S => (by rw [q10]; exact c_scompare S.sub r2 a2 c (q3.mono (le2)) q4 r3 a3 c2 q7 q8 q9))) ?_
 refine .V ag0 ?_
 refine .nil (.seqN (.ret ?_))
 refine .res1 rfl (rvT rfl) (fun w' S => ⟨r4, hF, rfl, S.below⟩)
theorem c_wcmp {h : FH} {w : World} (hs : Sub h w) (a : Int) (b : Int) (hp : pre_wcmp a b) : Calls Tryz.prog 43 #[.int .u32 a, .int .u32 b] w fun e w' => e = .returned (iV (sp_wcmp a b)) ∧ Below w.heap.size w w' :=
 (w_wcmp hs a b (fun r => r = sp_wcmp a b) (ok_wcmp a b hp)).mono fun _ _ ⟨_, hk, he, hb⟩ => ⟨by rw [he, hk], hb⟩
end Go.Proofs.YtimillpakjgnoaaGreat.Pl

namespace Go.Proofs
open Go.Shelf
def YtimillpakjgnoaaGreat.laysSW_ren : Go.Shelf.Ren := ⟨fun | 6 => 42 | 15 => 78 | 14 => 77 | 28 => 114 | 29 => 115 | 20 => 106 | 21 => 107 | 22 => 108 | 23 => 109 | 24 => 110 | 25 => 111 | 26 => 112 | 27 => 113 | 46 => 130 | 47 => 131 | 48 => 132 | 49 => 133 | 50 => 134 | 57 => 138 | n => n, fun | 22 => 57 | 24 => 62 | 25 => 86 | 3 => 3 | 39 => 152 | 0 => 0 | 53 => 62 | 55 => 193 | 4 => 4 | 46 => 186 | 45 => 185 | 50 => 110 | 5 => 5 | 9 => 9 | 66 => 202 | 70 => 206 | 76 => 210 | 77 => 211 | n => n, fun | n => n⟩
theorem YtimillpakjgnoaaGreat.laysSW : Go.Proofs.SlLaysF.n6 Tryz.prog YtimillpakjgnoaaGreat.laysSW_ren := {
  mixed := by kernel_rfl
  f6 := ⟨Tryz.f42.name, by decide, Tryz.func42.trans (congrArg some (by kernel_rfl))⟩
  f14 := ⟨Tryz.f77.name, by decide, Tryz.func77.trans (congrArg some (by kernel_rfl))⟩
  f15 := Tryz.func78.trans (congrArg some (by kernel_rfl))
  f20 := ⟨Tryz.f106.name, by decide, Tryz.func106.trans (congrArg some (by kernel_rfl))⟩
  f21 := ⟨Tryz.f107.name, by decide, Tryz.func107.trans (congrArg some (by kernel_rfl))⟩
  f22 := ⟨Tryz.f108.name, by decide, Tryz.func108.trans (congrArg some (by kernel_rfl))⟩
  f23 := ⟨Tryz.f109.name, by decide, Tryz.func109.trans (congrArg some (by kernel_rfl))⟩
  f24 := ⟨Tryz.f110.name, by decide, Tryz.func110.trans (congrArg some (by kernel_rfl))⟩
  f25 := ⟨Tryz.f111.name, by decide, Tryz.func111.trans (congrArg some (by kernel_rfl))⟩
  f26 := ⟨Tryz.f112.name, by decide, Tryz.func112.trans (congrArg some (by kernel_rfl))⟩
  f27 := ⟨Tryz.f113.name, by decide, Tryz.func113.trans (congrArg some (by kernel_rfl))⟩
  f28 := Tryz.func114.trans (congrArg some (by kernel_rfl))
  f29 := Tryz.func115.trans (congrArg some (by kernel_rfl))
  f46 := ⟨Tryz.f130.name, by decide, Tryz.func130.trans (congrArg some (by kernel_rfl))⟩
  f47 := Tryz.func131.trans (congrArg some (by kernel_rfl))
  f48 := Tryz.func132.trans (congrArg some (by kernel_rfl))
  f49 := ⟨Tryz.f133.name, by decide, Tryz.func133.trans (congrArg some (by kernel_rfl))⟩
  f50 := ⟨Tryz.f134.name, by decide, Tryz.func134.trans (congrArg some (by kernel_rfl))⟩
  f57 := ⟨Tryz.f138.name, by decide, Tryz.func138.trans (congrArg some (by kernel_rfl))⟩
  t0 := Tryz.underlying0
  a0 := Tryz.isAgg0
  z0 := Tryz.sizeOf0
  v0 := Tryz.zeroValue0
  t3 := Tryz.underlying3
  a3 := Tryz.isAgg3
  z3 := Tryz.sizeOf3
  v3 := Tryz.zeroValue3
  t4 := Tryz.underlying4
  a4 := Tryz.isAgg4
  z4 := Tryz.sizeOf4
  v4 := Tryz.zeroValue4
  t5 := Tryz.underlying5
  a5 := Tryz.isAgg5
  z5 := Tryz.sizeOf5
  v5 := Tryz.zeroValue5
  t9 := Tryz.underlying9
  a9 := Tryz.isAgg9
  z9 := Tryz.sizeOf9
  v9 := Tryz.zeroValue9
  t22 := Tryz.underlying57
  a22 := Tryz.isAgg57
  z22 := Tryz.sizeOf57
  v22 := Tryz.zeroValue57
  a24 := Tryz.isAgg62
  z24 := Tryz.sizeOf62
  t25 := Tryz.underlying86
  a25 := Tryz.isAgg86
  z25 := Tryz.sizeOf86
  v25 := Tryz.zeroValue86
  t39 := Tryz.underlying152
  a39 := Tryz.isAgg152
  z39 := Tryz.sizeOf152
  v39 := Tryz.zeroValue152
  t45 := Tryz.underlying185
  a45 := Tryz.isAgg185
  z45 := Tryz.sizeOf185
  v45 := Tryz.zeroValue185
  t46 := Tryz.underlying186
  a46 := Tryz.isAgg186
  z46 := Tryz.sizeOf186
  v46 := Tryz.zeroValue186
  t50 := Tryz.underlying110
  a50 := Tryz.isAgg110
  z50 := Tryz.sizeOf110
  v50 := Tryz.zeroValue110
  t53 := Tryz.underlying62
  a53 := Tryz.isAgg62
  z53 := Tryz.sizeOf62
  v53 := Tryz.zeroValue62
  t55 := Tryz.underlying193
  a55 := Tryz.isAgg193
  z55 := Tryz.sizeOf193
  v55 := Tryz.zeroValue193
  t66 := Tryz.underlying202
  a66 := Tryz.isAgg202
  z66 := Tryz.sizeOf202
  v66 := Tryz.zeroValue202
  t70 := Tryz.underlying206
  a70 := Tryz.isAgg206
  z70 := Tryz.sizeOf206
  v70 := Tryz.zeroValue206
  t76 := Tryz.underlying210
  a76 := Tryz.isAgg210
  z76 := Tryz.sizeOf210
  v76 := Tryz.zeroValue210
  t77 := Tryz.underlying211
  a77 := Tryz.isAgg211
  z77 := Tryz.sizeOf211
  v77 := Tryz.zeroValue211 }
end Go.Proofs
namespace Go.Proofs.YtimillpakjgnoaaGreat.Pl
open Go Go.RowKit Go.Sort
theorem grow_of_below {W w' : World} (hb : Below W.heap.size W w') : ∃ q os', w' = grow (W.drewN q) os' := by
 refine ⟨w'.drawn - W.drawn, w'.heap.extract W.heap.size w'.heap.size, ?_⟩
 have h1 : w'.heap = W.heap ++ w'.heap.extract W.heap.size w'.heap.size := by
  refine Array.ext_getElem? fun i => ?_
  rw [Array.getElem?_append]
  split
  ·rename_i h; exact hb.block i h
  ·rename_i h
   rw [Array.getElem?_extract]
   split
   ·congr 1; omega
   ·exact Array.getElem?_eq_none (by omega)
 have h2 : w'.drawn = W.drawn + (w'.drawn - W.drawn) := by have h0 : W.drawn ≤ w'.drawn := hb.drawn; omega
 have h3 := hb.os
 have h4 := hb.tape
 have h5 := hb.output
 generalize w'.heap.extract W.heap.size w'.heap.size = os at h1
 generalize w'.drawn - W.drawn = q at h2
 cases w'
 simp only at h1 h2 h3 h4 h5
 subst h1; subst h2; subst h3; subst h4; subst h5
 rfl
theorem putG {w : World} {h : FH} {b c m sz q : Nat} {cur : Array Value} {e : TypeId} {ds : List Value} {os : Array Obj} (hs : Sub h w) (sg : Sub (FH.one b (.cells cur e (0, 0))) w) (hd : Disj h (FH.one b (.cells cur e (0, 0)))) (hmax : c ≤ maxLen) (hsz : cur.size = c * sz) (hds : ds.length = m * sz) (hm : m ≤ c) :
  SH (Kp.ex w h (FH.one b (.cells cur e (0, 0)))) h (grow (putRow id (Sort.ahead w q) b 0 ds.toArray) os) [OwnSl e sz (some ⟨b, 0, none⟩) m c ds] := by
 have hb : w.heap[b]? = some (.cells cur e (0, 0)) := sg b _ (FH.one_self _ _)
 have hlt : b < w.heap.size := sg.lt (FH.one_self _ _)
 have hheap : ∀ i, i < w.heap.size → (grow (putRow id (Sort.ahead w q) b 0 ds.toArray) os).heap[i]? = if b = i then some (.cells (putCells id 0 ds.toArray cur) e (0, 0)) else w.heap[i]? := fun i hi => by
  show ((w.heap.modify b (onCells (putCells id 0 ds.toArray))) ++ os)[i]? = _
  rw [Array.getElem?_append_left (by rw [Array.size_modify]; exact hi), Array.getElem?_modify]
  by_cases q : b = i
  ·subst q
   rw [if_pos rfl, if_pos rfl, hb]; rfl
  ·rw [if_neg q, if_neg q]
 have hsize : w.heap.size ≤ (grow (putRow id (Sort.ahead w q) b 0 ds.toArray) os).heap.size := by
  show w.heap.size ≤ ((w.heap.modify b (onCells (putCells id 0 ds.toArray))) ++ os).size
  rw [Array.size_append, Array.size_modify]; omega
 have hone : ∀ i, FH.one b (.cells cur e (0, 0)) i = none → b ≠ i := fun i g q => by
  subst q
  rw [FH.one_self] at g; cases g
 have hnb : ∀ i, h i ≠ none → b ≠ i := fun i hi => hone i ((hd i).resolve_left hi)
 refine ⟨⟨rfl, rfl, rfl, hsize, fun i hi => ?_, (by unfold dr; first | exact Nat.le_add_right _ _ | exact Nat.le_refl _)⟩, fun i o ho => ?_, fun i hi => .inl hi, [FH.one b (.cells (putCells id 0 ds.toArray cur) e (0, 0))], rfl, ?_, ?_, ?_⟩
 ·rw [hheap i hi.1, if_neg (hone i hi.2)]; rfl
 ·rw [hheap i (hs.lt ho), if_neg (hnb i (by rw [ho]; simp))]; exact hs i o ho
 ·intro i g X hi hX
  cases i with
  | succ i => simp at hi
  | zero =>
   simp at hi hX
   subst hi; subst hX
   have hle : m * sz ≤ c * sz := Nat.mul_le_mul_right sz hm
   refine ⟨hds, .inr ⟨b, _, rfl, rfl, hm, hmax, by simp [putCells, hsz], ?_⟩⟩
   refine List.ext_getElem? fun k => ?_
   rw [List.getElem?_take]
   by_cases g : k < m * sz
   ·have g2 : k < ds.length := by omega
    have g3 : k < cur.size := by omega
    rw [if_pos g, Array.getElem?_toList]
    simp [putCells, g2, g3]
   ·rw [if_neg g, List.getElem?_eq_none (by omega)]
 ·intro i g hi
  cases i with
  | succ i => simp at hi
  | zero =>
   simp at hi
   subst hi
   refine ⟨fun j => ?_, Sub.one ?_, fun j hj hk => ?_⟩
   ·by_cases g : h j = none
    ·exact .inl g
    ·exact .inr (by unfold FH.one; rw [if_neg (fun e => hnb j g e.symm)])
   ·rw [hheap b hlt, if_pos rfl]
   ·exact hone j hk.2 (FH.one_ne hj).symm
 ·intro i j g g' hij hi hj
  cases i with
  | succ i => simp at hi
  | zero => cases j with
   | zero => exact absurd rfl hij
   | succ j => simp at hj
theorem ownHoldsG {w : World} {b m : Nat} {cur : Array Value} {e : TypeId} {ds : List Value} (hb : w.heap[b]? = some (.cells cur e (0, 0))) (hl : ds.length = m) (ht : cur.toList.take m = ds) : Go.Sort.Holds id w b 0 ds.toArray := fun j hj => by
 have hj' : j < ds.length := by simpa using hj
 refine ⟨?_, ?_⟩
 ·unfold World.cell?
  rw [hb]
  show (if (none : Option _).isSome = true then none else cur[0 + j]?) = _
  have h1 := congrArg (fun l => l[j]?) ht
  simp only [List.getElem?_take, show j < m by omega, if_true] at h1
  rw [Array.getElem?_toList, List.getElem?_eq_getElem hj'] at h1
  rw [Nat.zero_add]
  simp [h1, hj']
 ·unfold World.frozen?
  rw [hb]
  simp
theorem putRow_map {α : Type} [Inhabited α] (enc : α → Value) (w : World) (b : Nat) (d : Array α) : putRow enc w b 0 d = putRow id w b 0 (d.map enc) := by
 unfold putRow
 congr 1
 funext c
 unfold putCells
 apply Array.ext
 ·simp
 ·intro i h1 h2
  simp only [Array.getElem_mapIdx, Array.size_map, id]
  split
  ·rename_i hi
   have hlt : i - 0 < d.size := by omega
   rw [getElem!_pos d _ hlt, getElem!_pos (d.map enc) _ (by simpa using hlt), Array.getElem_map]
  ·rfl
theorem holds_map {α : Type} [Inhabited α] (enc : α → Value) {w : World} {b : Nat} {d : Array α} (h : Go.Sort.Holds id w b 0 (d.map enc)) : Go.Sort.Holds enc w b 0 d := fun j hj => by
 have := h j (by simpa using hj)
 rwa [getElem!_pos (d.map enc) j (by simpa using hj), Array.getElem_map, ← getElem!_pos d j hj] at this
abbrev UW := {w : Int // U32 w}
instance : Inhabited UW := ⟨⟨0, by decide, by decide⟩⟩
def encU (p : UW) : Value := .int .u32 p.1
def cfU (p q : UW) : Int := sp_wcmp p.1 q.1
theorem wd_self {w : Int} (h : U32 w) : Wd w (fun p => (w.toNat).testBit p.toNat = true) := by
 obtain ⟨n, rfl⟩ : ∃ n : Nat, w = n := ⟨w.toNat, by have := h.1; omega⟩
 exact ⟨n, rfl, by have := h.2; omega, fun i _ => by simp⟩
theorem facts_inj {a b : Int} (ha : U32 a) (hb : U32 b) (e : sp_facts a = sp_facts b) : a = b := by
 refine Wd.unique (wd_self ha) ((wd_self hb).iff fun i hi => ?_)
 have h1 := mem_facts (wd_self ha) (p := (i : Int))
 have h2 := mem_facts (wd_self hb) (p := (i : Int))
 rw [e] at h1
 have h3 : (0 : Int) ≤ i ∧ (i : Int) < 32 := by omega
 constructor
 ·intro q; exact (h1.1 (h2.2 ⟨h3, q⟩)).2
 ·intro q; exact (h2.1 (h1.2 ⟨h3, q⟩)).2
theorem sortW_perm (l : List Int) : (sp_sortW l).Perm l := List.mergeSort_perm _ _
theorem wle_nle (a b : Int) : decide (sp_wcmp a b ≤ 0) = true ↔ Nle (sp_facts a) (sp_facts b) := by
 rw [decide_eq_true_eq]
 unfold sp_wcmp Nle
 have h1 := scompare_before (sp_facts a) (sp_facts b)
 rcases before_tri (sp_facts a) (sp_facts b) with h | h | h
 ·have h2 := h1.1.2 h
  constructor
  ·intro _
   cases e : sp_before (sp_facts b) (sp_facts a) with
   | false => rfl
   | true => have := before_trans _ _ _ h e; rw [before_irr] at this; cases this
  ·intro _; omega
 ·have h2 := h1.2.2 h
  constructor
  ·intro _; rw [h]; exact before_irr _
  ·intro _; omega
 ·constructor
  ·intro q
   by_cases h0 : sp_scompare (sp_facts a) (sp_facts b) = 0
   ·have := h1.2.1 h0
    rw [this, before_irr] at h; cases h
   ·have := h1.1.1 (by omega)
    have := before_trans _ _ _ h this
    rw [before_irr] at this; cases this
  ·intro q; rw [q] at h; cases h
theorem sortW_sorted (l : List Int) : (sp_sortW l).Pairwise fun a b => Nle (sp_facts a) (sp_facts b) := by
 have := List.pairwise_mergeSort (le := fun a b => decide (sp_wcmp a b ≤ 0)) (fun a b c h g => by
  rw [wle_nle] at *
  exact nle_trans h g) (fun a b => by
  rw [Bool.or_eq_true, wle_nle, wle_nle]
  rcases before_tri (sp_facts a) (sp_facts b) with h | h | h
  ·refine .inl ?_
   unfold Nle
   cases e : sp_before (sp_facts b) (sp_facts a) with
   | false => rfl
   | true => have := before_trans _ _ _ h e; rw [before_irr] at this; cases this
  ·refine .inl ?_; rw [h]; exact before_irr _
  ·refine .inr ?_
   unfold Nle
   cases e : sp_before (sp_facts a) (sp_facts b) with
   | false => rfl
   | true => have := before_trans _ _ _ h e; rw [before_irr] at this; cases this) l
 exact this.imp fun h => (wle_nle _ _).1 h
theorem sortW_two {a b : Int} (h : sp_wcmp a b ≤ 0) : sp_sortW [a, b] = [a, b] :=
 List.mergeSort_of_pairwise (by simp [h])
theorem map_inj : ∀ (a b : List Int), (∀ x ∈ a, U32 x) → (∀ x ∈ b, U32 x) → a.map sp_facts = b.map sp_facts → a = b
 | [], [], _, _, _ => rfl
 | [], _ :: _, _, _, h => by simp at h
 | _ :: _, [], _, _, h => by simp at h
 | x :: a, y :: b, ha, hb, h => by
  rw [List.map_cons, List.map_cons, List.cons.injEq] at h
  rw [facts_inj (ha x List.mem_cons_self) (hb y List.mem_cons_self) h.1, map_inj a b (fun z hz => ha z (List.mem_cons_of_mem _ hz)) (fun z hz => hb z (List.mem_cons_of_mem _ hz)) h.2]
theorem wsorted_perm {a b : List Int} (h0 : ∀ x ∈ a, U32 x) (ha : a.Pairwise fun a b => Nle (sp_facts a) (sp_facts b)) (hb : b.Pairwise fun a b => Nle (sp_facts a) (sp_facts b)) (h : a.Perm b) : a = b :=
 map_inj a b h0 (fun x hx => h0 x (h.mem_iff.2 hx)) (sorted_perm _ _ (List.pairwise_map.2 ha) (List.pairwise_map.2 hb) (h.map _))
theorem ltU (p q : UW) : ltOf cfU p q = sp_before (sp_facts p.1) (sp_facts q.1) := by
 unfold ltOf cfU
 rw [Bool.eq_iff_iff, decide_eq_true_eq]
 exact (scompare_before _ _).1
theorem swoU : SWO (ltOf cfU) := ⟨fun x => by rw [ltU]; exact before_irr _, fun x y z h1 h2 => by
 rw [ltU] at *; exact before_trans _ _ _ h1 h2, fun x y z h1 h2 => by
 rw [ltU] at *; exact nle_trans (y := sp_facts y.1) h2 h1⟩
theorem flW : ∀ xs : List Int, flL (α := W32) xs = xs.map (Value.int .u32 ·)
 | [] => rfl
 | x :: r => (flL_append (α := W32) [x] r).trans (congrArg (fun z => [Value.int .u32 x] ++ z) (flW r))
theorem c_sortW {h : FH} {w : World} (hs : Sub h w) (x : List Int) (a : Option Addr) (c : Nat) {gX : FH} (ownX : OwnSl 62 1 a x.length c (flL (α := W32) x) gX) (subX : Sub gX w) (disX : Disj h gX) (hp : pre_sortW x) :
  Calls Tryz.prog 42 #[.slice a x.length c, .func (.func 43) #[] #[]] w fun e w' => e = .returned (.tuple #[]) ∧ SH (Kp.ex w h gX) h w' [OwnSl 62 1 a x.length c (flL (α := W32) (sp_sortW x))] := by
 have own0 := ownX
 obtain ⟨h1, ⟨rfl, h2, rfl, rfl⟩ | ⟨b, cur, rfl, rfl, h4, h5, h6, h7⟩⟩ := ownX
 ·have e : x = [] := List.length_eq_zero_iff.1 h2
  subst e
  refine (AnyF.slices_SortFunc_none { YtimillpakjgnoaaGreat.laysSW with } none 0 _ w).mono fun e w' ⟨he, hw⟩ => ⟨he, ?_⟩
  subst hw
  rw [show sp_sortW [] = [] by simp [sp_sortW]]
  exact SH.startX hs subX disX own0
 ·have hb := subX b _ (FH.one_self _ _)
  have hlt := subX.lt (FH.one_self _ _)
  have hnb : ∀ i, h i ≠ none → b ≠ i := fun i hi q => by
   subst q
   rcases disX b with g | g
   ·exact hi g
   ·rw [FH.one_self] at g; cases g
  obtain ⟨ds, d1⟩ : ∃ ds : List UW, ds.map (·.1) = x := ⟨x.attach.map fun p => ⟨p.1, hp.2 p.1 p.2⟩, by rw [List.map_map]; exact List.attach_map_subtype_val x⟩
  have d2 : ds.map encU = flL (α := W32) x := by rw [flW, ← d1, List.map_map]; rfl
  have hdl : ds.length = x.length := by rw [← d1, List.length_map]
  have hcmp : CmpLays1 Tryz.prog 43 #[] encU cfU b 0 ds.toArray.size w := fun m os dk _ u v => by
   have hsW : Sub h (sortWorld encU w b 0 m dk os) := fun i o ho => by
    have hi := hs.lt ho
    show ((w.heap.modify b (onCells (putCells encU 0 dk))) ++ os)[i]? = _
    rw [Array.getElem?_append_left (by rw [Array.size_modify]; exact hi), Array.getElem?_modify, if_neg (hnb i (by rw [ho]; simp))]
    exact hs i o ho
   exact (c_wcmp hsW u.1 v.1 trivial).mono fun e w' ⟨he, hb⟩ => ⟨he, grow_of_below hb⟩
  have hH : Go.Sort.Holds encU w b 0 ds.toArray := holds_map encU (by
   rw [List.map_toArray, d2]
   exact ownHoldsG hb h1 h7)
  have hsz : ds.toArray.size = x.length := by simpa using hdl
  have key := Any.slices_SortFunc YtimillpakjgnoaaGreat.laysSW encU (fun p => rfl) cfU swoU 43 #[] b 0 c ds.toArray w Tryz.call43 hcmp hH hlt (by rw [hsz]; have := hp.1; omega)
  rw [hsz] at key
  refine key.mono fun e w' ⟨he, d', n, os, hp', hs', hw⟩ => ⟨he, ?_⟩
  subst hw
  obtain ⟨p1, _, p3⟩ := hp'
  have hx1 : d'.extract 0 x.length = d' := by rw [← hsz, ← p1]; exact Array.extract_size
  have hx2 : ds.toArray.extract 0 x.length = ds.toArray := by rw [← hsz]; exact Array.extract_size
  rw [hx1, hx2] at p3
  have hsort : sp_sortW x = d'.toList.map (·.1) := by
   refine wsorted_perm (fun y hy => hp.2 y ((sortW_perm x).mem_iff.1 hy)) (sortW_sorted x) ?_ ?_
   ·rw [List.pairwise_map, List.pairwise_iff_getElem]
    intro i j hi hj hij
    have hsz' : d'.size = x.length := by rw [p1, hsz]
    have hj' : j < d'.size := by simpa using hj
    have := hs' i j (Nat.zero_le _) hij (by omega)
    rw [ltU, getElem!_pos d' j hj', getElem!_pos d' i (by omega)] at this
    exact this
   ·refine (sortW_perm x).trans ?_
    have := (p3.map (fun p : UW => p.1)).symm
    rw [List.toList_toArray, d1] at this
    exact this
  have hrep : d'.toList.map encU = flL (α := W32) (sp_sortW x) := by rw [hsort, flW, List.map_map]; rfl
  have hlen : (d'.toList.map encU).length = x.length * 1 := by
   rw [List.length_map, Array.length_toList, p1, hsz, Nat.mul_one]
  have big := putG (q := n) (os := os) (ds := d'.toList.map encU) (m := x.length) (sz := 1) hs subX disX h5 h6 hlen h4
  unfold sortWorld
  rw [putRow_map]
  have e5 : d'.map encU = (d'.toList.map encU).toArray := by
   apply Array.toList_inj.1; simp
  rw [e5, ← hrep]
  exact big
end Go.Proofs.YtimillpakjgnoaaGreat.Pl

namespace Go.Proofs.YtimillpakjgnoaaGreat.Pl
open Go Go.RowKit
set_option maxHeartbeats 8000000 in
theorem w_all {h : FH} {w : World} (hs : Sub h w) (x : WordsT) (ax : Option Addr) (cx : Nat) (_q1 : RSl h ax x.ops) (_q2 : x.ops.length ≤ cx) (px : Addr) (_q3 : CellsAt h px [.int .u32 x.start, .int .u32 x.goal, .slice ax x.ops.length cx]) (K : (List Int × Bool) → Prop) (hF : F_all x K) : Calls Tryz.prog 41 #[.iface 56 (.pointer (some px))] w fun e w' => ∃ (r : List Int × Bool) (z : Option Addr × Nat) (h1 : FH), K r ∧ e = .returned (.tuple #[.slice z.1 r.1.length z.2, .bool r.2]) ∧ FH.le h h1 ∧ True ∧ SH (Kp.all w h) h1 w' [OwnSl 62 1 z.1 r.1.length z.2 (flL (α := W32) r.1)] := by
 refine enterM (args := [.iface 56 (.pointer (some px))]) Tryz.func41 rfl Tryz.ntmps41 rfl hs ?_
 refine .seq (.region (.V ag0 ?_))
 refine .V ag0 ?_
 refine .nil (.seqN (.seq (.region (.V mv0 ?_))))
 refine .inlI Tryz.func22 rfl Tryz.ntmps22 Tryz.call22 tm56_Start rfl rfl rfl (fun a q4 => ?_)
 refine .seq (.region (.V ag0 ?_))
 refine .nil (.seqN (.seq (.region (.V mv0 ?_))))
 refine .V (nck rfl) ?_
 refine .V (fa rfl tF105_0) ?_
 refine .V (ld1 (v := .int .u32 x.start) rfl tO62 (cellH (CellsAt.mono (FH.le_refl _) _q3 0 _ rfl))) ?_
 refine .V ag0 ?_
 refine .nil (.seqN (.ret ?_))
 refine .res1 rfl (rvT rfl) (inl_back (v := .int .u32 x.start) q4 rfl ?_)
 refine .KA [MkA []] ?_
 refine bs2 (cs := #[.int .u32 x.start]) (pv := [(0, .int .u32 x.start)]) tS57 rfl rfl (by decide) (by decide) rfl rfl rfl (fun a2 _ => ?_)
 refine .KA [OwnSl 62 1 a2 (([x.start] : List Int).length) 1 (flL (α := W32) ([x.start] : List Int)), MkA []] ?_
 refine al tZ57 rfl (fun pstack => ?_)
 refine st (p := pstack) (off := 0) (k := 0) (vs := [.slice a2 (([x.start] : List Int).length) 1]) rfl rfl rfl (fun w => (tO57 w).2) rfl rfl rfl rfl ?_
 refine .KA [Box pstack [.slice a2 (([x.start] : List Int).length) 1], OwnSl 62 1 a2 (([x.start] : List Int).length) 1 (flL (α := W32) ([x.start] : List Int)), MkA []] ?_
 refine .nil (.seqN (.seq (.region ?_)))
 refine mmI .u32 (fun _ : Unit => .agg #[]) rfl (fun bv => ?_)
 refine .KA [OwnMapI bv .u32 (fun _ : Unit => .agg #[]) ([] : List (Int × Unit)), Box pstack [.slice a2 (([x.start] : List Int).length) 1], OwnSl 62 1 a2 (([x.start] : List Int).length) 1 (flL (α := W32) ([x.start] : List Int)), MkA []] ?_
 refine .V mv0 ?_
 refine .inlI Tryz.func22 rfl Tryz.ntmps22 Tryz.call22 tm56_Start rfl rfl rfl (fun a3 q6 => ?_)
 refine .seq (.region (.V ag0 ?_))
 refine .nil (.seqN (.seq (.region (.V mv0 ?_))))
 refine .V (nck rfl) ?_
 refine .V (fa rfl tF105_0) ?_
 refine .V (ld1 (v := .int .u32 x.start) rfl tO62 (cellH (CellsAt.mono (FH.le_refl _) _q3 0 _ rfl))) ?_
 refine .V ag0 ?_
 refine .nil (.seqN (.ret ?_))
 refine .res1 rfl (rvT rfl) (inl_back (v := .int .u32 x.start) q6 rfl ?_)
 refine .KA [OwnMapI bv .u32 (fun _ : Unit => .agg #[]) ([] : List (Int × Unit)), Box pstack [.slice a2 (([x.start] : List Int).length) 1], OwnSl 62 1 a2 (([x.start] : List Int).length) 1 (flL (α := W32) ([x.start] : List Int)), MkA []] ?_
 refine .V (bld (cs := #[]) (pv := []) tB147 rfl rfl) ?_
 refine miI (enc := (fun _ : Unit => .agg #[])) () tMI148 rfl rfl rfl (q := 0) rfl ?_
 obtain ⟨m, q7⟩ : ∃ y_ : List (Int × Unit), y_ = (setA ([] : List (Int × Unit)) x.start ()) := ⟨_, rfl⟩
 replace hF := hF m q7
 refine .cast (A' := [OwnMapI bv .u32 (fun _ : Unit => .agg #[]) m, Box pstack [.slice a2 (([x.start] : List Int).length) 1], OwnSl 62 1 a2 (([x.start] : List Int).length) 1 (flL (α := W32) ([x.start] : List Int)), MkA []]) (by rw [q7]; rfl) ?_
 refine .V mv0 ?_
 refine al tZ148 rfl (fun pseen => ?_)
 refine st (p := pseen) (off := 0) (k := 0) (vs := [.map (some bv)]) rfl rfl rfl (fun w => (tO148 w).2) rfl rfl rfl rfl ?_
 refine .KA [Box pseen [.map (some bv)], OwnMapI bv .u32 (fun _ : Unit => .agg #[]) m, Box pstack [.slice a2 (([x.start] : List Int).length) 1], OwnSl 62 1 a2 (([x.start] : List Int).length) 1 (flL (α := W32) ([x.start] : List Int)), MkA []] ?_
 refine .nil (.seqN (.seq (.region (.V ag0 ?_))))
 refine .nil (.seqN (.seq (.block ?_)))
 refine .nilSl 62 1 ?_
 refine .KA [OwnSl 62 1 none (([] : List Int).length) 0 (flL (α := W32) ([] : List Int)), Box pseen [.map (some bv)], OwnMapI bv .u32 (fun _ : Unit => .agg #[]) m, Box pstack [.slice a2 (([x.start] : List Int).length) 1], OwnSl 62 1 a2 (([x.start] : List Int).length) 1 (flL (α := W32) ([x.start] : List Int)), MkA []] ?_
 refine .sel0 [3, 1, 0, 5, 4, 2] (by decide) rfl ?_
 obtain ⟨I1, μ1, q1355, q1356⟩ := hF
 refine .loopN' (σ := List Int × List Int × List (Int × Unit) × Option Addr × Nat × List Nat × Option Addr × Nat) (fun z => I1 z.1 z.2.1 z.2.2.1) (fun z => μ1 z.1 z.2.1 z.2.2.1) (fun z => ⟨63, none, z.2.2.2.2.2.1⟩) (fun z => [(0, .iface 56 (.pointer (some px))), (4, .pointer (some pstack)), (5, .pointer (some pseen)), (6, vSl z.2.2.2.1 z.1 z.2.2.2.2.1)]) (fun z => [Box pstack [vSl z.2.2.2.2.2.2.1 z.2.1 z.2.2.2.2.2.2.2], Box pseen [.map (some bv)], OwnSl 62 1 z.2.2.2.1 z.1.length z.2.2.2.2.1 (flL (α := W32) z.1), MkA z.2.2.2.2.2.1, OwnSl 62 1 z.2.2.2.2.2.2.1 z.2.1.length z.2.2.2.2.2.2.2 (flL (α := W32) z.2.1), OwnMapI bv .u32 (fun _ : Unit => .agg #[]) z.2.2.1]) (fun _ => h) (([] : List Int), ([x.start] : List Int), m, none, 0, [], a2, 1) q1355 (fun _ => rfl) rfl sb rfl (FH.le_refl _) ?_
 rintro ⟨out, l, m2, aout, cout, dl, al2, cl2⟩ q1355
 have hF := q1356 out l m2 q1355
 show J _ _ ⟨63, none, dl⟩ _ _ [(0, .iface 56 (.pointer (some px))), (4, .pointer (some pstack)), (5, .pointer (some pseen)), (6, vSl aout out cout)] [Box pstack [vSl al2 l cl2], Box pseen [.map (some bv)], OwnSl 62 1 aout out.length cout (flL (α := W32) out), MkA dl, OwnSl 62 1 al2 l.length cl2 (flL (α := W32) l), OwnMapI bv .u32 (fun _ : Unit => .agg #[]) m2] h
 refine .seq (.seq (.region (.V (ld1 rfl tO57 (cellB (off := 0) (k := 0) rfl rfl)) ?_)))
 refine .V (ln rfl tS57.is) ?_
 refine .V bi0 ?_
 refine .nil (.seqN ?_)
 refine .cond rfl (fun q1358 => ?_) (fun q1358 => ?_)
 ·replace hF := hF.1 q1358
  refine .skip (.seqN (.block (.seq (.region (.V (ld1 rfl tO57 (cellB (off := 0) (k := 0) rfl rfl)) ?_)))))
  refine .V (ld1 rfl tO57 (cellB (off := 0) (k := 0) rfl rfl)) ?_
  refine .V (ln rfl tS57.is) ?_
  refine .V bi0 ?_
  obtain ⟨q1359, hF⟩ := hF
  refine .V (ixS rfl rfl tS57 (k := 4) rfl q1359) ?_
  refine .V (ld1 (v := .int .u32 (gt l (wr (((l.length : Nat) : Int) - 1)))) rfl tO62 (cellS (k := 4) rfl (flL_get (α := W32) q1359 (j := 0) rfl))) ?_
  refine .V ag0 ?_
  refine .nil (.seqN (.seq ?_))
  refine .fact (fun w S => look_len S (k := 2) rfl) (fun q1360 => ?_)
  refine .fact (fun w S => look_len S (k := 4) rfl) (fun q1361 => ?_)
  refine .region (.V (ld1 rfl tO57 (cellB (off := 0) (k := 0) rfl rfl)) ?_)
  refine .V (ld1 rfl tO57 (cellB (off := 0) (k := 0) rfl rfl)) ?_
  refine .V (ln rfl tS57.is) ?_
  refine .V bi0 ?_
  obtain ⟨q1362, hF⟩ := hF
  obtain ⟨d, q1363⟩ : ∃ y_ : List Int, y_ = (l.take (wr (((l.length : Nat) : Int) - 1)).toNat) := ⟨_, rfl⟩
  replace hF := hF d q1363
  have q1364 : d.length = (wr (((l.length : Nat) : Int) - 1)).toNat := by rw [q1363]; exact len_take rfl (Int.toNat_le.2 q1362.2)
  refine .v (v := .slice al2 (List.length d) cl2) (by rw [q1364]; exact slH tS57 rfl rfl q1362.1 rfl (Nat.le_trans (Int.toNat_le.2 q1362.2) q1361)) rfl rfl rfl ?_
  refine .shrink (k := 4) (m' := d.length) (cs' := flL (α := W32) d) rfl (by rw [q1364]; exact (Int.toNat_le.2 q1362.2)) (by rw [q1364, Nat.mul_one, q1363]; exact flL_take _ _ rfl) ?_
  refine .KA [Box pstack [vSl al2 l cl2], Box pseen [.map (some bv)], OwnSl 62 1 aout out.length cout (flL (α := W32) out), MkA dl, OwnSl 62 1 al2 d.length cl2 (flL (α := W32) d), OwnMapI bv .u32 (fun _ : Unit => .agg #[]) m2] ?_
  refine st (p := pstack) (off := 0) (k := 0) (vs := [vSl al2 d cl2]) rfl rfl rfl (fun w => (tO57 w).2) rfl rfl rfl rfl ?_
  refine .KA [Box pstack [vSl al2 d cl2], Box pseen [.map (some bv)], OwnSl 62 1 aout out.length cout (flL (α := W32) out), MkA dl, OwnSl 62 1 al2 d.length cl2 (flL (α := W32) d), OwnMapI bv .u32 (fun _ : Unit => .agg #[]) m2] ?_
  refine .nil (.seqN (.seq (.region (.V mv0 ?_))))
  refine .V mv0 ?_
  refine bs2 (cs := #[.int .u32 (gt l (wr (((l.length : Nat) : Int) - 1)))]) (pv := [(0, .int .u32 (gt l (wr (((l.length : Nat) : Int) - 1))))]) tS57 rfl rfl (by decide) (by decide) rfl rfl rfl (fun a4 _ => ?_)
  refine .KA [OwnSl 62 1 a4 (([(gt l (wr (((l.length : Nat) : Int) - 1)))] : List Int).length) 1 (flL (α := W32) ([(gt l (wr (((l.length : Nat) : Int) - 1)))] : List Int)), Box pstack [vSl al2 d cl2], Box pseen [.map (some bv)], OwnSl 62 1 aout out.length cout (flL (α := W32) out), MkA dl, OwnSl 62 1 al2 d.length cl2 (flL (α := W32) d), OwnMapI bv .u32 (fun _ : Unit => .agg #[]) m2] ?_
  obtain ⟨q1366, hF⟩ := hF
  have q1367 : out.length + ([(gt l (wr (((l.length : Nat) : Int) - 1)))] : List Int).length = ((out ++ ([(gt l (wr (((l.length : Nat) : Int) - 1)))] : List Int))).length := len_app rfl rfl
  refine app (k := 3) (news := flL (α := W32) ([(gt l (wr (((l.length : Nat) : Int) - 1)))] : List Int)) (cs' := flL (α := W32) (out ++ ([(gt l (wr (((l.length : Nat) : Int) - 1)))] : List Int))) (nm := ((out ++ ([(gt l (wr (((l.length : Nat) : Int) - 1)))] : List Int))).length) tS57 rfl (by decide) rfl rfl rfl ((flL_len _).trans rfl) (srcS (k := 0) rfl) (flL_one _) (room_of q1367 q1366).1 (room_of q1367 q1366).2 q1367 (flL_append _ _).symm rfl (fun a5 c => ?_)
  refine .KA [OwnSl 62 1 a4 (([(gt l (wr (((l.length : Nat) : Int) - 1)))] : List Int).length) 1 (flL (α := W32) ([(gt l (wr (((l.length : Nat) : Int) - 1)))] : List Int)), Box pstack [vSl al2 d cl2], Box pseen [.map (some bv)], OwnSl 62 1 a5 ((out ++ ([(gt l (wr (((l.length : Nat) : Int) - 1)))] : List Int)).length) c (flL (α := W32) (out ++ ([(gt l (wr (((l.length : Nat) : Int) - 1)))] : List Int))), MkA dl, OwnSl 62 1 al2 d.length cl2 (flL (α := W32) d), OwnMapI bv .u32 (fun _ : Unit => .agg #[]) m2] ?_
  refine .V ag0 ?_
  refine .nil (.seqN (.seq (.seq (.region (.V mv0 ?_)))))
  refine .V mv0 ?_
  refine .inlI Tryz.func48 rfl Tryz.ntmps48 Tryz.call48 tm56_Steps rfl rfl rfl (fun a6 q1368 => ?_)
  refine .seq (.region ?_)
  refine bx (vs := [.pointer (some px)]) rfl rfl rfl (fun pw => ?_)
  refine bx (vs := [.int .u32 (gt l (wr (((l.length : Nat) : Int) - 1)))]) rfl rfl rfl (fun ps => ?_)
  refine .V ag0 ?_
  refine .nil (.seqN (.seq (.region (.V (mkf (vf := []) (vc := [.pointer (some pw), .pointer (some ps)]) rfl rfl) ?_))))
  refine .V ag0 ?_
  refine .nil (.seqN (.ret ?_))
  refine .res1 rfl (rvT rfl) (inl_back (v := .func (.func 80) #[] #[.pointer (some pw), .pointer (some ps)]) q1368 rfl ?_)
  refine .KA [Box ps [.int .u32 (gt l (wr (((l.length : Nat) : Int) - 1)))], Box pw [.pointer (some px)], OwnSl 62 1 a4 (([(gt l (wr (((l.length : Nat) : Int) - 1)))] : List Int).length) 1 (flL (α := W32) ([(gt l (wr (((l.length : Nat) : Int) - 1)))] : List Int)), Box pstack [vSl al2 d cl2], Box pseen [.map (some bv)], OwnSl 62 1 a5 ((out ++ ([(gt l (wr (((l.length : Nat) : Int) - 1)))] : List Int)).length) c (flL (α := W32) (out ++ ([(gt l (wr (((l.length : Nat) : Int) - 1)))] : List Int))), MkA dl, OwnSl 62 1 al2 d.length cl2 (flL (α := W32) d), OwnMapI bv .u32 (fun _ : Unit => .agg #[]) m2] ?_
  refine .nil (.seqN (.block ?_))
  refine .sub (s' := [(0, .iface 56 (.pointer (some px))), (4, .pointer (some pstack)), (5, .pointer (some pseen)), (6, .slice a5 ((out ++ ([(gt l (wr (((l.length : Nat) : Int) - 1)))] : List Int)).length) c), (39, .func (.func 80) #[] #[.pointer (some pw), .pointer (some ps)])]) sb ?_
  refine .rangeF (k := 6) (caps := [.pointer (some pw), .pointer (some ps)]) rfl rfl Tryz.func80 rfl Tryz.ntmps80 rfl Tryz.call80 (fun l3 D LA a7 q1447 q1448 => ?_)
  refine .KA [LA .ready none, Box ps [.int .u32 (gt l (wr (((l.length : Nat) : Int) - 1)))], Box pw [.pointer (some px)], OwnSl 62 1 a4 (([(gt l (wr (((l.length : Nat) : Int) - 1)))] : List Int).length) 1 (flL (α := W32) ([(gt l (wr (((l.length : Nat) : Int) - 1)))] : List Int)), Box pstack [vSl al2 d cl2], Box pseen [.map (some bv)], OwnSl 62 1 a5 ((out ++ ([(gt l (wr (((l.length : Nat) : Int) - 1)))] : List Int)).length) c (flL (α := W32) (out ++ ([(gt l (wr (((l.length : Nat) : Int) - 1)))] : List Int))), MkA (D :: dl), OwnSl 62 1 al2 d.length cl2 (flL (α := W32) d), OwnMapI bv .u32 (fun _ : Unit => .agg #[]) m2] ?_
  refine .seq (.region (.V (ld1 rfl tO56 (cellB (off := 0) (k := 2) rfl rfl)) ?_))
  refine .V (nck rfl) ?_
  refine .V (fa rfl tF105_2) ?_
  refine .V (ld1 (v := vSl ax x.ops cx) rfl tO103 (cellH (CellsAt.mono (FH.le_refl _) _q3 2 _ rfl))) ?_
  refine .V (ln rfl tS103.is) ?_
  refine .V mv0 ?_
  refine .nil (.seqN (.block ?_))
  refine .sel0 [0, 1, 4, 5, 6, 2, 7, 8, 9] (by decide) rfl ?_
  obtain ⟨I2, μ2, q1499, q1500⟩ := hF
  refine .loop' (σ := Int × List Int × List (Int × Unit) × Option Addr × Nat) (fun z => I2 z.1 z.2.1 z.2.2.1) (fun z => μ2 z.1 z.2.1 z.2.2.1) (fun z => [(0, .func (.yield l3) #[] #[]), (2, .pointer (some ps)), (9, vSl ax x.ops cx), (10, iV ((x.ops.length : Nat) : Int)), (11, iV z.1)]) (fun z => [LA .ready none, Box ps [.int .u32 (gt l (wr (((l.length : Nat) : Int) - 1)))], Box pstack [vSl z.2.2.2.1 z.2.1 z.2.2.2.2], Box pseen [.map (some bv)], OwnSl 62 1 a5 ((out ++ ([(gt l (wr (((l.length : Nat) : Int) - 1)))] : List Int)).length) c (flL (α := W32) (out ++ ([(gt l (wr (((l.length : Nat) : Int) - 1)))] : List Int))), Box pw [.pointer (some px)], MkA (D :: dl), OwnSl 62 1 z.2.2.2.1 z.2.1.length z.2.2.2.2 (flL (α := W32) z.2.1), OwnMapI bv .u32 (fun _ : Unit => .agg #[]) z.2.2.1]) (fun _ => h) (0, d, m2, al2, cl2) q1499 sb rfl (FH.le_refl _) ?_
  rintro ⟨t11, l4, m4, al4, cl4⟩ q1499
  have hF := q1500 t11 l4 m4 q1499
  show J _ _ _ _ _ [(0, .func (.yield l3) #[] #[]), (2, .pointer (some ps)), (9, vSl ax x.ops cx), (10, iV ((x.ops.length : Nat) : Int)), (11, iV t11)] [LA .ready none, Box ps [.int .u32 (gt l (wr (((l.length : Nat) : Int) - 1)))], Box pstack [vSl al4 l4 cl4], Box pseen [.map (some bv)], OwnSl 62 1 a5 ((out ++ ([(gt l (wr (((l.length : Nat) : Int) - 1)))] : List Int)).length) c (flL (α := W32) (out ++ ([(gt l (wr (((l.length : Nat) : Int) - 1)))] : List Int))), Box pw [.pointer (some px)], MkA (D :: dl), OwnSl 62 1 al4 l4.length cl4 (flL (α := W32) l4), OwnMapI bv .u32 (fun _ : Unit => .agg #[]) m4] h
  refine .seq (.region (.V bi0 ?_))
  refine .nil (.seqN (.seq ?_))
  refine .cond rfl (fun q1503 => ?_) (fun q1503 => ?_)
  ·replace hF := hF.1 q1503
   refine .skip (.seqN ?_)
   refine .share (σ := List Int × List (Int × Unit) × Option Addr × Nat) (fun z => F_all_J1 t11 m4 I2 μ2 l4 z.2.1 z.1) (fun _ => [(0, .func (.yield l3) #[] #[]), (2, .pointer (some ps)), (9, vSl ax x.ops cx), (10, iV ((x.ops.length : Nat) : Int)), (11, iV t11)]) (fun z => [LA .ready none, Box ps [.int .u32 (gt l (wr (((l.length : Nat) : Int) - 1)))], Box pstack [vSl z.2.2.1 z.1 z.2.2.2], Box pseen [.map (some bv)], OwnSl 62 1 a5 ((out ++ ([(gt l (wr (((l.length : Nat) : Int) - 1)))] : List Int)).length) c (flL (α := W32) (out ++ ([(gt l (wr (((l.length : Nat) : Int) - 1)))] : List Int))), Box pw [.pointer (some px)], MkA (D :: dl), OwnSl 62 1 z.2.2.1 z.1.length z.2.2.2 (flL (α := W32) z.1), OwnMapI bv .u32 (fun _ : Unit => .agg #[]) z.2.1]) (fun _ => h) ?_ (fun q1514 => ?_)
   ·rintro ⟨l6, m6, al6, cl6⟩ hF
    show J _ _ _ _ _ [(0, .func (.yield l3) #[] #[]), (2, .pointer (some ps)), (9, vSl ax x.ops cx), (10, iV ((x.ops.length : Nat) : Int)), (11, iV t11)] [LA .ready none, Box ps [.int .u32 (gt l (wr (((l.length : Nat) : Int) - 1)))], Box pstack [vSl al6 l6 cl6], Box pseen [.map (some bv)], OwnSl 62 1 a5 ((out ++ ([(gt l (wr (((l.length : Nat) : Int) - 1)))] : List Int)).length) c (flL (α := W32) (out ++ ([(gt l (wr (((l.length : Nat) : Int) - 1)))] : List Int))), Box pw [.pointer (some px)], MkA (D :: dl), OwnSl 62 1 al6 l6.length cl6 (flL (α := W32) l6), OwnMapI bv .u32 (fun _ : Unit => .agg #[]) m6] h
    refine .region (.V bi0 ?_)
    refine .V mv0 ?_
    refine .nil ?_
    exact .RO (wr (t11 + 1), l6, m6, al6, cl6) hF.1 hF.2
   refine .block (.seq (.region (.V mv0 ?_)))
   obtain ⟨q1515, hF⟩ := hF
   refine .V (ix rfl rfl tS103 (_q1.ne (by decide) (inb_pos q1515)) q1515) ?_
   refine .V (ldA (cs := [.int .u32 ((gt x.ops t11).pre), .int .u32 ((gt x.ops t11).add), .int .u32 ((gt x.ops t11).del), iV ((gt x.ops t11).cost)]) rfl tA144 rfl (cellsH (_q1.elemF q1515 (by decide)))) ?_
   refine al tZ144 rfl (fun pseen2 => ?_)
   refine .V ag0 ?_
   refine st (p := pseen2) (off := 0) (k := 0) (vs := [.int .u32 ((gt x.ops t11).pre), .int .u32 ((gt x.ops t11).add), .int .u32 ((gt x.ops t11).del), iV ((gt x.ops t11).cost)]) rfl rfl rfl (fun w => (tA144 w).2) rfl rfl rfl rfl ?_
   refine .KA [Box pseen2 [.int .u32 ((gt x.ops t11).pre), .int .u32 ((gt x.ops t11).add), .int .u32 ((gt x.ops t11).del), iV ((gt x.ops t11).cost)], LA .ready none, Box ps [.int .u32 (gt l (wr (((l.length : Nat) : Int) - 1)))], Box pstack [vSl al4 l4 cl4], Box pseen [.map (some bv)], OwnSl 62 1 a5 ((out ++ ([(gt l (wr (((l.length : Nat) : Int) - 1)))] : List Int)).length) c (flL (α := W32) (out ++ ([(gt l (wr (((l.length : Nat) : Int) - 1)))] : List Int))), Box pw [.pointer (some px)], MkA (D :: dl), OwnSl 62 1 al4 l4.length cl4 (flL (α := W32) l4), OwnMapI bv .u32 (fun _ : Unit => .agg #[]) m4] ?_
   refine .nil (.seqN (.seq (.region (.V (ld1 rfl tO62 (cellB (off := 0) (k := 2) rfl rfl)) ?_))))
   refine .V (fa rfl tF144_0) ?_
   refine .V (ld1 rfl tO62 (cellB (off := 0) (k := 0) rfl rfl)) ?_
   obtain ⟨x2, q1516⟩ : ∃ y_ : Int, y_ = (bits .and .u32 (gt l (wr (((l.length : Nat) : Int) - 1))) ((gt x.ops t11).pre)) := ⟨_, rfl⟩
   replace hF := hF x2 q1516
   refine .v (v := .int .u32 x2) (by rw [q1516]; exact bi rfl rfl rfl) rfl rfl rfl ?_
   refine .V (fa rfl tF144_0) ?_
   refine .V (ld1 rfl tO62 (cellB (off := 0) (k := 0) rfl rfl)) ?_
   refine .V bi0 ?_
   refine .V mv0 ?_
   rcases Bool.eq_false_or_eq_true (x2 == ((gt x.ops t11).pre)) with q1517 | q1517
   ·replace hF := hF.1 q1517
    refine .GV mv0 q1517 ?_
    refine .GV mv0 q1517 ?_
    refine .GV (fa rfl tF144_3) q1517 ?_
    refine .GV (ld1 rfl tO3 (cellB (off := 3) (k := 0) rfl rfl)) q1517 ?_
    refine .GV (ld1 rfl tO62 (cellB (off := 0) (k := 2) rfl rfl)) q1517 ?_
    refine .GV (fa rfl tF144_2) q1517 ?_
    refine .GV (ld1 rfl tO62 (cellB (off := 2) (k := 0) rfl rfl)) q1517 ?_
    obtain ⟨x3, q1518⟩ : ∃ y_ : Int, y_ = (bits .andNot .u32 (gt l (wr (((l.length : Nat) : Int) - 1))) ((gt x.ops t11).del)) := ⟨_, rfl⟩
    replace hF := hF x3 q1518
    refine .gv (v := .int .u32 x3) (by rw [q1518]; exact bi rfl rfl rfl) rfl rfl rfl q1517 rfl rfl ?_
    refine .GV (fa rfl tF144_1) q1517 ?_
    refine .GV (ld1 rfl tO62 (cellB (off := 1) (k := 0) rfl rfl)) q1517 ?_
    refine .GV bi0 q1517 ?_
    refine .GV (bld (cs := #[iV t11, iV ((gt x.ops t11).cost), .int .u32 (bits .or .u32 x3 ((gt x.ops t11).add))]) (pv := [(0, iV t11), (1, iV ((gt x.ops t11).cost)), (2, .int .u32 (bits .or .u32 x3 ((gt x.ops t11).add)))]) tB96 rfl rfl) q1517 ?_
    refine .gR rfl rfl rfl q1517 ?_
    refine .yld (k := 1) (vs := [.agg #[iV t11, iV ((gt x.ops t11).cost), .int .u32 (bits .or .u32 x3 ((gt x.ops t11).add))]]) q1447 rfl rfl rfl rfl rfl (fun aG q1519 => ?_)
    refine .sub (s' := [(4, .pointer (some pstack)), (5, .pointer (some pseen)), (40, .agg #[iV t11, iV ((gt x.ops t11).cost), .int .u32 (bits .or .u32 x3 ((gt x.ops t11).add))])]) sb ?_
    refine .region ?_
    refine al tZ96 rfl (fun pe => ?_)
    refine st (p := pe) (off := 0) (k := 0) (vs := [iV t11, iV ((gt x.ops t11).cost), .int .u32 (bits .or .u32 x3 ((gt x.ops t11).add))]) rfl rfl rfl (fun w => (tA96 w).2) rfl rfl rfl rfl ?_
    refine .KA [Box pe [iV t11, iV ((gt x.ops t11).cost), .int .u32 (bits .or .u32 x3 ((gt x.ops t11).add))], Box pseen2 [.int .u32 ((gt x.ops t11).pre), .int .u32 ((gt x.ops t11).add), .int .u32 ((gt x.ops t11).del), iV ((gt x.ops t11).cost)], LA .ready none, Box ps [.int .u32 (gt l (wr (((l.length : Nat) : Int) - 1)))], Box pstack [vSl al4 l4 cl4], Box pseen [.map (some bv)], OwnSl 62 1 a5 ((out ++ ([(gt l (wr (((l.length : Nat) : Int) - 1)))] : List Int)).length) c (flL (α := W32) (out ++ ([(gt l (wr (((l.length : Nat) : Int) - 1)))] : List Int))), Box pw [.pointer (some px)], MkA (D :: dl), OwnSl 62 1 al4 l4.length cl4 (flL (α := W32) l4), OwnMapI bv .u32 (fun _ : Unit => .agg #[]) m4] ?_
    refine .nil ?_
    refine .begin_ (k := 2) q1447 rfl ?_
    refine .KA [Box pe [iV t11, iV ((gt x.ops t11).cost), .int .u32 (bits .or .u32 x3 ((gt x.ops t11).add))], Box pseen2 [.int .u32 ((gt x.ops t11).pre), .int .u32 ((gt x.ops t11).add), .int .u32 ((gt x.ops t11).del), iV ((gt x.ops t11).cost)], LA .busy none, Box ps [.int .u32 (gt l (wr (((l.length : Nat) : Int) - 1)))], Box pstack [vSl al4 l4 cl4], Box pseen [.map (some bv)], OwnSl 62 1 a5 ((out ++ ([(gt l (wr (((l.length : Nat) : Int) - 1)))] : List Int)).length) c (flL (α := W32) (out ++ ([(gt l (wr (((l.length : Nat) : Int) - 1)))] : List Int))), Box pw [.pointer (some px)], MkA (D :: dl), OwnSl 62 1 al4 l4.length cl4 (flL (α := W32) l4), OwnMapI bv .u32 (fun _ : Unit => .agg #[]) m4] ?_
    refine .block (.seq (.region (.V (ld1 rfl tO148 (cellB (off := 0) (k := 5) rfl rfl)) ?_)))
    refine .V (fa rfl tF96_2) ?_
    refine .V (ld1 rfl tO62 (cellB (off := 2) (k := 0) rfl rfl)) ?_
    refine .V (lkI2 (enc := (fun _ : Unit => .agg #[])) () tMI148 rfl rfl (q := 10) rfl) ?_
    refine .V mv0 ?_
    refine .V (ext rfl rfl) ?_
    refine .V (ext rfl rfl) ?_
    refine al tZ147 rfl (fun p_ => ?_)
    refine st (p := p_) (off := 0) (k := 0) (vs := []) rfl rfl rfl (fun w => (tA147 w).2) rfl rfl rfl rfl ?_
    refine .KA [Box p_ [], Box pe [iV t11, iV ((gt x.ops t11).cost), .int .u32 (bits .or .u32 x3 ((gt x.ops t11).add))], Box pseen2 [.int .u32 ((gt x.ops t11).pre), .int .u32 ((gt x.ops t11).add), .int .u32 ((gt x.ops t11).del), iV ((gt x.ops t11).cost)], LA .busy none, Box ps [.int .u32 (gt l (wr (((l.length : Nat) : Int) - 1)))], Box pstack [vSl al4 l4 cl4], Box pseen [.map (some bv)], OwnSl 62 1 a5 ((out ++ ([(gt l (wr (((l.length : Nat) : Int) - 1)))] : List Int)).length) c (flL (α := W32) (out ++ ([(gt l (wr (((l.length : Nat) : Int) - 1)))] : List Int))), Box pw [.pointer (some px)], MkA (D :: dl), OwnSl 62 1 al4 l4.length cl4 (flL (α := W32) l4), OwnMapI bv .u32 (fun _ : Unit => .agg #[]) m4] ?_
    refine .V ag0 ?_
    refine .nil (.seqN (.seq (.region (.V mv0 ?_))))
    refine .V (nt rfl) ?_
    refine .nil (.seqN ?_)
    refine .cond rfl (fun q1520 => ?_) (fun q1520 => ?_)
    ·replace hF := hF.1 q1520
     refine .seq (.region (.V (ld1 rfl tO148 (cellB (off := 0) (k := 6) rfl rfl)) ?_))
     refine .V (fa rfl tF96_2) ?_
     refine .V (ld1 rfl tO62 (cellB (off := 2) (k := 1) rfl rfl)) ?_
     refine .V (bld (cs := #[]) (pv := []) tB147 rfl rfl) ?_
     refine muI (enc := (fun _ : Unit => .agg #[])) () tMI148 rfl rfl rfl (q := 11) rfl ?_
     obtain ⟨m7, q1521⟩ : ∃ y_ : List (Int × Unit), y_ = (setA m4 (bits .or .u32 x3 ((gt x.ops t11).add)) ()) := ⟨_, rfl⟩
     replace hF := hF m7 q1521
     refine .cast (A' := [Box p_ [], Box pe [iV t11, iV ((gt x.ops t11).cost), .int .u32 (bits .or .u32 x3 ((gt x.ops t11).add))], Box pseen2 [.int .u32 ((gt x.ops t11).pre), .int .u32 ((gt x.ops t11).add), .int .u32 ((gt x.ops t11).del), iV ((gt x.ops t11).cost)], LA .busy none, Box ps [.int .u32 (gt l (wr (((l.length : Nat) : Int) - 1)))], Box pstack [vSl al4 l4 cl4], Box pseen [.map (some bv)], OwnSl 62 1 a5 ((out ++ ([(gt l (wr (((l.length : Nat) : Int) - 1)))] : List Int)).length) c (flL (α := W32) (out ++ ([(gt l (wr (((l.length : Nat) : Int) - 1)))] : List Int))), Box pw [.pointer (some px)], MkA (D :: dl), OwnSl 62 1 al4 l4.length cl4 (flL (α := W32) l4), OwnMapI bv .u32 (fun _ : Unit => .agg #[]) m7]) (by rw [q1521]; rfl) ?_
     refine .nil (.seqN (.region (.V (ld1 rfl tO57 (cellB (off := 0) (k := 5) rfl rfl)) ?_)))
     refine .V (fa rfl tF96_2) ?_
     refine .V (ld1 rfl tO62 (cellB (off := 2) (k := 1) rfl rfl)) ?_
     refine bs2 (cs := #[.int .u32 (bits .or .u32 x3 ((gt x.ops t11).add))]) (pv := [(0, .int .u32 (bits .or .u32 x3 ((gt x.ops t11).add)))]) tS57 rfl rfl (by decide) (by decide) rfl rfl rfl (fun a8 _ => ?_)
     refine .KA [OwnSl 62 1 a8 (([bits .or .u32 x3 ((gt x.ops t11).add)] : List Int).length) 1 (flL (α := W32) ([bits .or .u32 x3 ((gt x.ops t11).add)] : List Int)), Box p_ [], Box pe [iV t11, iV ((gt x.ops t11).cost), .int .u32 (bits .or .u32 x3 ((gt x.ops t11).add))], Box pseen2 [.int .u32 ((gt x.ops t11).pre), .int .u32 ((gt x.ops t11).add), .int .u32 ((gt x.ops t11).del), iV ((gt x.ops t11).cost)], LA .busy none, Box ps [.int .u32 (gt l (wr (((l.length : Nat) : Int) - 1)))], Box pstack [vSl al4 l4 cl4], Box pseen [.map (some bv)], OwnSl 62 1 a5 ((out ++ ([(gt l (wr (((l.length : Nat) : Int) - 1)))] : List Int)).length) c (flL (α := W32) (out ++ ([(gt l (wr (((l.length : Nat) : Int) - 1)))] : List Int))), Box pw [.pointer (some px)], MkA (D :: dl), OwnSl 62 1 al4 l4.length cl4 (flL (α := W32) l4), OwnMapI bv .u32 (fun _ : Unit => .agg #[]) m7] ?_
     obtain ⟨q1523, hF⟩ := hF
     have q1524 : l4.length + ([bits .or .u32 x3 ((gt x.ops t11).add)] : List Int).length = ((l4 ++ ([bits .or .u32 x3 ((gt x.ops t11).add)] : List Int))).length := len_app rfl rfl
     refine app (k := 11) (news := flL (α := W32) ([bits .or .u32 x3 ((gt x.ops t11).add)] : List Int)) (cs' := flL (α := W32) (l4 ++ ([bits .or .u32 x3 ((gt x.ops t11).add)] : List Int))) (nm := ((l4 ++ ([bits .or .u32 x3 ((gt x.ops t11).add)] : List Int))).length) tS57 rfl (by decide) rfl rfl rfl ((flL_len _).trans rfl) (srcS (k := 0) rfl) (flL_one _) (room_of q1524 q1523).1 (room_of q1524 q1523).2 q1524 (flL_append _ _).symm rfl (fun a9 c2 => ?_)
     refine .KA [OwnSl 62 1 a8 (([bits .or .u32 x3 ((gt x.ops t11).add)] : List Int).length) 1 (flL (α := W32) ([bits .or .u32 x3 ((gt x.ops t11).add)] : List Int)), Box p_ [], Box pe [iV t11, iV ((gt x.ops t11).cost), .int .u32 (bits .or .u32 x3 ((gt x.ops t11).add))], Box pseen2 [.int .u32 ((gt x.ops t11).pre), .int .u32 ((gt x.ops t11).add), .int .u32 ((gt x.ops t11).del), iV ((gt x.ops t11).cost)], LA .busy none, Box ps [.int .u32 (gt l (wr (((l.length : Nat) : Int) - 1)))], Box pstack [vSl al4 l4 cl4], Box pseen [.map (some bv)], OwnSl 62 1 a5 ((out ++ ([(gt l (wr (((l.length : Nat) : Int) - 1)))] : List Int)).length) c (flL (α := W32) (out ++ ([(gt l (wr (((l.length : Nat) : Int) - 1)))] : List Int))), Box pw [.pointer (some px)], MkA (D :: dl), OwnSl 62 1 a9 ((l4 ++ ([bits .or .u32 x3 ((gt x.ops t11).add)] : List Int)).length) c2 (flL (α := W32) (l4 ++ ([bits .or .u32 x3 ((gt x.ops t11).add)] : List Int))), OwnMapI bv .u32 (fun _ : Unit => .agg #[]) m7] ?_
     refine st (p := pstack) (off := 0) (k := 6) (vs := [.slice a9 ((l4 ++ ([bits .or .u32 x3 ((gt x.ops t11).add)] : List Int)).length) c2]) rfl rfl rfl (fun w => (tO57 w).2) rfl rfl rfl rfl ?_
     refine .KA [OwnSl 62 1 a8 (([bits .or .u32 x3 ((gt x.ops t11).add)] : List Int).length) 1 (flL (α := W32) ([bits .or .u32 x3 ((gt x.ops t11).add)] : List Int)), Box p_ [], Box pe [iV t11, iV ((gt x.ops t11).cost), .int .u32 (bits .or .u32 x3 ((gt x.ops t11).add))], Box pseen2 [.int .u32 ((gt x.ops t11).pre), .int .u32 ((gt x.ops t11).add), .int .u32 ((gt x.ops t11).del), iV ((gt x.ops t11).cost)], LA .busy none, Box ps [.int .u32 (gt l (wr (((l.length : Nat) : Int) - 1)))], Box pstack [.slice a9 ((l4 ++ ([bits .or .u32 x3 ((gt x.ops t11).add)] : List Int)).length) c2], Box pseen [.map (some bv)], OwnSl 62 1 a5 ((out ++ ([(gt l (wr (((l.length : Nat) : Int) - 1)))] : List Int)).length) c (flL (α := W32) (out ++ ([(gt l (wr (((l.length : Nat) : Int) - 1)))] : List Int))), Box pw [.pointer (some px)], MkA (D :: dl), OwnSl 62 1 a9 ((l4 ++ ([bits .or .u32 x3 ((gt x.ops t11).add)] : List Int)).length) c2 (flL (α := W32) (l4 ++ ([bits .or .u32 x3 ((gt x.ops t11).add)] : List Int))), OwnMapI bv .u32 (fun _ : Unit => .agg #[]) m7] ?_
     refine .nil (.blkN ?_)
     refine .rdN (k := 4) q1447 rfl q1519 rfl ?_
     refine .KA [OwnSl 62 1 a8 (([bits .or .u32 x3 ((gt x.ops t11).add)] : List Int).length) 1 (flL (α := W32) ([bits .or .u32 x3 ((gt x.ops t11).add)] : List Int)), Box p_ [], Box pe [iV t11, iV ((gt x.ops t11).cost), .int .u32 (bits .or .u32 x3 ((gt x.ops t11).add))], Box pseen2 [.int .u32 ((gt x.ops t11).pre), .int .u32 ((gt x.ops t11).add), .int .u32 ((gt x.ops t11).del), iV ((gt x.ops t11).cost)], LA .ready none, Box ps [.int .u32 (gt l (wr (((l.length : Nat) : Int) - 1)))], Box pstack [.slice a9 ((l4 ++ ([bits .or .u32 x3 ((gt x.ops t11).add)] : List Int)).length) c2], Box pseen [.map (some bv)], OwnSl 62 1 a5 ((out ++ ([(gt l (wr (((l.length : Nat) : Int) - 1)))] : List Int)).length) c (flL (α := W32) (out ++ ([(gt l (wr (((l.length : Nat) : Int) - 1)))] : List Int))), Box pw [.pointer (some px)], MkA (D :: dl), OwnSl 62 1 a9 ((l4 ++ ([bits .or .u32 x3 ((gt x.ops t11).add)] : List Int)).length) c2 (flL (α := W32) (l4 ++ ([bits .or .u32 x3 ((gt x.ops t11).add)] : List Int))), OwnMapI bv .u32 (fun _ : Unit => .agg #[]) m7] ?_
     refine .GV (nt rfl) q1517 ?_
     refine .V (pkT rfl q1517 rfl) ?_
     refine .nil (.seqN ?_)
     refine .cond rfl (fun e => absurd (e.symm.trans rfl) (by decide)) (fun _ => ?_)
     refine .skip (.blkN ?_)
     refine .sel0 [4, 5, 6, 7, 8, 9, 10, 11, 12] (by decide) rfl ?_
     exact .US q1514 ((l4 ++ ([bits .or .u32 x3 ((gt x.ops t11).add)] : List Int)), m7, a9, c2) hF
    replace hF := hF.2 q1520
    refine .skip (.blkN ?_)
    refine .rdN (k := 3) q1447 rfl q1519 rfl ?_
    refine .KA [Box p_ [], Box pe [iV t11, iV ((gt x.ops t11).cost), .int .u32 (bits .or .u32 x3 ((gt x.ops t11).add))], Box pseen2 [.int .u32 ((gt x.ops t11).pre), .int .u32 ((gt x.ops t11).add), .int .u32 ((gt x.ops t11).del), iV ((gt x.ops t11).cost)], LA .ready none, Box ps [.int .u32 (gt l (wr (((l.length : Nat) : Int) - 1)))], Box pstack [vSl al4 l4 cl4], Box pseen [.map (some bv)], OwnSl 62 1 a5 ((out ++ ([(gt l (wr (((l.length : Nat) : Int) - 1)))] : List Int)).length) c (flL (α := W32) (out ++ ([(gt l (wr (((l.length : Nat) : Int) - 1)))] : List Int))), Box pw [.pointer (some px)], MkA (D :: dl), OwnSl 62 1 al4 l4.length cl4 (flL (α := W32) l4), OwnMapI bv .u32 (fun _ : Unit => .agg #[]) m4] ?_
    refine .GV (nt rfl) q1517 ?_
    refine .V (pkT rfl q1517 rfl) ?_
    refine .nil (.seqN ?_)
    refine .cond rfl (fun e => absurd (e.symm.trans rfl) (by decide)) (fun _ => ?_)
    refine .skip (.blkN ?_)
    refine .sel0 [3, 4, 5, 6, 7, 8, 9, 10, 11] (by decide) rfl ?_
    exact .US q1514 (l4, m4, al4, cl4) hF
   replace hF := hF.2 q1517
   refine .GS q1517 ?_
   refine .GS q1517 ?_
   refine .GS q1517 ?_
   refine .GS q1517 ?_
   refine .GS q1517 ?_
   refine .GS q1517 ?_
   refine .GS q1517 ?_
   refine .GS q1517 ?_
   refine .GS q1517 ?_
   refine .GS q1517 ?_
   refine .GS q1517 ?_
   refine .GS q1517 ?_
   refine .GS q1517 ?_
   refine .GS q1517 ?_
   refine .V (pkF rfl q1517 rfl) ?_
   refine .nil (.seqN ?_)
   refine .cond rfl (fun e => absurd (e.symm.trans rfl) (by decide)) (fun _ => ?_)
   refine .skip (.blkN ?_)
   refine .sel0 [1, 2, 3, 4, 5, 6, 7, 8, 9] (by decide) rfl ?_
   exact .US q1514 (l4, m4, al4, cl4) hF
  replace hF := hF.2 q1503
  refine .exit (.seqX (.seqX (.blkX ?_)))
  refine .res0 (.inr rfl) rfl (range_done (k := 0) q1447 rfl q1448 ?_)
  refine .KA [tru, Box ps [.int .u32 (gt l (wr (((l.length : Nat) : Int) - 1)))], Box pstack [vSl al4 l4 cl4], Box pseen [.map (some bv)], OwnSl 62 1 a5 ((out ++ ([(gt l (wr (((l.length : Nat) : Int) - 1)))] : List Int)).length) c (flL (α := W32) (out ++ ([(gt l (wr (((l.length : Nat) : Int) - 1)))] : List Int))), Box pw [.pointer (some px)], MkA (D :: dl), OwnSl 62 1 al4 l4.length cl4 (flL (α := W32) l4), OwnMapI bv .u32 (fun _ : Unit => .agg #[]) m4] ?_
  refine .blkN (.seqN (.seq (.region (.V (ld1 rfl tO148 (cellB (off := 0) (k := 3) rfl rfl)) ?_))))
  refine .V (lnI tMI148 rfl (q := 8) rfl) ?_
  refine .V bi0 ?_
  refine .nil (.seqN ?_)
  refine .cond rfl (fun q1525 => ?_) (fun q1525 => ?_)
  ·replace hF := hF.1 q1525
   refine .seq (.region (.V ag0 ?_))
   refine .V ag0 ?_
   refine .nil (.seqN ?_)
   refine .nilSl 62 1 ?_
   refine .KA [OwnSl 62 1 none (([] : List Int).length) 0 (flL (α := W32) ([] : List Int)), tru, Box ps [.int .u32 (gt l (wr (((l.length : Nat) : Int) - 1)))], Box pstack [vSl al4 l4 cl4], Box pseen [.map (some bv)], OwnSl 62 1 a5 ((out ++ ([(gt l (wr (((l.length : Nat) : Int) - 1)))] : List Int)).length) c (flL (α := W32) (out ++ ([(gt l (wr (((l.length : Nat) : Int) - 1)))] : List Int))), Box pw [.pointer (some px)], MkA (D :: dl), OwnSl 62 1 al4 l4.length cl4 (flL (α := W32) l4), OwnMapI bv .u32 (fun _ : Unit => .agg #[]) m4] ?_
   refine .ret (.blkR (.seqR (.blkR (.seqR ?_))))
   refine .resM (k := 7) rfl ?_
   refine .res2 rfl (rvT rfl) (rvT rfl) (fun w' S => ⟨(([] : List Int), false), (none, 0), h, hF, rfl, (FH.le_refl _), trivial, S.pick (k := 0) rfl⟩)
  replace hF := hF.2 q1525
  refine .skip (.blkN ?_)
  refine .sel0 [2, 3, 4, 6, 7, 8] (by decide) rfl ?_
  exact .roundN ((out ++ ([(gt l (wr (((l.length : Nat) : Int) - 1)))] : List Int)), l4, m4, a5, c, D :: dl, al4, cl4) hF.1 hF.2 rfl sb rfl (FH.le_refl _)
 replace hF := hF.2 q1358
 refine .exit (.seqX (.seqX (.blkX (.seqN (.seq (.region (.V mv0 ?_)))))))
 refine .V ag0 ?_
 refine .V ag0 ?_
 refine .nil (.seqN (.ret ?_))
 refine .resM (k := 3) rfl ?_
 refine .res2 rfl (rvT rfl) (rvT rfl) (fun w' S => ⟨(out, true), (aout, cout), h, hF, rfl, (FH.le_refl _), trivial, S.pick (k := 2) rfl⟩)
theorem c_all {h : FH} {w : World} (hs : Sub h w) (x : WordsT) (ax : Option Addr) (cx : Nat) (_q1 : RSl h ax x.ops) (_q2 : x.ops.length ≤ cx) (px : Addr) (_q3 : CellsAt h px [.int .u32 x.start, .int .u32 x.goal, .slice ax x.ops.length cx]) (hp : pre_all x) : Calls Tryz.prog 41 #[.iface 56 (.pointer (some px))] w fun e w' => ∃ (z : Option Addr × Nat) (h0 h1 : FH), e = .returned (.tuple #[.slice z.1 (sp_all x).1.length z.2, .bool (sp_all x).2]) ∧ (True) ∧ FH.le h h1 ∧ SH (Kp.all w h0) h1 w' [OwnSl 62 1 z.1 (sp_all x).1.length z.2 (flL (α := W32) (sp_all x).1)] :=
 (w_all hs x ax cx _q1 _q2 px _q3 (fun r => r = sp_all x) (ok_all x hp)).mono fun _ _ ⟨r, z, h1, hk, he, hl, hψ, hS⟩ => by subst hk; exact ⟨z, h, h1, he, hψ, hl, hS⟩
end Go.Proofs.YtimillpakjgnoaaGreat.Pl

