import Derived.Test.YtimillpakjgnoaaGreatM2
import Derived.Test.YtimillpakjgnoaaGreatM1
import Derived.Shelf.SlSortCmp.NoneTotal
import Derived.Ground.SlsfProg
namespace Go.Proofs.YtimillpakjgnoaaGreat.Pl
open Go Go.RowKit
theorem setA_nodup {β : Type} {l : List (Int × β)} {k : Int} {v : β} (h : (l.map (·.1)).Nodup) : ((setA l k v).map (·.1)).Nodup := by
 cases hk : getA l k with
 | none =>
  rw [setA_new hk, List.map_append, List.nodup_append]
  refine ⟨h, by simp, fun a ha b hb hab => ?_⟩
  simp at hb
  rw [hab, hb] at ha
  exact getA_none.1 hk ha
 | some x => rw [setA_keys (by rw [hk]; simp)]; exact h
theorem setA_le {β : Type} (l : List (Int × β)) (k : Int) (v : β) : (setA l k v).length ≤ l.length + 1 := by
 induction l with
 | nil => simp [setA]
 | cons p r ih =>
  simp only [setA]
  split
  ·simp
  ·simp only [List.length_cons]; omega
def dv (m : List (Int × Int)) (s : Int) : Int := (getA m s).getD 0
theorem dv_set (m : List (Int × Int)) (k v s : Int) : dv (setA m k v) s = if k = s then v else dv m s := by
 unfold dv
 rw [getA_setA]
 split <;> rfl
def sumD (m : List (Int × Int)) (L : List Int) : Nat := (L.map fun s => (dv m s).toNat).sum
theorem sumD_le {m : List (Int × Int)} {k v : Int} (h0 : 0 ≤ v) (h1 : v < dv m k) : ∀ L : List Int, sumD (setA m k v) L ≤ sumD m L ∧ (k ∈ L → sumD (setA m k v) L < sumD m L)
 | [] => ⟨Nat.le_refl _, fun h => by cases h⟩
 | s :: L => by
  obtain ⟨a, b⟩ := sumD_le h0 h1 L
  have e : ∀ m, sumD m (s :: L) = (dv m s).toNat + sumD m L := fun m => by unfold sumD; rw [List.map_cons, List.sum_cons]
  rw [e, e, dv_set]
  by_cases hk : k = s
  ·subst hk
   rw [if_pos rfl]
   exact ⟨by omega, fun _ => by omega⟩
  ·rw [if_neg hk]
   exact ⟨by omega, fun h => by have := b ((List.mem_cons.1 h).resolve_left hk); omega⟩
def arcS (W : WordsT) (L : List Int) (k : Nat) (j : Int) (x : Int) (a : Arc) : Prop :=
 (∃ i : Nat, i < k ∧ ∃ op, (op, x) ∈ wsucc W (gt L (i : Int)) ∧ a = ⟨gt L (i : Int), (gt W.ops op).cost⟩) ∨ ∃ op, op < j ∧ (op, x) ∈ wsucc W (gt L (k : Int)) ∧ a = ⟨gt L (k : Int), (gt W.ops op).cost⟩
def row (mm : List (Int × List Arc)) (x : Int) : List Arc := (getA mm x).getD []
structure RowsI (W : WordsT) (L : List Int) (k : Nat) (j : Int) (mm : List (Int × List Arc)) : Prop where
 mem : ∀ x a, a ∈ row mm x ↔ arcS W L k j x a
 len : ∀ x, (row mm x).length ≤ 40 * k + j.toNat
theorem RowsI.start (W : WordsT) (L : List Int) : RowsI W L 0 0 [] := by
 refine ⟨fun x a => ⟨fun h => (by cases h), fun h => ?_⟩, fun x => Nat.zero_le _⟩
 rcases h with ⟨i, hi, _⟩ | ⟨op, h1, h2, _⟩
 ·omega
 ·have := (mem_wsucc.1 h2).1.1
  simp at this; omega
theorem RowsI.next {W : WordsT} {L : List Int} {k : Nat} {mm : List (Int × List Arc)} (h : RowsI W L k W.ops.length mm) (hW : W.ops.length ≤ 40) : RowsI W L (k + 1) 0 mm := by
 refine ⟨fun x a => (h.mem x a).trans ⟨fun h => ?_, fun h => ?_⟩, fun x => by have := h.len x; omega⟩
 ·rcases h with ⟨i, hi, e⟩ | ⟨op, _, h2, e⟩
  ·exact .inl ⟨i, by omega, e⟩
  ·exact .inl ⟨k, by omega, op, h2, e⟩
 ·rcases h with ⟨i, hi, op, h2, e⟩ | ⟨op, h1, h2, _⟩
  ·by_cases hk : i < k
   ·exact .inl ⟨i, hk, op, h2, e⟩
   ·have : i = k := by omega
    subst this
    exact .inr ⟨op, (mem_wsucc.1 h2).1.2, h2, e⟩
  ·have := (mem_wsucc.1 h2).1.1
   simp at this; omega
theorem RowsI.skip {W : WordsT} {L : List Int} {k j : Nat} {mm : List (Int × List Arc)} (h : RowsI W L k j mm) (hn : ∀ x, ((j : Int), x) ∉ wsucc W (gt L (k : Int))) : RowsI W L k ((j + 1 : Nat) : Int) mm := by
 refine ⟨fun x a => (h.mem x a).trans ⟨fun h => h.imp id fun ⟨op, h1, h2⟩ => ⟨op, by omega, h2⟩, fun h => ?_⟩, fun x => by have := h.len x; omega⟩
 rcases h with h | ⟨op, h1, h2, e⟩
 ·exact .inl h
 ·by_cases ho : op = j
  ·subst ho; exact absurd h2 (hn x)
  ·exact .inr ⟨op, by omega, h2, e⟩
theorem RowsI.put {W : WordsT} {L : List Int} {k j : Nat} {mm : List (Int × List Arc)} {x : Int} (h : RowsI W L k j mm) (hx : ((j : Int), x) ∈ wsucc W (gt L (k : Int))) :
  RowsI W L k ((j + 1 : Nat) : Int) ((x, row mm x ++ [⟨gt L (k : Int), (gt W.ops (j : Int)).cost⟩]) :: delA mm x) := by
 have hr : ∀ y, row ((x, row mm x ++ [⟨gt L (k : Int), (gt W.ops (j : Int)).cost⟩]) :: delA mm x) y = if x = y then row mm x ++ [⟨gt L (k : Int), (gt W.ops (j : Int)).cost⟩] else row mm y := fun y => by
  unfold row
  simp only [getA]
  by_cases hxy : x = y
  ·rw [if_pos hxy, if_pos hxy]; rfl
  ·rw [if_neg hxy, if_neg hxy, getA_delA hxy]
 have hj : ∀ y a, arcS W L k ((j + 1 : Nat) : Int) y a ↔ arcS W L k j y a ∨ (y = x ∧ a = ⟨gt L (k : Int), (gt W.ops (j : Int)).cost⟩) := fun y a => by
  constructor
  ·rintro (h | ⟨op, h1, h2, e⟩)
   ·exact .inl (.inl h)
   ·by_cases ho : op = j
    ·subst ho
     refine .inr ⟨?_, e⟩
     exact (mem_wsucc.1 h2).2.2.trans (mem_wsucc.1 hx).2.2.symm
    ·exact .inl (.inr ⟨op, by omega, h2, e⟩)
  ·rintro ((h | ⟨op, h1, h2, e⟩) | ⟨rfl, e⟩)
   ·exact .inl h
   ·exact .inr ⟨op, by omega, h2, e⟩
   ·exact .inr ⟨j, by omega, hx, e⟩
 refine ⟨fun y a => ?_, fun y => ?_⟩
 ·rw [hr, hj]
  by_cases hxy : x = y
  ·subst hxy
   rw [if_pos rfl, List.mem_append, h.mem, List.mem_singleton]
   exact ⟨fun q => q.imp id fun e => ⟨rfl, e⟩, fun q => q.imp id fun e => e.2⟩
  ·rw [if_neg hxy, h.mem]
   exact ⟨.inl, fun q => q.resolve_right fun e => hxy e.1.symm⟩
 ·rw [hr]
  have := h.len y
  have := h.len x
  split
  ·rw [List.length_append, List.length_singleton]; omega
  ·omega
structure QG (W : WordsT) (L : List Int) (k : Nat) (mq : List (Int × Int)) : Prop where
 q : ∀ s v, getA mq s = some v ↔ (v = 0 ∧ wgoal W s = true ∧ s ∈ L.take k)
 nod : (mq.map (·.1)).Nodup
 len : mq.length ≤ k
def OutI (W : WordsT) (L : List Int) (k : Nat) (m : List (Int × Int)) : Prop := ∀ s ∈ L.take k, getA m s = some (if wgoal W s = true then 0 else 1000000000)
structure DInv (W : WordsT) (L : List Int) (mm : List (Int × List Arc)) (ex : Int → Prop) (m mq : List (Int × Int)) : Prop where
 rng : ∀ s ∈ L, 0 ≤ dv m s ∧ dv m s ≤ 1000000000
 snd : ∀ s ∈ L, dv m s = 1000000000 ∨ WCost W s (dv m s)
 goal : ∀ s ∈ L, wgoal W s = true → dv m s ≤ 0
 q : ∀ s v, getA mq s = some v → s ∈ L ∧ v = dv m s ∧ v < 1000000000
 nod : (mq.map (·.1)).Nodup
 cmp : ∀ x ∈ L, ¬ ex x → getA mq x = none → dv m x < 1000000000 → ∀ a ∈ row mm x, dv m a.from_ ≤ dv m x + a.cost
theorem DInv.few {W : WordsT} {L : List Int} {mm : List (Int × List Arc)} {ex : Int → Prop} {m mq : List (Int × Int)} (h : DInv W L mm ex m mq) (hL : L.length ≤ 2000) : mq.length ≤ 2000 := by
 have := nodup_sub_len (mq.map (·.1)) L h.nod fun x hx => by
  obtain ⟨v, hv⟩ := Option.isSome_iff_exists.1 (getA_some.2 hx)
  exact (h.q x v hv).1
 rw [List.length_map] at this
 omega
theorem DInv.relax {W : WordsT} {L : List Int} (hc : CostOK W) {mm : List (Int × List Arc)} (hr : ∀ x a, a ∈ row mm x → a.from_ ∈ L ∧ ∃ op, (op, x) ∈ wsucc W a.from_ ∧ a.cost = (gt W.ops op).cost) {ex : Int → Prop} {m mq : List (Int × Int)} (h : DInv W L mm ex m mq) {s d : Int} (hs : s ∈ L) (hd : dv m s = d) (hd1 : d < 1000000000) {a : Arc} (ha : a ∈ row mm s) (hlt : d + a.cost < dv m a.from_) :
  DInv W L mm ex (setA m a.from_ (d + a.cost)) (setA mq a.from_ (d + a.cost)) ∧ dv (setA m a.from_ (d + a.cost)) s = d ∧ 0 ≤ d + a.cost ∧ (∀ y, dv (setA m a.from_ (d + a.cost)) y ≤ dv m y) := by
 obtain ⟨h1, op, h2, h3⟩ := hr s a ha
 have hcost := hc op (mem_wsucc.1 h2).1
 have hd0 := (h.rng s hs).1
 have hf := h.rng _ h1
 have hfs : a.from_ ≠ s := fun e => by rw [e, hd] at hlt; omega
 have hle : ∀ y, dv (setA m a.from_ (d + a.cost)) y ≤ dv m y := fun y => by
  rw [dv_set]
  split
  ·rename_i e; rw [← e]; omega
  ·exact Int.le_refl _
 refine ⟨⟨fun y hy => ?_, fun y hy => ?_, fun y hy hg => ?_, fun y v hv => ?_, setA_nodup h.nod, fun x hx hex hn hlt2 b hb => ?_⟩, ?_, by omega, hle⟩
 ·have := h.rng y hy
  rw [dv_set]
  split
  ·exact ⟨by omega, by omega⟩
  ·exact this
 ·rw [dv_set]
  split
  ·rename_i e
   subst e
   refine .inr ?_
   have hw : WCost W s d := by rw [← hd]; exact (h.snd s hs).resolve_left (by omega)
   have := WCost.step a.from_ (op, s) d h2 hw
   rw [show d + a.cost = (gt W.ops op).cost + d by omega]
   exact this
  ·exact h.snd y hy
 ·exact Int.le_trans (hle y) (h.goal y hy hg)
 ·rw [getA_setA] at hv
  rw [dv_set]
  split at hv
  ·rename_i e
   obtain rfl := Option.some.inj hv
   rw [if_pos e, ← e]
   exact ⟨h1, rfl, by omega⟩
  ·rename_i e
   rw [if_neg e]
   exact h.q y v hv
 ·rw [getA_setA] at hn
  split at hn
  ·cases hn
  ·rename_i e
   have e2 : dv (setA m a.from_ (d + a.cost)) x = dv m x := by rw [dv_set, if_neg e]
   rw [e2] at hlt2 ⊢
   exact Int.le_trans (hle _) (h.cmp x hx hex hn hlt2 b hb)
 ·rw [dv_set, if_neg hfs]; exact hd
section
variable {W : WordsT} {L : List Int} {mm : List (Int × List Arc)}
theorem opt_L4 (hL : Clo W L) (hc : CostOK W) (hr : ∀ x a, a ∈ row mm x ↔ a.from_ ∈ L ∧ ∃ op, (op, x) ∈ wsucc W a.from_ ∧ a.cost = (gt W.ops op).cost) (hlen : ∀ x, (row mm x).length ≤ 100000) {r3 : Int} (h3 : r3 ∈ L) (K : Int × Fault → Prop) (hK : K (leastC (WCost W r3), ⟨0, 0⟩))
  (m mq : List (Int × Int)) (h : DInv W L mm (fun _ => False) m mq) : F_optimal_L4 K r3 mm m mq (DInv W L mm (fun _ => False)) (fun m mq => 2 * sumD m L + mq.length) := by
 intro r11 h11
 obtain rfl := h11
 have hfew := h.few hL.len
 refine ⟨fun hp => ?_, fun hp => ?_⟩
 ·have hp := of_decide_eq_true hp
  have hpos : 0 < mq.length := by
   have : (0 : Int) < (mq.length : Int) := hp
   omega
  refine ⟨⟨fun e => by (have e : mq = [] := e); rw [e] at hpos; simp at hpos, by show mq.length ≤ 200000; omega⟩, fun r12 ⟨h1, h2, h3'⟩ => ?_⟩
  obtain ⟨⟨s, d, ok⟩, mq'⟩ := r12
  have h1 : getA mq s = some d := h1
  have h3' : mq' = delA mq s := h3'
  obtain ⟨hs, hd, hd1⟩ := h.q s d h1
  have hd0 := (h.rng s hs).1
  have hlen' : mq'.length + 1 = mq.length := by rw [h3']; exact delA_len h1
  have hself : getA mq' s = none := by rw [h3']; exact getA_delA_self h.nod
  have hoth : ∀ y, y ≠ s → getA mq' y = getA mq y := fun y hy => by rw [h3']; exact getA_delA (Ne.symm hy)
  have h0 : DInv W L mm (fun x => x = s) m mq' := ⟨h.rng, h.snd, h.goal, fun y v hv => by
   by_cases hy : y = s
   ·subst hy; rw [hself] at hv; cases hv
   ·exact h.q y v (by rw [← hoth y hy]; exact hv), by rw [h3']; exact (delA_keys mq s).nodup h.nod, fun x hx hex hn hlt => h.cmp x hx (fun e => e) (by rw [← hoth x hex]; exact hn) hlt⟩
  refine ⟨fun t m9 mq6 => ∃ i : Nat, t = i ∧ i ≤ (row mm s).length ∧ DInv W L mm (fun x => x = s) m9 mq6 ∧ dv m9 s = d ∧ (∀ i' : Nat, i' < i → dv m9 (gt (row mm s) (i' : Int)).from_ ≤ d + (gt (row mm s) (i' : Int)).cost) ∧ 2 * sumD m9 L + mq6.length ≤ 2 * sumD m L + mq'.length, fun t _ _ => (((row mm s).length : Int) - t).toNat, ⟨0, rfl, Nat.zero_le _, h0, hd.symm, fun i' hi => by omega, Nat.le_refl _⟩, ?_⟩
  rintro _ m9 mq6 ⟨i, rfl, i1, g, g1, g2, g3⟩
  have hl1 := hlen s
  unfold F_optimal_L5 F_optimal_J3
  simp only [decide_eq_true_eq, decide_eq_false_iff_not, forall_eq]
  refine ⟨fun hi => ?_, fun hi => ?_⟩
  ·have hi : (i : Int) < ((row mm s).length : Int) := hi
   have hb : inb (row mm s) (i : Int) := ⟨by omega, hi⟩
   have ha := gt_mem hb
   obtain ⟨f1, op, f2, f3⟩ := (hr s _).1 ha
   have hcost := hc op (mem_wsucc.1 f2).1
   have e1 : IntKind.i64.wrap (d + (gt (row mm s) (i : Int)).cost) = d + (gt (row mm s) (i : Int)).cost := w64 (by omega)
   refine ⟨hb, ?_⟩
   show (IntKind.i64.wrap (d + (gt (row mm s) (i : Int)).cost) < dv m9 (gt (row mm s) (i : Int)).from_ → _) ∧ (¬ IntKind.i64.wrap (d + (gt (row mm s) (i : Int)).cost) < dv m9 (gt (row mm s) (i : Int)).from_ → _)
   have e2 : IntKind.i64.wrap ((i : Int) + 1) = ((i + 1 : Nat) : Int) := by rw [w64 (by omega)]; omega
   rw [e1, e2]
   refine ⟨fun hlt => ⟨?_, fun r13 h13 => ?_⟩, fun hlt => ⟨⟨i + 1, rfl, by omega, g, g1, fun i' hi' => ?_, g3⟩, by omega⟩⟩
   ·have := g.few hL.len
    show mq6.length ≤ 100000
    omega
   ·have h13 : r13 = setA mq6 (gt (row mm s) (i : Int)).from_ (IntKind.i64.wrap (d + (gt (row mm s) (i : Int)).cost)) := h13
    rw [e1] at h13
    subst h13
    obtain ⟨k1, k2, k3, k4⟩ := g.relax hc (fun x a ha => (hr x a).1 ha) hs g1 hd1 ha hlt
    have hsum := (sumD_le (m := m9) k3 hlt L).2 f1
    have hql := setA_le mq6 (gt (row mm s) (i : Int)).from_ (d + (gt (row mm s) (i : Int)).cost)
    have keep : ∃ i_1 : Nat, ((i + 1 : Nat) : Int) = i_1 ∧ i_1 ≤ (row mm s).length ∧ DInv W L mm (fun x => x = s) (setA m9 (gt (row mm s) (i : Int)).from_ (d + (gt (row mm s) (i : Int)).cost)) (setA mq6 (gt (row mm s) (i : Int)).from_ (d + (gt (row mm s) (i : Int)).cost)) ∧ dv (setA m9 (gt (row mm s) (i : Int)).from_ (d + (gt (row mm s) (i : Int)).cost)) s = d ∧ (∀ i' : Nat, i' < i_1 → dv (setA m9 (gt (row mm s) (i : Int)).from_ (d + (gt (row mm s) (i : Int)).cost)) (gt (row mm s) (i' : Int)).from_ ≤ d + (gt (row mm s) (i' : Int)).cost) ∧ 2 * sumD (setA m9 (gt (row mm s) (i : Int)).from_ (d + (gt (row mm s) (i : Int)).cost)) L + (setA mq6 (gt (row mm s) (i : Int)).from_ (d + (gt (row mm s) (i : Int)).cost)).length ≤ 2 * sumD m L + mq'.length := by
     refine ⟨i + 1, rfl, by omega, k1, k2, fun i' hi' => ?_, by omega⟩
     by_cases e : i' < i
     ·exact Int.le_trans (k4 _) (g2 i' e)
     ·have : i' = i := by omega
      subst this
      rw [dv_set, if_pos rfl]
      exact Int.le_refl _
    have e1' : IntKind.i64.wrap (d + (gt ((getA mm s).getD []) (i : Int)).cost) = d + (gt (row mm s) (i : Int)).cost := e1
    rw [e1']
    refine ⟨keep, by omega⟩
   ·by_cases e : i' < i
    ·exact g2 i' e
    ·have : i' = i := by omega
     subst this
     omega
  ·have hi : ¬ (i : Int) < ((row mm s).length : Int) := hi
   refine ⟨⟨g.rng, g.snd, g.goal, g.q, g.nod, fun x hx _ hn hlt a ha => ?_⟩, by
    show 2 * sumD m9 L + mq6.length < 2 * sumD m L + mq.length
    omega⟩
   by_cases hxs : x = s
   ·subst hxs
    obtain ⟨i', hi', e⟩ := mem_gt ha
    rw [← e, g1]
    exact g2 i' (by omega)
   ·exact g.cmp x hx hxs hn hlt a ha
 ·have hp := of_decide_eq_false hp
  have hz : mq = [] := by
   cases mq with
   | nil => rfl
   | cons p r =>
    exfalso
    apply hp
    show (0 : Int) < (((p :: r).length : Nat) : Int)
    rw [List.length_cons]; omega
  subst hz
  have := least_of hL hc (d := dv m) (fun s hs => (h.rng s hs).2) h.snd h.goal (fun s hs x hx hlt => h.cmp x.2 (hL.succ s hs x hx) (fun e => e) rfl hlt ⟨s, (gt W.ops x.1).cost⟩ ((hr x.2 _).2 ⟨hs, x.1, hx, rfl⟩)) h3
  show K (dv m r3, _)
  rw [this]
  exact hK
theorem opt_start {m mq : List (Int × Int)} (h1 : OutI W L L.length m) (h2 : QG W L L.length mq) : DInv W L mm (fun _ => False) m mq := by
 have ht : L.take L.length = L := List.take_length
 unfold OutI at h1
 rw [ht] at h1
 have hd : ∀ s ∈ L, dv m s = if wgoal W s = true then 0 else 1000000000 := fun s hs => by unfold dv; rw [h1 s hs]; rfl
 have hq := h2.q
 rw [ht] at hq
 refine ⟨fun s hs => ?_, fun s hs => ?_, fun s hs hg => by rw [hd s hs, if_pos hg]; exact Int.le_refl _, fun s v hv => ?_, h2.nod, fun x hx _ hn hlt => ?_⟩
 ·rw [hd s hs]; split <;> omega
 ·rw [hd s hs]
  split
  ·rename_i hg; exact .inr (.here s hg)
  ·exact .inl rfl
 ·obtain ⟨rfl, a2, a3⟩ := (hq s v).1 hv
  exact ⟨a3, by rw [hd s a3, if_pos a2], by omega⟩
 ·rw [hd x hx] at hlt
  split at hlt
  ·rename_i hg
   rw [(hq x 0).2 ⟨rfl, hg, hx⟩] at hn
   cases hn
  ·omega
end
end Go.Proofs.YtimillpakjgnoaaGreat.Pl

namespace Go.Proofs.YtimillpakjgnoaaGreat.Pl
open Go Go.RowKit
section
variable {W : WordsT} {r3 r4 : Int} {l : List Masks} {L : List Int}
theorem opt_J1 (hW : W = ⟨r3, r4, l⟩) (hops : l.length ≤ 40) (hL : L.length ≤ 2000) {k : Nat} (hk : k < L.length) {m mq m4 mq3 : List (Int × Int)} {mm : List (Int × List Arc)} (h1 : OutI W L (k + 1) m4) (h2 : QG W L (k + 1) mq3) (h3 : RowsI W L k 0 mm) :
  F_optimal_J1 l L m mq mm m4 (k : Int) (fun t m mq mm => ∃ k : Nat, t = k ∧ k ≤ L.length ∧ OutI W L k m ∧ QG W L k mq ∧ RowsI W L k 0 mm) (fun t _ _ _ => ((L.length : Int) - t).toNat) mq3 := by
 have hWo : W.ops = l := by rw [hW]
 refine ⟨fun s mm3 => ∃ j : Nat, s = j ∧ j ≤ l.length ∧ RowsI W L k j mm3, fun s _ => ((l.length : Int) - s).toNat, ⟨0, rfl, Nat.zero_le _, h3⟩, ?_⟩
 rintro _ mm3 ⟨j, rfl, j1, h⟩
 unfold F_optimal_L3 F_optimal_J2
 simp only [decide_eq_true_eq, decide_eq_false_iff_not, forall_eq]
 have e1 : j < l.length → IntKind.i64.wrap ((j : Int) + 1) = ((j + 1 : Nat) : Int) := fun hj => by rw [w64 (by omega)]; omega
 refine ⟨fun g => ?_, fun g => ?_⟩
 ·have hj : j < l.length := by omega
  have hb : inb l (j : Int) := ⟨by omega, g⟩
  rw [e1 hj]
  refine ⟨hb, fun q => ⟨?_, ⟨j + 1, rfl, by omega, ?_⟩, by omega⟩, fun q => ⟨⟨j + 1, rfl, by omega, h.skip fun x hx => ?_⟩, by omega⟩⟩
  ·have := h.len (bits .or .u32 (bits .andNot .u32 (gt L (k : Int)) ((gt l (j : Int)).del)) ((gt l (j : Int)).add))
   have hr : (row mm3 (bits .or .u32 (bits .andNot .u32 (gt L (k : Int)) ((gt l (j : Int)).del)) ((gt l (j : Int)).add))).length ≤ 100000 := by omega
   unfold row at hr
   rw [List.length_append, List.length_singleton]
   exact ⟨by simp only [maxLen]; omega, by omega⟩
  ·have hx : ((j : Int), bits .or .u32 (bits .andNot .u32 (gt L (k : Int)) ((gt l (j : Int)).del)) ((gt l (j : Int)).add)) ∈ wsucc W (gt L (k : Int)) := by
    rw [mem_wsucc, hWo]
    exact ⟨hb, q, rfl⟩
   have := h.put hx
   rw [hWo] at this
   exact this
  ·have := (mem_wsucc.1 hx).2.1
   rw [hWo] at this
   rw [this] at q
   cases q
 ·have hj : j = l.length := by omega
  subst hj
  have e2 : IntKind.i64.wrap ((k : Int) + 1) = ((k + 1 : Nat) : Int) := by rw [w64 (by omega)]; omega
  rw [e2]
  refine ⟨⟨k + 1, rfl, by omega, h1, h2, RowsI.next (by rw [hWo]; exact h) (by rw [hWo]; exact hops)⟩, by omega⟩
theorem opt_search (hW : W = ⟨r3, r4, l⟩) (hops : l.length ≤ 40) (hc : CostOK W) (hL : Clo W L) (h3 : r3 ∈ L) {r8 : List Int × Bool} (h8 : r8.1.length = L.length) (K : Int × Fault → Prop) (hK : K (leastC (WCost W r3), ⟨0, 0⟩)) :
  ∃ (I2 : Int → (List (Int × Int)) → (List (Int × Int)) → (List (Int × List Arc)) → Prop) (μ2 : Int → (List (Int × Int)) → (List (Int × Int)) → (List (Int × List Arc)) → Nat), I2 0 ([] : List (Int × Int)) ([] : List (Int × Int)) ([] : List (Int × List Arc)) ∧ ∀ (t21 : Int) (m : List (Int × Int)) (mq : List (Int × Int)) (mm : List (Int × List Arc)), I2 t21 m mq mm → F_optimal_L2 K r3 r4 l r8 L m mq mm t21 I2 μ2 := by
 refine ⟨fun t m mq mm => ∃ k : Nat, t = k ∧ k ≤ L.length ∧ OutI W L k m ∧ QG W L k mq ∧ RowsI W L k 0 mm, fun t _ _ _ => ((L.length : Int) - t).toNat, ⟨0, rfl, Nat.zero_le _, fun s hs => by simp at hs, ⟨fun s v => ⟨fun h => (by cases h), fun h => (by simp at h)⟩, List.nodup_nil, Nat.zero_le _⟩, RowsI.start W L⟩, ?_⟩
 rintro _ m mq mm ⟨k, rfl, k1, a1, a2, a3⟩
 have hl := hL.len
 unfold F_optimal_L2
 simp only [decide_eq_true_eq, decide_eq_false_iff_not, forall_eq]
 rw [h8]
 refine ⟨fun g => ?_, fun g => ?_⟩
 ·have hk : k < L.length := by omega
  have hb : inb L (k : Int) := ⟨by omega, g⟩
  have hg : wgoal W (gt L (k : Int)) = (bits .and .u32 (gt L (k : Int)) r4 == r4) := by rw [hW]; rfl
  have ht := takeN_gt hk
  refine ⟨hb, fun q => ⟨?_, fun r10 h10 => ?_⟩, fun q => ?_⟩
  ·have := a2.len
   show mq.length ≤ 100000
   omega
  ·have h10 : r10 = setA mq (gt L (k : Int)) 0 := h10
   subst h10
   refine opt_J1 hW hops hl hk (fun s hs => ?_) ⟨fun s v => ?_, setA_nodup a2.nod, by have := setA_le mq (gt L (k : Int)) 0; have := a2.len; omega⟩ a3
   ·rw [getA_setA, getA_setA]
    by_cases e : gt L (k : Int) = s
    ·subst e
     rw [if_pos rfl, if_pos (hg.trans q)]
    ·rw [if_neg e, if_neg e]
     rw [ht] at hs
     exact a1 s ((List.mem_append.1 hs).resolve_right fun h => e (List.mem_singleton.1 h).symm)
   ·rw [getA_setA, ht, List.mem_append, List.mem_singleton]
    by_cases e : gt L (k : Int) = s
    ·subst e
     rw [if_pos rfl]
     exact ⟨fun h => ⟨(Option.some.inj h).symm, hg.trans q, .inr rfl⟩, fun h => by rw [h.1]⟩
    ·rw [if_neg e, a2.q]
     exact ⟨fun h => ⟨h.1, h.2.1, .inl h.2.2⟩, fun h => ⟨h.1, h.2.1, h.2.2.resolve_right fun h => e h.symm⟩⟩
  ·have hng : ¬ wgoal W (gt L (k : Int)) = true := by rw [hg, q]; decide
   refine opt_J1 hW hops hl hk (fun s hs => ?_) ⟨fun s v => ?_, a2.nod, by have := a2.len; omega⟩ a3
   ·rw [getA_setA]
    by_cases e : gt L (k : Int) = s
    ·subst e
     rw [if_pos rfl, if_neg hng]
    ·rw [if_neg e]
     rw [ht] at hs
     exact a1 s ((List.mem_append.1 hs).resolve_right fun h => e (List.mem_singleton.1 h).symm)
   ·rw [ht, List.mem_append, List.mem_singleton, a2.q]
    exact ⟨fun h => ⟨h.1, h.2.1, .inl h.2.2⟩, fun h => ⟨h.1, h.2.1, h.2.2.resolve_right fun e => hng (by rw [← e]; exact h.2.1)⟩⟩
 ·have hk : k = L.length := by omega
  subst hk
  have hr : ∀ x a, a ∈ row mm x ↔ a.from_ ∈ L ∧ ∃ op, (op, x) ∈ wsucc W a.from_ ∧ a.cost = (gt W.ops op).cost := fun x a => by
   rw [a3.mem]
   constructor
   ·rintro (⟨i, hi, op, h1, rfl⟩ | ⟨op, h1, h2, _⟩)
    ·exact ⟨gt_memN hi, op, h1, rfl⟩
    ·have := (mem_wsucc.1 h2).1.1
     simp at this; omega
   ·rintro ⟨h1, op, h2, h4⟩
    obtain ⟨i, hi, e⟩ := mem_gt h1
    refine .inl ⟨i, hi, op, by rw [e]; exact h2, ?_⟩
    rw [e, ← h4]
  refine ⟨DInv W L mm (fun _ => False), fun m mq => 2 * sumD m L + mq.length, opt_start a1 a2, fun m7 mq4 h => opt_L4 hL hc hr (fun x => by have := a3.len x; simp at this; omega) h3 K hK m7 mq4 h⟩
end
theorem ok_optimal : ∀ (t : Task), F_optimal t (fun r => r = sp_optimal t) := fun t => by
 unfold F_optimal
 simp only [forall_eq, fault_ne, fault_eq]
 refine ⟨fun h => by rw [sp_optimal, if_neg h], fun h => ?_⟩
 have tk := taskOK_of h
 have hol := tk.len
 refine ⟨set_pre_word tk tk.init, set_pre_word tk tk.goal, fun t17 l => ∃ k : Nat, t17 = k ∧ k ≤ t.ops.length ∧ l = (t.ops.take k).map maskOf, fun t17 _ => (t.ops.length - t17).toNat, ⟨0, rfl, Nat.zero_le _, rfl⟩, ?_⟩
 rintro _ _ ⟨k, rfl, k1, rfl⟩
 unfold F_optimal_L1
 simp only [decide_eq_true_eq, decide_eq_false_iff_not, forall_eq]
 refine ⟨fun g => ?_, fun g => ?_⟩
 ·have hk : k < t.ops.length := by omega
  have hin : inb t.ops (k : Int) := ⟨by omega, g⟩
  have hop := tk.op hin
  rw [w64 (by omega)]
  refine ⟨hin, set_pre_word tk hop.1, set_pre_word tk hop.2.1, set_pre_word tk hop.2.2.1, ⟨?_, ?_⟩, ⟨k + 1, by omega, by omega, ?_⟩, by omega⟩
  ·simp only [List.length_append, List.length_map, List.length_take, List.length_singleton, maxLen]; omega
  ·simp only [List.length_append, List.length_map, List.length_take, List.length_singleton]; omega
  ·rw [takeN_gt hk, List.map_append]; rfl
 ·have hk : k = t.ops.length := by omega
  subst hk
  rw [List.take_length]
  have hW : wordsOf t = ⟨sp_word t.init, sp_word t.goal, t.ops.map maskOf⟩ := rfl
  have hml : (t.ops.map maskOf).length ≤ 40 := by rw [List.length_map]; exact hol
  refine ⟨hml, fun q => ?_, fun q => ⟨all_pre (W := wordsOf t) (set_word tk tk.init).u32, ?_⟩⟩
  ·rw [sp_optimal, if_pos h, if_neg (by rw [hW]; simpa using q)]
  ·have q' : (sp_all (wordsOf t)).2 = true := by rw [hW]; simpa using q
   obtain ⟨c1, c2⟩ := all_clo q'
   have hp : (sp_sortW (sp_all (wordsOf t)).1).Perm (sp_all (wordsOf t)).1 := List.mergeSort_perm _ _
   refine opt_search hW hml (words_cost tk) (c1.perm hp) (hp.mem_iff.2 c2) hp.length_eq.symm _ ?_
   rw [sp_optimal, if_pos h, if_pos q']; rfl
end Go.Proofs.YtimillpakjgnoaaGreat.Pl

namespace Go.Proofs.YtimillpakjgnoaaGreat.Pl
open Go Go.RowKit
structure Lin (t : Task) (s : List Int) (p : Int) (l : List Bool) (l2 : List Int) : Prop where
 len : l.length = t.ops.length
 mem : ∀ i : Nat, i < t.ops.length → (gt l (i : Int) = true ↔ (i : Int) ∈ l2)
 stub : ∀ i ∈ l2, inb t.ops i ∧ InStub t s p i
 nod : l2.Nodup
theorem Lin.few {t : Task} {s : List Int} {p : Int} {l : List Bool} {l2 : List Int} (h : Lin t s p l l2) : l2.length ≤ t.ops.length := by
 have := nodup_sub_len l2 (allS t.ops.length) h.nod fun x hx => mem_allS.2 (h.stub x hx).1
 rwa [allS_len] at this
theorem Lin.push {t : Task} {s : List Int} {p : Int} {l : List Bool} {l2 : List Int} (h : Lin t s p l l2) {i : Nat} (hi : i < t.ops.length) (hn : gt l (i : Int) = false) (hs : InStub t s p i) : Lin t s p (l.set i true) (l2 ++ [(i : Int)]) := by
 have hl := h.len
 refine ⟨by rw [List.length_set]; exact hl, fun j hj => ?_, fun x hx => ?_, ?_⟩
 ·have e := gt_setI (xs := l) (i := (i : Int)) (j := (j : Int)) (x := true) ⟨by omega, by omega⟩ (by omega)
  rw [show ((i : Int)).toNat = i from Int.toNat_natCast i] at e
  rw [e, List.mem_append, List.mem_singleton]
  by_cases hij : (j : Int) = i
  ·rw [if_pos hij]; exact ⟨fun _ => .inr hij, fun _ => rfl⟩
  ·rw [if_neg hij, h.mem j hj]; exact ⟨.inl, fun q => q.resolve_right hij⟩
 ·rcases List.mem_append.1 hx with q | q
  ·exact h.stub x q
  ·rw [List.mem_singleton.1 q]; exact ⟨⟨by omega, by omega⟩, hs⟩
 ·refine List.nodup_append.2 ⟨h.nod, by simp, fun a ha b hb hab => ?_⟩
  rw [List.mem_singleton.1 hb] at hab
  rw [hab] at ha
  rw [(h.mem i hi).2 ha] at hn
  cases hn
structure Inc (t : Task) (s : List Int) (p : Int) (C : Nat → Prop) (l0 : List Int) (k : Nat) (l : List Bool) (l2 : List Int) : Prop where
 lin : Lin t s p l l2
 pre : ∃ e, l2 = l0 ++ e
 all : ∀ i : Nat, i < k → C i → (i : Int) ∈ l2
section
variable {t : Task} {s : List Int} {p : Int} {C : Nat → Prop} {l0 l2 : List Int} {l : List Bool} {k : Nat}
theorem Inc.yes (h : Inc t s p C l0 k l l2) (hk : k < t.ops.length) (hn : gt l (k : Int) = false) (hs : InStub t s p k) : Inc t s p C l0 (k + 1) (l.set k true) (l2 ++ [(k : Int)]) := by
 obtain ⟨e, he⟩ := h.pre
 refine ⟨h.lin.push hk hn hs, ⟨e ++ [(k : Int)], by rw [he, List.append_assoc]⟩, fun i hi hc => ?_⟩
 by_cases hik : i < k
 ·exact List.mem_append_left _ (h.all i hik hc)
 ·have : i = k := by omega
  subst this
  simp
theorem Inc.no (h : Inc t s p C l0 k l l2) (hk : k < t.ops.length) (hn : gt l (k : Int) = true ∨ ¬ C k) : Inc t s p C l0 (k + 1) l l2 := by
 refine ⟨h.lin, h.pre, fun i hi hc => ?_⟩
 by_cases hik : i < k
 ·exact h.all i hik hc
 ·have : i = k := by omega
  subst this
  exact (h.lin.mem i hk).1 (hn.resolve_right fun q => q hc)
theorem task_ops {t : Task} (tk : TaskOK t) {i : Int} (hi : inb t.ops i) : OpS (gt t.ops i) := by
 obtain ⟨h1, h2, h3, _⟩ := tk.op hi
 obtain ⟨l1, l2, l3⟩ := tk.lens hi
 exact ⟨⟨set_sorted h1, by omega⟩, ⟨set_sorted h2, by omega⟩, ⟨set_sorted h3, by omega⟩⟩
def Done (t : Task) (s : List Int) (l2 : List Int) (o : Int) : Prop :=
 (0 ≤ sp_missingF s (gt t.ops o).pre → ∀ i : Nat, i < t.ops.length → sp_missingF s (gt t.ops o).pre ∈ (gt t.ops (i : Int)).add → (i : Int) ∈ l2) ∧
 (sp_missingF s (gt t.ops o).pre < 0 → ∀ i : Nat, i < t.ops.length → sp_indep (gt t.ops o) (gt t.ops (i : Int)) = false → (i : Int) ∈ l2)
theorem Done.mono {t : Task} {s l2 l3 : List Int} {o : Int} (h : Done t s l2 o) (hs : ∀ x ∈ l2, x ∈ l3) : Done t s l3 o := ⟨fun a i b c => hs _ (h.1 a i b c), fun a i b c => hs _ (h.2 a i b c)⟩
structure StI (t : Task) (s : List Int) (p : Int) (k : Nat) (l : List Bool) (l2 : List Int) : Prop where
 lin : Lin t s p l l2
 base : ∀ i : Nat, i < t.ops.length → p ∈ (gt t.ops (i : Int)).add → (i : Int) ∈ l2
 done : ∀ k' : Nat, k' < k → Done t s l2 (gt l2 (k' : Int))
 le : k ≤ l2.length
theorem StI.all (h : StI t s p l2.length l l2) {i : Int} (hi : InStub t s p i) : i ∈ l2 := by
 have nat : ∀ i : Int, inb t.ops i → ∃ j : Nat, i = j ∧ j < t.ops.length := fun i hi => ⟨i.toNat, (Int.toNat_of_nonneg hi.1).symm, by have := hi.1; have := hi.2; omega⟩
 induction hi with
 | goal i hi hp =>
  obtain ⟨j, rfl, hj⟩ := nat i hi
  exact h.base j hj hp
 | need k i _ hm hi ha ih =>
  obtain ⟨j, rfl, hj⟩ := nat i hi
  obtain ⟨k', h1, h2⟩ := mem_gt ih
  have := h.done k' h1
  rw [h2] at this
  exact this.1 hm j hj ha
 | other k i _ hm hi ha ih =>
  obtain ⟨j, rfl, hj⟩ := nat i hi
  obtain ⟨k', h1, h2⟩ := mem_gt ih
  have := h.done k' h1
  rw [h2] at this
  exact this.2 hm j hj ha
theorem StI.next {C : Nat → Prop} {l7 : List Bool} {l8 : List Int} (h : StI t s p k l7 l8) (hk : k < l8.length) (hi : Inc t s p C l8 t.ops.length l l2) (hd : (∀ i : Nat, i < t.ops.length → C i → (i : Int) ∈ l2) → Done t s l2 (gt l8 (k : Int))) : StI t s p (k + 1) l l2 := by
 obtain ⟨e, he⟩ := hi.pre
 have sub : ∀ x ∈ l8, x ∈ l2 := fun x hx => by rw [he]; exact List.mem_append_left _ hx
 have same : ∀ j : Nat, j < l8.length → gt l2 (j : Int) = gt l8 (j : Int) := fun j hj => by
  rw [he, gt_of ⟨by omega, by rw [List.length_append]; omega⟩, gt_of ⟨by omega, by omega⟩]
  simp [List.getElem_append_left hj]
 refine ⟨hi.lin, fun i hi2 hp => sub _ (h.base i hi2 hp), fun k' hk' => ?_, by rw [he, List.length_append]; omega⟩
 rw [same k' (by omega)]
 by_cases hkk : k' < k
 ·exact (h.done k' hkk).mono sub
 ·have : k' = k := by omega
  subst this
  exact hd hi.all
theorem stub_J5 {r4 : Int} (tl : t.ops.length ≤ 40) (h : Inc t s p C l0 k l l2) (hk : k < t.ops.length) (hC : C k → InStub t s p k) (b : Bool) (hb : b = true → gt l (k : Int) = false ∧ C k) (hb2 : b = false → gt l (k : Int) = true ∨ ¬ C k) (_ : r4 = r4) :
  F_stubborn_J5 b (k : Int) (fun i l l2 => ∃ k : Nat, i = k ∧ k ≤ t.ops.length ∧ Inc t s p C l0 k l l2) (fun i _ _ => ((t.ops.length : Int) - i).toNat) l l2 := by
 have e1 : IntKind.i64.wrap ((k : Int) + 1) = ((k + 1 : Nat) : Int) := by rw [w64 (by omega)]; omega
 have hl := h.lin.len
 have hf := h.lin.few
 unfold F_stubborn_J5 F_stubborn_J4
 rw [e1]
 refine ⟨fun q => ⟨⟨by omega, by omega⟩, fun d hd => ⟨?_, ⟨k + 1, rfl, by omega, ?_⟩, by dsimp only; omega⟩⟩, fun q => ⟨⟨k + 1, rfl, by omega, h.no hk (hb2 q)⟩, by dsimp only; omega⟩⟩
 ·rw [List.length_append, List.length_singleton]; exact ⟨by simp only [maxLen]; omega, by omega⟩
 ·rw [hd, Int.toNat_natCast]
  exact h.yes hk (hb q).1 (hC (hb q).2)
theorem stub_J7 (tl : t.ops.length ≤ 40) (h : Inc t s p C l0 k l l2) (hk : k < t.ops.length) (hC : C k → InStub t s p k) (b : Bool) (hb : b = true → gt l (k : Int) = false ∧ C k) (hb2 : b = false → gt l (k : Int) = true ∨ ¬ C k) :
  F_stubborn_J7 b (k : Int) (fun i l l2 => ∃ k : Nat, i = k ∧ k ≤ t.ops.length ∧ Inc t s p C l0 k l l2) (fun i _ _ => ((t.ops.length : Int) - i).toNat) l l2 := by
 have e1 : IntKind.i64.wrap ((k : Int) + 1) = ((k + 1 : Nat) : Int) := by rw [w64 (by omega)]; omega
 have hl := h.lin.len
 have hf := h.lin.few
 unfold F_stubborn_J7 F_stubborn_J6
 rw [e1]
 refine ⟨fun q => ⟨⟨by omega, by omega⟩, fun d hd => ⟨?_, ⟨k + 1, rfl, by omega, ?_⟩, by dsimp only; omega⟩⟩, fun q => ⟨⟨k + 1, rfl, by omega, h.no hk (hb2 q)⟩, by dsimp only; omega⟩⟩
 ·rw [List.length_append, List.length_singleton]; exact ⟨by simp only [maxLen]; omega, by omega⟩
 ·rw [hd, Int.toNat_natCast]
  exact h.yes hk (hb q).1 (hC (hb q).2)
theorem stub_J2 (tl : t.ops.length ≤ 40) (h : Inc t s p C l0 k l l2) (hk : k < t.ops.length) (hC : C k → InStub t s p k) (b : Bool) (hb : b = true → gt l (k : Int) = false ∧ C k) (hb2 : b = false → gt l (k : Int) = true ∨ ¬ C k) :
  F_stubborn_J2 b l l2 (k : Int) (fun i l l2 => ∃ k : Nat, i = k ∧ k ≤ t.ops.length ∧ Inc t s p C l0 k l l2) (fun i _ _ => ((t.ops.length : Int) - i).toNat) := by
 have e1 : IntKind.i64.wrap ((k : Int) + 1) = ((k + 1 : Nat) : Int) := by rw [w64 (by omega)]; omega
 have hl := h.lin.len
 have hf := h.lin.few
 unfold F_stubborn_J2 F_stubborn_J1
 rw [e1]
 refine ⟨fun q => ⟨⟨by omega, by omega⟩, fun d hd => ⟨?_, ⟨k + 1, rfl, by omega, ?_⟩, by dsimp only; omega⟩⟩, fun q => ⟨⟨k + 1, rfl, by omega, h.no hk (hb2 q)⟩, by dsimp only; omega⟩⟩
 ·rw [List.length_append, List.length_singleton]; exact ⟨by simp only [maxLen]; omega, by omega⟩
 ·rw [hd, Int.toNat_natCast]
  exact h.yes hk (hb q).1 (hC (hb q).2)
end
theorem stub_L5 {t : Task} {s : List Int} (hv : sp_validate t = ⟨0, 0⟩) (hs : sp_isSet s t.facts = true) {p : Int} {l : List Bool} {l2 : List Int} (h : StI t s p l2.length l l2) (K : List Int → Prop) (hK : K ((allS t.ops.length).filter fun i => @decide (InStub t s p i) (Classical.propDecidable _) && sp_applies t s i)) :
  ∃ (I5 : Int → (List Int) → Prop) (μ5 : Int → (List Int) → Nat), I5 0 ([] : List Int) ∧ ∀ (t63 : Int) (out : List Int), I5 t63 out → F_stubborn_L5 t s K l out t63 I5 μ5 := by
 have tk := taskOK_of hv
 have tl := tk.len
 refine ⟨fun i out => ∃ k : Nat, i = k ∧ k ≤ t.ops.length ∧ out = (allS k).filter (fun i => @decide (InStub t s p i) (Classical.propDecidable _) && sp_applies t s i), fun i _ => ((t.ops.length : Int) - i).toNat, ⟨0, rfl, Nat.zero_le _, rfl⟩, ?_⟩
 rintro _ out ⟨k, rfl, k1, k2⟩
 have hlen : out.length ≤ k := by
  rw [k2]
  exact Nat.le_trans (List.length_filter_le _ _) (by rw [allS_len]; exact Nat.le_refl _)
 unfold F_stubborn_L5 F_stubborn_J9 F_stubborn_J8
 simp only [decide_eq_true_eq, decide_eq_false_iff_not, forall_eq, Int.toNat_natCast]
 refine ⟨fun g => ?_, fun g => ?_⟩
 ·have hk : k < t.ops.length := by omega
  have e1 : IntKind.i64.wrap ((k : Int) + 1) = ((k + 1 : Nat) : Int) := by rw [w64 (by omega)]; omega
  have hin : inb t.ops (k : Int) := ⟨by omega, by omega⟩
  have hl := h.lin.len
  have iff : gt l (k : Int) = true ↔ InStub t s p k := ⟨fun q => (h.lin.stub _ ((h.lin.mem k hk).1 q)).2, fun q => (h.lin.mem k hk).2 (h.all q)⟩
  rw [e1]
  have yes : InStub t s p k → sp_applies t s k = true → out ++ [(k : Int)] = (allS (k + 1)).filter (fun i => @decide (InStub t s p i) (Classical.propDecidable _) && sp_applies t s i) := fun a b => by
   rw [allS_succ, List.filter_append, ← k2, filter1_pos]
   simp [a, b]
  have no : (InStub t s p k → sp_applies t s k = false) → out = (allS (k + 1)).filter (fun i => @decide (InStub t s p i) (Classical.propDecidable _) && sp_applies t s i) := fun a => by
   rw [allS_succ, List.filter_append, ← k2, filter1_neg, List.append_nil]
   by_cases hi : InStub t s p k
   ·simp [a hi]
   ·simp [hi]
  refine ⟨⟨by omega, by omega⟩, fun q => ⟨⟨hv, hin, hs⟩, ⟨fun q2 => ⟨?_, ⟨k + 1, rfl, by omega, yes (iff.1 q) q2⟩, by omega⟩, fun q2 => ⟨⟨k + 1, rfl, by omega, no fun _ => q2⟩, by omega⟩⟩⟩, fun q => ⟨fun e => (by cases e), fun _ => ⟨⟨k + 1, rfl, by omega, no fun a => ?_⟩, by omega⟩⟩⟩
  ·rw [List.length_append, List.length_singleton]; exact ⟨by simp only [maxLen]; omega, by omega⟩
  ·rw [iff.2 a] at q; cases q
 ·have hk : k = t.ops.length := by omega
  subst hk
  rw [k2]
  exact hK
theorem stub_L2 {t : Task} {s : List Int} (hv : sp_validate t = ⟨0, 0⟩) (hs : sp_isSet s t.facts = true) {p : Int} (K : List Int → Prop) (hK : K ((allS t.ops.length).filter fun i => @decide (InStub t s p i) (Classical.propDecidable _) && sp_applies t s i)) {l : List Bool} {l2 : List Int} (h0 : StI t s p 0 l l2) :
  ∃ (I2 : Int → (List Bool) → (List Int) → Prop) (μ2 : Int → (List Bool) → (List Int) → Nat), I2 0 l l2 ∧ ∀ (k : Int) (l7 : List Bool) (l8 : List Int), I2 k l7 l8 → F_stubborn_L2 t s K l7 l8 k I2 μ2 := by
 have tk := taskOK_of hv
 have tl := tk.len
 have sl := set_len tk.facts.1 hs
 have fl := tk.facts.2
 refine ⟨fun i l l2 => ∃ k : Nat, i = k ∧ StI t s p k l l2, fun i _ _ => ((t.ops.length : Int) - i).toNat, ⟨0, rfl, h0⟩, ?_⟩
 rintro _ l7 l8 ⟨k, rfl, h⟩
 have hf := h.lin.few
 unfold F_stubborn_L2
 simp only [decide_eq_true_eq, decide_eq_false_iff_not, forall_eq]
 refine ⟨fun g => ?_, fun g => ?_⟩
 ·have hk : k < l8.length := by omega
  have hb : inb l8 (k : Int) := ⟨by omega, g⟩
  obtain ⟨ho, hst⟩ := h.lin.stub _ (gt_mem hb)
  obtain ⟨p1, p2, p3⟩ := tk.lens ho
  have e1 : IntKind.i64.wrap ((k : Int) + 1) = ((k + 1 : Nat) : Int) := by rw [w64 (by omega)]; omega
  refine ⟨hb, ho, ⟨⟨set_sorted hs, by omega⟩, by omega⟩, fun q => ?_, fun q => ?_⟩
  ·let C : Nat → Prop := fun i => sp_missingF s (gt t.ops (gt l8 (k : Int))).pre ∈ (gt t.ops (i : Int)).add
   refine ⟨fun i l l2 => ∃ k : Nat, i = k ∧ k ≤ t.ops.length ∧ Inc t s p C l8 k l l2, fun i _ _ => ((t.ops.length : Int) - i).toNat, ⟨0, rfl, Nat.zero_le _, h.lin, ⟨[], (List.append_nil _).symm⟩, fun i hi => by omega⟩, ?_⟩
   rintro _ l13 l14 ⟨j, rfl, j1, hi⟩
   have hl := hi.lin.len
   unfold F_stubborn_L3 F_stubborn_J3
   simp only [decide_eq_true_eq, decide_eq_false_iff_not, forall_eq]
   refine ⟨fun g2 => ?_, fun g2 => ?_⟩
   ·have hj : j < t.ops.length := by omega
    have hin : inb t.ops (j : Int) := ⟨by omega, g2⟩
    have hC : C j → InStub t s p j := fun c => .need _ _ hst q hin c
    obtain ⟨_, a2, _⟩ := tk.lens hin
    refine ⟨⟨by omega, by omega⟩, fun q2 => ⟨hin, ?_, ?_⟩, fun q2 => ?_⟩
    ·show (gt t.ops (j : Int)).add.length ≤ 1000
     omega
    ·have q2 : gt l13 (j : Int) = false := by simpa using q2
     exact stub_J5 (r4 := 0) tl hi hj hC _ (fun e => ⟨q2, of_decide_eq_true e⟩) (fun e => .inr (of_decide_eq_false e)) rfl
    ·have q2 : gt l13 (j : Int) = true := by simpa using q2
     exact stub_J5 (r4 := 0) tl hi hj hC _ (fun e => (by cases e)) (fun _ => .inl q2) rfl
   ·have hj : j = t.ops.length := by omega
    subst hj
    rw [e1]
    refine ⟨⟨k + 1, rfl, h.next hk hi fun hall => ⟨fun _ => hall, fun q3 => by omega⟩⟩, by omega⟩
  ·let C : Nat → Prop := fun i => sp_indep (gt t.ops (gt l8 (k : Int))) (gt t.ops (i : Int)) = false
   refine ⟨fun i l l2 => ∃ k : Nat, i = k ∧ k ≤ t.ops.length ∧ Inc t s p C l8 k l l2, fun i _ _ => ((t.ops.length : Int) - i).toNat, ⟨0, rfl, Nat.zero_le _, h.lin, ⟨[], (List.append_nil _).symm⟩, fun i hi => by omega⟩, ?_⟩
   rintro _ l13 l14 ⟨j, rfl, j1, hi⟩
   have hl := hi.lin.len
   unfold F_stubborn_L4 F_stubborn_J3
   simp only [decide_eq_true_eq, decide_eq_false_iff_not, forall_eq]
   refine ⟨fun g2 => ?_, fun g2 => ?_⟩
   ·have hj : j < t.ops.length := by omega
    have hin : inb t.ops (j : Int) := ⟨by omega, g2⟩
    have hC : C j → InStub t s p j := fun c => .other _ _ hst (by omega) hin c
    refine ⟨⟨by omega, by omega⟩, fun q2 => ⟨hin, ⟨task_ops tk ho, task_ops tk hin⟩, ?_⟩, fun q2 => ?_⟩
    ·have q2 : gt l13 (j : Int) = false := by simpa using q2
     exact stub_J7 tl hi hj hC _ (fun e => ⟨q2, by simpa using e⟩) (fun e => .inr (by show ¬ sp_indep _ _ = false; simpa using e))
    ·have q2 : gt l13 (j : Int) = true := by simpa using q2
     exact stub_J7 tl hi hj hC _ (fun e => (by cases e)) (fun _ => .inl q2)
   ·have hj : j = t.ops.length := by omega
    subst hj
    rw [e1]
    refine ⟨⟨k + 1, rfl, h.next hk hi fun hall => ⟨fun q3 => by omega, fun _ => hall⟩⟩, by omega⟩
 ·have hk : k = l8.length := by have := h.le; omega
  subst hk
  exact stub_L5 hv hs h K hK
theorem ok_stubborn : ∀ (t : Task) (s_ : List Int), pre_stubborn t s_ → F_stubborn t s_ (fun r => r = sp_stubborn t s_) := fun t s ⟨hv, hs⟩ => by
 have tk := taskOK_of hv
 have tl := tk.len
 have sl := set_len tk.facts.1 hs
 have gl := set_len tk.facts.1 tk.goal
 have fl := tk.facts.2
 unfold F_stubborn
 simp only [decide_eq_true_eq, decide_eq_false_iff_not, forall_eq, Int.toNat_natCast]
 refine ⟨⟨⟨set_sorted hs, by omega⟩, by omega⟩, fun q => by rw [sp_stubborn, if_pos q], fun q => ⟨⟨by omega, by omega, by simp only [maxLen]; omega⟩, ?_⟩⟩
 let p := sp_missingF s t.goal
 let C : Nat → Prop := fun i => p ∈ (gt t.ops (i : Int)).add
 have h0 : Lin t s p (List.replicate t.ops.length false) [] := ⟨List.length_replicate, fun i hi => ⟨fun e => by
  rw [gt_of ⟨by omega, by rw [List.length_replicate]; omega⟩] at e
  simp at e, fun e => (by cases e)⟩, fun i hi => (by cases hi), List.nodup_nil⟩
 refine ⟨fun i l l2 => ∃ k : Nat, i = k ∧ k ≤ t.ops.length ∧ Inc t s p C [] k l l2, fun i _ _ => ((t.ops.length : Int) - i).toNat, ⟨0, rfl, Nat.zero_le _, h0, ⟨[], rfl⟩, fun i hi => by omega⟩, ?_⟩
 rintro _ l l2 ⟨j, rfl, j1, hi⟩
 have hl := hi.lin.len
 unfold F_stubborn_L1
 simp only [decide_eq_true_eq, decide_eq_false_iff_not, forall_eq]
 refine ⟨fun g2 => ?_, fun g2 => ?_⟩
 ·have hj : j < t.ops.length := by omega
  have hin : inb t.ops (j : Int) := ⟨by omega, g2⟩
  have hC : C j → InStub t s p j := fun c => .goal _ hin c
  obtain ⟨_, a2, _⟩ := tk.lens hin
  refine ⟨⟨by omega, by omega⟩, fun q2 => ⟨hin, ?_, ?_⟩, fun q2 => ?_⟩
  ·show (gt t.ops (j : Int)).add.length ≤ 1000
   omega
  ·have q2 : gt l (j : Int) = false := by simpa using q2
   exact stub_J2 tl hi hj hC _ (fun e => ⟨q2, of_decide_eq_true e⟩) (fun e => .inr (of_decide_eq_false e))
  ·have q2 : gt l (j : Int) = true := by simpa using q2
   exact stub_J2 tl hi hj hC _ (fun e => (by cases e)) (fun _ => .inl q2)
 ·have hj : j = t.ops.length := by omega
  subst hj
  refine stub_L2 hv hs _ ?_ ⟨hi.lin, fun i h1 h2 => hi.all i h1 h2, fun k' hk' => by omega, Nat.zero_le _⟩
  rw [sp_stubborn, if_neg q]
end Go.Proofs.YtimillpakjgnoaaGreat.Pl

namespace Go.Proofs.YtimillpakjgnoaaGreat.Pl
open Go Go.RowKit
theorem or64 (a b : Nat) (ha : a < 4294967296) (hb : b < 4294967296) : bits .or .i64 (a : Int) (b : Int) = ((a ||| b : Nat) : Int) := by
 have hx : a ||| b < 2 ^ 32 := Nat.or_lt_two_pow (by omega) (by omega)
 have h1 : (BitVec.ofInt 64 (a : Int)).toNat = a := by
  rw [BitVec.ofInt_natCast, BitVec.toNat_ofNat]; exact Nat.mod_eq_of_lt (by omega)
 have h2 : (BitVec.ofInt 64 (b : Int)).toNat = b := by
  rw [BitVec.ofInt_natCast, BitVec.toNat_ofNat]; exact Nat.mod_eq_of_lt (by omega)
 show IntKind.i64.wrap ((BitVec.ofInt 64 (a : Int) ||| BitVec.ofInt 64 (b : Int)).toNat : Int) = _
 rw [BitVec.toNat_or, h1, h2, w64 (by omega)]
theorem bitC_eq {p : Nat} (hp : p < 32) : bitC (p : Int) = ((2 ^ p : Nat) : Int) := by
 have e1 : min ((p : Int)).toNat (IntKind.bits .i64) = p := by
  rw [Int.toNat_natCast]; show min p 64 = p; omega
 have e2 : 2 ^ p < 2 ^ 32 := Nat.pow_lt_pow_right (by omega) hp
 unfold bitC
 rw [e1, Int.one_mul, show (2 : Int) ^ p = ((2 ^ p : Nat) : Int) by simp]
 generalize 2 ^ p = N at e2 ⊢
 exact w64 (by omega)
theorem wordC_word (s : List Int) (hs : ∀ p ∈ s, 0 ≤ p ∧ p < 32) : sp_wordC s = sp_word s := by
 have key : ∀ (s : List Int) (n : Nat), n < 4294967296 → (∀ p ∈ s, 0 ≤ p ∧ p < 32) → s.foldl (fun w p => bits .or .i64 w (bitC p)) (n : Int) = s.foldl (fun w p => bits .or .u32 w (bitW p)) (n : Int) := by
  intro s
  induction s with
  | nil => intro n _ _; rfl
  | cons x r ih =>
   intro n hn hs
   obtain ⟨x0, x1⟩ := hs x List.mem_cons_self
   obtain ⟨k, rfl⟩ : ∃ k : Nat, x = k := ⟨x.toNat, by omega⟩
   obtain ⟨b1, b2⟩ := bitW_eq (p := k) (by omega)
   obtain ⟨o1, o2⟩ := or32 n (2 ^ k) hn b2
   rw [List.foldl_cons, List.foldl_cons, bitC_eq (by omega), b1, or64 n (2 ^ k) hn b2, o1]
   exact ih _ o2 fun p hp => hs p (List.mem_cons_of_mem _ hp)
 exact key s 0 (by omega) hs
theorem wordC_inj {n : Int} (hn : n ≤ 24) {a b : List Int} (ha : sp_isSet a n = true) (hb : sp_isSet b n = true) (h : sp_wordC a = sp_wordC b) : a = b := by
 have ra : ∀ p ∈ a, 0 ≤ p ∧ p < 32 := fun p hp => by have := set_rng ha p hp; omega
 have rb : ∀ p ∈ b, 0 ≤ p ∧ p < 32 := fun p hp => by have := set_rng hb p hp; omega
 rw [wordC_word a ra, wordC_word b rb] at h
 have wa := Wd.word a ra
 have wb := Wd.word b rb
 rw [h] at wa
 have key := wa.inj wb
 refine sorted_ext a b (set_sorted ha) (set_sorted hb) fun x => ⟨fun hx => ?_, fun hx => ?_⟩
 ·have := ra x hx
  have e : x = (x.toNat : Int) := by omega
  rw [e] at hx ⊢; exact (key _ (by omega)).1 hx
 ·have := rb x hx
  have e : x = (x.toNat : Int) := by omega
  rw [e] at hx ⊢; exact (key _ (by omega)).2 hx
theorem wordC_pre {n : Int} (hn : 0 ≤ n ∧ n ≤ 24) {s : List Int} (hs : sp_isSet s n = true) : pre_wordC s := by
 have := set_len hn.1 hs
 exact ⟨by omega, fun p hp => (set_rng hs p hp).1⟩
theorem reach_set {t : Task} (tk : TaskOK t) {s : List Int} (h : ReachS t s) : sp_isSet s t.facts = true := by
 cases h with
 | start => exact tk.init
 | step s i _ _ _ => exact after_set tk.facts.1 s i
structure RI (t : Task) (l : List (List Int)) (m : List (Int × Int)) : Prop where
 nod : l.Nodup
 reach : ∀ s ∈ l, ReachS t s
 init : t.init ∈ l
 map : ∀ s, sp_isSet s t.facts = true → ((getA m (sp_wordC s)).isSome = true ↔ s ∈ l)
 len : l.length ≤ 2000
theorem reach_all {t : Task} {l : List (List Int)} (h0 : t.init ∈ l) (hc : ∀ s ∈ l, ∀ i, inb t.ops i → sp_applies t s i = true → sp_after t s i ∈ l) {s : List Int} (h : ReachS t s) : s ∈ l := by
 induction h with
 | start => exact h0
 | step s i _ hi ha ih => exact hc s ih i hi ha
theorem reachable_eq {t : Task} {l : List (List Int)} (h1 : l.Nodup) (h2 : ∀ s, s ∈ l ↔ ReachS t s) (h3 : l.length ≤ 2000) : sp_reachable t = l.length := by
 unfold sp_reachable
 have hex : ∃ l : List (List Int), l.Nodup ∧ (∀ s, s ∈ l ↔ ReachS t s) ∧ l.length ≤ 2000 := ⟨l, h1, h2, h3⟩
 rw [dif_pos hex]
 obtain ⟨a1, a2, a3⟩ := Classical.choose_spec hex
 have e1 := nodup_sub_len _ _ a1 fun x hx => (h2 x).2 ((a2 x).1 hx)
 have e2 := nodup_sub_len _ _ h1 fun x hx => (a2 x).2 ((h2 x).1 hx)
 omega
theorem reachable_many {t : Task} {l : List (List Int)} (h1 : l.Nodup) (h2 : ∀ s ∈ l, ReachS t s) (h3 : 2000 < l.length) : sp_reachable t = -1 := by
 unfold sp_reachable
 rw [dif_neg]
 rintro ⟨l', _, a2, a3⟩
 have := nodup_sub_len _ _ h1 fun x hx => (a2 x).2 (h2 x hx)
 omega
theorem RI.push {t : Task} (tk : TaskOK t) {l : List (List Int)} {m : List (Int × Int)} (h : RI t l m) {s : List Int} (hs : ReachS t s) (hn : s ∉ l) (hl : l.length ≠ 2000) (v : Int) : RI t (l ++ [s]) (setA m (sp_wordC s) v) := by
 have hset := reach_set tk hs
 refine ⟨List.nodup_append.2 ⟨h.nod, by simp, fun a ha b hb hab => ?_⟩, fun x hx => ?_, List.mem_append_left _ h.init, fun x hx => ?_, by rw [List.length_append, List.length_singleton]; have := h.len; omega⟩
 ·rw [List.mem_singleton.1 hb] at hab
  rw [hab] at ha
  exact hn ha
 ·rcases List.mem_append.1 hx with q | q
  ·exact h.reach x q
  ·rw [List.mem_singleton.1 q]; exact hs
 ·rw [getA_setA, List.mem_append, List.mem_singleton]
  by_cases e : sp_wordC s = sp_wordC x
  ·rw [if_pos e]
   exact ⟨fun _ => .inr (wordC_inj tk.facts.2 hx hset e.symm), fun _ => rfl⟩
  ·rw [if_neg e, h.map x hx]
   exact ⟨.inl, fun q => q.resolve_right fun e2 => e (by rw [e2])⟩
theorem gt_snoc {α : Type} [Inhabited α] {l : List α} {k : Nat} (h : k < l.length) (x : α) : gt (l ++ [x]) (k : Int) = gt l (k : Int) := by
 rw [gt_of ⟨by omega, by rw [List.length_append]; omega⟩, gt_of ⟨by omega, by omega⟩]
 simp [List.getElem_append_left h]
theorem gt_app {α : Type} [Inhabited α] {l : List α} {k : Nat} (h : k < l.length) (r : List α) : gt (l ++ r) (k : Int) = gt l (k : Int) := by
 rw [gt_of ⟨by omega, by rw [List.length_append]; omega⟩, gt_of ⟨by omega, by omega⟩]
 simp [List.getElem_append_left h]
theorem ok_reachable : ∀ (t : Task), pre_reachable t → F_reachable t (fun r => r = sp_reachable t) := fun t hv => by
 have hv : sp_validate t = ⟨0, 0⟩ := hv
 have tk := taskOK_of hv
 have tl := tk.len
 have hf := tk.facts
 unfold F_reachable
 simp only [forall_eq]
 refine ⟨wordC_pre hf tk.init, fun k m l => ∃ n : Nat, k = n ∧ n ≤ l.length ∧ RI t l m ∧ ∀ j : Nat, j < n → ∀ i, inb t.ops i → sp_applies t (gt l (j : Int)) i = true → sp_after t (gt l (j : Int)) i ∈ l, fun k _ _ => ((2000 : Int) - k).toNat, ⟨0, rfl, Nat.zero_le _, ⟨by simp, fun s hs => by rw [List.mem_singleton.1 hs]; exact .start, by simp, fun s hs => ?_, by simp⟩, fun j hj => by omega⟩, ?_⟩
 ·rw [getA_setA, List.mem_singleton]
  by_cases e : sp_wordC t.init = sp_wordC s
  ·rw [if_pos e]
   exact ⟨fun _ => wordC_inj hf.2 hs tk.init e.symm, fun _ => rfl⟩
  ·rw [if_neg e]
   exact ⟨fun q => (by cases q), fun q => absurd (by rw [q]) e⟩
 rintro _ m2 l ⟨n, rfl, n1, h, hc⟩
 have hlen := h.len
 unfold F_reachable_L1
 simp only [decide_eq_true_eq, decide_eq_false_iff_not]
 refine ⟨fun g => ?_, fun g => ?_⟩
 ·have hn : n < l.length := by omega
  have hb : inb l (n : Int) := ⟨by omega, g⟩
  have hrs := h.reach _ (gt_mem hb)
  have hss := reach_set tk hrs
  refine ⟨hb, fun v m4 l4 => ∃ j : Nat, v = j ∧ j ≤ t.ops.length ∧ RI t l4 m4 ∧ (∃ e, l4 = l ++ e) ∧ ∀ i : Nat, i < j → sp_applies t (gt l (n : Int)) (i : Int) = true → sp_after t (gt l (n : Int)) (i : Int) ∈ l4, fun v _ _ => ((t.ops.length : Int) - v).toNat, ⟨0, rfl, Nat.zero_le _, h, ⟨[], (List.append_nil _).symm⟩, fun i hi => by omega⟩, ?_⟩
  rintro _ m4 l4 ⟨j, rfl, j1, h4, ⟨e, he⟩, hd⟩
  have hlen4 := h4.len
  unfold F_reachable_L2 F_reachable_J1
  simp only [decide_eq_true_eq, decide_eq_false_iff_not, forall_eq]
  refine ⟨fun g2 => ?_, fun g2 => ?_⟩
  ·have hj : j < t.ops.length := by omega
   have hin : inb t.ops (j : Int) := ⟨by omega, g2⟩
   have e1 : IntKind.i64.wrap ((j : Int) + 1) = ((j + 1 : Nat) : Int) := by rw [w64 (by omega)]; omega
   rw [e1]
   have step : (sp_applies t (gt l (n : Int)) (j : Int) = true → sp_after t (gt l (n : Int)) (j : Int) ∈ l4) → ∃ j_1 : Nat, ((j + 1 : Nat) : Int) = j_1 ∧ j_1 ≤ t.ops.length ∧ RI t l4 m4 ∧ (∃ e, l4 = l ++ e) ∧ ∀ i : Nat, i < j_1 → sp_applies t (gt l (n : Int)) (i : Int) = true → sp_after t (gt l (n : Int)) (i : Int) ∈ l4 := fun hj2 => ⟨j + 1, rfl, by omega, h4, ⟨e, he⟩, fun i hi ha => by
    by_cases hij : i < j
    ·exact hd i hij ha
    ·have : i = j := by omega
     subst this
     exact hj2 ha⟩
   refine ⟨⟨hv, hin, hss⟩, fun q => ⟨⟨hv, hin, hss⟩, ?_, fun q2 => ⟨fun q3 => ?_, fun q3 => ⟨?_, ?_, ?_⟩⟩, fun q2 => ⟨step fun _ => ?_, by omega⟩⟩, fun q => ⟨step fun a => (by rw [a] at q; cases q), by omega⟩⟩
   ·exact wordC_pre hf (after_set hf.1 _ _)
   ·have hra : ReachS t (sp_after t (gt l (n : Int)) (j : Int)) := .step _ _ hrs hin q
    have hnl : sp_after t (gt l (n : Int)) (j : Int) ∉ l4 := fun hx => by
     rw [(h4.map _ (after_set hf.1 _ _)).2 hx] at q2; cases q2
    have q3 : (l4.length : Int) = 2000 := by simpa using q3
    exact (reachable_many (l := l4 ++ [sp_after t (gt l (n : Int)) (j : Int)]) (List.nodup_append.2 ⟨h4.nod, by simp, fun a ha b hb hab => by
     rw [List.mem_singleton.1 hb] at hab
     rw [hab] at ha
     exact hnl ha⟩) (fun s hs => by
     rcases List.mem_append.1 hs with q | q
     ·exact h4.reach s q
     ·rw [List.mem_singleton.1 q]; exact hra) (by rw [List.length_append, List.length_singleton]; omega)).symm
   ·rw [List.length_append, List.length_singleton]; exact ⟨by simp only [maxLen]; omega, by omega⟩
   ·have hra : ReachS t (sp_after t (gt l (n : Int)) (j : Int)) := .step _ _ hrs hin q
    have hnl : sp_after t (gt l (n : Int)) (j : Int) ∉ l4 := fun hx => by
     rw [(h4.map _ (after_set hf.1 _ _)).2 hx] at q2; cases q2
    have q3 : ¬ (l4.length : Int) = 2000 := by simpa using q3
    refine ⟨j + 1, rfl, by omega, h4.push tk hra hnl (by omega) _, ⟨e ++ [sp_after t (gt l (n : Int)) (j : Int)], by rw [he, List.append_assoc]⟩, fun i hi ha => ?_⟩
    by_cases hij : i < j
    ·exact List.mem_append_left _ (hd i hij ha)
    ·have : i = j := by omega
     subst this
     simp
   ·omega
   ·refine (h4.map _ (after_set hf.1 _ _)).1 ?_
    simpa using q2
  ·have hj : j = t.ops.length := by omega
   subst hj
   have e1 : IntKind.i64.wrap ((n : Int) + 1) = ((n + 1 : Nat) : Int) := by rw [w64 (by omega)]; omega
   rw [e1]
   refine ⟨⟨n + 1, rfl, by rw [he, List.length_append]; omega, h4, fun j' hj' i hi ha => ?_⟩, by omega⟩
   rw [he, gt_app (by omega)] at ha ⊢
   by_cases hjn : j' < n
   ·exact List.mem_append_left _ (hc j' hjn i hi ha)
   ·have : j' = n := by omega
    subst this
    obtain ⟨i', rfl⟩ : ∃ i' : Nat, i = i' := ⟨i.toNat, (Int.toNat_of_nonneg hi.1).symm⟩
    rw [← he]
    exact hd i' (by have := hi.2; omega) ha
 ·have hn : n = l.length := by omega
  subst hn
  refine (reachable_eq h.nod (fun s => ⟨h.reach s, fun hs => reach_all h.init (fun s hs i hi ha => ?_) hs⟩) h.len).symm
  obtain ⟨j, j1, rfl⟩ := mem_gt hs
  exact hc j j1 i hi ha
end Go.Proofs.YtimillpakjgnoaaGreat.Pl

namespace Go.Proofs.YtimillpakjgnoaaGreat.Pl
open Go Go.RowKit
theorem validate_of {t : Task} (tk : TaskOK t) : sp_validate t = ⟨0, 0⟩ := by
 have h1 := tk.facts
 have h2 := tk.len
 unfold sp_validate
 rw [if_neg (by omega), if_neg (by rw [tk.init]; decide), if_neg (by rw [tk.goal]; decide), if_neg (by omega)]
 exact ffirst_none fun j hj => opFault_zero (tk.ops j hj)
inductive PC (t : Task) : Nat → List Int → Int → Prop
 | here (s : List Int) : sp_subset t.goal s = true → PC t 0 s 0
 | step (n : Nat) (s : List Int) (i c : Int) : inb t.ops i → sp_applies t s i = true → PC t n (sp_after t s i) c → PC t (n + 1) s ((gt t.ops i).cost + c)
def PCost (t : Task) (s : List Int) (c : Int) : Prop := ∃ n, PC t n s c
section
variable {t : Task} (tk : TaskOK t)
include tk
theorem op_cost {i : Int} (hi : inb t.ops i) : 0 ≤ (gt t.ops i).cost ∧ (gt t.ops i).cost ≤ 100 := by
 have h := words_cost tk i ⟨hi.1, by show i < ((t.ops.map maskOf).length : Int); rw [List.length_map]; exact hi.2⟩
 rw [gt_words hi] at h
 exact h
theorem PC.nonneg {n : Nat} {s : List Int} {c : Int} (h : PC t n s c) : 0 ≤ c := by
 induction h with
 | here => exact Int.le_refl _
 | step n s i c hi _ _ ih => have := op_cost tk hi; omega
theorem word_sub {s g : List Int} (hs : sp_isSet s t.facts = true) (hg : sp_isSet g t.facts = true) : (bits .and .u32 (sp_word s) (sp_word g) == sp_word g) = true ↔ sp_subset g s = true := by
 have hf := tk.facts
 rw [Wd.sub (Pl.set_word tk hs) (Pl.set_word tk hg), subset_iff]
 constructor
 ·intro h x hx
  obtain ⟨x0, x1⟩ := set_rng hg x hx
  have := h x.toNat (by omega)
  rw [show ((x.toNat : Nat) : Int) = x by omega] at this
  exact this hx
 ·intro h i _ hi
  exact h _ hi
theorem word_after {s : List Int} (hs : sp_isSet s t.facts = true) {o : Int} (ho : inb t.ops o) : bits .or .u32 (bits .andNot .u32 (sp_word s) (sp_word (gt t.ops o).del)) (sp_word (gt t.ops o).add) = sp_word (sp_after t s o) := by
 have hf := tk.facts
 have hop := tk.op ho
 refine Wd.unique (((Pl.set_word tk hs).andNot (Pl.set_word tk hop.2.2.1)).or (Pl.set_word tk hop.2.1)) ((Pl.set_word tk (after_set hf.1 s o)).iff fun i _ => ?_)
 rw [mem_after hf.1]
 constructor
 ·rintro ⟨_, h | h⟩
  ·exact .inr h
  ·exact .inl h
 ·rintro (h | h)
  ·exact ⟨set_rng hs _ h.1, .inr h⟩
  ·exact ⟨set_rng hop.2.1 _ h, .inl h⟩
theorem words_of {n : Nat} {s : List Int} {c : Int} (h : PC t n s c) (hs : sp_isSet s t.facts = true) : WCost (wordsOf t) (sp_word s) c := by
 induction h with
 | here s h => exact .here _ ((word_sub tk hs tk.goal).2 h)
 | step n s i c hi ha _ ih =>
  have hst : (i, sp_word (sp_after t s i)) ∈ wsucc (wordsOf t) (sp_word s) := mem_wsucc.2 ⟨⟨hi.1, by show i < ((t.ops.map maskOf).length : Int); rw [List.length_map]; exact hi.2⟩, by
   rw [gt_words hi]; exact (word_sub tk hs (tk.op hi).1).2 ha, by
   rw [gt_words hi]; exact (word_after tk hs hi).symm⟩
  have := WCost.step _ _ c hst (ih (after_set tk.facts.1 s i))
  rw [gt_words hi] at this
  exact this
theorem of_words {w c : Int} (h : WCost (wordsOf t) w c) : ∀ s, sp_isSet s t.facts = true → w = sp_word s → PCost t s c := by
 induction h with
 | here w h => exact fun s hs e => ⟨0, .here s ((word_sub tk hs tk.goal).1 (by subst e; exact h))⟩
 | step w x c hx _ ih =>
  intro s hs e
  subst e
  obtain ⟨h1, h2, h3⟩ := mem_wsucc.1 hx
  have ho : inb t.ops x.1 := ⟨h1.1, by have := h1.2; rw [show (wordsOf t).ops = t.ops.map maskOf from rfl, List.length_map] at this; exact this⟩
  rw [gt_words ho] at h2 h3
  obtain ⟨n, hn⟩ := ih (sp_after t s x.1) (after_set tk.facts.1 s x.1) (h3.trans (word_after tk hs ho))
  rw [gt_words ho]
  exact ⟨n + 1, .step n s x.1 c ho ((word_sub tk hs (tk.op ho).1).1 h2) hn⟩
end
theorem optimal_spec {t : Task} (h : (sp_optimal t).2.code = 0) : sp_validate t = ⟨0, 0⟩ ∧ (((sp_optimal t).1 = 1000000000 ∧ ∀ c, ¬ PCost t t.init c) ∨ ((sp_optimal t).1 ≤ 200000 ∧ PCost t t.init (sp_optimal t).1 ∧ ∀ c, PCost t t.init c → (sp_optimal t).1 ≤ c)) := by
 have hv : sp_validate t = ⟨0, 0⟩ := by
  by_cases hv : sp_validate t = ⟨0, 0⟩
  ·exact hv
  ·rw [sp_optimal, if_neg hv] at h
   exact absurd (validate_code h) hv
 have tk := taskOK_of hv
 refine ⟨hv, ?_⟩
 by_cases ha : (sp_all (wordsOf t)).2 = true
 ·have e : (sp_optimal t).1 = leastC (WCost (wordsOf t) (wordsOf t).start) := by rw [sp_optimal, if_pos hv, if_pos ha]
  obtain ⟨c1, c2⟩ := all_clo ha
  have hc := words_cost tk
  rw [e]
  have fwd : ∀ c, PCost t t.init c → WCost (wordsOf t) (wordsOf t).start c := fun c ⟨n, hn⟩ => words_of tk hn tk.init
  have bwd : ∀ c, WCost (wordsOf t) (wordsOf t).start c → PCost t t.init c := fun c hw => of_words tk hw t.init tk.init rfl
  by_cases hex : ∃ c, WCost (wordsOf t) (wordsOf t).start c
  ·obtain ⟨c, hcw⟩ := hex
   obtain ⟨c', d1, d2, d3⟩ := cheap_plan c1 hc c2 hcw
   obtain ⟨m, hm⟩ : ∃ m, WCost (wordsOf t) (wordsOf t).start m ∧ ∀ d, WCost (wordsOf t) (wordsOf t).start d → m ≤ d := by
    obtain ⟨k, hk, hk2⟩ := least (p := fun k : Nat => WCost (wordsOf t) (wordsOf t).start (k : Int)) ⟨c'.toNat, by rw [Int.toNat_of_nonneg d2]; exact d1⟩
    refine ⟨k, hk, fun d hd => ?_⟩
    have := hd.nonneg hc
    have := hk2 d.toNat (by rw [Int.toNat_of_nonneg (by omega)]; exact hd)
    omega
   have el := leastC_eq hm.1 hm.2
   rw [el]
   have := hm.2 c' d1
   exact .inr ⟨by omega, bwd m hm.1, fun c hc => hm.2 c (fwd c hc)⟩
  ·exact .inl ⟨leastC_none fun c hc => hex ⟨c, hc⟩, fun c hc => hex ⟨c, fwd c hc⟩⟩
 ·rw [sp_optimal, if_pos hv, if_neg ha] at h
  exact absurd h (by decide)
theorem optimal_code {t : Task} (hv : sp_validate t = ⟨0, 0⟩) (h : (sp_optimal t).2.code ≠ 0) : (sp_optimal t).2.code = 10 := by
 unfold sp_optimal at *
 rw [if_pos hv] at *
 split
 ·rename_i ha
  rw [if_pos ha] at h
  exact absurd rfl h
 ·rfl
section
variable {a b : Task}
theorem mem_shifted {s : List Int} {n x : Int} : x ∈ sp_shifted s n ↔ x - n ∈ s := by
 unfold sp_shifted
 rw [List.mem_map]
 constructor
 ·rintro ⟨y, h1, rfl⟩
  rw [show y + n - n = y by omega]; exact h1
 ·intro h
  exact ⟨x - n, h, by omega⟩
theorem shifted_sorted {s : List Int} (n : Int) (h : s.Pairwise (· < ·)) : (sp_shifted s n).Pairwise (· < ·) := by
 unfold sp_shifted
 rw [List.pairwise_map]
 exact h.imp fun h => by omega
def both (a : Task) (sa sb : List Int) : List Int := sa ++ sp_shifted sb a.facts
theorem both_set {m : Int} (hm : 0 ≤ m) (ha : 0 ≤ a.facts) {sa sb : List Int} (h1 : sp_isSet sa a.facts = true) (h2 : sp_isSet sb m = true) : sp_isSet (both a sa sb) (a.facts + m) = true := by
 refine decide_eq_true ⟨List.pairwise_append.2 ⟨set_sorted h1, shifted_sorted _ (set_sorted h2), fun x hx y hy => ?_⟩, fun x hx => ?_⟩
 ·have := set_rng h1 x hx
  have := set_rng h2 _ (mem_shifted.1 hy)
  omega
 ·rcases List.mem_append.1 hx with q | q
  ·have := set_rng h1 x q; omega
  ·have := set_rng h2 _ (mem_shifted.1 q); omega
theorem set_app {s : List Int} {n m : Int} (h : sp_isSet s n = true) (hm : n ≤ m) : sp_isSet s m = true := decide_eq_true ⟨set_sorted h, fun x hx => by have := set_rng h x hx; omega⟩
theorem set_shift {s : List Int} {n m : Int} (hn : 0 ≤ n) (h : sp_isSet s m = true) : sp_isSet (sp_shifted s n) (n + m) = true := decide_eq_true ⟨shifted_sorted _ (set_sorted h), fun x hx => by have := set_rng h _ (mem_shifted.1 hx); omega⟩
theorem prod_left {i : Int} (h : inb a.ops i) : inb (prodT a b).ops i ∧ gt (prodT a b).ops i = gt a.ops i := by
 have e : (prodT a b).ops = a.ops ++ b.ops.map (shiftOp a.facts) := rfl
 have hi : inb (prodT a b).ops i := ⟨h.1, by rw [e, List.length_append]; have := h.2; omega⟩
 refine ⟨hi, ?_⟩
 obtain ⟨k, rfl⟩ : ∃ k : Nat, i = k := ⟨i.toNat, (Int.toNat_of_nonneg h.1).symm⟩
 rw [e]
 exact gt_app (by have := h.2; omega) _
theorem prod_right {i : Int} (h : inb b.ops i) : inb (prodT a b).ops (a.ops.length + i) ∧ gt (prodT a b).ops (a.ops.length + i) = shiftOp a.facts (gt b.ops i) := by
 have e : (prodT a b).ops = a.ops ++ b.ops.map (shiftOp a.facts) := rfl
 have h1 := h.1
 have h2 := h.2
 have hi : inb (prodT a b).ops (a.ops.length + i) := ⟨by omega, by rw [e, List.length_append, List.length_map]; omega⟩
 refine ⟨hi, ?_⟩
 obtain ⟨k, rfl⟩ : ∃ k : Nat, i = k := ⟨i.toNat, (Int.toNat_of_nonneg h.1).symm⟩
 rw [← gt_mapA (shiftOp a.facts) h]
 have hm : inb (b.ops.map (shiftOp a.facts)) (k : Int) := ⟨by omega, by rw [List.length_map]; omega⟩
 have hi' : inb (a.ops ++ b.ops.map (shiftOp a.facts)) (a.ops.length + (k : Int)) := hi
 rw [e, gt_of hi', gt_of hm]
 simp only [show ((a.ops.length : Int) + (k : Int)).toNat = a.ops.length + k by omega, Int.toNat_natCast]
 rw [List.getElem_append_right (by omega)]
 simp
theorem prod_cases {i : Int} (h : inb (prodT a b).ops i) : inb a.ops i ∨ ∃ j, inb b.ops j ∧ i = a.ops.length + j := by
 have h1 := h.1
 have h2 := h.2
 rw [show (prodT a b).ops = a.ops ++ b.ops.map (shiftOp a.facts) from rfl, List.length_append, List.length_map] at h2
 by_cases hi : i < a.ops.length
 ·exact .inl ⟨h1, hi⟩
 ·exact .inr ⟨i - a.ops.length, ⟨by omega, by omega⟩, by omega⟩
theorem mem_both {sa sb : List Int} {x : Int} : x ∈ both a sa sb ↔ x ∈ sa ∨ x - a.facts ∈ sb := by
 unfold both
 rw [List.mem_append, mem_shifted]
theorem left_sub {sa sb s : List Int} (h2 : sp_isSet sb b.facts = true) (hs : sp_isSet s a.facts = true) : sp_subset s (both a sa sb) = true ↔ sp_subset s sa = true := by
 rw [subset_iff, subset_iff]
 refine ⟨fun h x hx => ?_, fun h x hx => mem_both.2 (.inl (h x hx))⟩
 rcases mem_both.1 (h x hx) with q | q
 ·exact q
 ·have := set_rng h2 _ q
  have := set_rng hs _ hx
  omega
theorem right_sub {sa sb s : List Int} (h1 : sp_isSet sa a.facts = true) (hs : sp_isSet s b.facts = true) : sp_subset (sp_shifted s a.facts) (both a sa sb) = true ↔ sp_subset s sb = true := by
 rw [subset_iff, subset_iff]
 refine ⟨fun h x hx => ?_, fun h x hx => mem_both.2 (.inr (h _ (mem_shifted.1 hx)))⟩
 have hm : x + a.facts ∈ sp_shifted s a.facts := mem_shifted.2 (by rw [show x + a.facts - a.facts = x by omega]; exact hx)
 rcases mem_both.1 (h _ hm) with q | q
 ·have := set_rng h1 _ q
  have := set_rng hs _ hx
  omega
 ·rwa [show x + a.facts - a.facts = x by omega] at q
variable (ta : TaskOK a) (tb : TaskOK b)
include ta tb
theorem prod_ok (hn : ¬ (24 < a.facts + b.facts ∨ 40 < a.ops.length + b.ops.length)) : TaskOK (prodT a b) := by
 have fa := ta.facts
 have fb := tb.facts
 refine ⟨⟨by show 0 ≤ a.facts + b.facts; omega, by show a.facts + b.facts ≤ 24; omega⟩, both_set fb.1 fa.1 ta.init tb.init, both_set fb.1 fa.1 ta.goal tb.goal, by show (a.ops ++ b.ops.map (shiftOp a.facts)).length ≤ 40; rw [List.length_append, List.length_map]; omega, fun k hk => ?_⟩
 have hin : inb (prodT a b).ops (k : Int) := ⟨by omega, by omega⟩
 rcases prod_cases hin with h | ⟨j, h, e⟩
 ·rw [(prod_left h).2]
  have h1 := ta.op h
  have h2 := op_cost ta h
  unfold sp_operator
  rw [if_pos ⟨set_app h1.1 (by show a.facts ≤ a.facts + b.facts; omega), set_app h1.2.1 (by show a.facts ≤ a.facts + b.facts; omega), set_app h1.2.2.1 (by show a.facts ≤ a.facts + b.facts; omega), h1.2.2.2⟩, if_pos h2]
 ·rw [e, (prod_right h).2]
  have h1 := tb.op h
  have h2 := op_cost tb h
  unfold sp_operator
  refine (if_pos ⟨set_shift fa.1 h1.1, set_shift fa.1 h1.2.1, set_shift fa.1 h1.2.2.1, ?_⟩).trans (if_pos h2)
  have h3 := h1.2.2.2
  unfold sp_meets at *
  rw [List.any_eq_false] at *
  intro x hx
  have := h3 _ (mem_shifted.1 hx)
  simp only [decide_eq_true_eq] at *
  exact fun q => this (mem_shifted.1 q)
theorem left_after {sa sb : List Int} (h1 : sp_isSet sa a.facts = true) (h2 : sp_isSet sb b.facts = true) {i : Int} (hi : inb a.ops i) : sp_after (prodT a b) (both a sa sb) i = both a (sp_after a sa i) sb := by
 have fa := ta.facts
 have fb := tb.facts
 have fp : 0 ≤ (prodT a b).facts := by show 0 ≤ a.facts + b.facts; omega
 have ho := ta.op hi
 refine sorted_ext _ _ (set_sorted (after_set fp _ _)) (set_sorted (both_set fb.1 fa.1 (after_set fa.1 _ _) h2)) fun x => ?_
 rw [mem_after fp, mem_both, mem_both, mem_after fa.1, (prod_left hi).2]
 have hpf : (prodT a b).facts = a.facts + b.facts := rfl
 rw [hpf]
 constructor
 ·rintro ⟨hx, h | ⟨h | h, hd⟩⟩
  ·exact .inl ⟨set_rng ho.2.1 x h, .inl h⟩
  ·exact .inl ⟨set_rng h1 x h, .inr ⟨h, hd⟩⟩
  ·exact .inr h
 ·rintro (⟨hx, h⟩ | h)
  ·exact ⟨by omega, h.imp id fun q => ⟨.inl q.1, q.2⟩⟩
  ·have := set_rng h2 _ h
   refine ⟨by omega, .inr ⟨.inr h, fun q => ?_⟩⟩
   have := set_rng ho.2.2.1 x q
   omega
theorem right_after {sa sb : List Int} (h1 : sp_isSet sa a.facts = true) (h2 : sp_isSet sb b.facts = true) {i : Int} (hi : inb b.ops i) : sp_after (prodT a b) (both a sa sb) (a.ops.length + i) = both a sa (sp_after b sb i) := by
 have fa := ta.facts
 have fb := tb.facts
 have fp : 0 ≤ (prodT a b).facts := by show 0 ≤ a.facts + b.facts; omega
 have ho := tb.op hi
 refine sorted_ext _ _ (set_sorted (after_set fp _ _)) (set_sorted (both_set fb.1 fa.1 h1 (after_set fb.1 _ _))) fun x => ?_
 rw [mem_after fp, mem_both, mem_both, mem_after fb.1, (prod_right hi).2]
 have hpf : (prodT a b).facts = a.facts + b.facts := rfl
 have e1 : (shiftOp a.facts (gt b.ops i)).add = sp_shifted (gt b.ops i).add a.facts := rfl
 have e2 : (shiftOp a.facts (gt b.ops i)).del = sp_shifted (gt b.ops i).del a.facts := rfl
 rw [hpf, e1, e2, mem_shifted, mem_shifted]
 constructor
 ·rintro ⟨hx, h | ⟨h | h, hd⟩⟩
  ·exact .inr ⟨set_rng ho.2.1 _ h, .inl h⟩
  ·exact .inl h
  ·exact .inr ⟨set_rng h2 _ h, .inr ⟨h, hd⟩⟩
 ·rintro (h | ⟨hx, h⟩)
  ·have := set_rng h1 _ h
   refine ⟨by omega, .inr ⟨.inl h, fun q => ?_⟩⟩
   have := set_rng ho.2.2.1 _ q
   omega
  ·exact ⟨by omega, h.imp id fun q => ⟨.inr q.1, q.2⟩⟩
theorem prod_goal {sa sb : List Int} (h1 : sp_isSet sa a.facts = true) (h2 : sp_isSet sb b.facts = true) : sp_subset (prodT a b).goal (both a sa sb) = true ↔ sp_subset a.goal sa = true ∧ sp_subset b.goal sb = true := by
 rw [← left_sub h2 ta.goal, ← right_sub h1 tb.goal, subset_iff, subset_iff, subset_iff]
 have e : (prodT a b).goal = a.goal ++ sp_shifted b.goal a.facts := rfl
 rw [e]
 exact ⟨fun h => ⟨fun x hx => h x (List.mem_append_left _ hx), fun x hx => h x (List.mem_append_right _ hx)⟩, fun ⟨h, g⟩ x hx => (List.mem_append.1 hx).elim (h x) (g x)⟩
theorem prod_split : ∀ (n : Nat) (s : List Int) (c : Int), PC (prodT a b) n s c → ∀ sa sb, s = both a sa sb → sp_isSet sa a.facts = true → sp_isSet sb b.facts = true → ∃ ca cb, PCost a sa ca ∧ PCost b sb cb ∧ c = ca + cb := by
 intro n s c h
 have fa := ta.facts
 have fb := tb.facts
 induction h with
 | here s h =>
  rintro sa sb rfl h1 h2
  obtain ⟨g1, g2⟩ := (prod_goal ta tb h1 h2).1 h
  exact ⟨0, 0, ⟨0, .here _ g1⟩, ⟨0, .here _ g2⟩, by omega⟩
 | step n s i c hi ha _ ih =>
  rintro sa sb rfl h1 h2
  rcases prod_cases hi with hj | ⟨j, hj, rfl⟩
  ·rw [left_after ta tb h1 h2 hj] at ih
   obtain ⟨ca, cb, ⟨m, p1⟩, p2, p3⟩ := ih _ _ rfl (after_set fa.1 _ _) h2
   have ha' : sp_applies a sa i = true := by
    unfold sp_applies at *
    rw [(prod_left hj).2] at ha
    exact (left_sub h2 (ta.op hj).1).1 ha
   rw [(prod_left hj).2]
   exact ⟨_, cb, ⟨m + 1, .step m sa i ca hj ha' p1⟩, p2, by omega⟩
  ·rw [right_after ta tb h1 h2 hj] at ih
   obtain ⟨ca, cb, p1, ⟨m, p2⟩, p3⟩ := ih _ _ rfl h1 (after_set fb.1 _ _)
   have ha' : sp_applies b sb j = true := by
    unfold sp_applies at *
    rw [(prod_right hj).2] at ha
    exact (right_sub h1 (tb.op hj).1).1 ha
   rw [(prod_right hj).2]
   have e : (shiftOp a.facts (gt b.ops j)).cost = (gt b.ops j).cost := rfl
   exact ⟨ca, _, p1, ⟨m + 1, .step m sb j cb hj ha' p2⟩, by rw [e]; omega⟩
theorem prod_right_plan {n : Nat} {sb : List Int} {c : Int} (h : PC b n sb c) : ∀ sa, sp_isSet sa a.facts = true → sp_isSet sb b.facts = true → sp_subset a.goal sa = true → PCost (prodT a b) (both a sa sb) c := by
 have fb := tb.facts
 induction h with
 | here sb h => exact fun sa h1 h2 g => ⟨0, .here _ ((prod_goal ta tb h1 h2).2 ⟨g, h⟩)⟩
 | step n sb j c hj ha _ ih =>
  intro sa h1 h2 g
  obtain ⟨m, hm⟩ := ih sa h1 (after_set fb.1 _ _) g
  rw [← right_after ta tb h1 h2 hj] at hm
  have ha' : sp_applies (prodT a b) (both a sa sb) (a.ops.length + j) = true := by
   unfold sp_applies at *
   rw [(prod_right hj).2]
   exact (right_sub h1 (tb.op hj).1).2 ha
  have := PC.step m _ _ c (prod_right (a := a) hj).1 ha' hm
  rw [(prod_right hj).2] at this
  exact ⟨m + 1, this⟩
theorem prod_join {n : Nat} {sa : List Int} {ca : Int} (h : PC a n sa ca) : ∀ sb cb, sp_isSet sa a.facts = true → sp_isSet sb b.facts = true → PCost b sb cb → PCost (prodT a b) (both a sa sb) (ca + cb) := by
 have fa := ta.facts
 induction h with
 | here sa h =>
  rintro sb cb h1 h2 ⟨m, hm⟩
  rw [show (0 : Int) + cb = cb by omega]
  exact prod_right_plan ta tb hm sa h1 h2 h
 | step n sa j c hj ha _ ih =>
  intro sb cb h1 h2 hb
  obtain ⟨m, hm⟩ := ih sb cb (after_set fa.1 _ _) h2 hb
  rw [← left_after ta tb h1 h2 hj] at hm
  have ha' : sp_applies (prodT a b) (both a sa sb) j = true := by
   unfold sp_applies at *
   rw [(prod_left hj).2]
   exact (left_sub h2 (ta.op hj).1).2 ha
  have := PC.step m _ _ _ (prod_left (b := b) hj).1 ha' hm
  rw [(prod_left hj).2] at this
  exact ⟨m + 1, by rw [show (gt a.ops j).cost + c + cb = (gt a.ops j).cost + (c + cb) by omega]; exact this⟩
end
end Go.Proofs.YtimillpakjgnoaaGreat.Pl

namespace Go.Proofs.YtimillpakjgnoaaGreat.Pl
open Go Go.RowKit
theorem missing_pos {s want : List Int} (h : 0 ≤ sp_missingF s want) : sp_missingF s want ∈ want ∧ sp_missingF s want ∉ s := by
 unfold sp_missingF at *
 cases e : want.find? (fun p => decide (p ∉ s)) with
 | none => rw [e] at h; exact absurd h (by decide)
 | some q =>
  have h1 := List.mem_of_find?_eq_some e
  have h2 := List.find?_some e
  exact ⟨h1, by simpa using h2⟩
theorem missing_neg {s want : List Int} (hw : ∀ p ∈ want, 0 ≤ p) : sp_missingF s want < 0 ↔ sp_subset want s = true := by
 rw [subset_iff]
 constructor
 ·intro h p hp
  unfold sp_missingF at h
  cases e : want.find? (fun p => decide (p ∉ s)) with
  | none =>
   have := List.find?_eq_none.1 e p hp
   simpa using this
  | some q =>
   rw [e] at h
   have := hw q (List.mem_of_find?_eq_some e)
   simp at h; omega
 ·intro h
  have e : want.find? (fun p => decide (p ∉ s)) = none := List.find?_eq_none.2 fun p hp => by simp [h p hp]
  unfold sp_missingF
  rw [e]; decide
theorem meets_false {a b : List Int} (h : sp_meets a b = false) : ∀ x ∈ a, x ∉ b := by
 unfold sp_meets at h
 rw [List.any_eq_false] at h
 intro x hx hb
 exact h x hx (by simpa using hb)
theorem indep_iff {x y : Operator} (h : sp_indep x y = true) : ((∀ f ∈ x.add, f ∉ y.pre) ∧ (∀ f ∈ x.del, f ∉ y.pre) ∧ ∀ f ∈ x.add, f ∉ y.del) ∧ (∀ f ∈ y.add, f ∉ x.pre) ∧ (∀ f ∈ y.del, f ∉ x.pre) ∧ ∀ f ∈ y.add, f ∉ x.del := by
 unfold sp_indep sp_freeOp at h
 simp only [Bool.and_eq_true, Bool.not_eq_true'] at h
 obtain ⟨⟨⟨a1, a2⟩, a3⟩, ⟨b1, b2⟩, b3⟩ := h
 exact ⟨⟨meets_false a1, meets_false a2, meets_false a3⟩, meets_false b1, meets_false b2, meets_false b3⟩
section
variable {t : Task} (tk : TaskOK t)
include tk
theorem pre_nonneg {i : Int} (hi : inb t.ops i) : ∀ p ∈ (gt t.ops i).pre, 0 ≤ p := fun p hp => (set_rng (tk.op hi).1 p hp).1
theorem swap_ops {s : List Int} {x y : Int} (hs : sp_isSet s t.facts = true) (h : sp_indep (gt t.ops x) (gt t.ops y) = true) (hy : sp_applies t s y = true) (hx : sp_applies t (sp_after t s y) x = true) :
  sp_applies t s x = true ∧ sp_applies t (sp_after t s x) y = true ∧ sp_after t (sp_after t s y) x = sp_after t (sp_after t s x) y := by
 have hf := tk.facts.1
 obtain ⟨⟨a1, a2, a3⟩, b1, b2, b3⟩ := indep_iff h
 have sx : sp_applies t s x = true := subset_iff.2 fun f hfx => by
  have := subset_iff.1 hx f hfx
  rw [mem_after hf] at this
  rcases this.2 with q | q
  ·exact absurd hfx (b1 f q)
  ·exact q.1
 refine ⟨sx, subset_iff.2 fun f hfy => ?_, sorted_ext _ _ (set_sorted (after_set hf _ _)) (set_sorted (after_set hf _ _)) fun f => ?_⟩
 ·have := subset_iff.1 hy f hfy
  rw [mem_after hf]
  exact ⟨set_rng hs f this, .inr ⟨this, fun q => a2 f q hfy⟩⟩
 ·simp only [mem_after hf]
  constructor
  ·rintro ⟨r, q | ⟨⟨_, q | ⟨q, q2⟩⟩, q3⟩⟩
   ·exact ⟨r, .inr ⟨⟨r, .inl q⟩, a3 f q⟩⟩
   ·exact ⟨r, .inl q⟩
   ·exact ⟨r, .inr ⟨⟨r, .inr ⟨q, q3⟩⟩, q2⟩⟩
  ·rintro ⟨r, q | ⟨⟨_, q | ⟨q, q2⟩⟩, q3⟩⟩
   ·exact ⟨r, .inr ⟨⟨r, .inl q⟩, b3 f q⟩⟩
   ·exact ⟨r, .inl q⟩
   ·exact ⟨r, .inr ⟨⟨r, .inr ⟨q, q3⟩⟩, q2⟩⟩
theorem stub_move {s : List Int} {p : Int} (hp : p ∈ t.goal) (hps : p ∉ s) : ∀ (n : Nat) (s' : List Int) (c : Int), PC t n s' c → sp_isSet s' t.facts = true → (∀ f ∈ s', f ∈ s ∨ ∃ o, inb t.ops o ∧ ¬ InStub t s p o ∧ f ∈ (gt t.ops o).add) →
  ∃ m o c', n = m + 1 ∧ inb t.ops o ∧ InStub t s p o ∧ sp_applies t s o = true ∧ sp_applies t s' o = true ∧ PC t m (sp_after t s' o) c' ∧ c = (gt t.ops o).cost + c' := by
 have hf := tk.facts.1
 intro n
 induction n with
 | zero =>
  intro s' c h hs hq
  cases h with
  | here _ hg =>
   rcases hq p (subset_iff.1 hg p hp) with q | ⟨o, h1, h2, h3⟩
   ·exact absurd q hps
   ·exact absurd (InStub.goal o h1 h3) h2
 | succ n ih =>
  intro s' c h hs hq
  cases h with
  | step _ _ i c hi ha hn =>
   by_cases hst : InStub t s p i
   ·refine ⟨n, i, c, rfl, hi, hst, ?_, ha, hn, rfl⟩
    by_cases hm : sp_missingF s (gt t.ops i).pre < 0
    ·exact (missing_neg (pre_nonneg tk hi)).1 hm
    ·exfalso
     obtain ⟨m1, m2⟩ := missing_pos (Int.not_lt.1 hm)
     rcases hq _ (subset_iff.1 ha _ m1) with q | ⟨o, h1, h2, h3⟩
     ·exact m2 q
     ·exact h2 (.need i o hst (Int.not_lt.1 hm) h1 h3)
   ·obtain ⟨m, o, c', e, h1, h2, h3, h4, h5, h6⟩ := ih (sp_after t s' i) c hn (after_set hf _ _) (fun f hfm => by
     rw [mem_after hf] at hfm
     rcases hfm.2 with q | q
     ·exact .inr ⟨i, hi, hst, q⟩
     ·exact hq f q.1)
    have hin : sp_indep (gt t.ops o) (gt t.ops i) = true := by
     cases hb : sp_indep (gt t.ops o) (gt t.ops i) with
     | true => rfl
     | false => exact absurd (InStub.other o i h2 ((missing_neg (pre_nonneg tk h1)).2 h3) hi hb) hst
    obtain ⟨g1, g2, g3⟩ := swap_ops tk hs hin ha h4
    rw [g3] at h5
    subst e
    exact ⟨m + 1, o, (gt t.ops i).cost + c', rfl, h1, h2, h3, g1, .step m _ i c' hi g2 h5, by omega⟩
theorem stub_first {n : Nat} {s : List Int} {c : Int} (hs : sp_isSet s t.facts = true) (h : PC t n s c) (hg : sp_subset t.goal s = false) : ∃ m o c', n = m + 1 ∧ o ∈ sp_stubborn t s ∧ inb t.ops o ∧ sp_applies t s o = true ∧ PC t m (sp_after t s o) c' ∧ c = (gt t.ops o).cost + c' := by
 have hgn : ∀ p ∈ t.goal, 0 ≤ p := fun p hp => (set_rng tk.goal p hp).1
 have hm : ¬ sp_missingF s t.goal < 0 := fun q => by rw [(missing_neg hgn).1 q] at hg; cases hg
 obtain ⟨m1, m2⟩ := missing_pos (Int.not_lt.1 hm)
 obtain ⟨m, o, c', e, h1, h2, h3, h4, h5, h6⟩ := stub_move tk m1 m2 n s c h hs fun f hf => .inl hf
 refine ⟨m, o, c', e, ?_, h1, h4, h5, h6⟩
 unfold sp_stubborn
 rw [if_neg hm, List.mem_filter]
 exact ⟨mem_allS.2 ⟨h1.1, h1.2⟩, by simp [h2, h3]⟩
end
theorem stub_mem {t : Task} {s : List Int} {o : Int} (h : o ∈ sp_stubborn t s) : inb t.ops o ∧ sp_applies t s o = true := by
 unfold sp_stubborn at h
 split at h
 ·cases h
 ·rw [List.mem_filter, mem_allS, Bool.and_eq_true] at h
  exact ⟨h.1, h.2.2⟩
theorem stub_len (t : Task) (s : List Int) : (sp_stubborn t s).length ≤ t.ops.length := by
 unfold sp_stubborn
 split
 ·exact Nat.zero_le _
 ·exact Nat.le_trans (List.length_filter_le _ _) (by rw [allS_len]; exact Nat.le_refl _)
end Go.Proofs.YtimillpakjgnoaaGreat.Pl

namespace Go.Proofs.YtimillpakjgnoaaGreat.Pl
open Go Go.RowKit
def swp (h : List Int) (i j : Int) : List Int := (h.set i.toNat (gt h j)).set j.toNat (gt h i)
theorem swp_len (h : List Int) (i j : Int) : (swp h i j).length = h.length := by unfold swp; rw [List.length_set, List.length_set]
theorem gt_swp {h : List Int} {i j : Int} (hi : inb h i) (hj : inb h j) {k : Int} (hk : inb h k) : gt (swp h i j) k = if k = j then gt h i else if k = i then gt h j else gt h k := by
 have k0 := hk.1
 have i0 := hi.1
 have j0 := hj.1
 have e : ∀ q : Int, inb h q → h[q.toNat]? = some (gt h q) := fun q hq => by rw [gt_of hq]; exact List.getElem?_eq_getElem _
 refine gt_some ?_
 unfold swp
 rw [swap_get hi hj]
 by_cases h1 : k = j
 ·rw [if_pos (by rw [h1]), if_pos h1]; exact e i hi
 ·rw [if_neg (by omega), if_neg h1]
  by_cases h2 : k = i
  ·rw [if_pos (by rw [h2]), if_pos h2]; exact e j hj
  ·rw [if_neg (by omega), if_neg h2]; exact e k hk
theorem mem_swp {h : List Int} {i j : Int} (hi : inb h i) (hj : inb h j) {x : Int} : x ∈ swp h i j ↔ x ∈ h := by
 have lj := swp_len h i j
 have bk : ∀ k, inb (swp h i j) k ↔ inb h k := fun k => by unfold inb; rw [lj]
 constructor
 ·intro hx
  obtain ⟨k, hk, rfl⟩ := mem_gt hx
  have hb : inb h (k : Int) := (bk _).1 ⟨by omega, by omega⟩
  rw [gt_swp hi hj hb]
  split
  ·exact gt_mem hi
  ·split
   ·exact gt_mem hj
   ·exact gt_mem hb
 ·intro hx
  obtain ⟨k, hk, rfl⟩ := mem_gt hx
  have hb : inb h (k : Int) := ⟨by omega, by omega⟩
  by_cases h1 : (k : Int) = i
  ·have := gt_mem ((bk j).2 hj)
   rw [gt_swp hi hj hj, if_pos rfl] at this
   have e : gt h (k : Int) = gt h i := by rw [h1]
   rw [e]; exact this
  ·by_cases h2 : (k : Int) = j
   ·have := gt_mem ((bk i).2 hi)
    rw [gt_swp hi hj hi] at this
    split at this
    ·rename_i h3; exact absurd (h2.trans h3.symm) h1
    ·have e : gt h (k : Int) = gt h j := by rw [h2]
     rw [if_pos rfl] at this
     rw [e]; exact this
   ·have := gt_mem ((bk k).2 hb)
    rw [gt_swp hi hj hb, if_neg h2, if_neg h1] at this
    exact this
def parH (j : Int) : Int := (j - 1) / 2
structure HeD (c : Int → Int) (h : List Int) (n e : Int) : Prop where
 ord : ∀ j, 0 < j → j < n → parH j ≠ e → c (gt h (parH j)) ≤ c (gt h j)
 up : ∀ j, 0 < j → j < n → parH j = e → 0 < e → c (gt h (parH e)) ≤ c (gt h j)
def HpO (c : Int → Int) (h : List Int) (n : Int) : Prop := ∀ j, 0 < j → j < n → c (gt h (parH j)) ≤ c (gt h j)
structure HeU (c : Int → Int) (h : List Int) (n e : Int) : Prop where
 ord : ∀ j, 0 < j → j < n → j ≠ e → c (gt h (parH j)) ≤ c (gt h j)
 up : ∀ j, 0 < j → j < n → parH j = e → 0 < e → c (gt h (parH e)) ≤ c (gt h j)
theorem HpO.root {c : Int → Int} {h : List Int} {n : Int} (ho : HpO c h n) : ∀ k : Nat, ∀ j : Int, 0 ≤ j → j < n → j.toNat ≤ k → c (gt h 0) ≤ c (gt h j)
 | 0, j, h0, _, hk => by rw [show j = 0 by omega]; exact Int.le_refl _
 | k + 1, j, h0, hn, hk => by
  by_cases hj : j = 0
  ·rw [hj]; exact Int.le_refl _
  ·have hp : 0 ≤ parH j ∧ parH j < j := by unfold parH; omega
   exact Int.le_trans (ho.root k (parH j) hp.1 (by omega) (by omega)) (ho j (by omega) hn)
theorem HeD.stop {c : Int → Int} {h : List Int} {n e : Int} (hd : HeD c h n e) (hs : ∀ j, 0 < j → j < n → parH j = e → c (gt h e) ≤ c (gt h j)) : HpO c h n := fun j h0 hn => by
 by_cases he : parH j = e
 ·rw [he]; exact hs j h0 hn he
 ·exact hd.ord j h0 hn he
theorem HeD.down {c : Int → Int} {h : List Int} {n e j : Int} (hd : HeD c h n e) (hl : n ≤ h.length) (he : 0 ≤ e) (hj : 0 < j) (hn : j < n) (hp : parH j = e) (hc : c (gt h j) ≤ c (gt h e)) (hs : ∀ x, 0 < x → x < n → parH x = e → c (gt h j) ≤ c (gt h x)) : HeD c (swp h e j) n j := by
 have hej : e < j := by unfold parH at hp; omega
 have be : inb h e := ⟨he, by omega⟩
 have bj : inb h j := ⟨by omega, by omega⟩
 have bx : ∀ x, 0 ≤ x → x < n → inb h x := fun x a b => ⟨a, by omega⟩
 have pb : ∀ x, 0 < x → 0 ≤ parH x ∧ parH x < x := fun x hx => by unfold parH; omega
 refine ⟨fun x h0 hx hne => ?_, fun x h0 hx hpx _ => ?_⟩
 ·have := pb x h0
  rw [gt_swp be bj (bx _ this.1 (by omega)), gt_swp be bj (bx x (by omega) hx), if_neg hne]
  by_cases hxj : x = j
  ·subst hxj
   rw [if_pos rfl, if_pos hp]; exact hc
  ·rw [if_neg hxj]
   by_cases hxe : x = e
   ·subst hxe
    rw [if_pos rfl, if_neg (by omega)]
    exact hd.up j hj hn hp h0
   ·rw [if_neg hxe]
    by_cases hpe : parH x = e
    ·rw [if_pos hpe]; exact hs x h0 hx hpe
    ·rw [if_neg hpe]; exact hd.ord x h0 hx hpe
 ·have hxj : j < x := by have := pb x h0; omega
  rw [hp, gt_swp be bj be, gt_swp be bj (bx x (by omega) hx), if_neg (by omega), if_pos rfl, if_neg (by omega), if_neg (by omega)]
  have := hd.ord x h0 hx (by omega)
  rwa [hpx] at this
theorem HeU.stop {c : Int → Int} {h : List Int} {n e : Int} (hu : HeU c h n e) (hs : 0 < e → e < n → c (gt h (parH e)) ≤ c (gt h e)) : HpO c h n := fun j h0 hn => by
 by_cases he : j = e
 ·subst he; exact hs h0 hn
 ·exact hu.ord j h0 hn he
theorem HeU.rise {c : Int → Int} {h : List Int} {n e p : Int} (hu : HeU c h n e) (hl : n ≤ h.length) (he : 0 < e) (hn : e < n) (hp : parH e = p) (hc : c (gt h e) ≤ c (gt h p)) : HeU c (swp h p e) n p := by
 have pb : ∀ x, 0 < x → 0 ≤ parH x ∧ parH x < x := fun x hx => by unfold parH; omega
 have hpe := pb e he
 rw [hp] at hpe
 have bp : inb h p := ⟨hpe.1, by omega⟩
 have be : inb h e := ⟨by omega, by omega⟩
 have bx : ∀ x, 0 ≤ x → x < n → inb h x := fun x a b => ⟨a, by omega⟩
 refine ⟨fun x h0 hx hne => ?_, fun x h0 hx hpx hp0 => ?_⟩
 ·have := pb x h0
  rw [gt_swp bp be (bx _ this.1 (by omega)), gt_swp bp be (bx x (by omega) hx)]
  by_cases hxe : x = e
  ·subst hxe
   rw [if_pos rfl, hp, if_neg (by omega), if_pos rfl]; exact hc
  ·rw [if_neg hxe, if_neg hne]
   by_cases h1 : parH x = e
   ·rw [if_pos h1]
    have := hu.up x h0 hx h1 he
    rwa [hp] at this
   ·rw [if_neg h1]
    by_cases h2 : parH x = p
    ·rw [if_pos h2]
     have := hu.ord x h0 hx hxe
     rw [h2] at this
     omega
    ·rw [if_neg h2]; exact hu.ord x h0 hx hxe
 ·have := pb p hp0
  rw [gt_swp bp be (bx _ this.1 (by omega)), gt_swp bp be (bx x (by omega) hx), if_neg (by omega), if_neg (by omega)]
  have ho := hu.ord p hp0 (by omega) (by omega)
  by_cases hxe : x = e
  ·rw [if_pos hxe]; exact ho
  ·rw [if_neg hxe]
   have hxp : x ≠ p := by have := pb x h0; omega
   rw [if_neg hxp]
   have := hu.ord x h0 hx hxe
   rw [hpx] at this
   omega
theorem HpO.take {c : Int → Int} {h : List Int} {n : Nat} (ho : HpO c h n) (hl : n ≤ h.length) : HpO c (h.take n) n := fun j h0 hn => by
 have e : ∀ x : Int, 0 ≤ x → x < n → gt (h.take n) x = gt h x := fun x a b => by
  rw [gt_of ⟨a, by rw [List.length_take]; omega⟩, gt_of ⟨a, by omega⟩]
  simp
 have hp : 0 ≤ parH j ∧ parH j < j := by unfold parH; omega
 rw [e _ hp.1 (by omega), e j (by omega) hn]
 exact ho j h0 hn
theorem HpO.congr {c c' : Int → Int} {h : List Int} {n : Int} (ho : HpO c h n) (hl : n ≤ h.length) (e : ∀ x ∈ h, c' x = c x) : HpO c' h n := fun j h0 hn => by
 have hp : 0 ≤ parH j ∧ parH j < j := by unfold parH; omega
 rw [e _ (gt_mem ⟨hp.1, by omega⟩), e _ (gt_mem ⟨by omega, by omega⟩)]
 exact ho j h0 hn
end Go.Proofs.YtimillpakjgnoaaGreat.Pl

namespace Go.Proofs.YtimillpakjgnoaaGreat.Pl
open Go Go.RowKit
structure NI (t : Task) (l : List Node) : Prop where
 reach : ∀ i, inb l i → ReachS t (gt l i).state
 cost : ∀ i, inb l i → 0 ≤ (gt l i).cost ∧ (gt l i).cost ≤ 100 * i
 par : NodesOK l
 plan : ∀ i, inb l i → ∀ c, PCost t (gt l i).state c → PCost t t.init ((gt l i).cost + c)
 root : inb l 0 ∧ (gt l 0).state = t.init ∧ (gt l 0).cost = 0
structure SI (t : Task) (m : List (Int × Int)) (l : List Node) (h : List Int) (p : Int) (j : Nat) : Prop where
 node : NI t l
 nod : (m.map (·.1)).Nodup
 clo : ∀ w k, getA m w = some k → inb l k ∧ w = sp_wordC (gt l k).state
 goal : ∀ w k, getA m w = some k → sp_subset t.goal (gt l k).state = false
 exp : ∀ w k, getA m w = some k → ∀ x : Nat, x < (sp_stubborn t (gt l k).state).length → (k = p → x < j) → ∃ n, inb l n ∧ (gt l n).state = sp_after t (gt l k).state (gt (sp_stubborn t (gt l k).state) (x : Int)) ∧ (gt l n).cost = (gt l k).cost + (gt t.ops (gt (sp_stubborn t (gt l k).state) (x : Int))).cost
 cov : ∀ n, inb l n → n ∈ h ∨ ∃ k, getA m (sp_wordC (gt l n).state) = some k ∧ (gt l k).cost ≤ (gt l n).cost
 ord : ∀ w k, getA m w = some k → ∀ i ∈ h, (gt l k).cost ≤ (gt l i).cost
 inh : ∀ i ∈ h, inb l i
theorem SI.start {t : Task} : SI t [] [(⟨t.init, 0, -1, 0⟩ : Node)] [0] (-1) 0 := by
 have b : ∀ i, inb [(⟨t.init, 0, -1, 0⟩ : Node)] i → i = 0 := fun i hi => by have := hi.1; have := hi.2; simp at this; omega
 have b0 : inb [(⟨t.init, 0, -1, 0⟩ : Node)] 0 := ⟨by omega, by simp⟩
 refine ⟨⟨fun i hi => ?_, fun i hi => ?_, fun i hi => ?_, fun i hi c hc => ?_, b0, rfl, rfl⟩, List.nodup_nil, fun w k e => (by cases e), fun w k e => (by cases e), fun w k e => (by cases e), fun n hn => .inl (by rw [b n hn]; simp), fun w k e => (by cases e), fun i hi => by rw [List.mem_singleton.1 hi]; exact b0⟩
 ·rw [b i hi]; exact .start
 ·rw [b i hi]; exact ⟨Int.le_refl _, Int.le_refl _⟩
 ·have : i = 0 := by simpa using hi
  subst this
  show (-1 : Int) < 0
  omega
 ·rw [b i hi] at hc ⊢
  show PCost t t.init (0 + c)
  rw [Int.zero_add]; exact hc
theorem SI.drop {t : Task} {m : List (Int × Int)} {l : List Node} {h h' : List Int} (si : SI t m l h (-1) 0) {v : Int} (hv : v ∈ h) (hh : ∀ x, x ∈ h → x ∈ h' ∨ x = v) (hs : ∀ x ∈ h', x ∈ h) (hc : (getA m (sp_wordC (gt l v).state)).isSome = true) : SI t m l h' (-1) 0 := by
 obtain ⟨k, hk⟩ := Option.isSome_iff_exists.1 hc
 refine ⟨si.node, si.nod, si.clo, si.goal, si.exp, fun n hn => ?_, fun w k hk i hi => si.ord w k hk i (hs i hi), fun i hi => si.inh i (hs i hi)⟩
 rcases si.cov n hn with q | q
 ·rcases hh n q with q | rfl
  ·exact .inl q
  ·exact .inr ⟨k, hk, si.ord _ _ hk _ hv⟩
 ·exact .inr q
theorem SI.close {t : Task} {m : List (Int × Int)} {l : List Node} {h h' : List Int} (si : SI t m l h (-1) 0) {v : Int} (hv : v ∈ h) (hm : ∀ i ∈ h, (gt l v).cost ≤ (gt l i).cost) (hh : ∀ x, x ∈ h → x ∈ h' ∨ x = v) (hs : ∀ x ∈ h', x ∈ h) (hc : getA m (sp_wordC (gt l v).state) = none) (hg : sp_subset t.goal (gt l v).state = false) : SI t (setA m (sp_wordC (gt l v).state) v) l h' v 0 := by
 have hb := si.inh v hv
 refine ⟨si.node, setA_nodup si.nod, fun w k hk => ?_, fun w k hk => ?_, fun w k hk x hx hj => ?_, fun n hn => ?_, fun w k hk i hi => ?_, fun i hi => si.inh i (hs i hi)⟩
 ·rw [getA_setA] at hk
  split at hk
  ·rename_i e; cases hk; exact ⟨hb, e.symm⟩
  ·exact si.clo w k hk
 ·rw [getA_setA] at hk
  split at hk
  ·cases hk; exact hg
  ·exact si.goal w k hk
 ·rw [getA_setA] at hk
  split at hk
  ·cases hk; exact absurd (hj rfl) (Nat.not_lt_zero x)
  ·exact si.exp w k hk x hx fun e => by have := (si.clo w k hk).1.1; omega
 ·rcases si.cov n hn with q | ⟨k, q, q2⟩
  ·rcases hh n q with q | rfl
   ·exact .inl q
   ·exact .inr ⟨n, by rw [getA_setA, if_pos rfl], Int.le_refl _⟩
  ·refine .inr ⟨k, ?_, q2⟩
   rw [getA_setA, if_neg]
   ·exact q
   ·intro e; rw [← e, hc] at q; cases q
 ·rw [getA_setA] at hk
  split at hk
  ·cases hk; exact hm i (hs i hi)
  ·exact si.ord w k hk i (hs i hi)
theorem SI.full {t : Task} {m : List (Int × Int)} {l : List Node} {h : List Int} {v : Int} {j : Nat} (si : SI t m l h v j) (hj : (sp_stubborn t (gt l v).state).length ≤ j) : SI t m l h (-1) 0 :=
 ⟨si.node, si.nod, si.clo, si.goal, fun w k hk x hx _ => si.exp w k hk x hx fun e => by subst e; omega, si.cov, si.ord, si.inh⟩
theorem SI.count {t : Task} {m : List (Int × Int)} {l : List Node} {h : List Int} {p : Int} {j : Nat} (si : SI t m l h p j) {R : List (List Int)} (hR : ∀ s, ReachS t s → s ∈ R) : m.length ≤ R.length := by
 have := nodup_sub_len (m.map (·.1)) (R.map sp_wordC) si.nod fun w hw => by
  obtain ⟨k, hk⟩ := Option.isSome_iff_exists.1 (getA_some.2 hw)
  obtain ⟨h1, rfl⟩ := si.clo w k hk
  exact List.mem_map.2 ⟨_, hR _ (si.node.reach k h1), rfl⟩
 rwa [List.length_map, List.length_map] at this
def wayOn (t : Task) (l : List Node) (v o : Int) : Node := ⟨sp_after t (gt l v).state o, (gt l v).cost + (gt t.ops o).cost, v, o⟩
section
variable {t : Task} (tk : TaskOK t)
include tk
theorem SI.set {m : List (Int × Int)} {l : List Node} {h : List Int} {p : Int} {j : Nat} (si : SI t m l h p j) {i : Int} (hi : inb l i) : sp_isSet (gt l i).state t.facts = true := reach_set tk (si.node.reach i hi)
theorem SI.same {m : List (Int × Int)} {l : List Node} {h : List Int} {p : Int} {j : Nat} (si : SI t m l h p j) {n k : Int} (hn : inb l n) (hk : getA m (sp_wordC (gt l n).state) = some k) : inb l k ∧ (gt l k).state = (gt l n).state := by
 obtain ⟨h1, h2⟩ := si.clo _ _ hk
 exact ⟨h1, (wordC_inj tk.facts.2 (si.set tk hn) (si.set tk h1) h2).symm⟩
theorem SI.cover {m : List (Int × Int)} {l : List Node} {h : List Int} (si : SI t m l h (-1) 0) : ∀ (n : Nat) (v c : Int), inb l v → PC t n (gt l v).state c → ∃ i, i ∈ h ∧ ∃ d, PCost t (gt l i).state d ∧ (gt l i).cost + d ≤ (gt l v).cost + c := by
 intro n
 induction n with
 | zero =>
  intro v c hv hp
  rcases si.cov v hv with q | ⟨k, q, _⟩
  ·exact ⟨v, q, c, ⟨0, hp⟩, Int.le_refl _⟩
  ·obtain ⟨_, e⟩ := si.same tk hv q
   have := si.goal _ _ q
   rw [e] at this
   cases hp with
   | here _ g => rw [g] at this; cases this
 | succ n ih =>
  intro v c hv hp
  rcases si.cov v hv with q | ⟨k, q, q2⟩
  ·exact ⟨v, q, c, ⟨_, hp⟩, Int.le_refl _⟩
  ·obtain ⟨hk, e⟩ := si.same tk hv q
   have hg := si.goal _ _ q
   rw [← e] at hp
   obtain ⟨n', o, c', e1, ho, _, _, hp', rfl⟩ := stub_first tk (si.set tk hk) hp hg
   have : n' = n := by omega
   subst this
   obtain ⟨x, hx, rfl⟩ := mem_gt ho
   obtain ⟨y, hy, y1, y2⟩ := si.exp _ _ q x hx (fun e => by have := hk.1; omega)
   rw [← y1] at hp'
   obtain ⟨i, hi, d, hd, hle⟩ := ih y c' hy hp'
   exact ⟨i, hi, d, hd, by omega⟩
theorem SI.noPlan {m : List (Int × Int)} {l : List Node} {h : List Int} (si : SI t m l h (-1) 0) (hn : h = []) (c : Int) : ¬ PCost t t.init c := fun ⟨n, hp⟩ => by
 rw [← si.node.root.2.1] at hp
 obtain ⟨i, hi, _⟩ := si.cover tk n 0 c si.node.root.1 hp
 rw [hn] at hi
 cases hi
theorem SI.found {m : List (Int × Int)} {l : List Node} {h : List Int} (si : SI t m l h (-1) 0) {v : Int} (hv : v ∈ h) (hm : ∀ i ∈ h, (gt l v).cost ≤ (gt l i).cost) (hg : sp_subset t.goal (gt l v).state = true) : PCost t t.init (gt l v).cost ∧ ∀ c, PCost t t.init c → (gt l v).cost ≤ c := by
 refine ⟨?_, fun c ⟨n, hp⟩ => ?_⟩
 ·have := si.node.plan v (si.inh v hv) 0 ⟨0, .here _ hg⟩
  rwa [Int.add_zero] at this
 ·rw [← si.node.root.2.1] at hp
  obtain ⟨i, hi, d, ⟨k, hd⟩, hle⟩ := si.cover tk n 0 c si.node.root.1 hp
  have := hm i hi
  have := hd.nonneg tk
  have := si.node.root.2.2
  omega
theorem SI.push {m : List (Int × Int)} {l : List Node} {h h' : List Int} {v : Int} {j : Nat} (si : SI t m l h v j) (hv : inb l v) (hc : getA m (sp_wordC (gt l v).state) = some v) (hm : ∀ w k, getA m w = some k → (gt l k).cost ≤ (gt l v).cost) (hj : j < (sp_stubborn t (gt l v).state).length) (hh : ∀ x, x ∈ h' ↔ x ∈ h ∨ x = (l.length : Int)) :
  SI t m (l ++ [wayOn t l v (gt (sp_stubborn t (gt l v).state) (j : Int))]) h' v (j + 1) := by
 obtain ⟨o1, o2⟩ := stub_mem (gt_memN hj)
 generalize ho : gt (sp_stubborn t (gt l v).state) (j : Int) = o at o1 o2 ⊢
 have oc := op_cost tk o1
 generalize hw : wayOn t l v o = nd
 have hlen : (l ++ [nd]).length = l.length + 1 := by rw [List.length_append, List.length_singleton]
 have old : ∀ i, inb l i → gt (l ++ [nd]) i = gt l i := fun i hi => by
  obtain ⟨i', rfl⟩ : ∃ i' : Nat, i = i' := ⟨i.toNat, (Int.toNat_of_nonneg hi.1).symm⟩
  exact gt_snoc (by have := hi.2; omega) nd
 have inn : ∀ i, inb l i → inb (l ++ [nd]) i := fun i hi => ⟨hi.1, by have := hi.2; omega⟩
 have cas : ∀ i, inb (l ++ [nd]) i → inb l i ∨ i = l.length := fun i hi => by
  by_cases q : i < l.length
  ·exact .inl ⟨hi.1, q⟩
  ·have := hi.2; exact .inr (by omega)
 have bn : inb (l ++ [nd]) (l.length : Int) := ⟨by omega, by omega⟩
 have new : gt (l ++ [nd]) (l.length : Int) = wayOn t l v o := by
  rw [hw, gt_of bn]; simp
 have vc := si.node.cost v hv
 have v2 := hv.2
 refine ⟨⟨fun i hi => ?_, fun i hi => ?_, fun i hi => ?_, fun i hi c hp => ?_, inn 0 si.node.root.1, ?_, ?_⟩, si.nod, fun w k hk => ?_, fun w k hk => ?_, fun w k hk x hx hxj => ?_, fun n hn => ?_, fun w k hk i hi => ?_, fun i hi => ?_⟩
 ·rcases cas i hi with q | rfl
  ·rw [old i q]; exact si.node.reach i q
  ·rw [new]; exact .step _ _ (si.node.reach v hv) o1 o2
 ·rcases cas i hi with q | rfl
  ·rw [old i q]; exact si.node.cost i q
  ·rw [new]
   show 0 ≤ (gt l v).cost + (gt t.ops o).cost ∧ (gt l v).cost + (gt t.ops o).cost ≤ 100 * l.length
   omega
 ·rcases cas i ⟨by omega, by omega⟩ with q | q
  ·rw [old i q]; exact si.node.par i (by have := q.2; omega)
  ·rw [q, new]; exact v2
 ·rcases cas i hi with q | rfl
  ·rw [old i q] at hp ⊢; exact si.node.plan i q c hp
  ·rw [new] at hp ⊢
   obtain ⟨n, hn⟩ := hp
   have := si.node.plan v hv _ ⟨n + 1, .step n _ o c o1 o2 hn⟩
   show PCost t t.init ((gt l v).cost + (gt t.ops o).cost + c)
   rwa [← Int.add_assoc] at this
 ·rw [old 0 si.node.root.1]; exact si.node.root.2.1
 ·rw [old 0 si.node.root.1]; exact si.node.root.2.2
 ·obtain ⟨h1, h2⟩ := si.clo w k hk
  rw [old k h1]; exact ⟨inn k h1, h2⟩
 ·rw [old k (si.clo w k hk).1]; exact si.goal w k hk
 ·have h1 := (si.clo w k hk).1
  rw [old k h1] at hx ⊢
  by_cases q : k = v ∧ x = j
  ·obtain ⟨rfl, rfl⟩ := q
   rw [ho]
   exact ⟨l.length, bn, by rw [new]; rfl, by rw [new]; rfl⟩
  ·obtain ⟨n, n1, n2, n3⟩ := si.exp w k hk x hx fun e => by have := hxj e; have : x ≠ j := fun q2 => q ⟨e, q2⟩; omega
   exact ⟨n, inn n n1, by rw [old n n1]; exact n2, by rw [old n n1]; exact n3⟩
 ·rcases cas n hn with q | rfl
  ·rw [old n q]
   rcases si.cov n q with r | ⟨k, r, r2⟩
   ·exact .inl ((hh n).2 (.inl r))
   ·exact .inr ⟨k, r, by rw [old k (si.clo _ k r).1]; exact r2⟩
  ·exact .inl ((hh _).2 (.inr rfl))
 ·rw [old k (si.clo w k hk).1]
  rcases (hh i).1 hi with q | rfl
  ·rw [old i (si.inh i q)]; exact si.ord w k hk i q
  ·rw [new]
   have := hm w k hk
   show (gt l k).cost ≤ (gt l v).cost + (gt t.ops o).cost
   omega
 ·rcases (hh i).1 hi with q | rfl
  ·exact inn i (si.inh i q)
  ·exact bn
end
theorem HpO.pop {c : Int → Int} {h : List Int} {n : Nat} (ho : HpO c h (n + 1 : Nat)) (hl : h.length = n + 1) : HeD c (swp h 0 n) n 0 := by
 have b0 : inb h 0 := ⟨by omega, by omega⟩
 have bn : inb h n := ⟨by omega, by omega⟩
 refine ⟨fun j h0 hj hp => ?_, fun j _ _ _ h => absurd h (by omega)⟩
 have hpj : 0 ≤ parH j ∧ parH j < j := by unfold parH; omega
 rw [gt_swp b0 bn ⟨hpj.1, by omega⟩, gt_swp b0 bn ⟨by omega, by omega⟩, if_neg (by omega), if_neg hp, if_neg (by omega), if_neg (by omega)]
 exact ho j h0 (by omega)
theorem HpO.push {c : Int → Int} {h : List Int} {n : Nat} (ho : HpO c h n) (hl : h.length = n) (x : Int) : HeU c (h ++ [x]) (n + 1 : Nat) n := by
 have old : ∀ i : Int, 0 ≤ i → i < n → gt (h ++ [x]) i = gt h i := fun i i0 hi => by
  obtain ⟨i', rfl⟩ : ∃ i' : Nat, i = i' := ⟨i.toNat, (Int.toNat_of_nonneg i0).symm⟩
  exact gt_snoc (by omega) x
 refine ⟨fun j h0 hj hn => ?_, fun j h0 hj hp _ => ?_⟩
 ·have hpj : 0 ≤ parH j ∧ parH j < j := by unfold parH; omega
  rw [old _ hpj.1 (by omega), old j (by omega) (by omega)]
  exact ho j h0 (by omega)
 ·have hpj : 0 ≤ parH j ∧ parH j < j := by unfold parH; omega
  omega
section
variable {a b : Task} (ta : TaskOK a) (tb : TaskOK b)
include ta tb
theorem prod_least {d : Int} (hp : PCost (prodT a b) (prodT a b).init d) (hm : ∀ c, PCost (prodT a b) (prodT a b).init c → d ≤ c) (h1 : (sp_optimal a).2.code = 0) (h2 : (sp_optimal b).2.code = 0) : (sp_optimal a).1 ≠ 1000000000 ∧ (sp_optimal b).1 ≠ 1000000000 ∧ IntKind.i64.wrap ((sp_optimal a).1 + (sp_optimal b).1) = d := by
 obtain ⟨n, hn⟩ := hp
 obtain ⟨ca, cb, ha, hb, e⟩ := prod_split ta tb n _ _ hn a.init b.init rfl ta.init tb.init
 rcases (optimal_spec h1).2 with ⟨_, q⟩ | ⟨a1, a2, a3⟩
 ·exact absurd ha (q ca)
 rcases (optimal_spec h2).2 with ⟨_, q⟩ | ⟨b1, b2, b3⟩
 ·exact absurd hb (q cb)
 have := a3 ca ha
 have := b3 cb hb
 obtain ⟨k, hk⟩ := a2
 have := hm _ (prod_join ta tb hk b.init (sp_optimal b).1 ta.init tb.init b2)
 have := hk.nonneg ta
 obtain ⟨k2, hk2⟩ := b2
 have := hk2.nonneg tb
 exact ⟨by omega, by omega, by rw [w64 (by omega)]; omega⟩
theorem prod_none (hm : ∀ c, ¬ PCost (prodT a b) (prodT a b).init c) (h1 : (sp_optimal a).2.code = 0) (h2 : (sp_optimal b).2.code = 0) (ha : (sp_optimal a).1 ≠ 1000000000) : (sp_optimal b).1 = 1000000000 := by
 rcases (optimal_spec h1).2 with ⟨q, _⟩ | ⟨a1, a2, a3⟩
 ·exact absurd q ha
 rcases (optimal_spec h2).2 with ⟨q, _⟩ | ⟨b1, b2, b3⟩
 ·exact q
 obtain ⟨k, hk⟩ := a2
 exact absurd (prod_join ta tb hk b.init (sp_optimal b).1 ta.init tb.init b2) (hm _)
end
end Go.Proofs.YtimillpakjgnoaaGreat.Pl

namespace Go.Proofs.YtimillpakjgnoaaGreat.Pl
open Go Go.RowKit
def cst (l : List Node) (i : Int) : Int := (gt l i).cost
def LI1 (t : Task) (_ : Int) (m : List (Int × Int)) (l : List Node) (h : List Int) : Prop := SI t m l h (-1) 0 ∧ HpO (cst l) h h.length ∧ h.length ≤ l.length ∧ l.length ≤ 1 + 40 * m.length
def LM1 (_ : Int) (m : List (Int × Int)) (_ : List Node) (h : List Int) : Nat := 41 * (2001 - m.length) + h.length
def LI2 (t : Task) (m : List (Int × Int)) (l : List Node) (v : Int) (n : Nat) (i : Int) (l6 : List Node) (l7 : List Int) : Prop := ∃ j : Nat, i = j ∧ j ≤ (sp_stubborn t (gt l v).state).length ∧ SI t m l6 l7 v j ∧ HpO (cst l6) l7 l7.length ∧ l7.length = n + j ∧ l6.length = l.length + j ∧ gt l6 v = gt l v ∧ ∀ w k, getA m w = some k → (gt l6 k).cost ≤ (gt l6 v).cost
def LM2 (k : Nat) (i : Int) (_ : List Node) (_ : List Int) : Nat := ((k : Int) - i).toNat
def LI3 (L6 : List Node) (k : Nat) (l7 : List Int) (j : Int) (h : List Int) : Prop := (0 ≤ j ∧ j < h.length) ∧ h.length = l7.length + 1 ∧ (∀ x, x ∈ h ↔ x ∈ l7 ∨ x = (k : Int)) ∧ HeU (cst L6) h h.length j
def LI4 (l : List Node) (l2 : List Int) (n : Nat) (i : Int) (h : List Int) : Prop := (0 ≤ i ∧ i ≤ n) ∧ h.length = n + 1 ∧ (∀ x, x ∈ h ↔ x ∈ l2) ∧ gt h n = gt l2 0 ∧ HeD (cst l) h n i
theorem lp_L3 {r2 : Task × Fault} {l l6 : List Node} {l2 l5 l7 r15 r16 : List Int} {I2 : Int → List Node → List Int → Prop} {μ2 : Int → List Node → List Int → Nat} {t68 : Int} {nd : Node}
  (hnd : (⟨r16, IntKind.i64.wrap (((gt l (gt l5 (IntKind.i64.wrap (((l2.length : Nat) : Int) - 1)))).cost) + ((gt r2.1.ops (gt r15 t68)).cost)), (gt l5 (IntKind.i64.wrap (((l2.length : Nat) : Int) - 1))), (gt r15 t68)⟩ : Node) = nd)
  (hb : l7.length ≤ 200000) (hin : ∀ i ∈ l7, inb l6 i)
  (hend : ∀ h' : List Int, h'.length = l7.length + 1 → (∀ x, x ∈ h' ↔ x ∈ l7 ∨ x = (l6.length : Int)) → HpO (cst (l6 ++ [nd])) h' h'.length → F_lawProd_J9 I2 μ2 t68 l6 l7 (l6 ++ [nd]) h')
  {j : Int} {l12 : List Int} (hI : LI3 (l6 ++ [nd]) l6.length l7 j l12) : F_lawProd_L3 r2 j l l2 I2 μ2 r15 (LI3 (l6 ++ [nd]) l6.length l7) (fun j _ => j.toNat) l5 t68 l6 l7 l12 r16 := by
 obtain ⟨hj, hl, hm, hu⟩ := hI
 unfold F_lawProd_L3 F_lawProd_J10
 rw [hnd]
 by_cases j0 : j = 0
 ·subst j0
  have e : IntKind.i64.wrap (Int.tdiv (IntKind.i64.wrap ((0 : Int) - 1)) 2) = 0 := by rw [w64 (n := 0 - 1) (by omega), show Int.tdiv ((0 : Int) - 1) 2 = 0 from rfl, w64 (by omega)]
  rw [e]
  exact ⟨fun _ => hend l12 hl hm (hu.stop fun h => absurd h (by omega)), fun q => absurd q (by decide)⟩
 ·have e : IntKind.i64.wrap (Int.tdiv (IntKind.i64.wrap (j - 1)) 2) = parH j := by
   rw [w64 (n := j - 1) (by omega), Int.tdiv_eq_ediv_of_nonneg (by omega)]
   unfold parH
   exact w64 (by omega)
  rw [e]
  have hp : 0 ≤ parH j ∧ parH j < j := by unfold parH; omega
  have bj : inb l12 j := ⟨hj.1, hj.2⟩
  have bp : inb l12 (parH j) := ⟨hp.1, by omega⟩
  have inn : ∀ i, i ∈ l12 → inb (l6 ++ [nd]) i := fun i hi => by
   have e : (l6 ++ [nd]).length = l6.length + 1 := by rw [List.length_append, List.length_singleton]
   rcases (hm i).1 hi with q | rfl
   ·have := hin i q; exact ⟨this.1, by have := this.2; omega⟩
   ·exact ⟨by omega, by omega⟩
  have hstop : (gt (l6 ++ [nd]) (gt l12 (parH j))).cost ≤ (gt (l6 ++ [nd]) (gt l12 j)).cost → F_lawProd_J9 I2 μ2 t68 l6 l7 (l6 ++ [nd]) l12 := fun h => hend l12 hl hm (hu.stop fun _ _ => h)
  have hrise : (gt (l6 ++ [nd]) (gt l12 j)).cost ≤ (gt (l6 ++ [nd]) (gt l12 (parH j))).cost → LI3 (l6 ++ [nd]) l6.length l7 (parH j) (swp l12 (parH j) j) ∧ (parH j).toNat < j.toNat := fun h =>
   ⟨⟨⟨hp.1, by rw [swp_len]; omega⟩, by rw [swp_len]; exact hl, fun x => by rw [mem_swp bp bj]; exact hm x, by rw [swp_len]; exact hu.rise (Int.le_refl _) (by omega) hj.2 rfl h⟩, by omega⟩
  have hset : inb (l12.set (parH j).toNat (gt l12 j)) j := ⟨hj.1, by rw [List.length_set]; exact hj.2⟩
  refine ⟨fun q => absurd (by simpa using q) (show ¬ parH j = j by omega), fun _ => ⟨bj, inn _ (gt_mem bj), bp, inn _ (gt_mem bp), ?_⟩⟩
  rintro _ rfl
  refine ⟨fun q => ⟨fun q2 => (by cases q2), fun _ => ?_⟩, fun q => ?_⟩
  ·rintro _ rfl
   refine ⟨hset, ?_⟩
   rintro _ rfl
   exact hrise (by have := of_decide_eq_true q; omega)
  ·have q := of_decide_eq_false q
   rintro _ rfl
   refine ⟨fun q2 => ?_, fun q2 => ⟨fun _ => hstop (by omega), fun q3 => (by cases q3)⟩⟩
   rintro _ rfl
   have q2 : (gt (l6 ++ [nd]) (gt l12 j)).cost = (gt (l6 ++ [nd]) (gt l12 (parH j))).cost := by simpa using q2
   refine ⟨fun _ => hstop (by omega), fun _ => ?_⟩
   rintro _ rfl
   refine ⟨hset, ?_⟩
   rintro _ rfl
   exact hrise (by omega)
theorem lp_L4 {K : Bool → Prop} {r2 : Task × Fault} {r4 r5 : Int × Fault} {x : Int} {l : List Node} {l2 : List Int} {m : List (Int × Int)} {I1 : Int → List (Int × Int) → List Node → List Int → Prop} {μ1 : Int → List (Int × Int) → List Node → List Int → Nat} {n : Nat}
  (hn : l2.length = n + 1) (hb : n ≤ 200000) (hin : ∀ i ∈ l2, inb l i)
  (hend : ∀ h' : List Int, h'.length = n + 1 → (∀ x, x ∈ h' ↔ x ∈ l2) → gt h' n = gt l2 0 → HpO (cst l) h' n → F_lawProd_J6 K r2 r4 r5 x l l2 m h' I1 μ1)
  {i2 : Int} {l14 : List Int} (hI : LI4 l l2 n i2 l14) : F_lawProd_L4 K r2 r4 r5 x l i2 l2 m (LI4 l l2 n) (fun i _ => ((n : Int) - i).toNat) I1 μ1 l14 := by
 obtain ⟨hi, hl, hm, hr, hd⟩ := hI
 have e1 : IntKind.i64.wrap (((l2.length : Nat) : Int) - 1) = (n : Int) := by rw [w64 (by omega)]; omega
 have e2 : IntKind.i64.wrap (IntKind.i64.wrap (2 * i2) + 1) = 2 * i2 + 1 := by rw [w64 (n := 2 * i2) (by omega), w64 (by omega)]
 have e3 : IntKind.i64.wrap (2 * i2 + 1 + 1) = 2 * i2 + 2 := by rw [w64 (by omega)]; omega
 have inl : ∀ k, inb l14 k → inb l (gt l14 k) := fun k hk => hin _ ((hm _).1 (gt_mem hk))
 have bi : inb l14 i2 := ⟨hi.1, by omega⟩
 have core : ∀ j3 : Int, parH j3 = i2 → 0 < j3 → j3 < n → (∀ y : Int, 0 < y → y < n → parH y = i2 → (gt l (gt l14 j3)).cost ≤ (gt l (gt l14 y)).cost) → F_lawProd_J12 K r2 r4 r5 x l i2 l2 m j3 (LI4 l l2 n) (fun i _ => ((n : Int) - i).toNat) I1 μ1 l14 := fun j3 hp j0 hj hmin => by
  have bj : inb l14 j3 := ⟨by omega, by omega⟩
  have hij : i2 < j3 := by unfold parH at hp; omega
  have hstop : (gt l (gt l14 i2)).cost ≤ (gt l (gt l14 j3)).cost → F_lawProd_J6 K r2 r4 r5 x l l2 m l14 I1 μ1 := fun h => hend l14 hl hm hr (hd.stop fun y y0 yn yp => Int.le_trans h (hmin y y0 yn yp))
  have hdown : (gt l (gt l14 j3)).cost ≤ (gt l (gt l14 i2)).cost → ∀ d6 : List Int, d6 = (l14.set (i2).toNat (gt l14 j3)) → (inb d6 j3) ∧ ∀ d7 : List Int, d7 = (d6.set (j3).toNat (gt l14 i2)) → LI4 l l2 n j3 d7 ∧ ((n : Int) - j3).toNat < ((n : Int) - i2).toNat := fun h => by
   rintro _ rfl
   refine ⟨⟨by omega, by rw [List.length_set]; omega⟩, ?_⟩
   rintro _ rfl
   refine ⟨?_, by omega⟩
   show LI4 l l2 n j3 (swp l14 i2 j3)
   exact ⟨⟨by omega, by omega⟩, by rw [swp_len]; exact hl, fun y => by rw [mem_swp bi bj]; exact hm y, by rw [gt_swp bi bj ⟨by omega, by omega⟩, if_neg (by omega), if_neg (by omega)]; exact hr, hd.down (by omega) hi.1 j0 hj hp h hmin⟩
  unfold F_lawProd_J12 F_lawProd_J13
  refine ⟨bj, inl _ bj, bi, inl _ bi, fun q => ⟨fun q2 => (by cases q2), fun _ => hdown (by have := of_decide_eq_true q; omega)⟩, fun q => ?_⟩
  have q := of_decide_eq_false q
  refine ⟨fun q2 => ⟨fun _ => hstop (by omega), fun _ => hdown ?_⟩, fun q2 => ⟨fun _ => hstop (by omega), fun q3 => (by cases q3)⟩⟩
  have q2 : (gt l (gt l14 j3)).cost = (gt l (gt l14 i2)).cost := by simpa using q2
  omega
 unfold F_lawProd_L4 F_lawProd_J14 F_lawProd_J11
 rw [e1, e2]
 rintro _ rfl
 refine ⟨fun q => ?_, fun q => ?_⟩
 ·have q := of_decide_eq_true q
  exact hend l14 hl hm hr (hd.stop fun y y0 yn yp => absurd yp (by unfold parH; omega))
 have q := of_decide_eq_false q
 rintro _ rfl
 refine ⟨fun q2 => ?_, fun _ => ?_⟩
 ·have := of_decide_eq_true q2; omega
 rintro _ rfl
 rw [e3]
 have pl : parH (2 * i2 + 1) = i2 := by unfold parH; omega
 have pr : parH (2 * i2 + 2) = i2 := by unfold parH; omega
 have ch : ∀ y, parH y = i2 → y = 2 * i2 + 1 ∨ y = 2 * i2 + 2 := fun y hy => by unfold parH at hy; omega
 rintro _ rfl
 refine ⟨fun q2 => ?_, fun q2 => ⟨fun q3 => (by cases q3), fun _ => ?_⟩⟩
 ·have q2 := of_decide_eq_true q2
  have right : (gt l (gt l14 (2 * i2 + 2))).cost ≤ (gt l (gt l14 (2 * i2 + 1))).cost → F_lawProd_J12 K r2 r4 r5 x l i2 l2 m (2 * i2 + 2) (LI4 l l2 n) (fun i _ => ((n : Int) - i).toNat) I1 μ1 l14 := fun h => core _ pr (by omega) q2 fun y _ _ hy => by
   rcases ch y hy with rfl | rfl
   ·exact h
   ·exact Int.le_refl _
  have left : (gt l (gt l14 (2 * i2 + 1))).cost ≤ (gt l (gt l14 (2 * i2 + 2))).cost → F_lawProd_J12 K r2 r4 r5 x l i2 l2 m (2 * i2 + 1) (LI4 l l2 n) (fun i _ => ((n : Int) - i).toNat) I1 μ1 l14 := fun h => core _ pl (by omega) (by omega) fun y _ _ hy => by
   rcases ch y hy with rfl | rfl
   ·exact Int.le_refl _
   ·exact h
  have b2 : inb l14 (2 * i2 + 2) := ⟨by omega, by omega⟩
  have b1 : inb l14 (2 * i2 + 1) := ⟨by omega, by omega⟩
  refine ⟨b2, inl _ b2, b1, inl _ b1, ?_⟩
  rintro _ rfl
  refine ⟨fun q3 => ⟨fun _ => right (by have := of_decide_eq_true q3; omega), fun q4 => (by cases q4)⟩, fun q3 => ?_⟩
  have q3 := of_decide_eq_false q3
  rintro _ rfl
  refine ⟨fun q4 => ?_, fun q4 => ⟨fun q5 => (by cases q5), fun _ => left (by omega)⟩⟩
  have q4 : (gt l (gt l14 (2 * i2 + 2))).cost = (gt l (gt l14 (2 * i2 + 1))).cost := by simpa using q4
  rintro _ rfl
  exact ⟨fun _ => right (by omega), fun _ => left (by omega)⟩
 ·have q2 := of_decide_eq_false q2
  exact core _ pl (by omega) (by omega) fun y _ hy hp => by
   rcases ch y hp with rfl | rfl
   ·exact Int.le_refl _
   ·omega
theorem mem_takeN {h : List Int} {n : Nat} (hl : h.length = n + 1) {x : Int} (hx : x ∈ h) : x ∈ h.take n ∨ x = gt h n := by
 obtain ⟨k, hk, rfl⟩ := mem_gt hx
 by_cases q : k < n
 ·left
  have e : gt (h.take n) (k : Int) = gt h (k : Int) := by
   rw [gt_of ⟨by omega, by rw [List.length_take]; omega⟩, gt_of ⟨by omega, by omega⟩]
   simp
  rw [← e]
  exact gt_memN (by rw [List.length_take]; omega)
 ·right
  rw [show k = n by omega]
section
variable {a b : Task}
theorem lp_J4t : F_lawProd_J4 (fun r => r = sp_lawProd a b) (sp_optimal a) (sp_optimal b) true := by
 unfold F_lawProd_J4
 refine ⟨fun _ => ⟨fun _ => rfl, fun _ => ⟨fun _ => rfl, fun _ => ?_⟩⟩, fun q => by cases q⟩
 rintro _ rfl
 rfl
theorem lp_J15t (h : (sp_optimal a).2.code = 10 ∨ (sp_optimal b).2.code = 10) : F_lawProd_J15 (fun r => r = sp_lawProd a b) (sp_optimal a) (sp_optimal b) true := by
 unfold F_lawProd_J15
 refine ⟨fun _ => ⟨fun _ => rfl, fun q1 => ⟨fun _ => rfl, fun q2 => ?_⟩⟩, fun q => by cases q⟩
 rcases h with h | h
 ·rw [h] at q1; exact absurd q1 (by decide)
 ·rw [h] at q2; exact absurd q2 (by decide)
theorem lp_J15f (h : (sp_optimal a).1 ≠ 1000000000 → (sp_optimal b).1 = 1000000000) : F_lawProd_J15 (fun r => r = sp_lawProd a b) (sp_optimal a) (sp_optimal b) (0 != 0) := by
 unfold F_lawProd_J15 F_lawProd_J16
 refine ⟨fun q => absurd q (by decide), fun _ => ⟨fun _ => ⟨fun _ => rfl, fun q => by cases q⟩, fun q => ?_⟩⟩
 rw [h (by simpa using q)]
 exact ⟨fun _ => rfl, fun q => absurd q (by decide)⟩
theorem lp_J7t {l : List Node} {l2 l5 : List Int} (h : (sp_optimal a).2.code = 10 ∨ (sp_optimal b).2.code = 10) : F_lawProd_J7 (fun r => r = sp_lawProd a b) (sp_optimal a) (sp_optimal b) l l2 l5 true := by
 unfold F_lawProd_J7
 refine ⟨fun _ => ⟨fun _ => rfl, fun q1 => ⟨fun _ => rfl, fun q2 => ?_⟩⟩, fun q => by cases q⟩
 rcases h with h | h
 ·rw [h] at q1; exact absurd q1 (by decide)
 ·rw [h] at q2; exact absurd q2 (by decide)
theorem lp_J7f {l : List Node} {l2 l5 : List Int} (h : (sp_optimal a).1 ≠ 1000000000 ∧ (sp_optimal b).1 ≠ 1000000000 ∧ IntKind.i64.wrap ((sp_optimal a).1 + (sp_optimal b).1) = (gt l (gt l5 (IntKind.i64.wrap (((l2.length : Nat) : Int) - 1)))).cost) : F_lawProd_J7 (fun r => r = sp_lawProd a b) (sp_optimal a) (sp_optimal b) l l2 l5 (0 != 0) := by
 unfold F_lawProd_J7 F_lawProd_J8
 refine ⟨fun q => absurd q (by decide), fun _ => ⟨fun q => absurd (by simpa using q) h.1, fun _ => ⟨fun q => absurd (by simpa using q) h.2.1, fun _ => ?_⟩⟩⟩
 rintro _ rfl
 rw [h.2.2]
 simp [sp_lawProd]
variable (ta : TaskOK a) (tb : TaskOK b)
include ta tb
theorem codes (h : ¬ ((sp_optimal a).2.code = 0 ∧ (sp_optimal b).2.code = 0)) : (sp_optimal a).2.code = 10 ∨ (sp_optimal b).2.code = 10 := by
 by_cases q : (sp_optimal a).2.code = 0
 ·exact .inr (optimal_code (validate_of tb) fun q2 => h ⟨q, q2⟩)
 ·exact .inl (optimal_code (validate_of ta) q)
theorem lp_J6 {t : Task} {f : Fault} (et : t = prodT a b) (tk : TaskOK t) {R : List (List Int)} (hR : ∀ s, ReachS t s → s ∈ R) (hRl : R.length ≤ 2000) {x : Int} {l : List Node} {l2 l5 : List Int} {m : List (Int × Int)} {n : Nat}
  (hI : LI1 t x m l l2) (hn : l2.length = n + 1) (h5 : l5.length = n + 1) (h5m : ∀ x, x ∈ l5 ↔ x ∈ l2) (h5r : gt l5 n = gt l2 0) (ho : HpO (cst l) l5 n) :
  F_lawProd_J6 (fun r => r = sp_lawProd a b) (t, f) (sp_optimal a) (sp_optimal b) x l l2 m l5 (LI1 t) LM1 := by
 obtain ⟨si, hp, hh, hl⟩ := hI
 have hm := si.count hR
 have hv := validate_of tk
 have e1 : IntKind.i64.wrap (((l2.length : Nat) : Int) - 1) = (n : Int) := by rw [w64 (by omega)]; omega
 have bn : inb l5 (n : Int) := ⟨by omega, by omega⟩
 have hmin : ∀ i ∈ l2, (gt l (gt l2 0)).cost ≤ (gt l i).cost := fun i hi => by
  obtain ⟨k, hk, rfl⟩ := mem_gt hi
  exact hp.root k k (by omega) (by omega) (by omega)
 have m0 : gt l2 0 ∈ l2 := gt_mem ⟨by omega, by omega⟩
 have cst_eq : (gt l2 0) = gt l5 n := h5r.symm
 generalize hvv : gt l2 0 = v at hmin m0 cst_eq
 have bv := si.inh v m0
 have sv := si.set tk bv
 have tkn : ((n : Int)).toNat = n := by omega
 have ht1 : ∀ y, y ∈ l2 → y ∈ l5.take n ∨ y = v := fun y hy => by rw [cst_eq]; exact mem_takeN h5 ((h5m y).2 hy)
 have ht2 : ∀ y ∈ l5.take n, y ∈ l2 := fun y hy => (h5m y).1 (List.mem_of_mem_take hy)
 have htl : (l5.take n).length = n := by rw [List.length_take]; omega
 have hto : HpO (cst l) (l5.take n) (l5.take n).length := by rw [htl]; exact ho.take (by omega)
 unfold F_lawProd_J6
 rw [e1, ← cst_eq, tkn]
 refine ⟨bn, ⟨by omega, by omega⟩, ?_⟩
 rintro _ rfl
 refine ⟨bv, wordC_pre tk.facts sv, ?_⟩
 rintro _ rfl
 refine ⟨fun q => ⟨⟨si.drop m0 ht1 ht2 q, hto, by omega, hl⟩, by unfold LM1; omega⟩, fun q => ?_⟩
 have q : getA m (sp_wordC (gt l v).state) = none := by simpa using q
 rintro _ rfl
 rintro _ rfl
 have hml : (setA m (sp_wordC (gt l v).state) v).length = m.length + 1 := by rw [setA_new q, List.length_append, List.length_singleton]
 refine ⟨⟨by have := set_len tk.facts.1 sv; have := tk.facts.2; omega, (show t.goal.length ≤ 1000 from by have := set_len tk.facts.1 tk.goal; have := tk.facts.2; omega), set_sorted sv, set_sorted tk.goal⟩, ?_⟩
 rintro _ rfl
 refine ⟨fun g => ?_, fun g => ?_⟩
 ·refine ⟨⟨by omega, bv, si.node.par⟩, ?_⟩
  intro _ _
  by_cases hc : (sp_optimal a).2.code = 0 ∧ (sp_optimal b).2.code = 0
  ·refine ⟨fun q => absurd hc.1 (by simpa using q), fun _ => ⟨fun q => absurd hc.2 (by simpa using q), fun _ => ?_⟩⟩
   obtain ⟨f1, f2⟩ := si.found tk m0 hmin g
   subst et
   refine lp_J7f ?_
   rw [e1, ← cst_eq]
   exact prod_least ta tb f1 f2 hc.1 hc.2
  ·have hc2 := codes ta tb hc
   refine ⟨fun _ => lp_J7t hc2, fun q1 => ⟨fun _ => lp_J7t hc2, fun q2 => absurd ⟨by simpa using q1, by simpa using q2⟩ hc⟩⟩
 ·refine ⟨⟨hv, sv⟩, ?_⟩
  intro r15 hr15
  have sc := si.close (h' := l5.take n) m0 hmin ht1 ht2 q g
  have hm3 := sc.count hR
  have hst : r15.length ≤ 40 := by rw [hr15]; show (sp_stubborn t (gt l v).state).length ≤ 40; have := stub_len t (gt l v).state; have := tk.len; omega
  refine ⟨LI2 t (setA m (sp_wordC (gt l v).state) v) l v n, LM2 r15.length, ⟨0, rfl, Nat.zero_le _, sc, hto, by omega, by omega, rfl, fun w k hk => ?_⟩, ?_⟩
  ·rw [getA_setA] at hk
   split at hk
   ·cases hk; exact Int.le_refl _
   ·exact si.ord w k hk v m0
  rintro _ l6 l7 ⟨j, rfl, j1, s6, o7, n7, n6, e6, c6⟩
  rw [← hr15] at j1
  unfold F_lawProd_L2
  rw [e1, ← cst_eq]
  refine ⟨fun g2 => ?_, fun g2 => ?_⟩
  ·have g2 := of_decide_eq_true g2
   have hj : j < r15.length := by omega
   have hjs : j < (sp_stubborn t (gt l6 v).state).length := by rw [e6, ← hr15]; exact hj
   have ob : inb t.ops (gt r15 (j : Int)) := by rw [hr15]; exact (stub_mem (gt_memN (by rw [← hr15]; exact hj))).1
   have vc := si.node.cost v bv
   have v2 := bv.2
   have oc := op_cost tk ob
   refine ⟨⟨by omega, g2⟩, ob, ⟨hv, ob, sv⟩, ?_⟩
   intro r16 hr16
   have hnd : (⟨r16, IntKind.i64.wrap (((gt l v).cost) + ((gt t.ops (gt r15 (j : Int))).cost)), v, (gt r15 (j : Int))⟩ : Node) = wayOn t l6 v (gt (sp_stubborn t (gt l6 v).state) (j : Int)) := by
    unfold wayOn
    rw [w64 (by omega), e6, ← hr15, hr16]
   rw [hnd]
   generalize hw : wayOn t l6 v (gt (sp_stubborn t (gt l6 v).state) (j : Int)) = nd at *
   have hnd2 := hnd
   rw [cst_eq, ← e1] at hnd2
   have hl6 : (l6 ++ [nd]).length = l6.length + 1 := by rw [List.length_append, List.length_singleton]
   refine ⟨⟨by rw [hl6]; simp only [maxLen]; omega, by rw [hl6]; omega⟩, ?_⟩
   rintro _ rfl
   have hl7 : ∀ y : Int, (l7 ++ [y]).length = l7.length + 1 := fun y => by rw [List.length_append, List.length_singleton]
   refine ⟨⟨by rw [hl7]; simp only [maxLen]; omega, by rw [hl7]; omega⟩, ?_⟩
   rintro _ rfl
   rw [hl6, hl7]
   have e2 : IntKind.i64.wrap (((l6.length + 1 : Nat) : Int) - 1) = l6.length := by rw [w64 (by omega)]; omega
   have e3 : IntKind.i64.wrap (((l7.length + 1 : Nat) : Int) - 1) = l7.length := by rw [w64 (by omega)]; omega
   rw [e2, e3]
   have oldc : ∀ y ∈ l7, cst (l6 ++ [nd]) y = cst l6 y := fun y hy => by
    have hb := s6.inh y hy
    obtain ⟨y', rfl⟩ : ∃ y' : Nat, y = y' := ⟨y.toNat, (Int.toNat_of_nonneg hb.1).symm⟩
    unfold cst
    rw [gt_snoc (by have := hb.2; omega)]
   refine ⟨LI3 (l6 ++ [nd]) l6.length l7, fun j _ => j.toNat, ⟨⟨by omega, by rw [hl7]; omega⟩, hl7 _, fun y => by rw [List.mem_append, List.mem_singleton], ?_⟩, ?_⟩
   ·rw [hl7]
    exact (o7.congr (Int.le_refl _) oldc).push rfl _
   ·intro j3 l12 hI3
    refine lp_L3 hnd2 (by omega) s6.inh (fun h' hl' hm' ho' => ?_) hI3
    unfold F_lawProd_J9
    have e4 : IntKind.i64.wrap ((j : Int) + 1) = ((j + 1 : Nat) : Int) := by rw [w64 (by omega)]; omega
    rw [e4]
    have bv6 : inb l6 v := ⟨bv.1, by omega⟩
    refine ⟨⟨j + 1, rfl, by rw [← hr15]; omega, ?_, ho', by omega, by rw [hl6]; omega, ?_, fun w k hk => ?_⟩, by unfold LM2; omega⟩
    ·rw [← hw]
     refine s6.push tk bv6 ?_ c6 hjs hm'
     rw [e6, getA_setA, if_pos rfl]
    ·rw [← e6]
     obtain ⟨v', rfl⟩ : ∃ v' : Nat, v = v' := ⟨v.toNat, (Int.toNat_of_nonneg bv.1).symm⟩
     exact gt_snoc (by have := bv6.2; omega) nd
    ·have old : ∀ y, inb l6 y → gt (l6 ++ [nd]) y = gt l6 y := fun y hb => by
      obtain ⟨y', rfl⟩ : ∃ y' : Nat, y = y' := ⟨y.toNat, (Int.toNat_of_nonneg hb.1).symm⟩
      exact gt_snoc (by have := hb.2; omega) nd
     rw [old k (s6.clo w k hk).1, old v bv6]
     exact c6 w k hk
  ·have g2 := of_decide_eq_false g2
   have hj : j = r15.length := by omega
   have e4 : (sp_stubborn t (gt l6 v).state).length ≤ j := by rw [e6, ← hr15]; omega
   refine ⟨⟨s6.full e4, o7, by omega, by omega⟩, by unfold LM1; omega⟩
theorem lp_L1 {t : Task} {f : Fault} (et : t = prodT a b) (tk : TaskOK t) {R : List (List Int)} (hR : ∀ s, ReachS t s → s ∈ R) (hRl : R.length ≤ 2000) {x : Int} {l : List Node} {l2 : List Int} {m : List (Int × Int)}
  (hI : LI1 t x m l l2) : F_lawProd_L1 (fun r => r = sp_lawProd a b) (t, f) (sp_optimal a) (sp_optimal b) x l l2 m (LI1 t) LM1 := by
 obtain ⟨si, hp, hh, hl⟩ := id hI
 have hm := si.count hR
 unfold F_lawProd_L1
 refine ⟨fun q => ?_, fun q => ?_⟩
 ·have q := of_decide_eq_true q
  obtain ⟨n, hn⟩ : ∃ n, l2.length = n + 1 := ⟨l2.length - 1, by omega⟩
  have e1 : IntKind.i64.wrap (((l2.length : Nat) : Int) - 1) = (n : Int) := by rw [w64 (by omega)]; omega
  rw [e1]
  have b0 : inb l2 0 := ⟨by omega, by omega⟩
  have bn : inb l2 n := ⟨by omega, by omega⟩
  refine ⟨bn, b0, ?_⟩
  rintro _ rfl
  refine ⟨⟨by omega, by rw [List.length_set]; omega⟩, ?_⟩
  rintro _ rfl
  rw [hn] at hp
  refine ⟨LI4 l l2 n, fun i _ => ((n : Int) - i).toNat, ?_, fun i2 l14 hI4 => lp_L4 hn (by omega) si.inh (fun h' a1 a2 a3 a4 => lp_J6 ta tb et tk hR hRl hI hn a1 a2 a3 a4) hI4⟩
  show LI4 l l2 n 0 (swp l2 0 n)
  exact ⟨⟨by omega, by omega⟩, by rw [swp_len]; exact hn, fun y => mem_swp b0 bn, by rw [gt_swp b0 bn bn, if_pos rfl], hp.pop hn⟩
 ·have q := of_decide_eq_false q
  by_cases hc : (sp_optimal a).2.code = 0 ∧ (sp_optimal b).2.code = 0
  ·refine ⟨fun q => absurd hc.1 (by simpa using q), fun _ => ⟨fun q => absurd hc.2 (by simpa using q), fun _ => ?_⟩⟩
   subst et
   exact lp_J15f (prod_none ta tb (si.noPlan tk (List.length_eq_zero_iff.1 (by omega))) hc.1 hc.2)
  ·have hc2 := codes ta tb hc
   exact ⟨fun _ => lp_J15t hc2, fun q1 => ⟨fun _ => lp_J15t hc2, fun q2 => absurd ⟨by simpa using q1, by simpa using q2⟩ hc⟩⟩
end
theorem reachable_list {t : Task} (h : 0 ≤ sp_reachable t) : ∃ R : List (List Int), (∀ s, ReachS t s → s ∈ R) ∧ R.length ≤ 2000 := by
 unfold sp_reachable at h
 split at h
 ·rename_i hex
  obtain ⟨R, _, h2, h3⟩ := hex
  exact ⟨R, fun s hs => (h2 s).2 hs, h3⟩
 ·omega
theorem lp_J1t {a b : Task} {f : Fault} : F_lawProd_J1 a b (fun r => r = sp_lawProd a b) (noTask, f) true := by
 unfold F_lawProd_J1
 refine ⟨fun _ => ?_, fun q => by cases q⟩
 rintro _ rfl
 exact ⟨fun _ => rfl, fun q => by cases q⟩
theorem ok_lawProd : ∀ (a : Task) (b : Task), F_lawProd a b (fun r => r = sp_lawProd a b) := fun a b => by
 unfold F_lawProd
 rintro _ rfl
 rintro _ rfl
 refine ⟨fun q => (by cases q), fun _ => ?_⟩
 unfold sp_product
 split
 ·rename_i va
  split
  ·rename_i vb
   split
   ·exact lp_J1t
   ·rename_i hn
    have ta := taskOK_of va
    have tb := taskOK_of vb
    have tk := prod_ok ta tb hn
    unfold F_lawProd_J1
    refine ⟨fun q => absurd (show ((0 : Int) != 0) = true from q) (by decide), fun _ => ?_⟩
    rintro _ rfl
    rintro _ rfl
    rintro _ rfl
    rw [show sp_validate (prodT a b, (⟨0, 0⟩ : Fault)).1 = ⟨0, 0⟩ from validate_of tk]
    refine ⟨fun q => absurd q (by decide), fun _ => ⟨validate_of tk, ?_⟩⟩
    rintro _ rfl
    refine ⟨fun _ => ⟨fun _ => lp_J4t, fun _ => ⟨fun _ => lp_J4t, fun _ => lp_J4t⟩⟩, fun q => ?_⟩
    have q := of_decide_eq_false q
    obtain ⟨R, r1, r2⟩ := reachable_list (t := prodT a b) (by have q : ¬ sp_reachable (prodT a b) < 0 := q; omega)
    refine ⟨LI1 (prodT a b), LM1, ⟨SI.start, fun j j0 hj => ?_, Nat.le_refl _, Nat.le_refl _⟩, fun x m l l2 hI => lp_L1 ta tb rfl tk r1 r2 hI⟩
    have : j < 1 := hj
    omega
  ·rename_i vb
   have h : ((⟨(sp_validate b).code, -9⟩ : Fault).code != 0) = true := by
    show ((sp_validate b).code != 0) = true
    simpa using fun h => vb (validate_code h)
   rw [h]
   exact lp_J1t
 ·rename_i va
  have h : ((sp_validate a).code != 0) = true := by simpa using fun h => va (validate_code h)
  rw [h]
  exact lp_J1t
end Go.Proofs.YtimillpakjgnoaaGreat.Pl

namespace Go.Proofs.YtimillpakjgnoaaGreat.Pl
open Go Go.RowKit
theorem ok_cloneO : ∀ (s_ : List Int), pre_clone s_ → F_cloneO s_ (fun r => r = sp_clone s_) := fun s hp => ok_clone s hp
theorem ok_optimalK : ∀ (t : Task), pre_optimalK t → F_optimalK t (fun r => r = sp_optimalK t) := fun t h => by
 unfold F_optimalK
 refine ⟨h, fun _ _ => ⟨by simp [pre_word], fun _ _ => ⟨by simp [pre_word], fun _ _ _ _ _ _ _ _ => ⟨by simp [pre_all], fun _ _ => ⟨by simp [pre_sortW, U32], fun _ _ => rfl⟩⟩⟩⟩⟩
theorem ok_kernWorks : F_kernWorks (fun r => r = sp_kernWorks) := by
 unfold F_kernWorks
 exact ⟨rfl, fun _ _ _ _ => rfl⟩
end Go.Proofs.YtimillpakjgnoaaGreat.Pl

namespace Go.Proofs.YtimillpakjgnoaaGreat.Pl
open Go Go.RowKit
abbrev tF (t : Task) (a : Option Addr) (c : Nat) (a2 : Option Addr) (c2 : Nat) (a3 : Option Addr) (c3 : Nat) (r : List Value := []) : List Value := iV t.facts :: vSl a t.init c :: vSl a2 t.goal c2 :: vSl a3 t.ops c3 :: r
theorem w_isNaN1 {h : FH} {w : World} (hs : Sub h w) (x : Int) (K : Bool → Prop) (hF : F_isNaN1 x K) : Calls Tryz.prog 99 #[iV x] w fun e w' => ∃ r : Bool, K r ∧ e = .returned (.bool r) ∧ Below w.heap.size w w' := by
 refine enter (args := [iV x]) Tryz.func99 rfl Tryz.ntmps99 rfl hs ?_
 refine .seq (.region (.V ag0 ?_))
 refine .nil (.seqN (.seq (.region (.V mv0 ?_))))
 refine .V mv0 ?_
 refine .V bi0 ?_
 refine .V ag0 ?_
 refine .nil (.seqN (.ret ?_))
 refine .res1 rfl (rvT rfl) (fun w' S => ⟨x != x, hF, rfl, S.below⟩)
theorem c_isNaN1 {h : FH} {w : World} (hs : Sub h w) (x : Int) : Calls Tryz.prog 99 #[iV x] w fun e w' => e = .returned (.bool (sp_isNaN1 x)) ∧ Below w.heap.size w w' :=
 (w_isNaN1 hs x (fun r => r = sp_isNaN1 x) (ok_isNaN1 x)).mono fun _ _ ⟨_, hk, he, hb⟩ => ⟨by rw [he, hk], hb⟩
theorem w_isNaN2 {h : FH} {w : World} (hs : Sub h w) (x : Int) (K : Bool → Prop) (hF : F_isNaN2 x K) : Calls Tryz.prog 129 #[iV x] w fun e w' => ∃ r : Bool, K r ∧ e = .returned (.bool r) ∧ Below w.heap.size w w' := by
 refine enter (args := [iV x]) Tryz.func129 rfl Tryz.ntmps129 rfl hs ?_
 refine .seq (.region (.V ag0 ?_))
 refine .nil (.seqN (.seq (.region (.V mv0 ?_))))
 refine .V mv0 ?_
 refine .V bi0 ?_
 refine .V ag0 ?_
 refine .nil (.seqN (.ret ?_))
 refine .res1 rfl (rvT rfl) (fun w' S => ⟨x != x, hF, rfl, S.below⟩)
theorem c_isNaN2 {h : FH} {w : World} (hs : Sub h w) (x : Int) : Calls Tryz.prog 129 #[iV x] w fun e w' => e = .returned (.bool (sp_isNaN1 x)) ∧ Below w.heap.size w w' :=
 (w_isNaN2 hs x (fun r => r = sp_isNaN1 x) (ok_isNaN2 x)).mono fun _ _ ⟨_, hk, he, hb⟩ => ⟨by rw [he, hk], hb⟩
theorem w_less {h : FH} {w : World} (hs : Sub h w) (x : Int) (y : Int) (K : Bool → Prop) (hF : F_less x y K) : Calls Tryz.prog 125 #[iV x, iV y] w fun e w' => ∃ r : Bool, K r ∧ e = .returned (.bool r) ∧ Below w.heap.size w w' := by
 refine enter (args := [iV x, iV y]) Tryz.func125 rfl Tryz.ntmps125 rfl hs ?_
 refine .seq (.region (.V ag0 ?_))
 refine .nil (.seqN (.seq (.region (.V mv0 ?_))))
 obtain ⟨r2, q2⟩ : ∃ y_ : Bool, y_ = sp_isNaN1 x := ⟨_, rfl⟩
 replace hF := hF r2 q2
 refine .C (cl (v := .bool r2) Tryz.call99 rfl rfl (fun w S => (by rw [q2]; exact c_isNaN1 S.sub x ))) ?_
 refine .V mv0 ?_
 rcases Bool.eq_false_or_eq_true (r2) with q0 | q0
 ·replace hF := hF.1 q0
  refine .GV mv0 q0 ?_
  obtain ⟨r3, q3⟩ : ∃ y_ : Bool, y_ = sp_isNaN1 y := ⟨_, rfl⟩
  replace hF := hF r3 q3
  refine .gc (cl (v := .bool r3) Tryz.call99 rfl rfl (fun w S => (by rw [q3]; exact c_isNaN1 S.sub y ))) rfl rfl rfl q0 rfl rfl ?_
  refine .GV (nt rfl) q0 ?_
  refine .V (pkT rfl q0 rfl) ?_
  refine .V mv0 ?_
  rcases Bool.eq_false_or_eq_true (!r3) with q1 | q1
  ·replace hF := hF.1 q1
   refine .GS q1 ?_
   refine .GS q1 ?_
   refine .GS q1 ?_
   refine .V (pkT rfl q1 rfl) ?_
   refine .V ag0 ?_
   refine .nil (.seqN (.ret ?_))
   refine .res1 rfl (rvT rfl) (fun w' S => ⟨true, hF, rfl, S.below⟩)
  replace hF := hF.2 q1
  refine .GV mv0 q1 ?_
  refine .GV mv0 q1 ?_
  refine .GV bi0 q1 ?_
  refine .V (pkF rfl q1 rfl) ?_
  refine .V ag0 ?_
  refine .nil (.seqN (.ret ?_))
  refine .res1 rfl (rvT rfl) (fun w' S => ⟨decide (x < y), hF, rfl, S.below⟩)
 replace hF := hF.2 q0
 refine .GS q0 ?_
 refine .GS q0 ?_
 refine .GS q0 ?_
 refine .V (pkF rfl q0 rfl) ?_
 refine .V mv0 ?_
 refine .gv mv0 rfl rfl rfl rfl rfl rfl ?_
 refine .gv mv0 rfl rfl rfl rfl rfl rfl ?_
 refine .gv bi0 rfl rfl rfl rfl rfl rfl ?_
 refine .V (pkF rfl rfl rfl) ?_
 refine .V ag0 ?_
 refine .nil (.seqN (.ret ?_))
 refine .res1 rfl (rvT rfl) (fun w' S => ⟨decide (x < y), hF, rfl, S.below⟩)
theorem c_less {h : FH} {w : World} (hs : Sub h w) (x : Int) (y : Int) : Calls Tryz.prog 125 #[iV x, iV y] w fun e w' => e = .returned (.bool (sp_less x y)) ∧ Below w.heap.size w w' :=
 (w_less hs x y (fun r => r = sp_less x y) (ok_less x y)).mono fun _ _ ⟨_, hk, he, hb⟩ => ⟨by rw [he, hk], hb⟩
set_option maxHeartbeats 8000000 in
theorem w_bsearch {h : FH} {w : World} (hs : Sub h w) (x : List Int) (ax : Option Addr) (cx : Nat) (_q1 : RSl h ax x) (_q2 : x.length ≤ cx) (target : Int) (K : (Int × Bool) → Prop) (hF : F_bsearch x target K) : Calls Tryz.prog 105 #[.slice ax x.length cx, iV target] w fun e w' => ∃ r : Int × Bool, K r ∧ e = .returned (.tuple #[iV r.1, .bool r.2]) ∧ Below w.heap.size w w' := by
 refine enter (args := [vSl ax x cx, iV target]) Tryz.func105 rfl Tryz.ntmps105 rfl hs ?_
 refine .seq (.region (.V ag0 ?_))
 refine .V ag0 ?_
 refine .nil (.seqN (.seq (.region (.V mv0 ?_))))
 refine .V (ln rfl tS22.is) ?_
 refine .V ag0 ?_
 refine .nil (.seqN (.seq (.region (.V mv0 ?_))))
 refine .V ag0 ?_
 refine .V ag0 ?_
 refine .nil (.seqN (.seq (.block ?_)))
 obtain ⟨I1, μ1, q4, q12⟩ := hF
 refine .loop' (σ := Int × Int) (fun z => I1 z.1 z.2) (fun z => μ1 z.1 z.2) (fun z => [(0, vSl ax x cx), (1, iV target), (6, iV ((x.length : Nat) : Int)), (7, iV z.1), (8, iV z.2)]) (fun _ => []) (fun _ => h) (0, ((x.length : Nat) : Int)) q4 sb rfl (FH.le_refl _) ?_
 rintro ⟨i, j⟩ q4
 have hF := q12 i j q4
 show J _ _ _ _ _ [(0, vSl ax x cx), (1, iV target), (6, iV ((x.length : Nat) : Int)), (7, iV i), (8, iV j)] [] h
 refine .seq (.seq (.region (.V mv0 ?_)))
 refine .V mv0 ?_
 refine .V bi0 ?_
 refine .nil (.seqN ?_)
 refine .cond rfl (fun q5 => ?_) (fun q5 => ?_)
 ·replace hF := hF.1 q5
  refine .skip (.seqN (.block (.seq (.region (.V mv0 ?_)))))
  refine .V mv0 ?_
  refine .V bi0 ?_
  refine .V (cv Tryz.underlying3 Tryz.underlying152 rfl) ?_
  obtain ⟨x2, q8⟩ : ∃ y_ : Int, y_ = (Int.fdiv (IntKind.u64.wrap (wr (i + j))) (2 ^ (min ((1 : Int)).toNat (IntKind.bits .u64)))) := ⟨_, rfl⟩
  replace hF := hF x2 q8
  refine .v (v := .int .u64 x2) (by rw [q8]; exact bsh rfl rfl (by decide) rfl) rfl rfl rfl ?_
  refine .V (cv Tryz.underlying152 Tryz.underlying3 rfl) ?_
  refine .V ag0 ?_
  refine .nil (.seqN (.seq (.region (.V mv0 ?_))))
  refine .V mv0 ?_
  obtain ⟨q6, hF⟩ := hF
  refine .V (ix rfl rfl tS22 (_q1.ne (by decide) (inb_pos q6)) q6) ?_
  refine .V (ld1 (v := iV (gt x (wr (x2)))) rfl tO3 (cellH (_q1.elemF q6 (by decide) 0 _ rfl))) ?_
  refine .V mv0 ?_
  obtain ⟨r2, q9⟩ : ∃ y_ : Bool, y_ = sp_less (gt x (wr (x2))) target := ⟨_, rfl⟩
  replace hF := hF r2 q9
  refine .C (cl (v := .bool r2) Tryz.call125 rfl rfl (fun w S => (by rw [q9]; exact c_less S.sub (gt x (wr (x2))) target ))) ?_
  refine .nil (.seqN ?_)
  refine .cond rfl (fun q7 => ?_) (fun q7 => ?_)
  ·replace hF := hF.1 q7
   refine .region (.V mv0 ?_)
   refine .V bi0 ?_
   refine .V ag0 ?_
   refine .nil (.blkN ?_)
   exact .RO (wr ((wr (x2)) + 1), j) hF.1 hF.2
  replace hF := hF.2 q7
  refine .region (.V mv0 ?_)
  refine .V ag0 ?_
  refine .nil (.blkN ?_)
  exact .RO (i, wr (x2)) hF.1 hF.2
 replace hF := hF.2 q5
 refine .exit (.seqX (.seqX (.blkX (.seqN (.seq (.region (.V mv0 ?_)))))))
 refine .V mv0 ?_
 refine .V mv0 ?_
 refine .V bi0 ?_
 refine .V mv0 ?_
 rcases Bool.eq_false_or_eq_true (decide (i < ((x.length : Nat) : Int))) with q0 | q0
 ·replace hF := hF.1 q0
  refine .GV mv0 q0 ?_
  refine .GV mv0 q0 ?_
  obtain ⟨q3, hF⟩ := hF
  refine .GV (ix rfl rfl tS22 (_q1.ne (by decide) (inb_pos q3)) q3) q0 ?_
  refine .GV (ld1 (v := iV (gt x i)) rfl tO3 (cellH (_q1.elemF q3 (by decide) 0 _ rfl))) q0 ?_
  refine .GV mv0 q0 ?_
  refine .GV bi0 q0 ?_
  refine .GV mv0 q0 ?_
  rcases Bool.eq_false_or_eq_true ((gt x i) == target) with q1 | q1
  ·replace hF := hF.1 q1
   refine .GS q1 ?_
   refine .GS q1 ?_
   refine .GS q1 ?_
   refine .GS q1 ?_
   refine .GS q1 ?_
   refine .GS q1 ?_
   refine .GU ?_
   refine .GU ?_
   refine .GS q1 ?_
   refine .GV (pkT rfl q1 rfl) q0 ?_
   refine .V (pkT rfl q0 rfl) ?_
   refine .V ag0 ?_
   refine .V ag0 ?_
   refine .nil (.seqN (.ret ?_))
   refine .res2 rfl (rvT rfl) (rvT rfl) (fun w' S => ⟨(i, true), hF, rfl, S.below⟩)
  replace hF := hF.2 q1
  refine .GV mv0 q1 ?_
  refine .GV mv0 q1 ?_
  refine .GV (ix rfl rfl tS22 (_q1.ne (by decide) (inb_pos q3)) q3) q1 ?_
  refine .GV (ld1 (v := iV (gt x i)) rfl tO3 (cellH (_q1.elemF q3 (by decide) 0 _ rfl))) q1 ?_
  obtain ⟨r3, q10⟩ : ∃ y_ : Bool, y_ = sp_isNaN1 (gt x i) := ⟨_, rfl⟩
  replace hF := hF r3 q10
  refine .gc (cl (v := .bool r3) Tryz.call129 rfl rfl (fun w S => (by rw [q10]; exact c_isNaN2 S.sub (gt x i) ))) rfl rfl rfl q1 rfl rfl ?_
  refine .GV mv0 q1 ?_
  rcases Bool.eq_false_or_eq_true (r3) with q2 | q2
  ·replace hF := hF.1 q2
   refine .GV mv0 q2 ?_
   obtain ⟨r4, q11⟩ : ∃ y_ : Bool, y_ = sp_isNaN1 target := ⟨_, rfl⟩
   replace hF := hF r4 q11
   refine .gc (cl (v := .bool r4) Tryz.call129 rfl rfl (fun w S => (by rw [q11]; exact c_isNaN2 S.sub target ))) rfl rfl rfl q2 rfl rfl ?_
   refine .GV (pkT rfl q2 rfl) q1 ?_
   refine .GV (pkF rfl q1 rfl) q0 ?_
   refine .V (pkT rfl q0 rfl) ?_
   refine .V ag0 ?_
   refine .V ag0 ?_
   refine .nil (.seqN (.ret ?_))
   refine .res2 rfl (rvT rfl) (rvT rfl) (fun w' S => ⟨(i, r4), hF, rfl, S.below⟩)
  replace hF := hF.2 q2
  refine .GS q2 ?_
  refine .GS q2 ?_
  refine .GV (pkF rfl q2 rfl) q1 ?_
  refine .GV (pkF rfl q1 rfl) q0 ?_
  refine .V (pkT rfl q0 rfl) ?_
  refine .V ag0 ?_
  refine .V ag0 ?_
  refine .nil (.seqN (.ret ?_))
  refine .res2 rfl (rvT rfl) (rvT rfl) (fun w' S => ⟨(i, false), hF, rfl, S.below⟩)
 replace hF := hF.2 q0
 refine .GS q0 ?_
 refine .GS q0 ?_
 refine .GS q0 ?_
 refine .GS q0 ?_
 refine .GS q0 ?_
 refine .GS q0 ?_
 refine .GS q0 ?_
 refine .GU ?_
 refine .GU ?_
 refine .GU ?_
 refine .GU ?_
 refine .GU ?_
 refine .GU ?_
 refine .GU ?_
 refine .GU ?_
 refine .GU ?_
 refine .GS q0 ?_
 refine .V (pkF rfl q0 rfl) ?_
 refine .V ag0 ?_
 refine .V ag0 ?_
 refine .nil (.seqN (.ret ?_))
 refine .res2 rfl (rvT rfl) (rvT rfl) (fun w' S => ⟨(i, false), hF, rfl, S.below⟩)
theorem c_bsearch {h : FH} {w : World} (hs : Sub h w) (x : List Int) (ax : Option Addr) (cx : Nat) (_q1 : RSl h ax x) (_q2 : x.length ≤ cx) (target : Int) (hp : pre_bsearch x target) : Calls Tryz.prog 105 #[.slice ax x.length cx, iV target] w fun e w' => e = .returned (.tuple #[iV (sp_bsearch x target).1, .bool (sp_bsearch x target).2]) ∧ Below w.heap.size w w' :=
 (w_bsearch hs x ax cx _q1 _q2 target (fun r => r = sp_bsearch x target) (ok_bsearch x target hp)).mono fun _ _ ⟨_, hk, he, hb⟩ => ⟨by rw [he, hk], hb⟩
theorem w_indexF {h : FH} {w : World} (hs : Sub h w) (s_ : List Int) (as_ : Option Addr) (cs_ : Nat) (_q1 : RSl h as_ s_) (_q2 : s_.length ≤ cs_) (pf : Int → Bool) (Df : Int → Prop) (ff : FuncId) (firstf capsf : Array Value) (hff : ∀ args w, (callFunc ff args).run Tryz.prog w = .ok (.enter ff args) w) (hpf : ∀ (x : Int) (w' : World), Df x → Sub h w' → Calls Tryz.prog ff (firstf.toList ++ [(iV x : Value)] ++ capsf.toList).toArray w' fun e w'' => e = .returned (.bool (pf x)) ∧ Below w'.heap.size w' w'') (K : Int → Prop) (hF : F_indexF s_ pf Df K) : Calls Tryz.prog 128 #[.slice as_ s_.length cs_, .func (.func ff) firstf capsf] w fun e w' => ∃ r : Int, K r ∧ e = .returned (iV r) ∧ Below w.heap.size w w' := by
 refine enter (args := [vSl as_ s_ cs_, .func (.func ff) firstf capsf]) Tryz.func128 rfl Tryz.ntmps128 rfl hs ?_
 refine .seq (.region (.V ag0 ?_))
 refine .nil (.seqN (.seq (.seq (.region (.V mv0 ?_)))))
 refine .V (ln rfl tS22.is) ?_
 refine .V mv0 ?_
 refine .nil (.seqN (.block ?_))
 obtain ⟨I1, μ1, q0, q5⟩ := hF
 refine .loop' (σ := Int) (fun z => I1 z) (fun z => μ1 z) (fun z => [(0, vSl as_ s_ cs_), (1, .func (.func ff) firstf capsf), (7, iV ((s_.length : Nat) : Int)), (8, iV z)]) (fun _ => []) (fun _ => h) 0 q0 sb rfl (FH.le_refl _) ?_
 rintro t8 q0
 have hF := q5 t8 q0
 show J _ _ _ _ _ [(0, vSl as_ s_ cs_), (1, .func (.func ff) firstf capsf), (7, iV ((s_.length : Nat) : Int)), (8, iV t8)] [] h
 refine .seq (.region (.V bi0 ?_))
 refine .nil (.seqN (.seq ?_))
 refine .cond rfl (fun q1 => ?_) (fun q1 => ?_)
 ·replace hF := hF.1 q1
  refine .skip (.seqN (.seq (.block (.seq (.region (.V mv0 ?_))))))
  refine .V ag0 ?_
  refine .nil (.seqN (.seq (.region (.V mv0 ?_))))
  refine .V mv0 ?_
  refine .V mv0 ?_
  obtain ⟨q2, hF⟩ := hF
  refine .V (ix rfl rfl tS22 (_q1.ne (by decide) (inb_pos q2)) q2) ?_
  refine .V (ld1 (v := iV (gt s_ t8)) rfl tO3 (cellH (_q1.elemF q2 (by decide) 0 _ rfl))) ?_
  obtain ⟨q6, hF⟩ := hF
  obtain ⟨r2, q4⟩ : ∃ y_ : Bool, y_ = pf (gt s_ t8) := ⟨_, rfl⟩
  replace hF := hF r2 q4
  refine .C (cl (v := .bool r2) hff rfl rfl (fun w S => (by rw [q4]; exact hpf (gt s_ t8) w q6 (S.sub.anti (FH.le_refl _))))) ?_
  refine .nil (.seqN ?_)
  refine .cond rfl (fun q3 => ?_) (fun q3 => ?_)
  ·replace hF := hF.1 q3
   refine .seq (.region (.V mv0 ?_))
   refine .V ag0 ?_
   refine .nil (.seqN (.ret (.blkR (.seqR (.seqR (.blkR (.seqR ?_)))))))
   refine .res1 rfl (rvT rfl) (fun w' S => ⟨t8, hF, rfl, S.below⟩)
  replace hF := hF.2 q3
  refine .skip (.blkN (.seqN (.region (.V bi0 ?_))))
  refine .V mv0 ?_
  refine .nil ?_
  exact .RO (wr (t8 + 1)) hF.1 hF.2
 replace hF := hF.2 q1
 refine .exit (.seqX (.seqX (.blkX (.seqN (.seq (.region (.V ag0 ?_)))))))
 refine .nil (.seqN (.ret ?_))
 refine .res1 rfl (rvT rfl) (fun w' S => ⟨(-1), hF, rfl, S.below⟩)
theorem c_indexF {h : FH} {w : World} (hs : Sub h w) (s_ : List Int) (as_ : Option Addr) (cs_ : Nat) (_q1 : RSl h as_ s_) (_q2 : s_.length ≤ cs_) (pf : Int → Bool) (Df : Int → Prop) (ff : FuncId) (firstf capsf : Array Value) (hff : ∀ args w, (callFunc ff args).run Tryz.prog w = .ok (.enter ff args) w) (hpf : ∀ (x : Int) (w' : World), Df x → Sub h w' → Calls Tryz.prog ff (firstf.toList ++ [(iV x : Value)] ++ capsf.toList).toArray w' fun e w'' => e = .returned (.bool (pf x)) ∧ Below w'.heap.size w' w'') (hp : pre_any s_ pf Df) : Calls Tryz.prog 128 #[.slice as_ s_.length cs_, .func (.func ff) firstf capsf] w fun e w' => e = .returned (iV (sp_indexF s_ pf Df)) ∧ Below w.heap.size w w' :=
 (w_indexF hs s_ as_ cs_ _q1 _q2 pf Df ff firstf capsf hff hpf (fun r => r = sp_indexF s_ pf Df) (ok_indexF s_ pf Df hp)).mono fun _ _ ⟨_, hk, he, hb⟩ => ⟨by rw [he, hk], hb⟩
theorem w_containsF {h : FH} {w : World} (hs : Sub h w) (s_ : List Int) (as_ : Option Addr) (cs_ : Nat) (_q1 : RSl h as_ s_) (_q2 : s_.length ≤ cs_) (pf : Int → Bool) (Df : Int → Prop) (ff : FuncId) (firstf capsf : Array Value) (hff : ∀ args w, (callFunc ff args).run Tryz.prog w = .ok (.enter ff args) w) (hpf : ∀ (x : Int) (w' : World), Df x → Sub h w' → Calls Tryz.prog ff (firstf.toList ++ [(iV x : Value)] ++ capsf.toList).toArray w' fun e w'' => e = .returned (.bool (pf x)) ∧ Below w'.heap.size w' w'') (K : Bool → Prop) (hF : F_containsF s_ pf Df K) : Calls Tryz.prog 103 #[.slice as_ s_.length cs_, .func (.func ff) firstf capsf] w fun e w' => ∃ r : Bool, K r ∧ e = .returned (.bool r) ∧ Below w.heap.size w w' := by
 refine enter (args := [vSl as_ s_ cs_, .func (.func ff) firstf capsf]) Tryz.func103 rfl Tryz.ntmps103 rfl hs ?_
 refine .seq (.region (.V ag0 ?_))
 refine .nil (.seqN (.seq (.region (.V mv0 ?_))))
 refine .V mv0 ?_
 obtain ⟨q1, hF⟩ := hF
 obtain ⟨r2, q0⟩ : ∃ y_ : Int, y_ = sp_indexF s_ pf Df := ⟨_, rfl⟩
 replace hF := hF r2 q0
 refine .C (cl (v := iV r2) Tryz.call128 rfl rfl (fun w S => (by rw [q0]; exact c_indexF S.sub s_ as_ cs_ _q1 _q2 pf Df ff firstf capsf hff hpf q1))) ?_
 refine .V bi0 ?_
 refine .V ag0 ?_
 refine .nil (.seqN (.ret ?_))
 refine .res1 rfl (rvT rfl) (fun w' S => ⟨decide (0 ≤ r2), hF, rfl, S.below⟩)
theorem c_containsF {h : FH} {w : World} (hs : Sub h w) (s_ : List Int) (as_ : Option Addr) (cs_ : Nat) (_q1 : RSl h as_ s_) (_q2 : s_.length ≤ cs_) (pf : Int → Bool) (Df : Int → Prop) (ff : FuncId) (firstf capsf : Array Value) (hff : ∀ args w, (callFunc ff args).run Tryz.prog w = .ok (.enter ff args) w) (hpf : ∀ (x : Int) (w' : World), Df x → Sub h w' → Calls Tryz.prog ff (firstf.toList ++ [(iV x : Value)] ++ capsf.toList).toArray w' fun e w'' => e = .returned (.bool (pf x)) ∧ Below w'.heap.size w' w'') (hp : pre_any s_ pf Df) : Calls Tryz.prog 103 #[.slice as_ s_.length cs_, .func (.func ff) firstf capsf] w fun e w' => e = .returned (.bool (sp_any s_ pf Df)) ∧ Below w.heap.size w w' :=
 (w_containsF hs s_ as_ cs_ _q1 _q2 pf Df ff firstf capsf hff hpf (fun r => r = sp_any s_ pf Df) (ok_containsF s_ pf Df hp)).mono fun _ _ ⟨_, hk, he, hb⟩ => ⟨by rw [he, hk], hb⟩
set_option maxHeartbeats 8000000 in
theorem w_isSet {h : FH} {w : World} (hs : Sub h w) (l : List Int) (al2 : Option Addr) (cl2 : Nat) (_q1 : RSl h al2 l) (_q2 : l.length ≤ cl2) (n_ : Int) (K : Bool → Prop) (hF : F_isSet l n_ K) : Calls Tryz.prog 36 #[.slice al2 l.length cl2, iV n_] w fun e w' => ∃ r : Bool, K r ∧ e = .returned (.bool r) ∧ Below w.heap.size w w' := by
 refine enter (args := [vSl al2 l cl2, iV n_]) Tryz.func36 rfl Tryz.ntmps36 rfl hs ?_
 refine .seq (.region (.V ag0 ?_))
 refine .nil (.seqN (.seq (.seq (.region (.V mv0 ?_)))))
 refine .V (ln rfl tS22.is) ?_
 refine .V mv0 ?_
 refine .nil (.seqN (.block ?_))
 obtain ⟨I1, μ1, q4, q9⟩ := hF
 refine .loop' (σ := Int) (fun z => I1 z) (fun z => μ1 z) (fun z => [(0, vSl al2 l cl2), (1, iV n_), (7, vSl al2 l cl2), (8, iV ((l.length : Nat) : Int)), (9, iV z)]) (fun _ => []) (fun _ => h) 0 q4 sb rfl (FH.le_refl _) ?_
 rintro t9 q4
 have hF := q9 t9 q4
 show J _ _ _ _ _ [(0, vSl al2 l cl2), (1, iV n_), (7, vSl al2 l cl2), (8, iV ((l.length : Nat) : Int)), (9, iV t9)] [] h
 refine .seq (.region (.V bi0 ?_))
 refine .nil (.seqN (.seq ?_))
 refine .cond rfl (fun q5 => ?_) (fun q5 => ?_)
 ·replace hF := hF.1 q5
  refine .skip (.seqN (.seq (.block (.seq (.region (.V mv0 ?_))))))
  obtain ⟨q6, hF⟩ := hF
  refine .V (ix rfl rfl tS22 (_q1.ne (by decide) (inb_pos q6)) q6) ?_
  refine .V (ld1 (v := iV (gt l t9)) rfl tO3 (cellH (_q1.elemF q6 (by decide) 0 _ rfl))) ?_
  refine .V ag0 ?_
  refine .V ag0 ?_
  refine .nil (.seqN ?_)
  refine .share (σ := Bool) (fun z => F_isSet_J1 K z t9 I1 μ1) (fun z => [(0, vSl al2 l cl2), (1, iV n_), (7, vSl al2 l cl2), (8, iV ((l.length : Nat) : Int)), (9, iV t9), (33, .bool z)]) (fun _ => []) (fun _ => h) ?_ (fun q3 => ?_)
  ·rintro t33 hF
   show J _ _ _ _ _ [(0, vSl al2 l cl2), (1, iV n_), (7, vSl al2 l cl2), (8, iV ((l.length : Nat) : Int)), (9, iV t9), (33, .bool t33)] [] h
   refine .cond rfl (fun q7 => ?_) (fun q7 => ?_)
   ·replace hF := hF.1 q7
    refine .seq (.region (.V ag0 ?_))
    refine .nil (.seqN (.ret (.blkR (.seqR (.seqR (.blkR (.seqR ?_)))))))
    refine .res1 rfl (rvT rfl) (fun w' S => ⟨false, hF, rfl, S.below⟩)
   replace hF := hF.2 q7
   refine .skip (.blkN (.seqN (.region (.V bi0 ?_))))
   refine .V mv0 ?_
   refine .nil ?_
   exact .RO (wr (t9 + 1)) hF.1 hF.2
  refine .region (.V mv0 ?_)
  refine .V bi0 ?_
  refine .V mv0 ?_
  rcases Bool.eq_false_or_eq_true (decide ((gt l t9) < 0)) with q2 | q2
  ·replace hF := hF.1 q2
   refine .GS q2 ?_
   refine .GS q2 ?_
   refine .GS q2 ?_
   refine .V (pkT rfl q2 rfl) ?_
   refine .V mv0 ?_
   refine .GT ?_
   refine .GT ?_
   refine .GT ?_
   refine .GU ?_
   refine .GU ?_
   refine .GU ?_
   refine .GU ?_
   refine .GU ?_
   refine .GU ?_
   refine .GU ?_
   refine .GT ?_
   refine .V (pkT rfl rfl rfl) ?_
   refine .nil ?_
   exact .US q3 true hF
  replace hF := hF.2 q2
  refine .GV mv0 q2 ?_
  refine .GV mv0 q2 ?_
  refine .GV bi0 q2 ?_
  refine .V (pkF rfl q2 rfl) ?_
  refine .V mv0 ?_
  rcases Bool.eq_false_or_eq_true (decide (n_ ≤ (gt l t9))) with q1 | q1
  ·replace hF := hF.1 q1
   refine .GS q1 ?_
   refine .GS q1 ?_
   refine .GS q1 ?_
   refine .GU ?_
   refine .GU ?_
   refine .GU ?_
   refine .GU ?_
   refine .GU ?_
   refine .GU ?_
   refine .GU ?_
   refine .GS q1 ?_
   refine .V (pkT rfl q1 rfl) ?_
   refine .nil ?_
   exact .US q3 true hF
  replace hF := hF.2 q1
  refine .GV mv0 q1 ?_
  refine .GV bi0 q1 ?_
  refine .GV mv0 q1 ?_
  rcases Bool.eq_false_or_eq_true (decide (0 < t9)) with q0 | q0
  ·replace hF := hF.1 q0
   refine .GV mv0 q0 ?_
   refine .GV mv0 q0 ?_
   refine .GV mv0 q0 ?_
   refine .GV bi0 q0 ?_
   obtain ⟨q8, hF⟩ := hF
   refine .GV (ix rfl rfl tS22 (_q1.ne (by decide) (inb_pos q8)) q8) q0 ?_
   refine .GV (ld1 (v := iV (gt l (wr (t9 - 1)))) rfl tO3 (cellH (_q1.elemF q8 (by decide) 0 _ rfl))) q0 ?_
   refine .GV bi0 q0 ?_
   refine .GV (pkT rfl q0 rfl) q1 ?_
   refine .V (pkF rfl q1 rfl) ?_
   refine .nil ?_
   exact .US q3 (decide ((gt l t9) ≤ (gt l (wr (t9 - 1))))) hF
  replace hF := hF.2 q0
  refine .GS q0 ?_
  refine .GS q0 ?_
  refine .GS q0 ?_
  refine .GS q0 ?_
  refine .GS q0 ?_
  refine .GS q0 ?_
  refine .GS q0 ?_
  refine .GV (pkF rfl q0 rfl) q1 ?_
  refine .V (pkF rfl q1 rfl) ?_
  refine .nil ?_
  exact .US q3 false hF
 replace hF := hF.2 q5
 refine .exit (.seqX (.seqX (.blkX (.seqN (.seq (.region (.V ag0 ?_)))))))
 refine .nil (.seqN (.ret ?_))
 refine .res1 rfl (rvT rfl) (fun w' S => ⟨true, hF, rfl, S.below⟩)
theorem c_isSet {h : FH} {w : World} (hs : Sub h w) (l : List Int) (al2 : Option Addr) (cl2 : Nat) (_q1 : RSl h al2 l) (_q2 : l.length ≤ cl2) (n_ : Int) (hp : pre_isSet l n_) : Calls Tryz.prog 36 #[.slice al2 l.length cl2, iV n_] w fun e w' => e = .returned (.bool (sp_isSet l n_)) ∧ Below w.heap.size w w' :=
 (w_isSet hs l al2 cl2 _q1 _q2 n_ (fun r => r = sp_isSet l n_) (ok_isSet l n_ hp)).mono fun _ _ ⟨_, hk, he, hb⟩ => ⟨by rw [he, hk], hb⟩
theorem w_meets1 {h : FH} {w : World} (hs : Sub h w) (x : Int) (x2 : List Int) (ax2 : Option Addr) (cx2 : Nat) (_q1 : RSl h ax2 x2) (_q2 : x2.length ≤ cx2) (px2 : Addr) (_q3 : CellsAt h px2 [.slice ax2 x2.length cx2]) (K : Bool → Prop) (hF : F_meets1 x x2 K) : Calls Tryz.prog 104 #[iV x, .pointer (some px2)] w fun e w' => ∃ r : Bool, K r ∧ e = .returned (.bool r) ∧ Below w.heap.size w w' := by
 refine enter (args := [iV x, vP px2]) Tryz.func104 rfl Tryz.ntmps104 rfl hs ?_
 refine .seq (.region (.V ag0 ?_))
 refine .nil (.seqN (.seq (.region (.V (ld1 (v := vSl ax2 x2 cx2) rfl tO22 (cellH (CellsAt.mono (FH.le_refl _) _q3 0 _ rfl))) ?_))))
 refine .V mv0 ?_
 obtain ⟨q1, hF⟩ := hF
 obtain ⟨r2, q0⟩ : ∃ y_ : Int × Bool, y_ = sp_bsearch x2 x := ⟨_, rfl⟩
 replace hF := hF r2 q0
 refine .C (cl (v := .tuple #[iV r2.1, .bool r2.2]) Tryz.call105 rfl rfl (fun w S => (by rw [q0]; exact c_bsearch S.sub x2 ax2 cx2 _q1 _q2 x q1))) ?_
 refine .V mv0 ?_
 refine .V (ext rfl rfl) ?_
 refine .V (ext rfl rfl) ?_
 refine .V ag0 ?_
 refine .V ag0 ?_
 refine .nil (.seqN (.seq (.region (.V mv0 ?_))))
 refine .V ag0 ?_
 refine .nil (.seqN (.ret ?_))
 refine .res1 rfl (rvT rfl) (fun w' S => ⟨r2.2, hF, rfl, S.below⟩)
theorem c_meets1 {h : FH} {w : World} (hs : Sub h w) (x : Int) (x2 : List Int) (ax2 : Option Addr) (cx2 : Nat) (_q1 : RSl h ax2 x2) (_q2 : x2.length ≤ cx2) (px2 : Addr) (_q3 : CellsAt h px2 [.slice ax2 x2.length cx2]) (hp : pre_meets1 x x2) : Calls Tryz.prog 104 #[iV x, .pointer (some px2)] w fun e w' => e = .returned (.bool (sp_meets1 x x2)) ∧ Below w.heap.size w w' :=
 (w_meets1 hs x x2 ax2 cx2 _q1 _q2 px2 _q3 (fun r => r = sp_meets1 x x2) (ok_meets1 x x2 hp)).mono fun _ _ ⟨_, hk, he, hb⟩ => ⟨by rw [he, hk], hb⟩
theorem w_meets {h : FH} {w : World} (hs : Sub h w) (a : List Int) (aa : Option Addr) (ca : Nat) (_q1 : RSl h aa a) (_q2 : a.length ≤ ca) (b : List Int) (ab : Option Addr) (cb : Nat) (_q3 : RSl h ab b) (_q4 : b.length ≤ cb) (K : Bool → Prop) (hF : F_meets a b K) : Calls Tryz.prog 73 #[.slice aa a.length ca, .slice ab b.length cb] w fun e w' => ∃ r : Bool, K r ∧ e = .returned (.bool r) ∧ Below w.heap.size w w' := by
 refine enter (args := [vSl aa a ca, vSl ab b cb]) Tryz.func73 rfl Tryz.ntmps73 rfl hs ?_
 refine .seq (.region ?_)
 refine bx (vs := [vSl ab b cb]) rfl rfl rfl (fun pb => ?_)
 refine .V ag0 ?_
 refine .nil (.seqN (.seq (.region (.V mv0 ?_))))
 refine .V (mkf (vf := []) (vc := [vP pb]) rfl rfl) ?_
 obtain ⟨q1, hF⟩ := hF
 obtain ⟨r2, q0⟩ : ∃ y_ : Bool, y_ = sp_any a (fun y_ : Int => sp_meets1 y_ b) (fun y_ : Int => pre_meets1 y_ b) := ⟨_, rfl⟩
 replace hF := hF r2 q0
 refine .C (cl (v := .bool r2) Tryz.call103 rfl rfl (fun w S => (by rw [q0]; obtain ⟨h_, hl_, hs_, hb_⟩ := lookB S (k := 0) rfl; exact c_containsF hs_ a aa ca (RSl.mono hl_ _q1) _q2 (fun y_ : Int => sp_meets1 y_ b) (fun y_ : Int => pre_meets1 y_ b) 104 #[] #[vP pb] Tryz.call104 (fun x w' hD hs' => c_meets1 hs' x b ab cb (RSl.mono hl_ _q3) _q4 pb hb_ hD) q1))) ?_
 refine .V ag0 ?_
 refine .nil (.seqN (.ret ?_))
 refine .res1 rfl (rvT rfl) (fun w' S => ⟨r2, hF, rfl, S.below⟩)
theorem c_meets {h : FH} {w : World} (hs : Sub h w) (a : List Int) (aa : Option Addr) (ca : Nat) (_q1 : RSl h aa a) (_q2 : a.length ≤ ca) (b : List Int) (ab : Option Addr) (cb : Nat) (_q3 : RSl h ab b) (_q4 : b.length ≤ cb) (hp : pre_meets a b) : Calls Tryz.prog 73 #[.slice aa a.length ca, .slice ab b.length cb] w fun e w' => e = .returned (.bool (sp_meets a b)) ∧ Below w.heap.size w w' :=
 (w_meets hs a aa ca _q1 _q2 b ab cb _q3 _q4 (fun r => r = sp_meets a b) (ok_meets a b hp)).mono fun _ _ ⟨_, hk, he, hb⟩ => ⟨by rw [he, hk], hb⟩
set_option maxHeartbeats 8000000 in
theorem w_operator {h : FH} {w : World} (hs : Sub h w) (o : Operator) (ao : Option Addr) (co : Nat) (_q1 : RSl h ao o.pre) (_q2 : o.pre.length ≤ co) (ao2 : Option Addr) (co2 : Nat) (_q3 : RSl h ao2 o.add) (_q4 : o.add.length ≤ co2) (ao3 : Option Addr) (co3 : Nat) (_q5 : RSl h ao3 o.del) (_q6 : o.del.length ≤ co3) (facts : Int) (K : Int → Prop) (hF : F_operator o facts K) : Calls Tryz.prog 37 #[.agg #[.slice ao o.pre.length co, .slice ao2 o.add.length co2, .slice ao3 o.del.length co3, iV o.cost], iV facts] w fun e w' => ∃ r : Int, K r ∧ e = .returned (iV r) ∧ Below w.heap.size w w' := by
 refine enter (args := [.agg #[vSl ao o.pre co, vSl ao2 o.add co2, vSl ao3 o.del co3, iV o.cost], iV facts]) Tryz.func37 rfl Tryz.ntmps37 rfl hs ?_
 refine .seq (.region ?_)
 refine bx (vs := [vSl ao o.pre co, vSl ao2 o.add co2, vSl ao3 o.del co3, iV o.cost]) rfl rfl rfl (fun po => ?_)
 refine .V ag0 ?_
 refine .nil (.seqN (.seq (.block ?_)))
 refine .share (σ := Bool) (fun z => F_operator_J1 o K z) (fun z => [(2, vP po), (5, .bool z)]) (fun _ => [Box po [vSl ao o.pre co, vSl ao2 o.add co2, vSl ao3 o.del co3, iV o.cost]]) (fun _ => h) ?_ (fun q4 => ?_)
 ·rintro t5 hF
  show J _ _ _ _ _ [(2, vP po), (5, .bool t5)] [Box po [vSl ao o.pre co, vSl ao2 o.add co2, vSl ao3 o.del co3, iV o.cost]] h
  refine .cond rfl (fun q5 => ?_) (fun q5 => ?_)
  ·replace hF := hF.1 q5
   refine .seq (.region (.V ag0 ?_))
   refine .nil (.seqN (.ret (.blkR (.seqR ?_))))
   refine .res1 rfl (rvT rfl) (fun w' S => ⟨5, hF, rfl, S.below⟩)
  replace hF := hF.2 q5
  refine .share (σ := Bool) (fun z => F_operator_J2 K z) (fun z => [(32, .bool z)]) (fun _ => []) (fun _ => h) ?_ (fun q7 => ?_)
  ·rintro t32 hF
   show J _ _ _ _ _ [(32, .bool t32)] [] h
   refine .cond rfl (fun q6 => ?_) (fun q6 => ?_)
   ·replace hF := hF.1 q6
    refine .seq (.region (.V ag0 ?_))
    refine .nil (.seqN (.ret (.blkR (.seqR ?_))))
    refine .res1 rfl (rvT rfl) (fun w' S => ⟨3, hF, rfl, S.below⟩)
   replace hF := hF.2 q6
   refine .skip (.blkN (.seqN (.seq (.region (.V ag0 ?_)))))
   refine .nil (.seqN (.ret ?_))
   refine .res1 rfl (rvT rfl) (fun w' S => ⟨0, hF, rfl, S.below⟩)
  refine .region (.V (fa rfl tF52_3) ?_)
  refine .V (lB 3 0 tO3) ?_
  refine .V bi0 ?_
  refine .V mv0 ?_
  rcases Bool.eq_false_or_eq_true (decide (o.cost < 0)) with q3 | q3
  ·replace hF := hF.1 q3
   refine .GS q3 ?_
   refine .GS q3 ?_
   refine .GS q3 ?_
   refine .V (pkT rfl q3 rfl) ?_
   refine .V ag0 ?_
   refine .nil ?_
   refine .sel0 [] (by decide) rfl ?_
   exact .US q7 true hF
  replace hF := hF.2 q3
  refine .GV (fa rfl tF52_3) q3 ?_
  refine .GV (lB 3 0 tO3) q3 ?_
  refine .GV bi0 q3 ?_
  refine .V (pkF rfl q3 rfl) ?_
  refine .V ag0 ?_
  refine .nil ?_
  refine .sel0 [] (by decide) rfl ?_
  exact .US q7 (decide (100 < o.cost)) hF
 refine .region (.V (fa rfl tF52_0) ?_)
 refine .V (lB 0 0 tO22) ?_
 refine .V mv0 ?_
 obtain ⟨q12, hF⟩ := hF
 obtain ⟨r2, q8⟩ : ∃ y_ : Bool, y_ = sp_isSet o.pre facts := ⟨_, rfl⟩
 replace hF := hF r2 q8
 refine .C (cl (v := .bool r2) Tryz.call36 rfl rfl (fun w S => (by rw [q8]; exact c_isSet S.sub o.pre ao co _q1 _q2 facts q12))) ?_
 refine .V (nt rfl) ?_
 refine .V mv0 ?_
 rcases Bool.eq_false_or_eq_true (!r2) with q0 | q0
 ·replace hF := hF.1 q0
  refine .GS q0 ?_
  refine .GS q0 ?_
  refine .GS q0 ?_
  refine .GS q0 ?_
  refine .GS q0 ?_
  refine .V (pkT rfl q0 rfl) ?_
  refine .V mv0 ?_
  refine .GT ?_
  refine .GT ?_
  refine .GT ?_
  refine .GT ?_
  refine .GT ?_
  refine .V (pkT rfl rfl rfl) ?_
  refine .V mv0 ?_
  refine .GT ?_
  refine .GT ?_
  refine .GT ?_
  refine .GT ?_
  refine .GT ?_
  refine .V (pkT rfl rfl rfl) ?_
  refine .V ag0 ?_
  refine .nil ?_
  exact .US q4 true hF
 replace hF := hF.2 q0
 refine .GV (fa rfl tF52_1) q0 ?_
 refine .GV (lB 1 0 tO22) q0 ?_
 refine .GV mv0 q0 ?_
 obtain ⟨q13, hF⟩ := hF
 obtain ⟨r3, q9⟩ : ∃ y_ : Bool, y_ = sp_isSet o.add facts := ⟨_, rfl⟩
 replace hF := hF r3 q9
 refine .gc (cl (v := .bool r3) Tryz.call36 rfl rfl (fun w S => (by rw [q9]; exact c_isSet S.sub o.add ao2 co2 _q3 _q4 facts q13))) rfl rfl rfl q0 rfl rfl ?_
 refine .GV (nt rfl) q0 ?_
 refine .V (pkF rfl q0 rfl) ?_
 refine .V mv0 ?_
 rcases Bool.eq_false_or_eq_true (!r3) with q1 | q1
 ·replace hF := hF.1 q1
  refine .GS q1 ?_
  refine .GS q1 ?_
  refine .GS q1 ?_
  refine .GS q1 ?_
  refine .GS q1 ?_
  refine .V (pkT rfl q1 rfl) ?_
  refine .V mv0 ?_
  refine .GT ?_
  refine .GT ?_
  refine .GT ?_
  refine .GT ?_
  refine .GT ?_
  refine .V (pkT rfl rfl rfl) ?_
  refine .V ag0 ?_
  refine .nil ?_
  exact .US q4 true hF
 replace hF := hF.2 q1
 refine .GV (fa rfl tF52_2) q1 ?_
 refine .GV (lB 2 0 tO22) q1 ?_
 refine .GV mv0 q1 ?_
 obtain ⟨q14, hF⟩ := hF
 obtain ⟨r4, q10⟩ : ∃ y_ : Bool, y_ = sp_isSet o.del facts := ⟨_, rfl⟩
 replace hF := hF r4 q10
 refine .gc (cl (v := .bool r4) Tryz.call36 rfl rfl (fun w S => (by rw [q10]; exact c_isSet S.sub o.del ao3 co3 _q5 _q6 facts q14))) rfl rfl rfl q1 rfl rfl ?_
 refine .GV (nt rfl) q1 ?_
 refine .V (pkF rfl q1 rfl) ?_
 refine .V mv0 ?_
 rcases Bool.eq_false_or_eq_true (!r4) with q2 | q2
 ·replace hF := hF.1 q2
  refine .GS q2 ?_
  refine .GS q2 ?_
  refine .GS q2 ?_
  refine .GS q2 ?_
  refine .GS q2 ?_
  refine .V (pkT rfl q2 rfl) ?_
  refine .V ag0 ?_
  refine .nil ?_
  exact .US q4 true hF
 replace hF := hF.2 q2
 refine .GV (fa rfl tF52_1) q2 ?_
 refine .GV (lB 1 0 tO22) q2 ?_
 refine .GV (fa rfl tF52_2) q2 ?_
 refine .GV (lB 2 0 tO22) q2 ?_
 obtain ⟨q15, hF⟩ := hF
 obtain ⟨r5, q11⟩ : ∃ y_ : Bool, y_ = sp_meets o.add o.del := ⟨_, rfl⟩
 replace hF := hF r5 q11
 refine .gc (cl (v := .bool r5) Tryz.call73 rfl rfl (fun w S => (by rw [q11]; exact c_meets S.sub o.add ao2 co2 _q3 _q4 o.del ao3 co3 _q5 _q6 q15))) rfl rfl rfl q2 rfl rfl ?_
 refine .V (pkF rfl q2 rfl) ?_
 refine .V ag0 ?_
 refine .nil ?_
 exact .US q4 r5 hF
theorem c_operator {h : FH} {w : World} (hs : Sub h w) (o : Operator) (ao : Option Addr) (co : Nat) (_q1 : RSl h ao o.pre) (_q2 : o.pre.length ≤ co) (ao2 : Option Addr) (co2 : Nat) (_q3 : RSl h ao2 o.add) (_q4 : o.add.length ≤ co2) (ao3 : Option Addr) (co3 : Nat) (_q5 : RSl h ao3 o.del) (_q6 : o.del.length ≤ co3) (facts : Int) (hp : pre_operator o facts) : Calls Tryz.prog 37 #[.agg #[.slice ao o.pre.length co, .slice ao2 o.add.length co2, .slice ao3 o.del.length co3, iV o.cost], iV facts] w fun e w' => e = .returned (iV (sp_operator o facts)) ∧ Below w.heap.size w w' :=
 (w_operator hs o ao co _q1 _q2 ao2 co2 _q3 _q4 ao3 co3 _q5 _q6 facts (fun r => r = sp_operator o facts) (ok_operator o facts hp)).mono fun _ _ ⟨_, hk, he, hb⟩ => ⟨by rw [he, hk], hb⟩
set_option maxHeartbeats 8000000 in
theorem w_validate {h : FH} {w : World} (hs : Sub h w) (t : Task) (at_ : Option Addr) (ct : Nat) (_q1 : RSl h at_ t.init) (_q2 : t.init.length ≤ ct) (at_2 : Option Addr) (ct2 : Nat) (_q3 : RSl h at_2 t.goal) (_q4 : t.goal.length ≤ ct2) (at_3 : Option Addr) (ct3 : Nat) (_q5 : RSl h at_3 t.ops) (_q6 : t.ops.length ≤ ct3) (K : Fault → Prop) (hF : F_validate t K) : Calls Tryz.prog 15 #[.agg #[iV t.facts, .slice at_ t.init.length ct, .slice at_2 t.goal.length ct2, .slice at_3 t.ops.length ct3]] w fun e w' => ∃ r : Fault, K r ∧ e = .returned (.agg #[iV r.code, iV r.index]) ∧ Below w.heap.size w w' := by
 refine enter (args := [.agg (tF t at_ ct at_2 ct2 at_3 ct3).toArray]) Tryz.func15 rfl Tryz.ntmps15 rfl hs ?_
 refine .seq (.region ?_)
 refine bx (vs := (tF t at_ ct at_2 ct2 at_3 ct3)) rfl rfl rfl (fun pt => ?_)
 refine al tZ27 rfl (fun pv => ?_)
 refine .nil (.seqN (.seq (.block ?_)))
 refine .share (σ := Bool) (fun z => F_validate_J1 t K z) (fun z => [(1, vP pt), (2, vP pv), (6, .bool z)]) (fun _ => [Box pt (tF t at_ ct at_2 ct2 at_3 ct3), Box pv [iV 0, iV 0]]) (fun _ => h) ?_ (fun q9 => ?_)
 ·rintro t6 hF
  show J _ _ _ _ _ [(1, vP pt), (2, vP pv), (6, .bool t6)] [Box pt (tF t at_ ct at_2 ct2 at_3 ct3), Box pv [iV 0, iV 0]] h
  refine .cond rfl (fun q1 => ?_) (fun q1 => ?_)
  ·replace hF := hF.1 q1
   refine .seq (.region (.V (bld (cs := #[iV 3, iV (-1)]) (pv := [(0, iV 3), (1, iV (-1))]) tB27 rfl rfl) ?_))
   refine st (p := pv) (off := 0) (k := 1) (vs := [iV 3, iV (-1)]) rfl rfl rfl (fun w => (tA27 w).2) rfl rfl rfl rfl ?_
   refine .KA [Box pt (tF t at_ ct at_2 ct2 at_3 ct3), Box pv [iV 3, iV (-1)]] ?_
   refine .nil (.seqN (.ret (.blkR (.seqR ?_))))
   refine .res1 rfl (rvC rfl tA27 (k := 1) rfl rfl) (fun w' S => ⟨(⟨3, (-1)⟩ : Fault), hF, rfl, S.below⟩)
  replace hF := hF.2 q1
  refine .seq (.region (.V (fa rfl tF25_1) ?_))
  refine .V (lB 1 0 tO22) ?_
  refine .V (fa rfl tF25_0) ?_
  refine .V (lB 0 0 tO3) ?_
  obtain ⟨q13, hF⟩ := hF
  obtain ⟨r2, q10⟩ : ∃ y_ : Bool, y_ = sp_isSet t.init t.facts := ⟨_, rfl⟩
  replace hF := hF r2 q10
  refine .C (cl (v := .bool r2) Tryz.call36 rfl rfl (fun w S => (by rw [q10]; exact c_isSet S.sub t.init at_ ct _q1 _q2 t.facts q13))) ?_
  refine .V (nt rfl) ?_
  refine .V ag0 ?_
  refine .nil (.seqN ?_)
  refine .cond rfl (fun q2 => ?_) (fun q2 => ?_)
  ·replace hF := hF.1 q2
   refine .seq (.region (.V (bld (cs := #[iV 5, iV (-2)]) (pv := [(0, iV 5), (1, iV (-2))]) tB27 rfl rfl) ?_))
   refine st (p := pv) (off := 0) (k := 1) (vs := [iV 5, iV (-2)]) rfl rfl rfl (fun w => (tA27 w).2) rfl rfl rfl rfl ?_
   refine .KA [Box pt (tF t at_ ct at_2 ct2 at_3 ct3), Box pv [iV 5, iV (-2)]] ?_
   refine .nil (.seqN (.ret (.blkR (.seqR ?_))))
   refine .res1 rfl (rvC rfl tA27 (k := 1) rfl rfl) (fun w' S => ⟨(⟨5, (-2)⟩ : Fault), hF, rfl, S.below⟩)
  replace hF := hF.2 q2
  refine .seq (.region (.V (fa rfl tF25_2) ?_))
  refine .V (lB 2 0 tO22) ?_
  refine .V (fa rfl tF25_0) ?_
  refine .V (lB 0 0 tO3) ?_
  obtain ⟨q14, hF⟩ := hF
  obtain ⟨r3, q11⟩ : ∃ y_ : Bool, y_ = sp_isSet t.goal t.facts := ⟨_, rfl⟩
  replace hF := hF r3 q11
  refine .C (cl (v := .bool r3) Tryz.call36 rfl rfl (fun w S => (by rw [q11]; exact c_isSet S.sub t.goal at_2 ct2 _q3 _q4 t.facts q14))) ?_
  refine .V (nt rfl) ?_
  refine .V ag0 ?_
  refine .nil (.seqN ?_)
  refine .cond rfl (fun q3 => ?_) (fun q3 => ?_)
  ·replace hF := hF.1 q3
   refine .seq (.region (.V (bld (cs := #[iV 5, iV (-3)]) (pv := [(0, iV 5), (1, iV (-3))]) tB27 rfl rfl) ?_))
   refine st (p := pv) (off := 0) (k := 1) (vs := [iV 5, iV (-3)]) rfl rfl rfl (fun w => (tA27 w).2) rfl rfl rfl rfl ?_
   refine .KA [Box pt (tF t at_ ct at_2 ct2 at_3 ct3), Box pv [iV 5, iV (-3)]] ?_
   refine .nil (.seqN (.ret (.blkR (.seqR ?_))))
   refine .res1 rfl (rvC rfl tA27 (k := 1) rfl rfl) (fun w' S => ⟨(⟨5, (-3)⟩ : Fault), hF, rfl, S.below⟩)
  replace hF := hF.2 q3
  refine .seq (.region (.V (fa rfl tF25_3) ?_))
  refine .V (lB 3 0 tO23) ?_
  refine .V (ln rfl tS23.is) ?_
  refine .V bi0 ?_
  refine .V ag0 ?_
  refine .nil (.seqN ?_)
  refine .cond rfl (fun q4 => ?_) (fun q4 => ?_)
  ·replace hF := hF.1 q4
   refine .seq (.region (.V (bld (cs := #[iV 2, iV (-1)]) (pv := [(0, iV 2), (1, iV (-1))]) tB27 rfl rfl) ?_))
   refine st (p := pv) (off := 0) (k := 1) (vs := [iV 2, iV (-1)]) rfl rfl rfl (fun w => (tA27 w).2) rfl rfl rfl rfl ?_
   refine .KA [Box pt (tF t at_ ct at_2 ct2 at_3 ct3), Box pv [iV 2, iV (-1)]] ?_
   refine .nil (.seqN (.ret (.blkR (.seqR ?_))))
   refine .res1 rfl (rvC rfl tA27 (k := 1) rfl rfl) (fun w' S => ⟨(⟨2, (-1)⟩ : Fault), hF, rfl, S.below⟩)
  replace hF := hF.2 q4
  refine .skip (.blkN (.seqN (.seq (.seq (.region (.V (fa rfl tF25_3) ?_))))))
  refine .V (lB 3 0 tO23) ?_
  refine .V (ln rfl tS23.is) ?_
  refine .V mv0 ?_
  refine .nil (.seqN (.block ?_))
  obtain ⟨I1, μ1, q5, q15⟩ := hF
  refine .loop' (σ := Int) (fun z => I1 z) (fun z => μ1 z) (fun z => [(1, vP pt), (2, vP pv), (39, vSl at_3 t.ops ct3), (40, iV ((t.ops.length : Nat) : Int)), (41, iV z)]) (fun _ => [Box pt (tF t at_ ct at_2 ct2 at_3 ct3), Box pv [iV 0, iV 0]]) (fun _ => h) 0 q5 sb rfl (FH.le_refl _) ?_
  rintro t41 q5
  have hF := q15 t41 q5
  show J _ _ _ _ _ [(1, vP pt), (2, vP pv), (39, vSl at_3 t.ops ct3), (40, iV ((t.ops.length : Nat) : Int)), (41, iV t41)] [Box pt (tF t at_ ct at_2 ct2 at_3 ct3), Box pv [iV 0, iV 0]] h
  refine .seq (.region (.V bi0 ?_))
  refine .nil (.seqN (.seq ?_))
  refine .cond rfl (fun q6 => ?_) (fun q6 => ?_)
  ·replace hF := hF.1 q6
   refine .skip (.seqN (.seq (.block (.seq (.region (.V mv0 ?_))))))
   obtain ⟨q7, hF⟩ := hF
   refine .V (ix rfl rfl tS23 (_q5.ne (by decide) (inb_pos q7)) q7) ?_
   obtain ⟨_, ⟨a, c, a2, c2, a3, c3, rfl, ⟨q16, q17⟩, ⟨q18, q19⟩, q20, q21⟩, q22⟩ := _q5.elem q7
   refine .V (ldA (cs := [.slice a ((gt t.ops t41).pre.length) c, .slice a2 ((gt t.ops t41).add.length) c2, .slice a3 ((gt t.ops t41).del.length) c3, iV ((gt t.ops t41).cost)]) rfl tA52 rfl (cellsH (q22 (by decide)))) ?_
   refine al tZ52 rfl (fun po => ?_)
   refine .V ag0 ?_
   refine st (p := po) (off := 0) (k := 0) (vs := [.slice a ((gt t.ops t41).pre.length) c, .slice a2 ((gt t.ops t41).add.length) c2, .slice a3 ((gt t.ops t41).del.length) c3, iV ((gt t.ops t41).cost)]) rfl rfl rfl (fun w => (tA52 w).2) rfl rfl rfl rfl ?_
   refine .KA [Box po [.slice a ((gt t.ops t41).pre.length) c, .slice a2 ((gt t.ops t41).add.length) c2, .slice a3 ((gt t.ops t41).del.length) c3, iV ((gt t.ops t41).cost)], Box pt (tF t at_ ct at_2 ct2 at_3 ct3), Box pv [iV 0, iV 0]] ?_
   refine .nil (.seqN (.seq (.region (.V (ldA (cs := [.slice a ((gt t.ops t41).pre.length) c, .slice a2 ((gt t.ops t41).add.length) c2, .slice a3 ((gt t.ops t41).del.length) c3, iV ((gt t.ops t41).cost)]) rfl tA52 rfl (cellsB (off := 0) (k := 0) rfl (m := 4) rfl)) ?_))))
   refine .V (fa rfl tF25_0) ?_
   refine .V (lB 0 1 tO3) ?_
   obtain ⟨q23, hF⟩ := hF
   obtain ⟨r4, q12⟩ : ∃ y_ : Int, y_ = sp_operator (gt t.ops t41) t.facts := ⟨_, rfl⟩
   replace hF := hF r4 q12
   refine .C (cl (v := iV r4) Tryz.call37 rfl rfl (fun w S => (by rw [q12]; exact c_operator S.sub (gt t.ops t41) a c q17 q16 a2 c2 q19 q18 a3 c3 q21 q20 t.facts q23))) ?_
   refine .V ag0 ?_
   refine .nil (.seqN (.seq (.region (.V mv0 ?_))))
   refine .V bi0 ?_
   refine .nil (.seqN ?_)
   refine .cond rfl (fun q8 => ?_) (fun q8 => ?_)
   ·replace hF := hF.1 q8
    refine .seq (.region (.V mv0 ?_))
    refine .V mv0 ?_
    refine .V (bld (cs := #[iV r4, iV t41]) (pv := [(0, iV r4), (1, iV t41)]) tB27 rfl rfl) ?_
    refine st (p := pv) (off := 0) (k := 2) (vs := [iV r4, iV t41]) rfl rfl rfl (fun w => (tA27 w).2) rfl rfl rfl rfl ?_
    refine .KA [Box po [.slice a ((gt t.ops t41).pre.length) c, .slice a2 ((gt t.ops t41).add.length) c2, .slice a3 ((gt t.ops t41).del.length) c3, iV ((gt t.ops t41).cost)], Box pt (tF t at_ ct at_2 ct2 at_3 ct3), Box pv [iV r4, iV t41]] ?_
    refine .nil (.seqN (.ret (.blkR (.seqR (.seqR (.blkR (.seqR ?_)))))))
    refine .res1 rfl (rvC rfl tA27 (k := 2) rfl rfl) (fun w' S => ⟨(⟨r4, t41⟩ : Fault), hF, rfl, S.below⟩)
   replace hF := hF.2 q8
   refine .skip (.blkN (.seqN (.region (.V bi0 ?_))))
   refine .V mv0 ?_
   refine .nil ?_
   refine .sel0 [1, 2] (by decide) rfl ?_
   exact .RO (wr (t41 + 1)) hF.1 hF.2
  replace hF := hF.2 q6
  refine .exit (.seqX (.seqX (.blkX (.seqN (.seq (.region (.V (bld (cs := #[iV 0, iV 0]) (pv := []) tB27 rfl rfl) ?_)))))))
  refine st (p := pv) (off := 0) (k := 1) (vs := [iV 0, iV 0]) rfl rfl rfl (fun w => (tA27 w).2) rfl rfl rfl rfl ?_
  refine .KA [Box pt (tF t at_ ct at_2 ct2 at_3 ct3), Box pv [iV 0, iV 0]] ?_
  refine .nil (.seqN (.ret ?_))
  refine .res1 rfl (rvC rfl tA27 (k := 1) rfl rfl) (fun w' S => ⟨(⟨0, 0⟩ : Fault), hF, rfl, S.below⟩)
 refine .region (.V (fa rfl tF25_0) ?_)
 refine .V (lB 0 1 tO3) ?_
 refine .V bi0 ?_
 refine .V mv0 ?_
 rcases Bool.eq_false_or_eq_true (decide (t.facts < 0)) with q0 | q0
 ·replace hF := hF.1 q0
  refine .GS q0 ?_
  refine .GS q0 ?_
  refine .GS q0 ?_
  refine .V (pkT rfl q0 rfl) ?_
  refine .V ag0 ?_
  refine .nil ?_
  refine .sel0 [1, 0] (by decide) rfl ?_
  exact .US q9 true hF
 replace hF := hF.2 q0
 refine .GV (fa rfl tF25_0) q0 ?_
 refine .GV (lB 0 1 tO3) q0 ?_
 refine .GV bi0 q0 ?_
 refine .V (pkF rfl q0 rfl) ?_
 refine .V ag0 ?_
 refine .nil ?_
 refine .sel0 [1, 0] (by decide) rfl ?_
 exact .US q9 (decide (24 < t.facts)) hF
theorem c_validate {h : FH} {w : World} (hs : Sub h w) (t : Task) (at_ : Option Addr) (ct : Nat) (_q1 : RSl h at_ t.init) (_q2 : t.init.length ≤ ct) (at_2 : Option Addr) (ct2 : Nat) (_q3 : RSl h at_2 t.goal) (_q4 : t.goal.length ≤ ct2) (at_3 : Option Addr) (ct3 : Nat) (_q5 : RSl h at_3 t.ops) (_q6 : t.ops.length ≤ ct3) : Calls Tryz.prog 15 #[.agg #[iV t.facts, .slice at_ t.init.length ct, .slice at_2 t.goal.length ct2, .slice at_3 t.ops.length ct3]] w fun e w' => e = .returned (.agg #[iV (sp_validate t).code, iV (sp_validate t).index]) ∧ Below w.heap.size w w' :=
 (w_validate hs t at_ ct _q1 _q2 at_2 ct2 _q3 _q4 at_3 ct3 _q5 _q6 (fun r => r = sp_validate t) (ok_validate t)).mono fun _ _ ⟨_, hk, he, hb⟩ => ⟨by rw [he, hk], hb⟩
theorem w_steps {h : FH} {w : World} (hs : Sub h w) (operators : Int) (plan : List Int) (aplan : Option Addr) (cplan : Nat) (_q1 : RSl h aplan plan) (_q2 : plan.length ≤ cplan) (K : Fault → Prop) (hF : F_steps operators plan K) : Calls Tryz.prog 74 #[iV operators, .slice aplan plan.length cplan] w fun e w' => ∃ r : Fault, K r ∧ e = .returned (.agg #[iV r.code, iV r.index]) ∧ Below w.heap.size w w' := by
 refine enter (args := [iV operators, vSl aplan plan cplan]) Tryz.func74 rfl Tryz.ntmps74 rfl hs ?_
 refine .seq (.region ?_)
 refine al tZ27 rfl (fun pv => ?_)
 refine .nil (.seqN (.seq (.seq (.region (.V mv0 ?_)))))
 refine .V (ln rfl tS22.is) ?_
 refine .V bi0 ?_
 refine .nil (.seqN ?_)
 refine .cond rfl (fun q1 => ?_) (fun q1 => ?_)
 ·replace hF := hF.1 q1
  refine .seq (.region (.V (bld (cs := #[iV 2, iV (-5)]) (pv := [(0, iV 2), (1, iV (-5))]) tB27 rfl rfl) ?_))
  refine st (p := pv) (off := 0) (k := 0) (vs := [iV 2, iV (-5)]) rfl rfl rfl (fun w => (tA27 w).2) rfl rfl rfl rfl ?_
  refine .KA [Box pv [iV 2, iV (-5)]] ?_
  refine .nil (.seqN (.ret (.seqR ?_)))
  refine .res1 rfl (rvC rfl tA27 (k := 0) rfl rfl) (fun w' S => ⟨(⟨2, (-5)⟩ : Fault), hF, rfl, S.below⟩)
 replace hF := hF.2 q1
 refine .skip (.seqN (.seq (.seq (.region (.V mv0 ?_)))))
 refine .V (ln rfl tS22.is) ?_
 refine .V mv0 ?_
 refine .nil (.seqN (.block ?_))
 obtain ⟨I1, μ1, q2, q7⟩ := hF
 refine .loop' (σ := Int) (fun z => I1 z) (fun z => μ1 z) (fun z => [(0, iV operators), (4, vP pv), (11, vSl aplan plan cplan), (12, iV ((plan.length : Nat) : Int)), (13, iV z)]) (fun _ => [Box pv [iV 0, iV 0]]) (fun _ => h) 0 q2 sb rfl (FH.le_refl _) ?_
 rintro t13 q2
 have hF := q7 t13 q2
 show J _ _ _ _ _ [(0, iV operators), (4, vP pv), (11, vSl aplan plan cplan), (12, iV ((plan.length : Nat) : Int)), (13, iV t13)] [Box pv [iV 0, iV 0]] h
 refine .seq (.region (.V bi0 ?_))
 refine .nil (.seqN (.seq ?_))
 refine .cond rfl (fun q3 => ?_) (fun q3 => ?_)
 ·replace hF := hF.1 q3
  refine .skip (.seqN (.seq (.block (.seq (.region ?_)))))
  obtain ⟨q4, hF⟩ := hF
  refine .V (ix rfl rfl tS22 (_q1.ne (by decide) (inb_pos q4)) q4) ?_
  refine .V (ld1 (v := iV (gt plan t13)) rfl tO3 (cellH (_q1.elemF q4 (by decide) 0 _ rfl))) ?_
  refine .V ag0 ?_
  refine .nil (.seqN ?_)
  refine .share (σ := Bool) (fun z => F_steps_J1 K z t13 I1 μ1) (fun z => [(0, iV operators), (4, vP pv), (11, vSl aplan plan cplan), (12, iV ((plan.length : Nat) : Int)), (13, iV t13), (23, .bool z)]) (fun _ => [Box pv [iV 0, iV 0]]) (fun _ => h) ?_ (fun q6 => ?_)
  ·rintro t23 hF
   show J _ _ _ _ _ [(0, iV operators), (4, vP pv), (11, vSl aplan plan cplan), (12, iV ((plan.length : Nat) : Int)), (13, iV t13), (23, .bool t23)] [Box pv [iV 0, iV 0]] h
   refine .cond rfl (fun q5 => ?_) (fun q5 => ?_)
   ·replace hF := hF.1 q5
    refine .seq (.region (.V (bld (cs := #[iV 3, iV (-6)]) (pv := [(0, iV 3), (1, iV (-6))]) tB27 rfl rfl) ?_))
    refine st (p := pv) (off := 0) (k := 0) (vs := [iV 3, iV (-6)]) rfl rfl rfl (fun w => (tA27 w).2) rfl rfl rfl rfl ?_
    refine .KA [Box pv [iV 3, iV (-6)]] ?_
    refine .nil (.seqN (.ret (.blkR (.seqR (.seqR (.blkR (.seqR ?_)))))))
    refine .res1 rfl (rvC rfl tA27 (k := 0) rfl rfl) (fun w' S => ⟨(⟨3, (-6)⟩ : Fault), hF, rfl, S.below⟩)
   replace hF := hF.2 q5
   refine .skip (.blkN (.seqN (.region (.V bi0 ?_))))
   refine .V mv0 ?_
   refine .nil ?_
   exact .RO (wr (t13 + 1)) hF.1 hF.2
  refine .region (.V mv0 ?_)
  refine .V bi0 ?_
  refine .V mv0 ?_
  rcases Bool.eq_false_or_eq_true (decide ((gt plan t13) < 0)) with q0 | q0
  ·replace hF := hF.1 q0
   refine .GS q0 ?_
   refine .GS q0 ?_
   refine .GS q0 ?_
   refine .V (pkT rfl q0 rfl) ?_
   refine .nil ?_
   exact .US q6 true hF
  replace hF := hF.2 q0
  refine .GV mv0 q0 ?_
  refine .GV mv0 q0 ?_
  refine .GV bi0 q0 ?_
  refine .V (pkF rfl q0 rfl) ?_
  refine .nil ?_
  exact .US q6 (decide (operators ≤ (gt plan t13))) hF
 replace hF := hF.2 q3
 refine .exit (.seqX (.seqX (.blkX (.seqN (.seq (.region (.V (bld (cs := #[iV 0, iV 0]) (pv := []) tB27 rfl rfl) ?_)))))))
 refine st (p := pv) (off := 0) (k := 0) (vs := [iV 0, iV 0]) rfl rfl rfl (fun w => (tA27 w).2) rfl rfl rfl rfl ?_
 refine .KA [Box pv [iV 0, iV 0]] ?_
 refine .nil (.seqN (.ret ?_))
 refine .res1 rfl (rvC rfl tA27 (k := 0) rfl rfl) (fun w' S => ⟨(⟨0, 0⟩ : Fault), hF, rfl, S.below⟩)
theorem c_steps {h : FH} {w : World} (hs : Sub h w) (operators : Int) (plan : List Int) (aplan : Option Addr) (cplan : Nat) (_q1 : RSl h aplan plan) (_q2 : plan.length ≤ cplan) (hp : pre_steps operators plan) : Calls Tryz.prog 74 #[iV operators, .slice aplan plan.length cplan] w fun e w' => e = .returned (.agg #[iV (sp_steps operators plan).code, iV (sp_steps operators plan).index]) ∧ Below w.heap.size w w' :=
 (w_steps hs operators plan aplan cplan _q1 _q2 (fun r => r = sp_steps operators plan) (ok_steps operators plan hp)).mono fun _ _ ⟨_, hk, he, hb⟩ => ⟨by rw [he, hk], hb⟩
theorem w_planFault {h : FH} {w : World} (hs : Sub h w) (t : Task) (at_ : Option Addr) (ct : Nat) (_q1 : RSl h at_ t.init) (_q2 : t.init.length ≤ ct) (at_2 : Option Addr) (ct2 : Nat) (_q3 : RSl h at_2 t.goal) (_q4 : t.goal.length ≤ ct2) (at_3 : Option Addr) (ct3 : Nat) (_q5 : RSl h at_3 t.ops) (_q6 : t.ops.length ≤ ct3) (plan : List Int) (aplan : Option Addr) (cplan : Nat) (_q7 : RSl h aplan plan) (_q8 : plan.length ≤ cplan) (K : Fault → Prop) (hF : F_planFault t plan K) : Calls Tryz.prog 38 #[.agg #[iV t.facts, .slice at_ t.init.length ct, .slice at_2 t.goal.length ct2, .slice at_3 t.ops.length ct3], .slice aplan plan.length cplan] w fun e w' => ∃ r : Fault, K r ∧ e = .returned (.agg #[iV r.code, iV r.index]) ∧ Below w.heap.size w w' := by
 refine enter (args := [.agg (tF t at_ ct at_2 ct2 at_3 ct3).toArray, vSl aplan plan cplan]) Tryz.func38 rfl Tryz.ntmps38 rfl hs ?_
 refine .seq (.region ?_)
 refine bx (vs := (tF t at_ ct at_2 ct2 at_3 ct3)) rfl rfl rfl (fun pt => ?_)
 refine al tZ27 rfl (fun pv => ?_)
 refine .nil (.seqN (.seq (.seq (.region (.V (ldA (cs := (tF t at_ ct at_2 ct2 at_3 ct3)) rfl tA25 rfl (cellsB (off := 0) (k := 1) rfl (m := 4) rfl)) ?_)))))
 obtain ⟨r2, q1⟩ : ∃ y_ : Fault, y_ = sp_validate t := ⟨_, rfl⟩
 replace hF := hF r2 q1
 refine .C (cl (v := .agg #[iV r2.code, iV r2.index]) Tryz.call15 rfl rfl (fun w S => (by rw [q1]; exact c_validate S.sub t at_ ct _q1 _q2 at_2 ct2 _q3 _q4 at_3 ct3 _q5 _q6 ))) ?_
 refine al tZ27 rfl (fun pf => ?_)
 refine st (p := pf) (off := 0) (k := 0) (vs := [iV r2.code, iV r2.index]) rfl rfl rfl (fun w => (tA27 w).2) rfl rfl rfl rfl ?_
 refine .KA [Box pf [iV r2.code, iV r2.index], Box pv [iV 0, iV 0], Box pt (tF t at_ ct at_2 ct2 at_3 ct3)] ?_
 refine .nil (.seqN (.seq (.region (.V (ldA (cs := [iV r2.code, iV r2.index]) rfl tA27 rfl (cellsB (off := 0) (k := 0) rfl (m := 2) rfl)) ?_))))
 refine .V (bld (cs := #[iV 0, iV 0]) (pv := []) tB27 rfl rfl) ?_
 refine .V (ne2 tE27 rfl rfl) ?_
 refine .nil (.seqN ?_)
 refine .cond rfl (fun q0 => ?_) (fun q0 => ?_)
 ·replace hF := hF.1 q0
  refine .seq (.region (.V (ldA (cs := [iV r2.code, iV r2.index]) rfl tA27 rfl (cellsB (off := 0) (k := 0) rfl (m := 2) rfl)) ?_))
  refine st (p := pv) (off := 0) (k := 1) (vs := [iV r2.code, iV r2.index]) rfl rfl rfl (fun w => (tA27 w).2) rfl rfl rfl rfl ?_
  refine .KA [Box pf [iV r2.code, iV r2.index], Box pv [iV r2.code, iV r2.index], Box pt (tF t at_ ct at_2 ct2 at_3 ct3)] ?_
  refine .nil (.seqN (.ret (.seqR ?_)))
  refine .res1 rfl (rvC rfl tA27 (k := 1) rfl rfl) (fun w' S => ⟨r2, hF, rfl, S.below⟩)
 replace hF := hF.2 q0
 refine .skip (.seqN (.seq (.region (.V (fa rfl tF25_3) ?_))))
 refine .V (lB 3 2 tO23) ?_
 refine .V (ln rfl tS23.is) ?_
 refine .V mv0 ?_
 obtain ⟨q3, hF⟩ := hF
 obtain ⟨r3, q2⟩ : ∃ y_ : Fault, y_ = sp_steps ((t.ops.length : Nat) : Int) plan := ⟨_, rfl⟩
 replace hF := hF r3 q2
 refine .C (cl (v := .agg #[iV r3.code, iV r3.index]) Tryz.call74 rfl rfl (fun w S => (by rw [q2]; exact c_steps S.sub ((t.ops.length : Nat) : Int) plan aplan cplan _q7 _q8 q3))) ?_
 refine st (p := pv) (off := 0) (k := 1) (vs := [iV r3.code, iV r3.index]) rfl rfl rfl (fun w => (tA27 w).2) rfl rfl rfl rfl ?_
 refine .KA [Box pf [iV r2.code, iV r2.index], Box pv [iV r3.code, iV r3.index], Box pt (tF t at_ ct at_2 ct2 at_3 ct3)] ?_
 refine .nil (.seqN (.ret ?_))
 refine .res1 rfl (rvC rfl tA27 (k := 1) rfl rfl) (fun w' S => ⟨r3, hF, rfl, S.below⟩)
theorem c_planFault {h : FH} {w : World} (hs : Sub h w) (t : Task) (at_ : Option Addr) (ct : Nat) (_q1 : RSl h at_ t.init) (_q2 : t.init.length ≤ ct) (at_2 : Option Addr) (ct2 : Nat) (_q3 : RSl h at_2 t.goal) (_q4 : t.goal.length ≤ ct2) (at_3 : Option Addr) (ct3 : Nat) (_q5 : RSl h at_3 t.ops) (_q6 : t.ops.length ≤ ct3) (plan : List Int) (aplan : Option Addr) (cplan : Nat) (_q7 : RSl h aplan plan) (_q8 : plan.length ≤ cplan) : Calls Tryz.prog 38 #[.agg #[iV t.facts, .slice at_ t.init.length ct, .slice at_2 t.goal.length ct2, .slice at_3 t.ops.length ct3], .slice aplan plan.length cplan] w fun e w' => e = .returned (.agg #[iV (sp_planFault t plan).code, iV (sp_planFault t plan).index]) ∧ Below w.heap.size w w' :=
 (w_planFault hs t at_ ct _q1 _q2 at_2 ct2 _q3 _q4 at_3 ct3 _q5 _q6 plan aplan cplan _q7 _q8 (fun r => r = sp_planFault t plan) (ok_planFault t plan)).mono fun _ _ ⟨_, hk, he, hb⟩ => ⟨by rw [he, hk], hb⟩
theorem w_clone {h : FH} {w : World} (hs : Sub h w) (s_ : List Int) (as_ : Option Addr) (cs_ : Nat) (_q1 : RSl h as_ s_) (_q2 : s_.length ≤ cs_) (K : (List Int) → Prop) (hF : F_clone s_ K) : Calls Tryz.prog 26 #[.slice as_ s_.length cs_] w fun e w' => ∃ (r : List Int) (z : Option Addr × Nat) (h1 : FH), K r ∧ e = .returned (.slice z.1 r.length z.2) ∧ FH.le h h1 ∧ (RSl h1 z.1 r ∧ r.length ≤ z.2) ∧ SH (Kp.all w h) h1 w' [] := by
 refine enter (args := [vSl as_ s_ cs_]) Tryz.func26 rfl Tryz.ntmps26 rfl hs ?_
 refine .seq (.region (.V ag0 ?_))
 refine .nil (.seqN (.seq (.seq (.region (.V mv0 ?_)))))
 refine .V (eqnil tS22.is rfl rfl) ?_
 refine .nil (.seqN ?_)
 refine .cond rfl (fun q2 => ?_) (fun _ => ?_)
 ·replace hF := hF.1 (RSl.nil_of _q1 (by decide) q2)
  refine .seq (.region (.V ag0 ?_))
  refine .nil (.seqN (.ret (.seqR ?_)))
  refine .res1 rfl (rvT rfl) (fun w' S => ⟨([] : List Int), (none, 0), h, hF, rfl, (FH.le_refl _), ⟨RSl.nil_, (Nat.le_refl 0)⟩, S.none⟩)
 replace hF := hF.2
 refine .skip (.seqN (.seq (.region ?_)))
 refine bs2 (cs := #[]) (pv := []) tS22 rfl rfl (by decide) (by decide) rfl rfl rfl (fun a _ => ?_)
 refine .KA [oL 3 1 a ([] : List Int) 0] ?_
 refine .V mv0 ?_
 obtain ⟨q1, hF⟩ := hF
 have q0 : ([] : List Int).length + s_.length = ((([] : List Int) ++ s_)).length := len_app rfl rfl
 refine app (k := 0) (news := flL s_) (cs' := flL (([] : List Int) ++ s_)) (nm := ((([] : List Int) ++ s_)).length) tS22 rfl (by decide) rfl rfl rfl ((flL_len _).trans rfl) (srcH (fun q => _q1.ne (by decide) q) (_q1.raw)) (flL_one _) (room_of q0 q1).1 (room_of q0 q1).2 q0 (flL_append _ _).symm rfl (fun a2 c => ?_)
 refine .KA [oL 3 1 a2 (([] : List Int) ++ s_) c] ?_
 refine .V ag0 ?_
 refine .nil (.seqN ?_)
 refine .freezeL (k := 0) rfl (fun h1 le1 q3 q4 => ?_)
 refine .KA [tru] ?_
 refine .ret ?_
 refine .res1 rfl (rvT rfl) (fun w' S => ⟨(([] : List Int) ++ s_), (a2, c), h1, hF, rfl, (le1), ⟨(RSl.of q4), (q3)⟩, S.none⟩)
theorem c_clone {h : FH} {w : World} (hs : Sub h w) (s_ : List Int) (as_ : Option Addr) (cs_ : Nat) (_q1 : RSl h as_ s_) (_q2 : s_.length ≤ cs_) (hp : pre_clone s_) : Calls Tryz.prog 26 #[.slice as_ s_.length cs_] w fun e w' => ∃ (z : Option Addr × Nat) (h1 : FH), e = .returned (.slice z.1 (sp_clone s_).length z.2) ∧ FH.le h h1 ∧ (RSl h1 z.1 (sp_clone s_) ∧ (sp_clone s_).length ≤ z.2) ∧ SH (Kp.all w h) h1 w' [] :=
 (w_clone hs s_ as_ cs_ _q1 _q2 (fun r => r = sp_clone s_) (ok_clone s_ hp)).mono fun _ _ ⟨r, z, h1, hk, he, hl, hf, hS⟩ => by subst hk; exact ⟨z, h1, he, hl, hf, hS⟩
theorem w_cloneO {h : FH} {w : World} (hs : Sub h w) (s_ : List Int) (as_ : Option Addr) (cs_ : Nat) (_q1 : RSl h as_ s_) (_q2 : s_.length ≤ cs_) (K : (List Int) → Prop) (hF : F_cloneO s_ K) : Calls Tryz.prog 26 #[.slice as_ s_.length cs_] w fun e w' => ∃ (r : List Int) (z : Option Addr × Nat) (h1 : FH), K r ∧ e = .returned (.slice z.1 r.length z.2) ∧ FH.le h h1 ∧ True ∧ SH (Kp.all w h) h1 w' [OwnSl 3 1 z.1 r.length z.2 (flL r)] := by
 refine enter (args := [vSl as_ s_ cs_]) Tryz.func26 rfl Tryz.ntmps26 rfl hs ?_
 refine .seq (.region (.V ag0 ?_))
 refine .nil (.seqN (.seq (.seq (.region (.V mv0 ?_)))))
 refine .V (eqnil tS22.is rfl rfl) ?_
 refine .nil (.seqN ?_)
 refine .cond rfl (fun q2 => ?_) (fun _ => ?_)
 ·replace hF := hF.1 (RSl.nil_of _q1 (by decide) q2)
  refine .seq (.region (.V ag0 ?_))
  refine .nil (.seqN ?_)
  refine .nilSl 3 1 ?_
  refine .KA [oL 3 1 none ([] : List Int) 0] ?_
  refine .ret (.seqR ?_)
  refine .res1 rfl (rvT rfl) (fun w' S => ⟨([] : List Int), (none, 0), h, hF, rfl, (FH.le_refl _), trivial, S.pick (k := 0) rfl⟩)
 replace hF := hF.2
 refine .skip (.seqN (.seq (.region ?_)))
 refine bs2 (cs := #[]) (pv := []) tS22 rfl rfl (by decide) (by decide) rfl rfl rfl (fun a _ => ?_)
 refine .KA [oL 3 1 a ([] : List Int) 0] ?_
 refine .V mv0 ?_
 obtain ⟨q1, hF⟩ := hF
 have q0 : ([] : List Int).length + s_.length = ((([] : List Int) ++ s_)).length := len_app rfl rfl
 refine app (k := 0) (news := flL s_) (cs' := flL (([] : List Int) ++ s_)) (nm := ((([] : List Int) ++ s_)).length) tS22 rfl (by decide) rfl rfl rfl ((flL_len _).trans rfl) (srcH (fun q => _q1.ne (by decide) q) (_q1.raw)) (flL_one _) (room_of q0 q1).1 (room_of q0 q1).2 q0 (flL_append _ _).symm rfl (fun a2 c => ?_)
 refine .KA [oL 3 1 a2 (([] : List Int) ++ s_) c] ?_
 refine .V ag0 ?_
 refine .nil (.seqN (.ret ?_))
 refine .res1 rfl (rvT rfl) (fun w' S => ⟨(([] : List Int) ++ s_), (a2, c), h, hF, rfl, (FH.le_refl _), trivial, S.pick (k := 0) rfl⟩)
theorem c_cloneO {h : FH} {w : World} (hs : Sub h w) (s_ : List Int) (as_ : Option Addr) (cs_ : Nat) (_q1 : RSl h as_ s_) (_q2 : s_.length ≤ cs_) (hp : pre_clone s_) : Calls Tryz.prog 26 #[.slice as_ s_.length cs_] w fun e w' => ∃ (z : Option Addr × Nat) (h0 h1 : FH), e = .returned (.slice z.1 (sp_clone s_).length z.2) ∧ (True) ∧ FH.le h h1 ∧ SH (Kp.all w h0) h1 w' [OwnSl 3 1 z.1 (sp_clone s_).length z.2 (flL (sp_clone s_))] :=
 (w_cloneO hs s_ as_ cs_ _q1 _q2 (fun r => r = sp_clone s_) (ok_cloneO s_ hp)).mono fun _ _ ⟨r, z, h1, hk, he, hl, hψ, hS⟩ => by subst hk; exact ⟨z, h, h1, he, hψ, hl, hS⟩
theorem w_update {h : FH} {w : World} (hs : Sub h w) (s_ : List Int) (as_ : Option Addr) (cs_ : Nat) (_q1 : RSl h as_ s_) (_q2 : s_.length ≤ cs_) (add : List Int) (aadd : Option Addr) (cadd : Nat) (_q3 : RSl h aadd add) (_q4 : add.length ≤ cadd) (del : List Int) (adel : Option Addr) (cdel : Nat) (_q5 : RSl h adel del) (_q6 : del.length ≤ cdel) (K : (List Int) → Prop) (hF : F_update s_ add del K) : Calls Tryz.prog 92 #[.slice as_ s_.length cs_, .slice aadd add.length cadd, .slice adel del.length cdel] w fun e w' => ∃ (r : List Int) (z : Option Addr × Nat) (h1 : FH), K r ∧ e = .returned (.slice z.1 r.length z.2) ∧ FH.le h h1 ∧ True ∧ SH (Kp.all w h) h1 w' [OwnSl 3 1 z.1 r.length z.2 (flL r)] := by
 refine enter (args := [vSl as_ s_ cs_, vSl aadd add cadd, vSl adel del cdel]) Tryz.func92 rfl Tryz.ntmps92 rfl hs ?_
 refine .seq (.region (.V ag0 ?_))
 refine .nil (.seqN (.seq (.region (.V ag0 ?_))))
 refine .nil (.seqN (.seq (.seq (.region (.V mv0 ?_)))))
 refine .V (ln rfl tS22.is) ?_
 refine .V mv0 ?_
 refine .nil (.seqN (.block ?_))
 refine .nilSl 3 1 ?_
 refine .KA [oL 3 1 none ([] : List Int) 0] ?_
 obtain ⟨I1, μ1, q0, q13⟩ := hF
 refine .loop' (σ := Int × List Int × Option Addr × Nat) (fun z => I1 z.1 z.2.1) (fun z => μ1 z.1 z.2.1) (fun z => [(1, vSl aadd add cadd), (2, vSl adel del cdel), (7, vSl z.2.2.1 z.2.1 z.2.2.2), (12, vSl as_ s_ cs_), (13, iV ((s_.length : Nat) : Int)), (14, iV z.1)]) (fun z => [oL 3 1 z.2.2.1 z.2.1 z.2.2.2]) (fun _ => h) (0, ([] : List Int), none, 0) q0 sb rfl (FH.le_refl _) ?_
 rintro ⟨t14, out, aout, cout⟩ q0
 have hF := q13 t14 out q0
 show J _ _ _ _ _ [(1, vSl aadd add cadd), (2, vSl adel del cdel), (7, vSl aout out cout), (12, vSl as_ s_ cs_), (13, iV ((s_.length : Nat) : Int)), (14, iV t14)] [oL 3 1 aout out cout] h
 refine .seq (.region (.V bi0 ?_))
 refine .nil (.seqN (.seq ?_))
 refine .cond rfl (fun q1 => ?_) (fun q1 => ?_)
 ·replace hF := hF.1 q1
  refine .skip (.seqN ?_)
  refine .share (σ := List Int × Option Addr × Nat) (fun z => F_update_J1 out t14 I1 μ1 z.1) (fun z => [(1, vSl aadd add cadd), (2, vSl adel del cdel), (7, vSl z.2.1 z.1 z.2.2), (12, vSl as_ s_ cs_), (13, iV ((s_.length : Nat) : Int)), (14, iV t14)]) (fun z => [oL 3 1 z.2.1 z.1 z.2.2]) (fun _ => h) ?_ (fun q7 => ?_)
  ·rintro ⟨out3, aout3, cout3⟩ hF
   show J _ _ _ _ _ [(1, vSl aadd add cadd), (2, vSl adel del cdel), (7, vSl aout3 out3 cout3), (12, vSl as_ s_ cs_), (13, iV ((s_.length : Nat) : Int)), (14, iV t14)] [oL 3 1 aout3 out3 cout3] h
   refine .region (.V bi0 ?_)
   refine .V mv0 ?_
   refine .nil ?_
   exact .RO (wr (t14 + 1), out3, aout3, cout3) hF.1 hF.2
  refine .block (.seq (.region ?_))
  obtain ⟨q2, hF⟩ := hF
  refine .V (ix rfl rfl tS22 (_q1.ne (by decide) (inb_pos q2)) q2) ?_
  refine .V (ld1 (v := iV (gt s_ t14)) rfl tO3 (cellH (_q1.elemF q2 (by decide) 0 _ rfl))) ?_
  refine .V ag0 ?_
  refine .nil (.seqN (.seq (.region (.V mv0 ?_))))
  refine .V mv0 ?_
  obtain ⟨q14, hF⟩ := hF
  obtain ⟨r2, q8⟩ : ∃ y_ : Int × Bool, y_ = sp_bsearch del (gt s_ t14) := ⟨_, rfl⟩
  replace hF := hF r2 q8
  refine .C (cl (v := .tuple #[iV r2.1, .bool r2.2]) Tryz.call105 rfl rfl (fun w S => (by rw [q8]; exact c_bsearch S.sub del adel cdel _q5 _q6 (gt s_ t14) q14))) ?_
  refine .V mv0 ?_
  refine .V (ext rfl rfl) ?_
  refine .V (ext rfl rfl) ?_
  refine .V ag0 ?_
  refine .V ag0 ?_
  refine .nil (.seqN (.seq (.region (.V mv0 ?_))))
  refine .V (nt rfl) ?_
  refine .nil (.seqN ?_)
  refine .cond rfl (fun q3 => ?_) (fun q3 => ?_)
  ·replace hF := hF.1 q3
   refine .region (.V mv0 ?_)
   refine .V mv0 ?_
   refine bs2 (cs := #[iV (gt s_ t14)]) (pv := [(0, iV (gt s_ t14))]) tS22 rfl rfl (by decide) (by decide) rfl rfl rfl (fun a _ => ?_)
   refine .KA [oL 3 1 a ([(gt s_ t14)] : List Int) 1, oL 3 1 aout out cout] ?_
   obtain ⟨q9, hF⟩ := hF
   have q4 : out.length + ([(gt s_ t14)] : List Int).length = ((out ++ ([(gt s_ t14)] : List Int))).length := len_app rfl rfl
   refine app (k := 1) (news := flL ([(gt s_ t14)] : List Int)) (cs' := flL (out ++ ([(gt s_ t14)] : List Int))) (nm := ((out ++ ([(gt s_ t14)] : List Int))).length) tS22 rfl (by decide) rfl rfl rfl ((flL_len _).trans rfl) (srcS (k := 0) rfl) (flL_one _) (room_of q4 q9).1 (room_of q4 q9).2 q4 (flL_append _ _).symm rfl (fun a2 c => ?_)
   refine .KA [oL 3 1 a ([(gt s_ t14)] : List Int) 1, oL 3 1 a2 (out ++ ([(gt s_ t14)] : List Int)) c] ?_
   refine .V ag0 ?_
   refine .nil (.blkN ?_)
   refine .sel0 [1] (by decide) rfl ?_
   exact .US q7 ((out ++ ([(gt s_ t14)] : List Int)), a2, c) hF
  replace hF := hF.2 q3
  refine .skip (.blkN ?_)
  exact .US q7 (out, aout, cout) hF
 replace hF := hF.2 q1
 refine .exit (.seqX (.seqX (.blkX (.seqN (.seq (.region (.V mv0 ?_)))))))
 refine .V mv0 ?_
 obtain ⟨q10, hF⟩ := hF
 have q5 : out.length + add.length = ((out ++ add)).length := len_app rfl rfl
 refine app (k := 0) (news := flL add) (cs' := flL (out ++ add)) (nm := ((out ++ add)).length) tS22 rfl (by decide) rfl rfl rfl ((flL_len _).trans rfl) (srcH (fun q => _q3.ne (by decide) q) (_q3.raw)) (flL_one _) (room_of q5 q10).1 (room_of q5 q10).2 q5 (flL_append _ _).symm rfl (fun a3 c2 => ?_)
 refine .KA [oL 3 1 a3 (out ++ add) c2] ?_
 refine .V ag0 ?_
 refine .nil (.seqN (.seq (.region (.V mv0 ?_))))
 obtain ⟨q15, hF⟩ := hF
 obtain ⟨r3, q6⟩ : ∃ y_ : List Int, y_ = sp_sort (out ++ add) := ⟨_, rfl⟩
 replace hF := hF r3 q6
 refine callX (k := 0) (v := .tuple #[]) (X' := OwnSl 3 1 a3 ((out ++ add).length) c2 (flL r3)) rfl Tryz.call62 rfl rfl (fun w g hx sg hd hs' => ?_) rfl ?_
 ·rw [q6]; exact c_sort hs' (out ++ add) a3 c2 hx sg hd q15
 have q11 : r3.length = (out ++ add).length := by rw [q6]; exact (sort_len (out ++ add)).trans rfl
 refine .KA [OwnSl 3 1 a3 ((out ++ add).length) c2 (flL r3)] ?_
 refine .nil (.seqN (.seq (.region (.V mv0 ?_))))
 obtain ⟨q16, hF⟩ := hF
 obtain ⟨r4, q12⟩ : ∃ y_ : List Int, y_ = sp_compact r3 := ⟨_, rfl⟩
 replace hF := hF r4 q12
 refine callX (k := 0) (v := vSl a3 r4 c2) (X' := oL 3 1 a3 r4 c2) rfl Tryz.call118 rfl rfl (fun w g hx sg hd hs' => ?_) rfl ?_
 ·rw [q12]; have hc_ := c_compact hs' r3 a3 c2 (own_n (q11).symm hx) sg hd q16; rw [q11] at hc_; exact hc_
 refine .KA [oL 3 1 a3 r4 c2] ?_
 refine .V ag0 ?_
 refine .nil (.seqN (.ret ?_))
 refine .res1 rfl (rvT rfl) (fun w' S => ⟨r4, (a3, c2), h, hF, rfl, (FH.le_refl _), trivial, S.pick (k := 0) rfl⟩)
theorem c_update {h : FH} {w : World} (hs : Sub h w) (s_ : List Int) (as_ : Option Addr) (cs_ : Nat) (_q1 : RSl h as_ s_) (_q2 : s_.length ≤ cs_) (add : List Int) (aadd : Option Addr) (cadd : Nat) (_q3 : RSl h aadd add) (_q4 : add.length ≤ cadd) (del : List Int) (adel : Option Addr) (cdel : Nat) (_q5 : RSl h adel del) (_q6 : del.length ≤ cdel) (hp : pre_update s_ add del) : Calls Tryz.prog 92 #[.slice as_ s_.length cs_, .slice aadd add.length cadd, .slice adel del.length cdel] w fun e w' => ∃ (z : Option Addr × Nat) (h0 h1 : FH), e = .returned (.slice z.1 (sp_update s_ add del).length z.2) ∧ (True) ∧ FH.le h h1 ∧ SH (Kp.all w h0) h1 w' [OwnSl 3 1 z.1 (sp_update s_ add del).length z.2 (flL (sp_update s_ add del))] :=
 (w_update hs s_ as_ cs_ _q1 _q2 add aadd cadd _q3 _q4 del adel cdel _q5 _q6 (fun r => r = sp_update s_ add del) (ok_update s_ add del hp)).mono fun _ _ ⟨r, z, h1, hk, he, hl, hψ, hS⟩ => by subst hk; exact ⟨z, h, h1, he, hψ, hl, hS⟩
set_option maxHeartbeats 8000000 in
theorem w_contains2 {h : FH} {w : World} (hs : Sub h w) (s_ : List Int) (as_ : Option Addr) (cs_ : Nat) (_q1 : RSl h as_ s_) (_q2 : s_.length ≤ cs_) (part : List Int) (apart : Option Addr) (cpart : Nat) (_q3 : RSl h apart part) (_q4 : part.length ≤ cpart) (K : Bool → Prop) (hF : F_contains2 s_ part K) : Calls Tryz.prog 55 #[.slice as_ s_.length cs_, .slice apart part.length cpart] w fun e w' => ∃ r : Bool, K r ∧ e = .returned (.bool r) ∧ Below w.heap.size w w' := by
 refine enter (args := [vSl as_ s_ cs_, vSl apart part cpart]) Tryz.func55 rfl Tryz.ntmps55 rfl hs ?_
 refine .seq (.region (.V ag0 ?_))
 refine .nil (.seqN (.seq (.region (.V ag0 ?_))))
 refine .nil (.seqN (.seq (.seq (.region (.V mv0 ?_)))))
 refine .V (ln rfl tS22.is) ?_
 refine .V mv0 ?_
 refine .nil (.seqN (.block ?_))
 obtain ⟨I1, μ1, q2, q12⟩ := hF
 refine .loop' (σ := Int × Int) (fun z => I1 z.1 z.2) (fun z => μ1 z.1 z.2) (fun z => [(0, vSl as_ s_ cs_), (5, iV z.1), (8, vSl apart part cpart), (9, iV ((part.length : Nat) : Int)), (10, iV z.2)]) (fun _ => []) (fun _ => h) (0, 0) q2 sb rfl (FH.le_refl _) ?_
 rintro ⟨i, t10⟩ q2
 have hF := q12 i t10 q2
 show J _ _ _ _ _ [(0, vSl as_ s_ cs_), (5, iV i), (8, vSl apart part cpart), (9, iV ((part.length : Nat) : Int)), (10, iV t10)] [] h
 refine .seq (.region (.V bi0 ?_))
 refine .nil (.seqN (.seq ?_))
 refine .cond rfl (fun q3 => ?_) (fun q3 => ?_)
 ·replace hF := hF.1 q3
  refine .skip (.seqN (.seq (.block (.seq (.region ?_)))))
  obtain ⟨q4, hF⟩ := hF
  refine .V (ix rfl rfl tS22 (_q3.ne (by decide) (inb_pos q4)) q4) ?_
  refine .V (ld1 (v := iV (gt part t10)) rfl tO3 (cellH (_q3.elemF q4 (by decide) 0 _ rfl))) ?_
  refine .V ag0 ?_
  refine .nil (.seqN (.seq (.block ?_)))
  obtain ⟨I2, μ2, q5, q13⟩ := hF
  refine .loop' (σ := Int) (fun z => I2 z) (fun z => μ2 z) (fun z => [(0, vSl as_ s_ cs_), (5, iV z), (7, iV (gt part t10)), (8, vSl apart part cpart), (9, iV ((part.length : Nat) : Int)), (10, iV t10)]) (fun _ => []) (fun _ => h) i q5 sb rfl (FH.le_refl _) ?_
  rintro i3 q5
  have hF := q13 i3 q5
  show J _ _ _ _ _ [(0, vSl as_ s_ cs_), (5, iV i3), (7, iV (gt part t10)), (8, vSl apart part cpart), (9, iV ((part.length : Nat) : Int)), (10, iV t10)] [] h
  refine .seq ?_
  refine .share (σ := Bool) (fun z => F_contains2_J1 s_ part K z i I2 μ2 t10 i3 I1 μ1) (fun z => [(0, vSl as_ s_ cs_), (5, iV i3), (7, iV (gt part t10)), (8, vSl apart part cpart), (9, iV ((part.length : Nat) : Int)), (10, iV t10), (25, .bool z)]) (fun _ => []) (fun _ => h) ?_ (fun q10 => ?_)
  ·rintro t25 hF
   show J _ _ _ _ _ [(0, vSl as_ s_ cs_), (5, iV i3), (7, iV (gt part t10)), (8, vSl apart part cpart), (9, iV ((part.length : Nat) : Int)), (10, iV t10), (25, .bool t25)] [] h
   refine .cond rfl (fun q6 => ?_) (fun q6 => ?_)
   ·replace hF := hF.1 q6
    refine .skip (.seqN (.block (.region (.V mv0 ?_))))
    refine .V bi0 ?_
    refine .V ag0 ?_
    refine .nil (.blkN ?_)
    exact .RO (wr (i3 + 1)) hF.1 hF.2
   replace hF := hF.2 q6
   refine .exit (.seqX (.seqX (.blkX (.seqN ?_))))
   refine .share (σ := Bool) (fun z => F_contains2_J2 K i z t10 i3 I1 μ1) (fun z => [(0, vSl as_ s_ cs_), (5, iV i3), (8, vSl apart part cpart), (9, iV ((part.length : Nat) : Int)), (10, iV t10), (39, .bool z)]) (fun _ => []) (fun _ => h) ?_ (fun q11 => ?_)
   ·rintro t39 hF
    show J _ _ _ _ _ [(0, vSl as_ s_ cs_), (5, iV i3), (8, vSl apart part cpart), (9, iV ((part.length : Nat) : Int)), (10, iV t10), (39, .bool t39)] [] h
    refine .cond rfl (fun q7 => ?_) (fun q7 => ?_)
    ·replace hF := hF.1 q7
     refine .seq (.region (.V ag0 ?_))
     refine .nil (.seqN (.ret (.blkR (.seqR (.seqR (.blkR (.seqR ?_)))))))
     refine .res1 rfl (rvT rfl) (fun w' S => ⟨false, hF, rfl, S.below⟩)
    replace hF := hF.2 q7
    refine .skip (.blkN (.seqN (.region (.V bi0 ?_))))
    refine .V mv0 ?_
    refine .nil ?_
    exact .RO (i3, wr (t10 + 1)) hF.1 hF.2
   refine .region (.V mv0 ?_)
   refine .V mv0 ?_
   refine .V (ln rfl tS22.is) ?_
   refine .V bi0 ?_
   refine .V mv0 ?_
   rcases Bool.eq_false_or_eq_true (i3 == ((s_.length : Nat) : Int)) with q0 | q0
   ·replace hF := hF.1 q0
    refine .GS q0 ?_
    refine .GS q0 ?_
    refine .GS q0 ?_
    refine .GS q0 ?_
    refine .GS q0 ?_
    refine .GS q0 ?_
    refine .V (pkT rfl q0 rfl) ?_
    refine .nil ?_
    exact .US q11 true hF
   replace hF := hF.2 q0
   refine .GV mv0 q0 ?_
   refine .GV mv0 q0 ?_
   obtain ⟨q8, hF⟩ := hF
   refine .GV (ix rfl rfl tS22 (_q1.ne (by decide) (inb_pos q8)) q8) q0 ?_
   refine .GV (ld1 (v := iV (gt s_ i3)) rfl tO3 (cellH (_q1.elemF q8 (by decide) 0 _ rfl))) q0 ?_
   refine .GV mv0 q0 ?_
   refine .GV bi0 q0 ?_
   refine .V (pkF rfl q0 rfl) ?_
   refine .nil ?_
   exact .US q11 ((gt s_ i3) != (gt part t10)) hF
  refine .region (.V mv0 ?_)
  refine .V mv0 ?_
  refine .V (ln rfl tS22.is) ?_
  refine .V bi0 ?_
  refine .V mv0 ?_
  rcases Bool.eq_false_or_eq_true (decide (i3 < ((s_.length : Nat) : Int))) with q1 | q1
  ·replace hF := hF.1 q1
   refine .GV mv0 q1 ?_
   refine .GV mv0 q1 ?_
   obtain ⟨q9, hF⟩ := hF
   refine .GV (ix rfl rfl tS22 (_q1.ne (by decide) (inb_pos q9)) q9) q1 ?_
   refine .GV (ld1 (v := iV (gt s_ i3)) rfl tO3 (cellH (_q1.elemF q9 (by decide) 0 _ rfl))) q1 ?_
   refine .GV mv0 q1 ?_
   refine .GV bi0 q1 ?_
   refine .V (pkT rfl q1 rfl) ?_
   refine .nil ?_
   exact .US q10 (decide ((gt s_ i3) < (gt part t10))) hF
  replace hF := hF.2 q1
  refine .GS q1 ?_
  refine .GS q1 ?_
  refine .GS q1 ?_
  refine .GS q1 ?_
  refine .GS q1 ?_
  refine .GS q1 ?_
  refine .V (pkF rfl q1 rfl) ?_
  refine .nil ?_
  exact .US q10 false hF
 replace hF := hF.2 q3
 refine .exit (.seqX (.seqX (.blkX (.seqN (.seq (.region (.V ag0 ?_)))))))
 refine .nil (.seqN (.ret ?_))
 refine .res1 rfl (rvT rfl) (fun w' S => ⟨true, hF, rfl, S.below⟩)
theorem c_contains2 {h : FH} {w : World} (hs : Sub h w) (s_ : List Int) (as_ : Option Addr) (cs_ : Nat) (_q1 : RSl h as_ s_) (_q2 : s_.length ≤ cs_) (part : List Int) (apart : Option Addr) (cpart : Nat) (_q3 : RSl h apart part) (_q4 : part.length ≤ cpart) (hp : pre_contains2 s_ part) : Calls Tryz.prog 55 #[.slice as_ s_.length cs_, .slice apart part.length cpart] w fun e w' => e = .returned (.bool (sp_contains2 s_ part)) ∧ Below w.heap.size w w' :=
 (w_contains2 hs s_ as_ cs_ _q1 _q2 part apart cpart _q3 _q4 (fun r => r = sp_contains2 s_ part) (ok_contains2 s_ part hp)).mono fun _ _ ⟨_, hk, he, hb⟩ => ⟨by rw [he, hk], hb⟩
theorem w_can {h : FH} {w : World} (hs : Sub h w) (t : Task) (at_ : Option Addr) (ct : Nat) (_q1 : RSl h at_ t.init) (_q2 : t.init.length ≤ ct) (at_2 : Option Addr) (ct2 : Nat) (_q3 : RSl h at_2 t.goal) (_q4 : t.goal.length ≤ ct2) (at_3 : Option Addr) (ct3 : Nat) (_q5 : RSl h at_3 t.ops) (_q6 : t.ops.length ≤ ct3) (s_ : List Int) (as_ : Option Addr) (cs_ : Nat) (_q7 : RSl h as_ s_) (_q8 : s_.length ≤ cs_) (op : Int) (K : Bool → Prop) (hF : F_can t s_ op K) : Calls Tryz.prog 82 #[.agg #[iV t.facts, .slice at_ t.init.length ct, .slice at_2 t.goal.length ct2, .slice at_3 t.ops.length ct3], .slice as_ s_.length cs_, iV op] w fun e w' => ∃ r : Bool, K r ∧ e = .returned (.bool r) ∧ Below w.heap.size w w' := by
 refine enter (args := [.agg (tF t at_ ct at_2 ct2 at_3 ct3).toArray, vSl as_ s_ cs_, iV op]) Tryz.func82 rfl Tryz.ntmps82 rfl hs ?_
 refine .seq (.region ?_)
 refine bx (vs := (tF t at_ ct at_2 ct2 at_3 ct3)) rfl rfl rfl (fun pt => ?_)
 refine .V ag0 ?_
 refine .nil (.seqN (.seq (.region (.V mv0 ?_))))
 refine .V (fa rfl tF25_3) ?_
 refine .V (lB 3 0 tO23) ?_
 refine .V mv0 ?_
 obtain ⟨q0, hF⟩ := hF
 refine .V (ix rfl rfl tS23 (_q5.ne (by decide) (inb_pos q0)) q0) ?_
 refine .V (fa rfl tF52_0) ?_
 obtain ⟨_, ⟨a, c, a2, c2, a3, c3, rfl, ⟨q2, q3⟩, ⟨q6, q7⟩, q8, q9⟩, q4⟩ := _q5.elem q0
 refine .V (ld1 (v := .slice a ((gt t.ops op).pre.length) c) rfl tO22 (cellH (q4 (by decide) 0 _ rfl))) ?_
 obtain ⟨q5, hF⟩ := hF
 obtain ⟨r2, q1⟩ : ∃ y_ : Bool, y_ = sp_contains2 s_ ((gt t.ops op).pre) := ⟨_, rfl⟩
 replace hF := hF r2 q1
 refine .C (cl (v := .bool r2) Tryz.call55 rfl rfl (fun w S => (by rw [q1]; exact c_contains2 S.sub s_ as_ cs_ _q7 _q8 ((gt t.ops op).pre) a c q3 q2 q5))) ?_
 refine .V ag0 ?_
 refine .nil (.seqN (.ret ?_))
 refine .res1 rfl (rvT rfl) (fun w' S => ⟨r2, hF, rfl, S.below⟩)
theorem c_can {h : FH} {w : World} (hs : Sub h w) (t : Task) (at_ : Option Addr) (ct : Nat) (_q1 : RSl h at_ t.init) (_q2 : t.init.length ≤ ct) (at_2 : Option Addr) (ct2 : Nat) (_q3 : RSl h at_2 t.goal) (_q4 : t.goal.length ≤ ct2) (at_3 : Option Addr) (ct3 : Nat) (_q5 : RSl h at_3 t.ops) (_q6 : t.ops.length ≤ ct3) (s_ : List Int) (as_ : Option Addr) (cs_ : Nat) (_q7 : RSl h as_ s_) (_q8 : s_.length ≤ cs_) (op : Int) (hp : pre_can t s_ op) : Calls Tryz.prog 82 #[.agg #[iV t.facts, .slice at_ t.init.length ct, .slice at_2 t.goal.length ct2, .slice at_3 t.ops.length ct3], .slice as_ s_.length cs_, iV op] w fun e w' => e = .returned (.bool (sp_applies t s_ op)) ∧ Below w.heap.size w w' :=
 (w_can hs t at_ ct _q1 _q2 at_2 ct2 _q3 _q4 at_3 ct3 _q5 _q6 s_ as_ cs_ _q7 _q8 op (fun r => r = sp_applies t s_ op) (ok_can t s_ op hp)).mono fun _ _ ⟨_, hk, he, hb⟩ => ⟨by rw [he, hk], hb⟩
theorem w_next {h : FH} {w : World} (hs : Sub h w) (t : Task) (at_ : Option Addr) (ct : Nat) (_q1 : RSl h at_ t.init) (_q2 : t.init.length ≤ ct) (at_2 : Option Addr) (ct2 : Nat) (_q3 : RSl h at_2 t.goal) (_q4 : t.goal.length ≤ ct2) (at_3 : Option Addr) (ct3 : Nat) (_q5 : RSl h at_3 t.ops) (_q6 : t.ops.length ≤ ct3) (s_ : List Int) (as_ : Option Addr) (cs_ : Nat) (_q7 : RSl h as_ s_) (_q8 : s_.length ≤ cs_) (op : Int) (K : (List Int) → Prop) (hF : F_next t s_ op K) : Calls Tryz.prog 58 #[.agg #[iV t.facts, .slice at_ t.init.length ct, .slice at_2 t.goal.length ct2, .slice at_3 t.ops.length ct3], .slice as_ s_.length cs_, iV op] w fun e w' => ∃ (r : List Int) (z : Option Addr × Nat) (h1 : FH), K r ∧ e = .returned (.slice z.1 r.length z.2) ∧ FH.le h h1 ∧ (RSl h1 z.1 r ∧ r.length ≤ z.2) ∧ SH (Kp.all w h) h1 w' [] := by
 refine enter (args := [.agg (tF t at_ ct at_2 ct2 at_3 ct3).toArray, vSl as_ s_ cs_, iV op]) Tryz.func58 rfl Tryz.ntmps58 rfl hs ?_
 refine .seq (.region ?_)
 refine bx (vs := (tF t at_ ct at_2 ct2 at_3 ct3)) rfl rfl rfl (fun pt => ?_)
 refine .V ag0 ?_
 refine .nil (.seqN (.seq (.region (.V (fa rfl tF25_3) ?_))))
 refine .V (lB 3 0 tO23) ?_
 refine .V mv0 ?_
 obtain ⟨q0, hF⟩ := hF
 refine .V (ix rfl rfl tS23 (_q5.ne (by decide) (inb_pos q0)) q0) ?_
 obtain ⟨_, ⟨a, c, a2, c2, a3, c3, rfl, ⟨q10, q11⟩, ⟨q2, q3⟩, q4, q5⟩, q6⟩ := _q5.elem q0
 refine .V (ldA (cs := [.slice a ((gt t.ops op).pre.length) c, .slice a2 ((gt t.ops op).add.length) c2, .slice a3 ((gt t.ops op).del.length) c3, iV ((gt t.ops op).cost)]) rfl tA52 rfl (cellsH (q6 (by decide)))) ?_
 refine al tZ52 rfl (fun po => ?_)
 refine st (p := po) (off := 0) (k := 0) (vs := [.slice a ((gt t.ops op).pre.length) c, .slice a2 ((gt t.ops op).add.length) c2, .slice a3 ((gt t.ops op).del.length) c3, iV ((gt t.ops op).cost)]) rfl rfl rfl (fun w => (tA52 w).2) rfl rfl rfl rfl ?_
 refine .KA [Box po [.slice a ((gt t.ops op).pre.length) c, .slice a2 ((gt t.ops op).add.length) c2, .slice a3 ((gt t.ops op).del.length) c3, iV ((gt t.ops op).cost)], Box pt (tF t at_ ct at_2 ct2 at_3 ct3)] ?_
 refine .nil (.seqN (.seq (.region (.V mv0 ?_))))
 refine .V (fa rfl tF52_1) ?_
 refine .V (lB 1 0 tO22) ?_
 refine .V (fa rfl tF52_2) ?_
 refine .V (lB 2 0 tO22) ?_
 obtain ⟨q7, hF⟩ := hF
 obtain ⟨r2, q1⟩ : ∃ y_ : List Int, y_ = sp_update s_ ((gt t.ops op).add) ((gt t.ops op).del) := ⟨_, rfl⟩
 replace hF := hF r2 q1
 refine clO (α := Option Addr × Nat) (V := fun z => vSl z.1 r2 z.2) (Ψ := fun z => True) (B := fun z => [oL 3 1 z.1 r2 z.2]) Tryz.call92 rfl rfl (fun w S => (by rw [q1]; exact c_update S.sub s_ as_ cs_ _q7 _q8 ((gt t.ops op).add) a2 c2 q3 q2 ((gt t.ops op).del) a3 c3 q5 q4 q7)) rfl (fun z _ => ?_)
 obtain ⟨a4, c4⟩ := z
 refine .KA [oL 3 1 a4 r2 c4, Box po [.slice a ((gt t.ops op).pre.length) c, .slice a2 ((gt t.ops op).add.length) c2, .slice a3 ((gt t.ops op).del.length) c3, iV ((gt t.ops op).cost)], Box pt (tF t at_ ct at_2 ct2 at_3 ct3)] ?_
 refine .V ag0 ?_
 refine .nil (.seqN ?_)
 refine .freezeL (k := 0) rfl (fun h1 le1 q8 q9 => ?_)
 refine .KA [tru, Box po [.slice a ((gt t.ops op).pre.length) c, .slice a2 ((gt t.ops op).add.length) c2, .slice a3 ((gt t.ops op).del.length) c3, iV ((gt t.ops op).cost)], Box pt (tF t at_ ct at_2 ct2 at_3 ct3)] ?_
 refine .ret ?_
 refine .res1 rfl (rvT rfl) (fun w' S => ⟨r2, (a4, c4), h1, hF, rfl, (le1), ⟨(RSl.of q9), (q8)⟩, S.none⟩)
theorem c_next {h : FH} {w : World} (hs : Sub h w) (t : Task) (at_ : Option Addr) (ct : Nat) (_q1 : RSl h at_ t.init) (_q2 : t.init.length ≤ ct) (at_2 : Option Addr) (ct2 : Nat) (_q3 : RSl h at_2 t.goal) (_q4 : t.goal.length ≤ ct2) (at_3 : Option Addr) (ct3 : Nat) (_q5 : RSl h at_3 t.ops) (_q6 : t.ops.length ≤ ct3) (s_ : List Int) (as_ : Option Addr) (cs_ : Nat) (_q7 : RSl h as_ s_) (_q8 : s_.length ≤ cs_) (op : Int) (hp : pre_next t s_ op) : Calls Tryz.prog 58 #[.agg #[iV t.facts, .slice at_ t.init.length ct, .slice at_2 t.goal.length ct2, .slice at_3 t.ops.length ct3], .slice as_ s_.length cs_, iV op] w fun e w' => ∃ (z : Option Addr × Nat) (h1 : FH), e = .returned (.slice z.1 (sp_after t s_ op).length z.2) ∧ FH.le h h1 ∧ (RSl h1 z.1 (sp_after t s_ op) ∧ (sp_after t s_ op).length ≤ z.2) ∧ SH (Kp.all w h) h1 w' [] :=
 (w_next hs t at_ ct _q1 _q2 at_2 ct2 _q3 _q4 at_3 ct3 _q5 _q6 s_ as_ cs_ _q7 _q8 op (fun r => r = sp_after t s_ op) (ok_next t s_ op hp)).mono fun _ _ ⟨r, z, h1, hk, he, hl, hf, hS⟩ => by subst hk; exact ⟨z, h1, he, hl, hf, hS⟩
theorem w_srun {h : FH} {w : World} (hs : Sub h w) (t : Task) (at_ : Option Addr) (ct : Nat) (_q1 : RSl h at_ t.init) (_q2 : t.init.length ≤ ct) (at_2 : Option Addr) (ct2 : Nat) (_q3 : RSl h at_2 t.goal) (_q4 : t.goal.length ≤ ct2) (at_3 : Option Addr) (ct3 : Nat) (_q5 : RSl h at_3 t.ops) (_q6 : t.ops.length ≤ ct3) (s_ : List Int) (as_ : Option Addr) (cs_ : Nat) (_q7 : RSl h as_ s_) (_q8 : s_.length ≤ cs_) (plan : List Int) (aplan : Option Addr) (cplan : Nat) (_q9 : RSl h aplan plan) (_q10 : plan.length ≤ cplan) (K : (List (List Int)) → Prop) (hF : F_srun t s_ plan K) : Calls Tryz.prog 75 #[.agg #[iV t.facts, .slice at_ t.init.length ct, .slice at_2 t.goal.length ct2, .slice at_3 t.ops.length ct3], .slice as_ s_.length cs_, .slice aplan plan.length cplan] w fun e w' => ∃ (r : List (List Int)) (z : Option Addr × Nat) (h1 : FH), K r ∧ e = .returned (.slice z.1 r.length z.2) ∧ FH.le h h1 ∧ (RSl h1 z.1 r ∧ r.length ≤ z.2) ∧ SH (Kp.all w h) h1 w' [] := by
 refine enter (args := [.agg (tF t at_ ct at_2 ct2 at_3 ct3).toArray, vSl as_ s_ cs_, vSl aplan plan cplan]) Tryz.func75 rfl Tryz.ntmps75 rfl hs ?_
 refine .seq (.region ?_)
 refine bx (vs := (tF t at_ ct at_2 ct2 at_3 ct3)) rfl rfl rfl (fun pt => ?_)
 refine .V ag0 ?_
 refine .nil (.seqN (.seq (.region (.V mv0 ?_))))
 obtain ⟨q15, hF⟩ := hF
 obtain ⟨r2, q9⟩ : ∃ y_ : List Int, y_ = sp_clone s_ := ⟨_, rfl⟩
 replace hF := hF r2 q9
 refine clR (α := Option Addr × Nat) (Φ := fun h1 z => RSl h1 z.1 r2 ∧ r2.length ≤ z.2) (V := fun z => vSl z.1 r2 z.2) Tryz.call26 rfl rfl (fun w S => (by rw [q9]; exact c_clone S.sub s_ as_ cs_ _q7 _q8 q15)) rfl (fun z h1 le1 hz => ?_)
 obtain ⟨a, c⟩ := z
 obtain ⟨q16, q17⟩ := hz
 refine bs2 (cs := #[vSl a r2 c]) (pv := [(0, vSl a r2 c)]) tS68 rfl rfl (by decide) (by decide) rfl rfl rfl (fun a2 _ => ?_)
 refine .KA [OwnSl 22 1 a2 (([r2] : List (List Int)).length) 1 [vSl a r2 c], Box pt (tF t at_ ct at_2 ct2 at_3 ct3)] ?_
 refine .V ag0 ?_
 refine .nil (.seqN (.seq (.seq (.region (.V mv0 ?_)))))
 refine .V (ln rfl tS22.is) ?_
 refine .V mv0 ?_
 refine .nil (.seqN (.block ?_))
 refine .sel0 [1, 0] (by decide) rfl ?_
 obtain ⟨I1, μ1, q3, q18⟩ := hF
 refine .loop' (σ := List Int × Int × List (List Int) × Option Addr × Nat × Option Addr × Nat × List Value × FH) (fun z => I1 z.1 z.2.1 z.2.2.1 ∧ RSl z.2.2.2.2.2.2.2.2 z.2.2.2.1 z.1 ∧ z.1.length ≤ z.2.2.2.2.1 ∧ RepL z.2.2.2.2.2.2.2.2 z.2.2.1 z.2.2.2.2.2.2.2.1 ∧ FH.le h1 z.2.2.2.2.2.2.2.2) (fun z => μ1 z.1 z.2.1 z.2.2.1) (fun z => [(1, vSl z.2.2.2.1 z.1 z.2.2.2.2.1), (3, vP pt), (7, vSl z.2.2.2.2.2.1 z.2.2.1 z.2.2.2.2.2.2.1), (13, vSl aplan plan cplan), (14, iV ((plan.length : Nat) : Int)), (15, iV z.2.1)]) (fun z => [Box pt (tF t at_ ct at_2 ct2 at_3 ct3), OwnSl 22 1 z.2.2.2.2.2.1 z.2.2.1.length z.2.2.2.2.2.2.1 z.2.2.2.2.2.2.2.1]) (fun z => z.2.2.2.2.2.2.2.2) (s_, 0, ([r2] : List (List Int)), as_, cs_, a2, 1, [vSl a r2 c], h1) ⟨q3, (_q7.mono (le1)), _q8, (show RepL h1 ([r2] : List (List Int)) [vSl a r2 c] from ⟨[vSl a r2 c], _, rfl, ⟨a, c, rfl, q17, q16⟩, rfl⟩), (FH.le_refl _)⟩ sb rfl (FH.le_refl _) ?_
 rintro ⟨s_2, t15, out, as2, cs, aout, cout, csout, h20⟩ ⟨q3, q10, q11, q4, q0⟩
 have hF := q18 s_2 t15 out q3
 show J _ _ _ _ _ [(1, vSl as2 s_2 cs), (3, vP pt), (7, vSl aout out cout), (13, vSl aplan plan cplan), (14, iV ((plan.length : Nat) : Int)), (15, iV t15)] [Box pt (tF t at_ ct at_2 ct2 at_3 ct3), OwnSl 22 1 aout out.length cout csout] h20
 refine .seq (.region (.V bi0 ?_))
 refine .nil (.seqN (.seq ?_))
 refine .cond rfl (fun q5 => ?_) (fun q5 => ?_)
 ·replace hF := hF.1 q5
  refine .skip (.seqN (.seq (.block (.seq (.region ?_)))))
  obtain ⟨q6, hF⟩ := hF
  refine .V (ix rfl rfl tS22 (_q9.ne (by decide) (inb_pos q6)) q6) ?_
  refine .V (ld1 (v := iV (gt plan t15)) rfl tO3 (cellH ((_q9.mono (FH.le_trans (le1) (q0))).elemF q6 (by decide) 0 _ rfl))) ?_
  refine .V ag0 ?_
  refine .nil (.seqN (.seq (.seq (.region (.V (ldA (cs := (tF t at_ ct at_2 ct2 at_3 ct3)) rfl tA25 rfl (cellsB (off := 0) (k := 0) rfl (m := 4) rfl)) ?_)))))
  refine .V mv0 ?_
  refine .V mv0 ?_
  obtain ⟨q19, hF⟩ := hF
  obtain ⟨r3, q12⟩ : ∃ y_ : Bool, y_ = sp_applies t s_2 (gt plan t15) := ⟨_, rfl⟩
  replace hF := hF r3 q12
  refine .C (cl (v := .bool r3) Tryz.call82 rfl rfl (fun w S => (by rw [q12]; exact c_can S.sub t at_ ct (_q1.mono (FH.le_trans (le1) (q0))) _q2 at_2 ct2 (_q3.mono (FH.le_trans (le1) (q0))) _q4 at_3 ct3 (_q5.mono (FH.le_trans (le1) (q0))) _q6 s_2 as2 cs q10 q11 (gt plan t15) q19))) ?_
  refine .V (nt rfl) ?_
  refine .nil (.seqN ?_)
  refine .cond rfl (fun q7 => ?_) (fun q7 => ?_)
  ·replace hF := hF.1 q7
   refine .exit (.seqX ?_)
   refine .blkY rfl ?_
   refine .seqX (.seqX (.blkX (.seqN (.seq (.region (.V mv0 ?_))))))
   refine .V ag0 ?_
   refine .nil (.seqN ?_)
   refine .freezeL (k := 1) rfl (fun h27 le27 q20 q21 => ?_)
   refine .KA [Box pt (tF t at_ ct at_2 ct2 at_3 ct3), tru] ?_
   refine .ret ?_
   refine .res1 rfl (rvT rfl) (fun w' S => ⟨out, (aout, cout), h27, hF, rfl, (FH.le_trans (FH.le_trans (le1) (q0)) (le27)), ⟨(show RSl h27 aout out from ⟨_, q4.mono (le27), q21⟩), (q20)⟩, S.none⟩)
  replace hF := hF.2 q7
  refine .skip (.seqN (.seq (.region (.V (ldA (cs := (tF t at_ ct at_2 ct2 at_3 ct3)) rfl tA25 rfl (cellsB (off := 0) (k := 0) rfl (m := 4) rfl)) ?_))))
  refine .V mv0 ?_
  refine .V mv0 ?_
  obtain ⟨q22, hF⟩ := hF
  obtain ⟨r4, q13⟩ : ∃ y_ : List Int, y_ = sp_after t s_2 (gt plan t15) := ⟨_, rfl⟩
  replace hF := hF r4 q13
  refine clR (α := Option Addr × Nat) (Φ := fun h1 z => RSl h1 z.1 r4 ∧ r4.length ≤ z.2) (V := fun z => vSl z.1 r4 z.2) Tryz.call58 rfl rfl (fun w S => (by rw [q13]; exact c_next S.sub t at_ ct (_q1.mono (FH.le_trans (le1) (q0))) _q2 at_2 ct2 (_q3.mono (FH.le_trans (le1) (q0))) _q4 at_3 ct3 (_q5.mono (FH.le_trans (le1) (q0))) _q6 s_2 as2 cs q10 q11 (gt plan t15) q22)) rfl (fun z h28 le28 hz => ?_)
  obtain ⟨a3, c2⟩ := z
  obtain ⟨q1, q2⟩ := hz
  refine .V ag0 ?_
  refine .nil (.seqN (.region (.V mv0 ?_)))
  refine .V mv0 ?_
  refine bs2 (cs := #[vSl a3 r4 c2]) (pv := [(0, vSl a3 r4 c2)]) tS68 rfl rfl (by decide) (by decide) rfl rfl rfl (fun a4 _ => ?_)
  refine .KA [OwnSl 22 1 a4 (([r4] : List (List Int)).length) 1 [vSl a3 r4 c2], Box pt (tF t at_ ct at_2 ct2 at_3 ct3), OwnSl 22 1 aout out.length cout csout] ?_
  obtain ⟨q14, hF⟩ := hF
  have q8 : out.length + ([r4] : List (List Int)).length = ((out ++ ([r4] : List (List Int)))).length := len_app rfl rfl
  have q23 := RepL.append (RepL.mono (le28) q4) (show RepL h28 ([r4] : List (List Int)) [.slice a3 r4.length c2] from ⟨[.slice a3 r4.length c2], _, rfl, ⟨a3, c2, rfl, q2, q1⟩, rfl⟩)
  refine app (k := 2) (news := [vSl a3 r4 c2]) (cs' := (csout ++ [vSl a3 r4 c2])) (nm := ((out ++ ([r4] : List (List Int)))).length) tS68 rfl (by decide) rfl rfl rfl (RepL.len (show RepL h28 ([r4] : List (List Int)) [vSl a3 r4 c2] from ⟨[vSl a3 r4 c2], _, rfl, ⟨a3, c2, rfl, q2, q1⟩, rfl⟩)) (srcS (k := 0) rfl) (RepL.one (show RepL h28 ([r4] : List (List Int)) [vSl a3 r4 c2] from ⟨[vSl a3 r4 c2], _, rfl, ⟨a3, c2, rfl, q2, q1⟩, rfl⟩)) (room_of q8 q14).1 (room_of q8 q14).2 q8 rfl rfl (fun a5 c3 => ?_)
  refine .KA [OwnSl 22 1 a4 (([r4] : List (List Int)).length) 1 [vSl a3 r4 c2], Box pt (tF t at_ ct at_2 ct2 at_3 ct3), OwnSl 22 1 a5 ((out ++ ([r4] : List (List Int))).length) c3 (csout ++ [vSl a3 r4 c2])] ?_
  refine .V ag0 ?_
  refine .nil (.blkN (.seqN (.region (.V bi0 ?_))))
  refine .V mv0 ?_
  refine .nil ?_
  refine .sel0 [1, 2] (by decide) rfl ?_
  exact .RO (r4, wr (t15 + 1), (out ++ ([r4] : List (List Int))), a3, c2, a5, c3, (csout ++ [vSl a3 r4 c2]), h28) ⟨hF.1, q1, q2, q23, (FH.le_trans (q0) (le28))⟩ hF.2
 replace hF := hF.2 q5
 refine .exit (.seqX (.seqX (.blkX (.seqN (.seq (.region (.V mv0 ?_)))))))
 refine .V ag0 ?_
 refine .nil (.seqN ?_)
 refine .freezeL (k := 1) rfl (fun h29 le29 q24 q25 => ?_)
 refine .KA [Box pt (tF t at_ ct at_2 ct2 at_3 ct3), tru] ?_
 refine .ret ?_
 refine .res1 rfl (rvT rfl) (fun w' S => ⟨out, (aout, cout), h29, hF, rfl, (FH.le_trans (FH.le_trans (le1) (q0)) (le29)), ⟨(show RSl h29 aout out from ⟨_, q4.mono (le29), q25⟩), (q24)⟩, S.none⟩)
theorem c_srun {h : FH} {w : World} (hs : Sub h w) (t : Task) (at_ : Option Addr) (ct : Nat) (_q1 : RSl h at_ t.init) (_q2 : t.init.length ≤ ct) (at_2 : Option Addr) (ct2 : Nat) (_q3 : RSl h at_2 t.goal) (_q4 : t.goal.length ≤ ct2) (at_3 : Option Addr) (ct3 : Nat) (_q5 : RSl h at_3 t.ops) (_q6 : t.ops.length ≤ ct3) (s_ : List Int) (as_ : Option Addr) (cs_ : Nat) (_q7 : RSl h as_ s_) (_q8 : s_.length ≤ cs_) (plan : List Int) (aplan : Option Addr) (cplan : Nat) (_q9 : RSl h aplan plan) (_q10 : plan.length ≤ cplan) (hp : pre_srun t s_ plan) : Calls Tryz.prog 75 #[.agg #[iV t.facts, .slice at_ t.init.length ct, .slice at_2 t.goal.length ct2, .slice at_3 t.ops.length ct3], .slice as_ s_.length cs_, .slice aplan plan.length cplan] w fun e w' => ∃ (z : Option Addr × Nat) (h1 : FH), e = .returned (.slice z.1 (sp_srun t s_ plan).length z.2) ∧ FH.le h h1 ∧ (RSl h1 z.1 (sp_srun t s_ plan) ∧ (sp_srun t s_ plan).length ≤ z.2) ∧ SH (Kp.all w h) h1 w' [] :=
 (w_srun hs t at_ ct _q1 _q2 at_2 ct2 _q3 _q4 at_3 ct3 _q5 _q6 s_ as_ cs_ _q7 _q8 plan aplan cplan _q9 _q10 (fun r => r = sp_srun t s_ plan) (ok_srun t s_ plan hp)).mono fun _ _ ⟨r, z, h1, hk, he, hl, hf, hS⟩ => by subst hk; exact ⟨z, h1, he, hl, hf, hS⟩
theorem w_works {h : FH} {w : World} (hs : Sub h w) (t : Task) (at_ : Option Addr) (ct : Nat) (_q1 : RSl h at_ t.init) (_q2 : t.init.length ≤ ct) (at_2 : Option Addr) (ct2 : Nat) (_q3 : RSl h at_2 t.goal) (_q4 : t.goal.length ≤ ct2) (at_3 : Option Addr) (ct3 : Nat) (_q5 : RSl h at_3 t.ops) (_q6 : t.ops.length ≤ ct3) (s_ : List Int) (as_ : Option Addr) (cs_ : Nat) (_q7 : RSl h as_ s_) (_q8 : s_.length ≤ cs_) (plan : List Int) (aplan : Option Addr) (cplan : Nat) (_q9 : RSl h aplan plan) (_q10 : plan.length ≤ cplan) (K : Bool → Prop) (hF : F_works t s_ plan K) : Calls Tryz.prog 39 #[.agg #[iV t.facts, .slice at_ t.init.length ct, .slice at_2 t.goal.length ct2, .slice at_3 t.ops.length ct3], .slice as_ s_.length cs_, .slice aplan plan.length cplan] w fun e w' => ∃ r : Bool, K r ∧ e = .returned (.bool r) ∧ Below w.heap.size w w' := by
 refine enter (args := [.agg (tF t at_ ct at_2 ct2 at_3 ct3).toArray, vSl as_ s_ cs_, vSl aplan plan cplan]) Tryz.func39 rfl Tryz.ntmps39 rfl hs ?_
 refine .seq (.region ?_)
 refine bx (vs := (tF t at_ ct at_2 ct2 at_3 ct3)) rfl rfl rfl (fun pt => ?_)
 refine .V ag0 ?_
 refine .nil (.seqN (.seq (.region (.V (ldA (cs := (tF t at_ ct at_2 ct2 at_3 ct3)) rfl tA25 rfl (cellsB (off := 0) (k := 0) rfl (m := 4) rfl)) ?_))))
 refine .V mv0 ?_
 refine .V mv0 ?_
 obtain ⟨q6, hF⟩ := hF
 obtain ⟨r2, q2⟩ : ∃ y_ : List (List Int), y_ = sp_srun t s_ plan := ⟨_, rfl⟩
 replace hF := hF r2 q2
 refine clR (α := Option Addr × Nat) (Φ := fun h1 z => RSl h1 z.1 r2 ∧ r2.length ≤ z.2) (V := fun z => vSl z.1 r2 z.2) Tryz.call75 rfl rfl (fun w S => (by rw [q2]; exact c_srun S.sub t at_ ct _q1 _q2 at_2 ct2 _q3 _q4 at_3 ct3 _q5 _q6 s_ as_ cs_ _q7 _q8 plan aplan cplan _q9 _q10 q6)) rfl (fun z h1 le1 hz => ?_)
 obtain ⟨a, c⟩ := z
 obtain ⟨q3, q11⟩ := hz
 refine .V ag0 ?_
 refine .nil (.seqN (.seq ?_))
 refine .open_ (by kernel_rfl) (by kernel_rfl) ?_
 refine .V mv0 ?_
 refine .V (ln rfl tS68.is) ?_
 refine .V mv0 ?_
 refine .V (ln rfl tS22.is) ?_
 refine .V bi0 ?_
 obtain ⟨x, q4⟩ : ∃ y_ : Bool, y_ = (((r2.length : Nat) : Int) == (wr (((plan.length : Nat) : Int) + 1))) := ⟨_, rfl⟩
 replace hF := hF x q4
 refine .v (v := .bool x) (by rw [q4]; exact bi rfl rfl rfl) rfl rfl rfl ?_
 refine .V mv0 ?_
 rcases Bool.eq_false_or_eq_true (x) with q0 | q0
 ·replace hF := hF.1 q0
  refine .GV mv0 q0 ?_
  refine .GV mv0 q0 ?_
  refine .GV (ln rfl tS22.is) q0 ?_
  obtain ⟨q1, hF⟩ := hF
  refine .GV (ix rfl rfl tS68 (q3.ne (by decide) (inb_pos q1)) q1) q0 ?_
  obtain ⟨_, ⟨a2, c2, rfl, q7, q8⟩, q9⟩ := q3.elem q1
  refine .GV (ld1 (v := vSl a2 (gt r2 ((plan.length : Nat) : Int)) c2) rfl tO22 (cellH (q9 (by decide) 0 _ rfl))) q0 ?_
  refine .GV (fa rfl tF25_2) q0 ?_
  refine .GV (lB 2 0 tO22) q0 ?_
  obtain ⟨q10, hF⟩ := hF
  obtain ⟨r3, q5⟩ : ∃ y_ : Bool, y_ = sp_contains2 (gt r2 ((plan.length : Nat) : Int)) t.goal := ⟨_, rfl⟩
  replace hF := hF r3 q5
  refine .gc (cl (v := .bool r3) Tryz.call55 rfl rfl (fun w S => (by rw [q5]; exact c_contains2 S.sub (gt r2 ((plan.length : Nat) : Int)) a2 c2 q8 q7 t.goal at_2 ct2 (_q3.mono (le1)) _q4 q10))) rfl rfl rfl q0 rfl rfl ?_
  refine .V (pkT rfl q0 rfl) ?_
  refine .V ag0 ?_
  refine .fin ?_
  refine .seqN (.ret ?_)
  refine .res1 rfl (rvT rfl) (fun w' S => ⟨r3, hF, rfl, S.below⟩)
 replace hF := hF.2 q0
 refine .GS q0 ?_
 refine .GS q0 ?_
 refine .GS q0 ?_
 refine .GS q0 ?_
 refine .GS q0 ?_
 refine .GS q0 ?_
 refine .GS q0 ?_
 refine .GS q0 ?_
 refine .V (pkF rfl q0 rfl) ?_
 refine .V ag0 ?_
 refine .fin ?_
 refine .seqN (.ret ?_)
 refine .res1 rfl (rvT rfl) (fun w' S => ⟨false, hF, rfl, S.below⟩)
theorem c_works {h : FH} {w : World} (hs : Sub h w) (t : Task) (at_ : Option Addr) (ct : Nat) (_q1 : RSl h at_ t.init) (_q2 : t.init.length ≤ ct) (at_2 : Option Addr) (ct2 : Nat) (_q3 : RSl h at_2 t.goal) (_q4 : t.goal.length ≤ ct2) (at_3 : Option Addr) (ct3 : Nat) (_q5 : RSl h at_3 t.ops) (_q6 : t.ops.length ≤ ct3) (s_ : List Int) (as_ : Option Addr) (cs_ : Nat) (_q7 : RSl h as_ s_) (_q8 : s_.length ≤ cs_) (plan : List Int) (aplan : Option Addr) (cplan : Nat) (_q9 : RSl h aplan plan) (_q10 : plan.length ≤ cplan) (hp : pre_works t s_ plan) : Calls Tryz.prog 39 #[.agg #[iV t.facts, .slice at_ t.init.length ct, .slice at_2 t.goal.length ct2, .slice at_3 t.ops.length ct3], .slice as_ s_.length cs_, .slice aplan plan.length cplan] w fun e w' => e = .returned (.bool (sp_rworks t s_ plan)) ∧ Below w.heap.size w w' :=
 (w_works hs t at_ ct _q1 _q2 at_2 ct2 _q3 _q4 at_3 ct3 _q5 _q6 s_ as_ cs_ _q7 _q8 plan aplan cplan _q9 _q10 (fun r => r = sp_rworks t s_ plan) (ok_works t s_ plan hp)).mono fun _ _ ⟨_, hk, he, hb⟩ => ⟨by rw [he, hk], hb⟩
theorem w_solves {h : FH} {w : World} (hs : Sub h w) (t : Task) (at_ : Option Addr) (ct : Nat) (_q1 : RSl h at_ t.init) (_q2 : t.init.length ≤ ct) (at_2 : Option Addr) (ct2 : Nat) (_q3 : RSl h at_2 t.goal) (_q4 : t.goal.length ≤ ct2) (at_3 : Option Addr) (ct3 : Nat) (_q5 : RSl h at_3 t.ops) (_q6 : t.ops.length ≤ ct3) (plan : List Int) (aplan : Option Addr) (cplan : Nat) (_q7 : RSl h aplan plan) (_q8 : plan.length ≤ cplan) (K : (Bool × Fault) → Prop) (hF : F_solves t plan K) : Calls Tryz.prog 19 #[.agg #[iV t.facts, .slice at_ t.init.length ct, .slice at_2 t.goal.length ct2, .slice at_3 t.ops.length ct3], .slice aplan plan.length cplan] w fun e w' => ∃ r : Bool × Fault, K r ∧ e = .returned (.tuple #[.bool r.1, .agg #[iV r.2.code, iV r.2.index]]) ∧ Below w.heap.size w w' := by
 refine enter (args := [.agg (tF t at_ ct at_2 ct2 at_3 ct3).toArray, vSl aplan plan cplan]) Tryz.func19 rfl Tryz.ntmps19 rfl hs ?_
 refine .seq (.region ?_)
 refine bx (vs := (tF t at_ ct at_2 ct2 at_3 ct3)) rfl rfl rfl (fun pt => ?_)
 refine .V ag0 ?_
 refine al tZ27 rfl (fun pv => ?_)
 refine .nil (.seqN (.seq (.seq (.region (.V (ldA (cs := (tF t at_ ct at_2 ct2 at_3 ct3)) rfl tA25 rfl (cellsB (off := 0) (k := 1) rfl (m := 4) rfl)) ?_)))))
 refine .V mv0 ?_
 obtain ⟨r2, q1⟩ : ∃ y_ : Fault, y_ = sp_planFault t plan := ⟨_, rfl⟩
 replace hF := hF r2 q1
 refine .C (cl (v := .agg #[iV r2.code, iV r2.index]) Tryz.call38 rfl rfl (fun w S => (by rw [q1]; exact c_planFault S.sub t at_ ct _q1 _q2 at_2 ct2 _q3 _q4 at_3 ct3 _q5 _q6 plan aplan cplan _q7 _q8 ))) ?_
 refine al tZ27 rfl (fun pf => ?_)
 refine st (p := pf) (off := 0) (k := 0) (vs := [iV r2.code, iV r2.index]) rfl rfl rfl (fun w => (tA27 w).2) rfl rfl rfl rfl ?_
 refine .KA [Box pf [iV r2.code, iV r2.index], Box pv [iV 0, iV 0], Box pt (tF t at_ ct at_2 ct2 at_3 ct3)] ?_
 refine .nil (.seqN (.seq (.region (.V (ldA (cs := [iV r2.code, iV r2.index]) rfl tA27 rfl (cellsB (off := 0) (k := 0) rfl (m := 2) rfl)) ?_))))
 refine .V (bld (cs := #[iV 0, iV 0]) (pv := []) tB27 rfl rfl) ?_
 refine .V (ne2 tE27 rfl rfl) ?_
 refine .nil (.seqN ?_)
 refine .cond rfl (fun q0 => ?_) (fun q0 => ?_)
 ·replace hF := hF.1 q0
  refine .seq ?_
  refine .openL (by kernel_rfl) rfl (by kernel_rfl) (by kernel_rfl) ?_
  refine .V (ldA (cs := [iV r2.code, iV r2.index]) rfl tA27 rfl (cellsB (off := 0) (k := 0) rfl (m := 2) rfl)) ?_
  refine .V ag0 ?_
  refine .tail ?_
  refine st (p := pv) (off := 0) (k := 1) (vs := [iV r2.code, iV r2.index]) rfl rfl rfl (fun w => (tA27 w).2) rfl rfl rfl rfl ?_
  refine .KA [Box pf [iV r2.code, iV r2.index], Box pv [iV r2.code, iV r2.index], Box pt (tF t at_ ct at_2 ct2 at_3 ct3)] ?_
  refine .nil (.seqN (.ret (.seqR ?_)))
  refine .res2 rfl (rvT rfl) (rvC rfl tA27 (k := 1) rfl rfl) (fun w' S => ⟨(false, r2), hF, rfl, S.below⟩)
 replace hF := hF.2 q0
 refine .skip (.seqN (.seq (.region (.V (ldA (cs := (tF t at_ ct at_2 ct2 at_3 ct3)) rfl tA25 rfl (cellsB (off := 0) (k := 2) rfl (m := 4) rfl)) ?_))))
 refine .V (fa rfl tF25_1) ?_
 refine .V (lB 1 2 tO22) ?_
 refine .V mv0 ?_
 obtain ⟨q3, hF⟩ := hF
 obtain ⟨r3, q2⟩ : ∃ y_ : Bool, y_ = sp_rworks t t.init plan := ⟨_, rfl⟩
 replace hF := hF r3 q2
 refine .C (cl (v := .bool r3) Tryz.call39 rfl rfl (fun w S => (by rw [q2]; exact c_works S.sub t at_ ct _q1 _q2 at_2 ct2 _q3 _q4 at_3 ct3 _q5 _q6 t.init at_ ct _q1 _q2 plan aplan cplan _q7 _q8 q3))) ?_
 refine .V (bld (cs := #[iV 0, iV 0]) (pv := []) tB27 rfl rfl) ?_
 refine .V ag0 ?_
 refine st (p := pv) (off := 0) (k := 1) (vs := [iV 0, iV 0]) rfl rfl rfl (fun w => (tA27 w).2) rfl rfl rfl rfl ?_
 refine .KA [Box pf [iV r2.code, iV r2.index], Box pv [iV 0, iV 0], Box pt (tF t at_ ct at_2 ct2 at_3 ct3)] ?_
 refine .nil (.seqN (.ret ?_))
 refine .res2 rfl (rvT rfl) (rvC rfl tA27 (k := 1) rfl rfl) (fun w' S => ⟨(r3, (⟨0, 0⟩ : Fault)), hF, rfl, S.below⟩)
theorem c_solves {h : FH} {w : World} (hs : Sub h w) (t : Task) (at_ : Option Addr) (ct : Nat) (_q1 : RSl h at_ t.init) (_q2 : t.init.length ≤ ct) (at_2 : Option Addr) (ct2 : Nat) (_q3 : RSl h at_2 t.goal) (_q4 : t.goal.length ≤ ct2) (at_3 : Option Addr) (ct3 : Nat) (_q5 : RSl h at_3 t.ops) (_q6 : t.ops.length ≤ ct3) (plan : List Int) (aplan : Option Addr) (cplan : Nat) (_q7 : RSl h aplan plan) (_q8 : plan.length ≤ cplan) : Calls Tryz.prog 19 #[.agg #[iV t.facts, .slice at_ t.init.length ct, .slice at_2 t.goal.length ct2, .slice at_3 t.ops.length ct3], .slice aplan plan.length cplan] w fun e w' => e = .returned (.tuple #[.bool (sp_solves t plan).1, .agg #[iV (sp_solves t plan).2.code, iV (sp_solves t plan).2.index]]) ∧ Below w.heap.size w w' :=
 (w_solves hs t at_ ct _q1 _q2 at_2 ct2 _q3 _q4 at_3 ct3 _q5 _q6 plan aplan cplan _q7 _q8 (fun r => r = sp_solves t plan) (ok_solves t plan)).mono fun _ _ ⟨_, hk, he, hb⟩ => ⟨by rw [he, hk], hb⟩
theorem w_compare {h : FH} {w : World} (hs : Sub h w) (x : Int) (y : Int) (K : Int → Prop) (hF : F_compare x y K) : Calls Tryz.prog 63 #[iV x, iV y] w fun e w' => ∃ r : Int, K r ∧ e = .returned (iV r) ∧ Below w.heap.size w w' := by
 refine enter (args := [iV x, iV y]) Tryz.func63 rfl Tryz.ntmps63 rfl hs ?_
 refine .seq (.region (.V ag0 ?_))
 refine .nil (.seqN (.seq (.region (.V mv0 ?_))))
 obtain ⟨r2, q5⟩ : ∃ y_ : Bool, y_ = sp_isNaN1 x := ⟨_, rfl⟩
 replace hF := hF r2 q5
 refine .C (cl (v := .bool r2) Tryz.call99 rfl rfl (fun w S => (by rw [q5]; exact c_isNaN1 S.sub x ))) ?_
 refine .V ag0 ?_
 refine .nil (.seqN (.seq (.region (.V mv0 ?_))))
 obtain ⟨r3, q6⟩ : ∃ y_ : Bool, y_ = sp_isNaN1 y := ⟨_, rfl⟩
 replace hF := hF r3 q6
 refine .C (cl (v := .bool r3) Tryz.call99 rfl rfl (fun w S => (by rw [q6]; exact c_isNaN1 S.sub y ))) ?_
 refine .V ag0 ?_
 refine .nil (.seqN (.seq (.seq (.region (.V mv0 ?_)))))
 refine .nil (.seqN ?_)
 refine .cond rfl (fun q0 => ?_) (fun q0 => ?_)
 ·replace hF := hF.1 q0
  refine .seq (.seq (.region (.V mv0 ?_)))
  refine .nil (.seqN ?_)
  refine .cond rfl (fun q1 => ?_) (fun q1 => ?_)
  ·replace hF := hF.1 q1
   refine .seq (.region (.V ag0 ?_))
   refine .nil (.seqN (.ret (.seqR (.seqR ?_))))
   refine .res1 rfl (rvT rfl) (fun w' S => ⟨0, hF, rfl, S.below⟩)
  replace hF := hF.2 q1
  refine .skip (.seqN (.seq (.region (.V ag0 ?_))))
  refine .nil (.seqN (.ret (.seqR ?_)))
  refine .res1 rfl (rvT rfl) (fun w' S => ⟨(-1), hF, rfl, S.below⟩)
 replace hF := hF.2 q0
 refine .skip (.seqN (.seq (.seq (.region (.V mv0 ?_)))))
 refine .nil (.seqN ?_)
 refine .cond rfl (fun q2 => ?_) (fun q2 => ?_)
 ·replace hF := hF.1 q2
  refine .seq (.region (.V ag0 ?_))
  refine .nil (.seqN (.ret (.seqR ?_)))
  refine .res1 rfl (rvT rfl) (fun w' S => ⟨1, hF, rfl, S.below⟩)
 replace hF := hF.2 q2
 refine .skip (.seqN (.seq (.seq (.region (.V mv0 ?_)))))
 refine .V mv0 ?_
 refine .V bi0 ?_
 refine .nil (.seqN ?_)
 refine .cond rfl (fun q3 => ?_) (fun q3 => ?_)
 ·replace hF := hF.1 q3
  refine .seq (.region (.V ag0 ?_))
  refine .nil (.seqN (.ret (.seqR ?_)))
  refine .res1 rfl (rvT rfl) (fun w' S => ⟨(-1), hF, rfl, S.below⟩)
 replace hF := hF.2 q3
 refine .skip (.seqN (.seq (.seq (.region (.V mv0 ?_)))))
 refine .V mv0 ?_
 refine .V bi0 ?_
 refine .nil (.seqN ?_)
 refine .cond rfl (fun q4 => ?_) (fun q4 => ?_)
 ·replace hF := hF.1 q4
  refine .seq (.region (.V ag0 ?_))
  refine .nil (.seqN (.ret (.seqR ?_)))
  refine .res1 rfl (rvT rfl) (fun w' S => ⟨1, hF, rfl, S.below⟩)
 replace hF := hF.2 q4
 refine .skip (.seqN (.seq (.region (.V ag0 ?_))))
 refine .nil (.seqN (.ret ?_))
 refine .res1 rfl (rvT rfl) (fun w' S => ⟨0, hF, rfl, S.below⟩)
theorem c_compare {h : FH} {w : World} (hs : Sub h w) (x : Int) (y : Int) : Calls Tryz.prog 63 #[iV x, iV y] w fun e w' => e = .returned (iV (sp_compare x y)) ∧ Below w.heap.size w w' :=
 (w_compare hs x y (fun r => r = sp_compare x y) (ok_compare x y)).mono fun _ _ ⟨_, hk, he, hb⟩ => ⟨by rw [he, hk], hb⟩
set_option maxHeartbeats 8000000 in
theorem w_scompare {h : FH} {w : World} (hs : Sub h w) (s1 : List Int) (as1 : Option Addr) (cs1 : Nat) (_q1 : RSl h as1 s1) (_q2 : s1.length ≤ cs1) (s2 : List Int) (as2 : Option Addr) (cs2 : Nat) (_q3 : RSl h as2 s2) (_q4 : s2.length ≤ cs2) (K : Int → Prop) (hF : F_scompare s1 s2 K) : Calls Tryz.prog 29 #[.slice as1 s1.length cs1, .slice as2 s2.length cs2] w fun e w' => ∃ r : Int, K r ∧ e = .returned (iV r) ∧ Below w.heap.size w w' := by
 refine enter (args := [vSl as1 s1 cs1, vSl as2 s2 cs2]) Tryz.func29 rfl Tryz.ntmps29 rfl hs ?_
 refine .seq (.region (.V ag0 ?_))
 refine .nil (.seqN (.seq (.seq (.region (.V mv0 ?_)))))
 refine .V (ln rfl tS22.is) ?_
 refine .V mv0 ?_
 refine .nil (.seqN (.block ?_))
 obtain ⟨I1, μ1, q0, q8⟩ := hF
 refine .loop' (σ := Int) (fun z => I1 z) (fun z => μ1 z) (fun z => [(0, vSl as1 s1 cs1), (1, vSl as2 s2 cs2), (9, vSl as1 s1 cs1), (10, iV ((s1.length : Nat) : Int)), (11, iV z)]) (fun _ => []) (fun _ => h) 0 q0 sb rfl (FH.le_refl _) ?_
 rintro t11 q0
 have hF := q8 t11 q0
 show J _ _ _ _ _ [(0, vSl as1 s1 cs1), (1, vSl as2 s2 cs2), (9, vSl as1 s1 cs1), (10, iV ((s1.length : Nat) : Int)), (11, iV t11)] [] h
 refine .seq (.region (.V bi0 ?_))
 refine .nil (.seqN (.seq ?_))
 refine .cond rfl (fun q1 => ?_) (fun q1 => ?_)
 ·replace hF := hF.1 q1
  refine .skip (.seqN (.seq (.block (.seq (.region (.V mv0 ?_))))))
  obtain ⟨q2, hF⟩ := hF
  refine .V (ix rfl rfl tS22 (_q1.ne (by decide) (inb_pos q2)) q2) ?_
  refine .V (ld1 (v := iV (gt s1 t11)) rfl tO3 (cellH (_q1.elemF q2 (by decide) 0 _ rfl))) ?_
  refine .V ag0 ?_
  refine .V ag0 ?_
  refine .nil (.seqN (.seq (.seq (.region (.V mv0 ?_)))))
  refine .V mv0 ?_
  refine .V (ln rfl tS22.is) ?_
  refine .V bi0 ?_
  refine .nil (.seqN ?_)
  refine .cond rfl (fun q3 => ?_) (fun q3 => ?_)
  ·replace hF := hF.1 q3
   refine .seq (.region (.V ag0 ?_))
   refine .nil (.seqN (.ret (.seqR (.blkR (.seqR (.seqR (.blkR (.seqR ?_))))))))
   refine .res1 rfl (rvT rfl) (fun w' S => ⟨1, hF, rfl, S.below⟩)
  replace hF := hF.2 q3
  refine .skip (.seqN (.seq (.region (.V mv0 ?_))))
  refine .V mv0 ?_
  obtain ⟨q4, hF⟩ := hF
  refine .V (ix rfl rfl tS22 (_q3.ne (by decide) (inb_pos q4)) q4) ?_
  refine .V (ld1 (v := iV (gt s2 t11)) rfl tO3 (cellH (_q3.elemF q4 (by decide) 0 _ rfl))) ?_
  refine .V ag0 ?_
  refine .nil (.seqN (.seq (.region (.V mv0 ?_))))
  refine .V mv0 ?_
  obtain ⟨r2, q7⟩ : ∃ y_ : Int, y_ = sp_compare (gt s1 t11) (gt s2 t11) := ⟨_, rfl⟩
  replace hF := hF r2 q7
  refine .C (cl (v := iV r2) Tryz.call63 rfl rfl (fun w S => (by rw [q7]; exact c_compare S.sub (gt s1 t11) (gt s2 t11) ))) ?_
  refine .V ag0 ?_
  refine .nil (.seqN (.seq (.region (.V mv0 ?_))))
  refine .V bi0 ?_
  refine .nil (.seqN ?_)
  refine .cond rfl (fun q5 => ?_) (fun q5 => ?_)
  ·replace hF := hF.1 q5
   refine .seq (.region (.V mv0 ?_))
   refine .V ag0 ?_
   refine .nil (.seqN (.ret (.blkR (.seqR (.seqR (.blkR (.seqR ?_)))))))
   refine .res1 rfl (rvT rfl) (fun w' S => ⟨r2, hF, rfl, S.below⟩)
  replace hF := hF.2 q5
  refine .skip (.blkN (.seqN (.region (.V bi0 ?_))))
  refine .V mv0 ?_
  refine .nil ?_
  exact .RO (wr (t11 + 1)) hF.1 hF.2
 replace hF := hF.2 q1
 refine .exit (.seqX (.seqX (.blkX (.seqN (.seq (.seq (.region (.V mv0 ?_))))))))
 refine .V (ln rfl tS22.is) ?_
 refine .V mv0 ?_
 refine .V (ln rfl tS22.is) ?_
 refine .V bi0 ?_
 refine .nil (.seqN ?_)
 refine .cond rfl (fun q6 => ?_) (fun q6 => ?_)
 ·replace hF := hF.1 q6
  refine .seq (.region (.V ag0 ?_))
  refine .nil (.seqN (.ret (.seqR ?_)))
  refine .res1 rfl (rvT rfl) (fun w' S => ⟨(-1), hF, rfl, S.below⟩)
 replace hF := hF.2 q6
 refine .skip (.seqN (.seq (.region (.V ag0 ?_))))
 refine .nil (.seqN (.ret ?_))
 refine .res1 rfl (rvT rfl) (fun w' S => ⟨0, hF, rfl, S.below⟩)
theorem c_scompare {h : FH} {w : World} (hs : Sub h w) (s1 : List Int) (as1 : Option Addr) (cs1 : Nat) (_q1 : RSl h as1 s1) (_q2 : s1.length ≤ cs1) (s2 : List Int) (as2 : Option Addr) (cs2 : Nat) (_q3 : RSl h as2 s2) (_q4 : s2.length ≤ cs2) (hp : pre_scompare s1 s2) : Calls Tryz.prog 29 #[.slice as1 s1.length cs1, .slice as2 s2.length cs2] w fun e w' => e = .returned (iV (sp_scompare s1 s2)) ∧ Below w.heap.size w w' :=
 (w_scompare hs s1 as1 cs1 _q1 _q2 s2 as2 cs2 _q3 _q4 (fun r => r = sp_scompare s1 s2) (ok_scompare s1 s2 hp)).mono fun _ _ ⟨_, hk, he, hb⟩ => ⟨by rw [he, hk], hb⟩
end Go.Proofs.YtimillpakjgnoaaGreat.Pl

namespace Go.Proofs.YtimillpakjgnoaaGreat.Pl
open Go Go.RowKit
theorem w_word {h : FH} {w : World} (hs : Sub h w) (s_ : List Int) (as_ : Option Addr) (cs_ : Nat) (_q1 : RSl h as_ s_) (_q2 : s_.length ≤ cs_) (K : Int → Prop) (hF : F_word s_ K) : Calls Tryz.prog 76 #[.slice as_ s_.length cs_] w fun e w' => ∃ r : Int, K r ∧ e = .returned (.int .u32 r) ∧ Below w.heap.size w w' := by
 refine enter (args := [vSl as_ s_ cs_]) Tryz.func76 rfl Tryz.ntmps76 rfl hs ?_
 refine .seq (.region (.V ag0 ?_))
 refine .nil (.seqN (.seq (.region (.V ag0 ?_))))
 refine .nil (.seqN (.seq (.seq (.region (.V mv0 ?_)))))
 refine .V (ln rfl tS22.is) ?_
 refine .V mv0 ?_
 refine .nil (.seqN (.block ?_))
 obtain ⟨I1, μ1, q0, q4⟩ := hF
 refine .loop' (σ := Int × Int) (fun z => I1 z.1 z.2) (fun z => μ1 z.1 z.2) (fun z => [(3, .int .u32 z.1), (6, vSl as_ s_ cs_), (7, iV ((s_.length : Nat) : Int)), (8, iV z.2)]) (fun _ => []) (fun _ => h) (0, 0) q0 sb rfl (FH.le_refl _) ?_
 rintro ⟨w_, t8⟩ q0
 have hF := q4 w_ t8 q0
 show J _ _ _ _ _ [(3, .int .u32 w_), (6, vSl as_ s_ cs_), (7, iV ((s_.length : Nat) : Int)), (8, iV t8)] [] h
 refine .seq (.region (.V bi0 ?_))
 refine .nil (.seqN (.seq ?_))
 refine .cond rfl (fun q1 => ?_) (fun q1 => ?_)
 ·replace hF := hF.1 q1
  refine .skip (.seqN (.seq (.block (.seq (.region ?_)))))
  obtain ⟨q2, hF⟩ := hF
  refine .V (ix rfl rfl tS22 (_q1.ne (by decide) (inb_pos q2)) q2) ?_
  refine .V (ld1 (v := iV (gt s_ t8)) rfl tO3 (cellH (_q1.elemF q2 (by decide) 0 _ rfl))) ?_
  refine .V ag0 ?_
  refine .nil (.seqN (.region (.V mv0 ?_)))
  refine .V mv0 ?_
  obtain ⟨q5, hF⟩ := hF
  obtain ⟨x, q3⟩ : ∃ y_ : Int, y_ = (IntKind.u32.wrap (1 * 2 ^ (min (((gt s_ t8) : Int)).toNat (IntKind.bits .u32)))) := ⟨_, rfl⟩
  replace hF := hF x q3
  refine .v (v := .int .u32 x) (by rw [q3]; exact bsh rfl rfl q5 rfl) rfl rfl rfl ?_
  refine .V bi0 ?_
  refine .V ag0 ?_
  refine .nil (.blkN (.seqN (.region (.V bi0 ?_))))
  refine .V mv0 ?_
  refine .nil ?_
  exact .RO (bits .or .u32 w_ x, wr (t8 + 1)) hF.1 hF.2
 replace hF := hF.2 q1
 refine .exit (.seqX (.seqX (.blkX (.seqN (.seq (.region (.V mv0 ?_)))))))
 refine .V ag0 ?_
 refine .nil (.seqN (.ret ?_))
 refine .res1 rfl (rvT rfl) (fun w' S => ⟨w_, hF, rfl, S.below⟩)
theorem c_word {h : FH} {w : World} (hs : Sub h w) (s_ : List Int) (as_ : Option Addr) (cs_ : Nat) (_q1 : RSl h as_ s_) (_q2 : s_.length ≤ cs_) (hp : pre_word s_) : Calls Tryz.prog 76 #[.slice as_ s_.length cs_] w fun e w' => e = .returned (.int .u32 (sp_word s_)) ∧ Below w.heap.size w w' :=
 (w_word hs s_ as_ cs_ _q1 _q2 (fun r => r = sp_word s_) (ok_word s_ hp)).mono fun _ _ ⟨_, hk, he, hb⟩ => ⟨by rw [he, hk], hb⟩
theorem w_facts {h : FH} {w : World} (hs : Sub h w) (w_ : Int) (K : (List Int) → Prop) (hF : F_facts w_ K) : Calls Tryz.prog 44 #[.int .u32 w_] w fun e w' => ∃ (r : List Int) (z : Option Addr × Nat) (h1 : FH), K r ∧ e = .returned (.slice z.1 r.length z.2) ∧ FH.le h h1 ∧ (RSl h1 z.1 r ∧ r.length ≤ z.2) ∧ SH (Kp.all w h) h1 w' [] := by
 refine enter (args := [.int .u32 w_]) Tryz.func44 rfl Tryz.ntmps44 rfl hs ?_
 refine .seq (.region (.V ag0 ?_))
 refine .nil (.seqN (.seq (.region (.V ag0 ?_))))
 refine .nil (.seqN (.seq (.seq (.region (.V mv0 ?_)))))
 refine .nil (.seqN (.block ?_))
 refine .nilSl 3 1 ?_
 refine .KA [oL 3 1 none ([] : List Int) 0] ?_
 obtain ⟨I1, μ1, q0, q7⟩ := hF
 refine .loop' (σ := Int × List Int × Option Addr × Nat) (fun z => I1 z.1 z.2.1) (fun z => μ1 z.1 z.2.1) (fun z => [(0, .int .u32 w_), (3, vSl z.2.2.1 z.2.1 z.2.2.2), (5, iV z.1)]) (fun z => [oL 3 1 z.2.2.1 z.2.1 z.2.2.2]) (fun _ => h) (0, ([] : List Int), none, 0) q0 sb rfl (FH.le_refl _) ?_
 rintro ⟨t5, out, aout, cout⟩ q0
 have hF := q7 t5 out q0
 show J _ _ _ _ _ [(0, .int .u32 w_), (3, vSl aout out cout), (5, iV t5)] [oL 3 1 aout out cout] h
 refine .seq (.region (.V bi0 ?_))
 refine .nil (.seqN (.seq ?_))
 refine .cond rfl (fun q1 => ?_) (fun q1 => ?_)
 ·replace hF := hF.1 q1
  refine .skip (.seqN ?_)
  refine .share (σ := List Int × Option Addr × Nat) (fun z => F_facts_J1 out t5 I1 μ1 z.1) (fun z => [(0, .int .u32 w_), (3, vSl z.2.1 z.1 z.2.2), (5, iV t5)]) (fun z => [oL 3 1 z.2.1 z.1 z.2.2]) (fun _ => h) ?_ (fun q4 => ?_)
  ·rintro ⟨out3, aout3, cout3⟩ hF
   show J _ _ _ _ _ [(0, .int .u32 w_), (3, vSl aout3 out3 cout3), (5, iV t5)] [oL 3 1 aout3 out3 cout3] h
   refine .region (.V bi0 ?_)
   refine .V mv0 ?_
   refine .nil ?_
   exact .RO (wr (t5 + 1), out3, aout3, cout3) hF.1 hF.2
  refine .block (.seq (.region (.V mv0 ?_)))
  refine .V ag0 ?_
  refine .nil (.seqN (.seq (.region (.V mv0 ?_))))
  refine .V mv0 ?_
  obtain ⟨q8, hF⟩ := hF
  refine .V (bsh rfl rfl q8 rfl) ?_
  obtain ⟨x, q5⟩ : ∃ y_ : Int, y_ = (bits .and .u32 (Int.fdiv w_ (2 ^ (min ((t5 : Int)).toNat (IntKind.bits .u32)))) 1) := ⟨_, rfl⟩
  replace hF := hF x q5
  refine .v (v := .int .u32 x) (by rw [q5]; exact bi rfl rfl rfl) rfl rfl rfl ?_
  refine .V bi0 ?_
  refine .nil (.seqN ?_)
  refine .cond rfl (fun q2 => ?_) (fun q2 => ?_)
  ·replace hF := hF.1 q2
   refine .region (.V mv0 ?_)
   refine .V mv0 ?_
   refine bs2 (cs := #[iV t5]) (pv := [(0, iV t5)]) tS22 rfl rfl (by decide) (by decide) rfl rfl rfl (fun a _ => ?_)
   refine .KA [oL 3 1 a ([t5] : List Int) 1, oL 3 1 aout out cout] ?_
   obtain ⟨q6, hF⟩ := hF
   have q3 : out.length + ([t5] : List Int).length = ((out ++ ([t5] : List Int))).length := len_app rfl rfl
   refine app (k := 1) (news := flL ([t5] : List Int)) (cs' := flL (out ++ ([t5] : List Int))) (nm := ((out ++ ([t5] : List Int))).length) tS22 rfl (by decide) rfl rfl rfl ((flL_len _).trans rfl) (srcS (k := 0) rfl) (flL_one _) (room_of q3 q6).1 (room_of q3 q6).2 q3 (flL_append _ _).symm rfl (fun a2 c => ?_)
   refine .KA [oL 3 1 a ([t5] : List Int) 1, oL 3 1 a2 (out ++ ([t5] : List Int)) c] ?_
   refine .V ag0 ?_
   refine .nil (.blkN ?_)
   refine .sel0 [1] (by decide) rfl ?_
   exact .US q4 ((out ++ ([t5] : List Int)), a2, c) hF
  replace hF := hF.2 q2
  refine .skip (.blkN ?_)
  exact .US q4 (out, aout, cout) hF
 replace hF := hF.2 q1
 refine .exit (.seqX (.seqX (.blkX (.seqN (.seq (.region (.V mv0 ?_)))))))
 refine .V ag0 ?_
 refine .nil (.seqN ?_)
 refine .freezeL (k := 0) rfl (fun h1 le1 q9 q10 => ?_)
 refine .KA [tru] ?_
 refine .ret ?_
 refine .res1 rfl (rvT rfl) (fun w' S => ⟨out, (aout, cout), h1, hF, rfl, (le1), ⟨(RSl.of q10), (q9)⟩, S.none⟩)
theorem c_facts {h : FH} {w : World} (hs : Sub h w) (w_ : Int) (hp : pre_facts w_) : Calls Tryz.prog 44 #[.int .u32 w_] w fun e w' => ∃ (z : Option Addr × Nat) (h1 : FH), e = .returned (.slice z.1 (sp_facts w_).length z.2) ∧ FH.le h h1 ∧ (RSl h1 z.1 (sp_facts w_) ∧ (sp_facts w_).length ≤ z.2) ∧ SH (Kp.all w h) h1 w' [] :=
 (w_facts hs w_ (fun r => r = sp_facts w_) (ok_facts w_ hp)).mono fun _ _ ⟨r, z, h1, hk, he, hl, hf, hS⟩ => by subst hk; exact ⟨z, h1, he, hl, hf, hS⟩
theorem w_wcmp {h : FH} {w : World} (hs : Sub h w) (a : Int) (b : Int) (K : Int → Prop) (hF : F_wcmp a b K) : Calls Tryz.prog 43 #[.int .u32 a, .int .u32 b] w fun e w' => ∃ r : Int, K r ∧ e = .returned (iV r) ∧ Below w.heap.size w w' := by
 refine enter (args := [.int .u32 a, .int .u32 b]) Tryz.func43 rfl Tryz.ntmps43 rfl hs ?_
 refine .seq (.region (.V ag0 ?_))
 refine .nil (.seqN (.seq (.region (.V mv0 ?_))))
 obtain ⟨q3, hF⟩ := hF
 obtain ⟨r2, q0⟩ : ∃ y_ : List Int, y_ = sp_facts a := ⟨_, rfl⟩
 replace hF := hF r2 q0
 refine clR (α := Option Addr × Nat) (Φ := fun h1 z => RSl h1 z.1 r2 ∧ r2.length ≤ z.2) (V := fun z => vSl z.1 r2 z.2) Tryz.call44 rfl rfl (fun w S => (by rw [q0]; exact c_facts S.sub a q3)) rfl (fun z h1 le1 hz => ?_)
 obtain ⟨a2, c⟩ := z
 obtain ⟨q4, q5⟩ := hz
 refine .V mv0 ?_
 obtain ⟨q6, hF⟩ := hF
 obtain ⟨r3, q1⟩ : ∃ y_ : List Int, y_ = sp_facts b := ⟨_, rfl⟩
 replace hF := hF r3 q1
 refine clR (α := Option Addr × Nat) (Φ := fun h1 z => RSl h1 z.1 r3 ∧ r3.length ≤ z.2) (V := fun z => vSl z.1 r3 z.2) Tryz.call44 rfl rfl (fun w S => (by rw [q1]; exact c_facts S.sub b q6)) rfl (fun z h2 le2 hz => ?_)
 obtain ⟨a3, c2⟩ := z
 obtain ⟨q7, q8⟩ := hz
 obtain ⟨q9, hF⟩ := hF
 obtain ⟨r4, q2⟩ : ∃ y_ : Int, y_ = sp_scompare r2 r3 := ⟨_, rfl⟩
 replace hF := hF r4 q2
 refine .C (cl (v := iV r4) Tryz.call29 rfl rfl (fun w S => (by rw [q2]; exact c_scompare S.sub r2 a2 c (q4.mono (le2)) q5 r3 a3 c2 q7 q8 q9))) ?_
 refine .V ag0 ?_
 refine .nil (.seqN (.ret ?_))
 refine .res1 rfl (rvT rfl) (fun w' S => ⟨r4, hF, rfl, S.below⟩)
theorem c_wcmp {h : FH} {w : World} (hs : Sub h w) (a : Int) (b : Int) (hp : pre_wcmp a b) : Calls Tryz.prog 43 #[.int .u32 a, .int .u32 b] w fun e w' => e = .returned (iV (sp_wcmp a b)) ∧ Below w.heap.size w w' :=
 (w_wcmp hs a b (fun r => r = sp_wcmp a b) (ok_wcmp a b hp)).mono fun _ _ ⟨_, hk, he, hb⟩ => ⟨by rw [he, hk], hb⟩
end Go.Proofs.YtimillpakjgnoaaGreat.Pl

namespace Go.Proofs
open Go.Shelf
def YtimillpakjgnoaaGreat.laysSW_ren : Go.Shelf.Ren := ⟨fun | 6 => 42 | 15 => 78 | 14 => 77 | 28 => 114 | 29 => 115 | 20 => 106 | 21 => 107 | 22 => 108 | 23 => 109 | 24 => 110 | 25 => 111 | 26 => 112 | 27 => 113 | 46 => 130 | 47 => 131 | 48 => 132 | 49 => 133 | 50 => 134 | 57 => 138 | n => n, fun | 22 => 57 | 24 => 62 | 25 => 86 | 3 => 3 | 39 => 152 | 0 => 0 | 53 => 62 | 55 => 193 | 4 => 4 | 46 => 186 | 45 => 185 | 50 => 110 | 5 => 5 | 9 => 9 | 66 => 202 | 70 => 206 | 76 => 210 | 77 => 211 | n => n, fun | n => n⟩
theorem YtimillpakjgnoaaGreat.laysSW : Go.Proofs.SlLaysF.n6 Tryz.prog YtimillpakjgnoaaGreat.laysSW_ren := {
  mixed := by kernel_rfl
  f6 := ⟨Tryz.f42.name, by decide, Tryz.func42.trans (congrArg some (by kernel_rfl))⟩
  f14 := ⟨Tryz.f77.name, by decide, Tryz.func77.trans (congrArg some (by kernel_rfl))⟩
  f15 := Tryz.func78.trans (congrArg some (by kernel_rfl))
  f20 := ⟨Tryz.f106.name, by decide, Tryz.func106.trans (congrArg some (by kernel_rfl))⟩
  f21 := ⟨Tryz.f107.name, by decide, Tryz.func107.trans (congrArg some (by kernel_rfl))⟩
  f22 := ⟨Tryz.f108.name, by decide, Tryz.func108.trans (congrArg some (by kernel_rfl))⟩
  f23 := ⟨Tryz.f109.name, by decide, Tryz.func109.trans (congrArg some (by kernel_rfl))⟩
  f24 := ⟨Tryz.f110.name, by decide, Tryz.func110.trans (congrArg some (by kernel_rfl))⟩
  f25 := ⟨Tryz.f111.name, by decide, Tryz.func111.trans (congrArg some (by kernel_rfl))⟩
  f26 := ⟨Tryz.f112.name, by decide, Tryz.func112.trans (congrArg some (by kernel_rfl))⟩
  f27 := ⟨Tryz.f113.name, by decide, Tryz.func113.trans (congrArg some (by kernel_rfl))⟩
  f28 := Tryz.func114.trans (congrArg some (by kernel_rfl))
  f29 := Tryz.func115.trans (congrArg some (by kernel_rfl))
  f46 := ⟨Tryz.f130.name, by decide, Tryz.func130.trans (congrArg some (by kernel_rfl))⟩
  f47 := Tryz.func131.trans (congrArg some (by kernel_rfl))
  f48 := Tryz.func132.trans (congrArg some (by kernel_rfl))
  f49 := ⟨Tryz.f133.name, by decide, Tryz.func133.trans (congrArg some (by kernel_rfl))⟩
  f50 := ⟨Tryz.f134.name, by decide, Tryz.func134.trans (congrArg some (by kernel_rfl))⟩
  f57 := ⟨Tryz.f138.name, by decide, Tryz.func138.trans (congrArg some (by kernel_rfl))⟩
  t0 := Tryz.underlying0
  a0 := Tryz.isAgg0
  z0 := Tryz.sizeOf0
  v0 := Tryz.zeroValue0
  t3 := Tryz.underlying3
  a3 := Tryz.isAgg3
  z3 := Tryz.sizeOf3
  v3 := Tryz.zeroValue3
  t4 := Tryz.underlying4
  a4 := Tryz.isAgg4
  z4 := Tryz.sizeOf4
  v4 := Tryz.zeroValue4
  t5 := Tryz.underlying5
  a5 := Tryz.isAgg5
  z5 := Tryz.sizeOf5
  v5 := Tryz.zeroValue5
  t9 := Tryz.underlying9
  a9 := Tryz.isAgg9
  z9 := Tryz.sizeOf9
  v9 := Tryz.zeroValue9
  t22 := Tryz.underlying57
  a22 := Tryz.isAgg57
  z22 := Tryz.sizeOf57
  v22 := Tryz.zeroValue57
  a24 := Tryz.isAgg62
  z24 := Tryz.sizeOf62
  t25 := Tryz.underlying86
  a25 := Tryz.isAgg86
  z25 := Tryz.sizeOf86
  v25 := Tryz.zeroValue86
  t39 := Tryz.underlying152
  a39 := Tryz.isAgg152
  z39 := Tryz.sizeOf152
  v39 := Tryz.zeroValue152
  t45 := Tryz.underlying185
  a45 := Tryz.isAgg185
  z45 := Tryz.sizeOf185
  v45 := Tryz.zeroValue185
  t46 := Tryz.underlying186
  a46 := Tryz.isAgg186
  z46 := Tryz.sizeOf186
  v46 := Tryz.zeroValue186
  t50 := Tryz.underlying110
  a50 := Tryz.isAgg110
  z50 := Tryz.sizeOf110
  v50 := Tryz.zeroValue110
  t53 := Tryz.underlying62
  a53 := Tryz.isAgg62
  z53 := Tryz.sizeOf62
  v53 := Tryz.zeroValue62
  t55 := Tryz.underlying193
  a55 := Tryz.isAgg193
  z55 := Tryz.sizeOf193
  v55 := Tryz.zeroValue193
  t66 := Tryz.underlying202
  a66 := Tryz.isAgg202
  z66 := Tryz.sizeOf202
  v66 := Tryz.zeroValue202
  t70 := Tryz.underlying206
  a70 := Tryz.isAgg206
  z70 := Tryz.sizeOf206
  v70 := Tryz.zeroValue206
  t76 := Tryz.underlying210
  a76 := Tryz.isAgg210
  z76 := Tryz.sizeOf210
  v76 := Tryz.zeroValue210
  t77 := Tryz.underlying211
  a77 := Tryz.isAgg211
  z77 := Tryz.sizeOf211
  v77 := Tryz.zeroValue211 }
end Go.Proofs
namespace Go.Proofs.YtimillpakjgnoaaGreat.Pl
open Go Go.RowKit Go.Sort
theorem grow_of_below {W w' : World} (hb : Below W.heap.size W w') : ∃ q os', w' = grow (W.drewN q) os' := by
 refine ⟨w'.drawn - W.drawn, w'.heap.extract W.heap.size w'.heap.size, ?_⟩
 have h1 : w'.heap = W.heap ++ w'.heap.extract W.heap.size w'.heap.size := by
  refine Array.ext_getElem? fun i => ?_
  rw [Array.getElem?_append]
  split
  ·rename_i h; exact hb.block i h
  ·rename_i h
   rw [Array.getElem?_extract]
   split
   ·congr 1; omega
   ·exact Array.getElem?_eq_none (by omega)
 have h2 : w'.drawn = W.drawn + (w'.drawn - W.drawn) := by have h0 : W.drawn ≤ w'.drawn := hb.drawn; omega
 have h3 := hb.os
 have h4 := hb.tape
 have h5 := hb.output
 generalize w'.heap.extract W.heap.size w'.heap.size = os at h1
 generalize w'.drawn - W.drawn = q at h2
 cases w'
 simp only at h1 h2 h3 h4 h5
 subst h1; subst h2; subst h3; subst h4; subst h5
 rfl
theorem putG {w : World} {h : FH} {b c m sz q : Nat} {cur : Array Value} {e : TypeId} {ds : List Value} {os : Array Obj} (hs : Sub h w) (sg : Sub (FH.one b (.cells cur e (0, 0))) w) (hd : Disj h (FH.one b (.cells cur e (0, 0)))) (hmax : c ≤ maxLen) (hsz : cur.size = c * sz) (hds : ds.length = m * sz) (hm : m ≤ c) :
  SH (Kp.ex w h (FH.one b (.cells cur e (0, 0)))) h (grow (putRow id (Sort.ahead w q) b 0 ds.toArray) os) [OwnSl e sz (some ⟨b, 0, none⟩) m c ds] := by
 have hb : w.heap[b]? = some (.cells cur e (0, 0)) := sg b _ (FH.one_self _ _)
 have hlt : b < w.heap.size := sg.lt (FH.one_self _ _)
 have hheap : ∀ i, i < w.heap.size → (grow (putRow id (Sort.ahead w q) b 0 ds.toArray) os).heap[i]? = if b = i then some (.cells (putCells id 0 ds.toArray cur) e (0, 0)) else w.heap[i]? := fun i hi => by
  show ((w.heap.modify b (onCells (putCells id 0 ds.toArray))) ++ os)[i]? = _
  rw [Array.getElem?_append_left (by rw [Array.size_modify]; exact hi), Array.getElem?_modify]
  by_cases q : b = i
  ·subst q
   rw [if_pos rfl, if_pos rfl, hb]; rfl
  ·rw [if_neg q, if_neg q]
 have hsize : w.heap.size ≤ (grow (putRow id (Sort.ahead w q) b 0 ds.toArray) os).heap.size := by
  show w.heap.size ≤ ((w.heap.modify b (onCells (putCells id 0 ds.toArray))) ++ os).size
  rw [Array.size_append, Array.size_modify]; omega
 have hone : ∀ i, FH.one b (.cells cur e (0, 0)) i = none → b ≠ i := fun i g q => by
  subst q
  rw [FH.one_self] at g; cases g
 have hnb : ∀ i, h i ≠ none → b ≠ i := fun i hi => hone i ((hd i).resolve_left hi)
 refine ⟨⟨rfl, rfl, rfl, hsize, fun i hi => ?_, (by unfold dr; first | exact Nat.le_add_right _ _ | exact Nat.le_refl _)⟩, fun i o ho => ?_, fun i hi => .inl hi, [FH.one b (.cells (putCells id 0 ds.toArray cur) e (0, 0))], rfl, ?_, ?_, ?_⟩
 ·rw [hheap i hi.1, if_neg (hone i hi.2)]; rfl
 ·rw [hheap i (hs.lt ho), if_neg (hnb i (by rw [ho]; simp))]; exact hs i o ho
 ·intro i g X hi hX
  cases i with
  | succ i => simp at hi
  | zero =>
   simp at hi hX
   subst hi; subst hX
   have hle : m * sz ≤ c * sz := Nat.mul_le_mul_right sz hm
   refine ⟨hds, .inr ⟨b, _, rfl, rfl, hm, hmax, by simp [putCells, hsz], ?_⟩⟩
   refine List.ext_getElem? fun k => ?_
   rw [List.getElem?_take]
   by_cases g : k < m * sz
   ·have g2 : k < ds.length := by omega
    have g3 : k < cur.size := by omega
    rw [if_pos g, Array.getElem?_toList]
    simp [putCells, g2, g3]
   ·rw [if_neg g, List.getElem?_eq_none (by omega)]
 ·intro i g hi
  cases i with
  | succ i => simp at hi
  | zero =>
   simp at hi
   subst hi
   refine ⟨fun j => ?_, Sub.one ?_, fun j hj hk => ?_⟩
   ·by_cases g : h j = none
    ·exact .inl g
    ·exact .inr (by unfold FH.one; rw [if_neg (fun e => hnb j g e.symm)])
   ·rw [hheap b hlt, if_pos rfl]
   ·exact hone j hk.2 (FH.one_ne hj).symm
 ·intro i j g g' hij hi hj
  cases i with
  | succ i => simp at hi
  | zero => cases j with
   | zero => exact absurd rfl hij
   | succ j => simp at hj
theorem ownHoldsG {w : World} {b m : Nat} {cur : Array Value} {e : TypeId} {ds : List Value} (hb : w.heap[b]? = some (.cells cur e (0, 0))) (hl : ds.length = m) (ht : cur.toList.take m = ds) : Go.Sort.Holds id w b 0 ds.toArray := fun j hj => by
 have hj' : j < ds.length := by simpa using hj
 refine ⟨?_, ?_⟩
 ·unfold World.cell?
  rw [hb]
  show (if (none : Option _).isSome = true then none else cur[0 + j]?) = _
  have h1 := congrArg (fun l => l[j]?) ht
  simp only [List.getElem?_take, show j < m by omega, if_true] at h1
  rw [Array.getElem?_toList, List.getElem?_eq_getElem hj'] at h1
  rw [Nat.zero_add]
  simp [h1, hj']
 ·unfold World.frozen?
  rw [hb]
  simp
theorem putRow_map {α : Type} [Inhabited α] (enc : α → Value) (w : World) (b : Nat) (d : Array α) : putRow enc w b 0 d = putRow id w b 0 (d.map enc) := by
 unfold putRow
 congr 1
 funext c
 unfold putCells
 apply Array.ext
 ·simp
 ·intro i h1 h2
  simp only [Array.getElem_mapIdx, Array.size_map, id]
  split
  ·rename_i hi
   have hlt : i - 0 < d.size := by omega
   rw [getElem!_pos d _ hlt, getElem!_pos (d.map enc) _ (by simpa using hlt), Array.getElem_map]
  ·rfl
theorem holds_map {α : Type} [Inhabited α] (enc : α → Value) {w : World} {b : Nat} {d : Array α} (h : Go.Sort.Holds id w b 0 (d.map enc)) : Go.Sort.Holds enc w b 0 d := fun j hj => by
 have := h j (by simpa using hj)
 rwa [getElem!_pos (d.map enc) j (by simpa using hj), Array.getElem_map, ← getElem!_pos d j hj] at this
abbrev UW := {w : Int // U32 w}
instance : Inhabited UW := ⟨⟨0, by decide, by decide⟩⟩
def encU (p : UW) : Value := .int .u32 p.1
def cfU (p q : UW) : Int := sp_wcmp p.1 q.1
theorem wd_self {w : Int} (h : U32 w) : Wd w (fun p => (w.toNat).testBit p.toNat = true) := by
 obtain ⟨n, rfl⟩ : ∃ n : Nat, w = n := ⟨w.toNat, by have := h.1; omega⟩
 exact ⟨n, rfl, by have := h.2; omega, fun i _ => by simp⟩
theorem facts_inj {a b : Int} (ha : U32 a) (hb : U32 b) (e : sp_facts a = sp_facts b) : a = b := by
 refine Wd.unique (wd_self ha) ((wd_self hb).iff fun i hi => ?_)
 have h1 := mem_facts (wd_self ha) (p := (i : Int))
 have h2 := mem_facts (wd_self hb) (p := (i : Int))
 rw [e] at h1
 have h3 : (0 : Int) ≤ i ∧ (i : Int) < 32 := by omega
 constructor
 ·intro q; exact (h1.1 (h2.2 ⟨h3, q⟩)).2
 ·intro q; exact (h2.1 (h1.2 ⟨h3, q⟩)).2
theorem sortW_perm (l : List Int) : (sp_sortW l).Perm l := List.mergeSort_perm _ _
theorem sortW_len (l : List Int) : (sp_sortW l).length = l.length := (sortW_perm l).length_eq
theorem wle_nle (a b : Int) : decide (sp_wcmp a b ≤ 0) = true ↔ Nle (sp_facts a) (sp_facts b) := by
 rw [decide_eq_true_eq]
 unfold sp_wcmp Nle
 have h1 := scompare_before (sp_facts a) (sp_facts b)
 rcases before_tri (sp_facts a) (sp_facts b) with h | h | h
 ·have h2 := h1.1.2 h
  constructor
  ·intro _
   cases e : sp_before (sp_facts b) (sp_facts a) with
   | false => rfl
   | true => have := before_trans _ _ _ h e; rw [before_irr] at this; cases this
  ·intro _; omega
 ·have h2 := h1.2.2 h
  constructor
  ·intro _; rw [h]; exact before_irr _
  ·intro _; omega
 ·constructor
  ·intro q
   by_cases h0 : sp_scompare (sp_facts a) (sp_facts b) = 0
   ·have := h1.2.1 h0
    rw [this, before_irr] at h; cases h
   ·have := h1.1.1 (by omega)
    have := before_trans _ _ _ h this
    rw [before_irr] at this; cases this
  ·intro q; rw [q] at h; cases h
theorem sortW_sorted (l : List Int) : (sp_sortW l).Pairwise fun a b => Nle (sp_facts a) (sp_facts b) := by
 have := List.pairwise_mergeSort (le := fun a b => decide (sp_wcmp a b ≤ 0)) (fun a b c h g => by
  rw [wle_nle] at *
  exact nle_trans h g) (fun a b => by
  rw [Bool.or_eq_true, wle_nle, wle_nle]
  rcases before_tri (sp_facts a) (sp_facts b) with h | h | h
  ·refine .inl ?_
   unfold Nle
   cases e : sp_before (sp_facts b) (sp_facts a) with
   | false => rfl
   | true => have := before_trans _ _ _ h e; rw [before_irr] at this; cases this
  ·refine .inl ?_; rw [h]; exact before_irr _
  ·refine .inr ?_
   unfold Nle
   cases e : sp_before (sp_facts a) (sp_facts b) with
   | false => rfl
   | true => have := before_trans _ _ _ h e; rw [before_irr] at this; cases this) l
 exact this.imp fun h => (wle_nle _ _).1 h
theorem sortW_two {a b : Int} (h : sp_wcmp a b ≤ 0) : sp_sortW [a, b] = [a, b] :=
 List.mergeSort_of_pairwise (by simp [h])
theorem map_inj : ∀ (a b : List Int), (∀ x ∈ a, U32 x) → (∀ x ∈ b, U32 x) → a.map sp_facts = b.map sp_facts → a = b
 | [], [], _, _, _ => rfl
 | [], _ :: _, _, _, h => by simp at h
 | _ :: _, [], _, _, h => by simp at h
 | x :: a, y :: b, ha, hb, h => by
  rw [List.map_cons, List.map_cons, List.cons.injEq] at h
  rw [facts_inj (ha x List.mem_cons_self) (hb y List.mem_cons_self) h.1, map_inj a b (fun z hz => ha z (List.mem_cons_of_mem _ hz)) (fun z hz => hb z (List.mem_cons_of_mem _ hz)) h.2]
theorem wsorted_perm {a b : List Int} (h0 : ∀ x ∈ a, U32 x) (ha : a.Pairwise fun a b => Nle (sp_facts a) (sp_facts b)) (hb : b.Pairwise fun a b => Nle (sp_facts a) (sp_facts b)) (h : a.Perm b) : a = b :=
 map_inj a b h0 (fun x hx => h0 x (h.mem_iff.2 hx)) (sorted_perm _ _ (List.pairwise_map.2 ha) (List.pairwise_map.2 hb) (h.map _))
theorem ltU (p q : UW) : ltOf cfU p q = sp_before (sp_facts p.1) (sp_facts q.1) := by
 unfold ltOf cfU
 rw [Bool.eq_iff_iff, decide_eq_true_eq]
 exact (scompare_before _ _).1
theorem swoU : SWO (ltOf cfU) := ⟨fun x => by rw [ltU]; exact before_irr _, fun x y z h1 h2 => by
 rw [ltU] at *; exact before_trans _ _ _ h1 h2, fun x y z h1 h2 => by
 rw [ltU] at *; exact nle_trans (y := sp_facts y.1) h2 h1⟩
theorem flW : ∀ xs : List Int, flL (α := W32) xs = xs.map (Value.int .u32 ·)
 | [] => rfl
 | x :: r => (flL_append (α := W32) [x] r).trans (congrArg (fun z => [Value.int .u32 x] ++ z) (flW r))
theorem c_sortW {h : FH} {w : World} (hs : Sub h w) (x : List Int) (a : Option Addr) (c : Nat) {gX : FH} (ownX : OwnSl 62 1 a x.length c (flL (α := W32) x) gX) (subX : Sub gX w) (disX : Disj h gX) (hp : pre_sortW x) :
  Calls Tryz.prog 42 #[.slice a x.length c, .func (.func 43) #[] #[]] w fun e w' => e = .returned (.tuple #[]) ∧ SH (Kp.ex w h gX) h w' [OwnSl 62 1 a x.length c (flL (α := W32) (sp_sortW x))] := by
 have own0 := ownX
 obtain ⟨h1, ⟨rfl, h2, rfl, rfl⟩ | ⟨b, cur, rfl, rfl, h4, h5, h6, h7⟩⟩ := ownX
 ·have e : x = [] := List.length_eq_zero_iff.1 h2
  subst e
  refine (AnyF.slices_SortFunc_none { YtimillpakjgnoaaGreat.laysSW with } none 0 _ w).mono fun e w' ⟨he, hw⟩ => ⟨he, ?_⟩
  subst hw
  rw [show sp_sortW [] = [] by simp [sp_sortW]]
  exact SH.startX hs subX disX own0
 ·have hb := subX b _ (FH.one_self _ _)
  have hlt := subX.lt (FH.one_self _ _)
  have hnb : ∀ i, h i ≠ none → b ≠ i := fun i hi q => by
   subst q
   rcases disX b with g | g
   ·exact hi g
   ·rw [FH.one_self] at g; cases g
  obtain ⟨ds, d1⟩ : ∃ ds : List UW, ds.map (·.1) = x := ⟨x.attach.map fun p => ⟨p.1, hp.2 p.1 p.2⟩, by rw [List.map_map]; exact List.attach_map_subtype_val x⟩
  have d2 : ds.map encU = flL (α := W32) x := by rw [flW, ← d1, List.map_map]; rfl
  have hdl : ds.length = x.length := by rw [← d1, List.length_map]
  have hcmp : CmpLays1 Tryz.prog 43 #[] encU cfU b 0 ds.toArray.size w := fun m os dk _ u v => by
   have hsW : Sub h (sortWorld encU w b 0 m dk os) := fun i o ho => by
    have hi := hs.lt ho
    show ((w.heap.modify b (onCells (putCells encU 0 dk))) ++ os)[i]? = _
    rw [Array.getElem?_append_left (by rw [Array.size_modify]; exact hi), Array.getElem?_modify, if_neg (hnb i (by rw [ho]; simp))]
    exact hs i o ho
   exact (c_wcmp hsW u.1 v.1 trivial).mono fun e w' ⟨he, hb⟩ => ⟨he, grow_of_below hb⟩
  have hH : Go.Sort.Holds encU w b 0 ds.toArray := holds_map encU (by
   rw [List.map_toArray, d2]
   exact ownHoldsG hb h1 h7)
  have hsz : ds.toArray.size = x.length := by simpa using hdl
  have key := Any.slices_SortFunc YtimillpakjgnoaaGreat.laysSW encU (fun p => rfl) cfU swoU 43 #[] b 0 c ds.toArray w Tryz.call43 hcmp hH hlt (by rw [hsz]; have := hp.1; omega)
  rw [hsz] at key
  refine key.mono fun e w' ⟨he, d', n, os, hp', hs', hw⟩ => ⟨he, ?_⟩
  subst hw
  obtain ⟨p1, _, p3⟩ := hp'
  have hx1 : d'.extract 0 x.length = d' := by rw [← hsz, ← p1]; exact Array.extract_size
  have hx2 : ds.toArray.extract 0 x.length = ds.toArray := by rw [← hsz]; exact Array.extract_size
  rw [hx1, hx2] at p3
  have hsort : sp_sortW x = d'.toList.map (·.1) := by
   refine wsorted_perm (fun y hy => hp.2 y ((sortW_perm x).mem_iff.1 hy)) (sortW_sorted x) ?_ ?_
   ·rw [List.pairwise_map, List.pairwise_iff_getElem]
    intro i j hi hj hij
    have hsz' : d'.size = x.length := by rw [p1, hsz]
    have hj' : j < d'.size := by simpa using hj
    have := hs' i j (Nat.zero_le _) hij (by omega)
    rw [ltU, getElem!_pos d' j hj', getElem!_pos d' i (by omega)] at this
    exact this
   ·refine (sortW_perm x).trans ?_
    have := (p3.map (fun p : UW => p.1)).symm
    rw [List.toList_toArray, d1] at this
    exact this
  have hrep : d'.toList.map encU = flL (α := W32) (sp_sortW x) := by rw [hsort, flW, List.map_map]; rfl
  have hlen : (d'.toList.map encU).length = x.length * 1 := by
   rw [List.length_map, Array.length_toList, p1, hsz, Nat.mul_one]
  have big := putG (q := n) (os := os) (ds := d'.toList.map encU) (m := x.length) (sz := 1) hs subX disX h5 h6 hlen h4
  unfold sortWorld
  rw [putRow_map]
  have e5 : d'.map encU = (d'.toList.map encU).toArray := by
   apply Array.toList_inj.1; simp
  rw [e5, ← hrep]
  exact big
end Go.Proofs.YtimillpakjgnoaaGreat.Pl

