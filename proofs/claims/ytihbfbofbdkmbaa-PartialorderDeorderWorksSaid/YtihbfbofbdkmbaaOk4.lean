/- The closure of an order: what is computed is what comes before what. Plain Lean. No condition. -/
import Derived.Test.YtihbfbofbdkmbaaOm
namespace Go.Proofs.Ytihbfbofbdkmbaa.Pl
open Go Go.RowKit
/-- through steps below k -/
def Wk (before : List (Int × Int)) : Nat → Int → Int → Prop
  | 0, a, b => (a, b) ∈ before
  | k + 1, a, b => Wk before k a b ∨ (Wk before k a k ∧ Wk before k k b)
section
variable {before : List (Int × Int)} {n : Nat}
theorem Wk.reach : ∀ {k : Nat} {a b : Int}, Wk before k a b → Reach before a b
  | 0, _, _, h => .one h
  | _ + 1, _, _, .inl h => h.reach
  | _ + 1, _, _, .inr h => h.1.reach.trans h.2.reach
theorem Wk.mono {a b : Int} {j : Nat} : ∀ {k : Nat}, j ≤ k → Wk before j a b → Wk before k a b
  | 0, hj, h => by rwa [show j = 0 by omega] at h
  | k + 1, hj, h => by
    rcases Nat.lt_or_ge k j with q | q
    · rwa [show j = k + 1 by omega] at h
    · exact .inl (h.mono q)
theorem Wk.via : ∀ {k m : Nat} {a b : Int}, m < k → Wk before k a m → Wk before k m b → Wk before k a b
  | 0, _, _, _, h, _, _ => by omega
  | k + 1, m, a, b, hm, h1, h2 => by
    rcases Nat.lt_or_ge m k with q | q
    · rcases h1 with h1 | ⟨h1, h3⟩
      · rcases h2 with h2 | ⟨h2, h4⟩
        · exact .inl (Wk.via q h1 h2)
        · exact .inr ⟨Wk.via q h1 h2, h4⟩
      · rcases h2 with h2 | ⟨h2, h4⟩
        · exact .inr ⟨h1, Wk.via q h3 h2⟩
        · exact .inr ⟨h1, h4⟩
    · have e : m = k := by omega
      subst e
      refine .inr ⟨?_, ?_⟩
      · rcases h1 with h1 | h1
        · exact h1
        · exact h1.1
      · rcases h2 with h2 | h2
        · exact h2
        · exact h2.2
theorem wk_of (hr : Rng n before) {a b : Int} (h : Reach before a b) : Wk before n a b := by
  induction h with
  | one h => exact Wk.mono (Nat.zero_le _) (show Wk before 0 _ _ from h)
  | @more b c h1 h2 ih =>
    have hb := (h1.rng hr).2
    have e : b = ((b.toNat : Nat) : Int) := by omega
    rw [e] at ih h2
    exact Wk.via (by omega) ih (Wk.mono (Nat.zero_le _) (show Wk before 0 _ _ from h2))
end
/-- a square of truth values -/
structure Sh (n : Nat) (t : List (List Bool)) : Prop where
  len : t.length = n
  row : ∀ a : Nat, a < n → (gt t (a : Int)).length = n
theorem Sh.i1 {n : Nat} {t : List (List Bool)} (s : Sh n t) {i : Int} (h : 0 ≤ i ∧ i < n) : inb t i := ⟨h.1, by rw [s.len]; exact h.2⟩
theorem Sh.i2 {n : Nat} {t : List (List Bool)} (s : Sh n t) {i j : Int} (h : 0 ≤ i ∧ i < n) (g : 0 ≤ j ∧ j < n) : inb (gt t i) j := ⟨g.1, by
  have := s.row i.toNat (by omega)
  rw [Int.toNat_of_nonneg h.1] at this
  rw [this]; exact g.2⟩
theorem Sh.put {n : Nat} {t : List (List Bool)} (s : Sh n t) {i j : Int} (h : 0 ≤ i ∧ i < n) (v : Bool) : Sh n (t.set i.toNat ((gt t i).set j.toNat v)) := ⟨by rw [List.length_set, s.len], fun a ha => by
  rw [gt_setI (s.i1 h) (by omega)]
  split
  · have := s.row i.toNat (by omega)
    rw [Int.toNat_of_nonneg h.1] at this
    rw [List.length_set, this]
  · exact s.row a ha⟩
theorem Sh.get {n : Nat} {t : List (List Bool)} (s : Sh n t) {i j a b : Int} (h : 0 ≤ i ∧ i < n) (g : 0 ≤ j ∧ j < n) (v : Bool) (ha : 0 ≤ a) (hb : 0 ≤ b) : gt (gt (t.set i.toNat ((gt t i).set j.toNat v)) a) b = if a = i ∧ b = j then v else gt (gt t a) b := by
  rw [gt_setI (s.i1 h) ha]
  by_cases e : a = i
  · subst e
    rw [if_pos rfl, gt_setI (s.i2 h g) hb]
    by_cases e2 : b = j
    · rw [if_pos e2, if_pos ⟨rfl, e2⟩]
    · rw [if_neg e2, if_neg fun q => e2 q.2]
  · rw [if_neg e, if_neg fun q => e q.1]
theorem Sh.ext {n : Nat} {t : List (List Bool)} (s : Sh n t) {f : Nat → Nat → Bool} (h : ∀ a b : Nat, a < n → b < n → gt (gt t (a : Int)) (b : Int) = f a b) : t = matB n f := by
  refine List.ext_getElem (by rw [s.len, matB, List.length_map, List.length_range]) fun a h1 h2 => ?_
  have ha : a < n := by rw [← s.len]; exact h1
  have e : t[a] = gt t (a : Int) := by rw [gt_of ⟨by omega, by omega⟩]; rfl
  have hl : t[a].length = n := by rw [e]; exact s.row a ha
  refine List.ext_getElem ?_ fun b h3 h4 => ?_
  · rw [hl]
    simp [matB]
  · have hb : b < n := by rw [← hl]; exact h3
    have := h a b ha hb
    rw [← e, gt_of ⟨by omega, by omega⟩] at this
    simp only [Int.toNat_natCast] at this
    rw [this]
    simp [matB]
/-- the state of the third loop: pairs before (i, j) know the ways through k -/
structure Wst (before : List (Int × Int)) (n k i j : Nat) (t : List (List Bool)) : Prop where
  sh : Sh n t
  so : ∀ a b : Nat, a < n → b < n → gt (gt t (a : Int)) (b : Int) = true → Reach before a b
  co : ∀ a b : Nat, a < n → b < n → Wk before k a b → gt (gt t (a : Int)) (b : Int) = true
  up : ∀ a b : Nat, a < n → b < n → (a < i ∨ a = i ∧ b < j) → Wk before (k + 1) a b → gt (gt t (a : Int)) (b : Int) = true
section
variable {before : List (Int × Int)} {n k i j : Nat} {t : List (List Bool)}
theorem Wst.step (s : Wst before n k i j t) (hk : k < n) (hi : i < n) (hj : j < n) {v : Bool} (hv : v = true ↔ gt (gt t (i : Int)) (j : Int) = true ∨ gt (gt t (i : Int)) (k : Int) = true ∧ gt (gt t (k : Int)) (j : Int) = true) : Wst before n k i (j + 1) (t.set (i : Int).toNat ((gt t (i : Int)).set (j : Int).toNat v)) := by
  have hg : ∀ a b : Nat, gt (gt (t.set (i : Int).toNat ((gt t (i : Int)).set (j : Int).toNat v)) (a : Int)) (b : Int) = if (a : Int) = i ∧ (b : Int) = j then v else gt (gt t (a : Int)) (b : Int) := fun a b => s.sh.get ⟨by omega, by omega⟩ ⟨by omega, by omega⟩ v (by omega) (by omega)
  refine ⟨s.sh.put ⟨by omega, by omega⟩ v, fun a b ha hb h => ?_, fun a b ha hb h => ?_, fun a b ha hb hab h => ?_⟩
  · rw [hg] at h
    split at h
    · rename_i e
      rw [e.1, e.2]
      rcases hv.1 h with q | q
      · exact s.so i j hi hj q
      · exact (s.so i k hi hk q.1).trans (s.so k j hk hj q.2)
    · exact s.so a b ha hb h
  · rw [hg]
    split
    · rename_i e
      have e1 : a = i := by omega
      have e2 : b = j := by omega
      subst e1; subst e2
      exact hv.2 (.inl (s.co a b ha hb h))
    · exact s.co a b ha hb h
  · rw [hg]
    split
    · rename_i e
      have e1 : a = i := by omega
      have e2 : b = j := by omega
      subst e1; subst e2
      rcases h with h | h
      · exact hv.2 (.inl (s.co a b ha hb h))
      · exact hv.2 (.inr ⟨s.co a k ha hk h.1, s.co k b hk hb h.2⟩)
    · rename_i e
      exact s.up a b ha hb (by omega) h
theorem Wst.row (s : Wst before n k i n t) : Wst before n k (i + 1) 0 t := ⟨s.sh, s.so, s.co, fun a b ha hb h => s.up a b ha hb (by omega)⟩
theorem Wst.next (s : Wst before n k n 0 t) : Wst before n (k + 1) 0 0 t := ⟨s.sh, s.so, fun a b ha hb h => s.up a b ha hb (.inl ha) h, fun a b _ _ h => by omega⟩
end
open Classical in
theorem reachB_iff {before : List (Int × Int)} {a b : Nat} : reachB before a b = true ↔ Reach before a b := by
  unfold reachB
  exact decide_eq_true_iff
theorem ok_closure : ∀ (n_ : Int) (before : List (Int × Int)), pre_closure n_ before → F_closure n_ before (fun r => r = sp_closure n_ before) := fun m before ok => by
  obtain ⟨n, rfl⟩ := Int.eq_ofNat_of_zero_le ok.lo
  have hn : n ≤ 7 := by have := ok.hi; omega
  have hr : Rng n before := ok.rngN
  unfold F_closure
  have mk : ∀ b : Nat, b ≤ 24 → mkok (n : Int) b := fun b hb => ⟨by omega, by
    have : n * b ≤ 7 * 24 := Nat.mul_le_mul hn hb
    simp only [Int.toNat_natCast]; omega, by simp only [Int.toNat_natCast, maxLen]; omega⟩
  refine ⟨mk 24 (by omega), fun x t => ∃ k : Nat, x = k ∧ k ≤ n ∧ t.length = n ∧ ∀ a : Nat, a < k → gt t (a : Int) = List.replicate n false, fun x _ => (n - x).toNat, ⟨0, rfl, Nat.zero_le _, by simp, fun a h => by omega⟩, ?_⟩
  rintro _ t ⟨k, rfl, k1, k2, k3⟩
  unfold F_closure_L1
  simp only [decide_eq_true_eq, decide_eq_false_iff_not, forall_eq, Int.toNat_natCast]
  refine ⟨fun h => ⟨mk 1 (by omega), ⟨by omega, by omega⟩, ?_⟩, fun h => ?_⟩
  · rw [w64 (by omega)]
    refine ⟨⟨k + 1, by omega, by omega, by rw [List.length_set, k2], fun a ha => ?_⟩, by omega⟩
    have := gt_setI (xs := t) (i := (k : Int)) (j := (a : Int)) (x := List.replicate n false) ⟨by omega, by omega⟩ (by omega)
    rw [Int.toNat_natCast] at this
    rw [this]
    split
    · rfl
    · exact k3 a (by omega)
  have s0 : Sh n t := ⟨k2, fun a ha => by rw [k3 a (by omega), List.length_replicate]⟩
  have z0 : ∀ a b : Nat, a < n → b < n → gt (gt t (a : Int)) (b : Int) = false := fun a b ha hb => by
    rw [k3 a (by omega), gt_of ⟨by omega, by rw [List.length_replicate]; omega⟩, List.getElem_replicate]
  have hlen := ok.len
  refine ⟨fun x t => ∃ k : Nat, x = k ∧ k ≤ before.length ∧ Sh n t ∧ ∀ a b : Nat, a < n → b < n → (gt (gt t (a : Int)) (b : Int) = true ↔ ((a : Int), (b : Int)) ∈ before.take k), fun x _ => (before.length - x).toNat, ⟨0, rfl, Nat.zero_le _, s0, fun a b ha hb => by simp [z0 a b ha hb]⟩, ?_⟩
  clear s0 z0 k1 k2 k3 h
  rintro _ t1 ⟨k, rfl, k1, k2, k3⟩
  unfold F_closure_L2
  simp only [decide_eq_true_eq, decide_eq_false_iff_not, forall_eq]
  refine ⟨fun h => ?_, fun h => ?_⟩
  · have hp := hr _ (gt_memN (xs := before) (i := k) (by omega))
    refine ⟨⟨by omega, h⟩, k2.i1 hp.1, k2.i2 hp.1 hp.2, ?_⟩
    rw [w64 (by omega)]
    refine ⟨⟨k + 1, by omega, by omega, k2.put hp.1 true, fun a b ha hb => ?_⟩, by omega⟩
    rw [k2.get hp.1 hp.2 true (by omega) (by omega), takeN_gt (by omega), List.mem_append, List.mem_singleton]
    generalize gt before (k : Int) = p at hp ⊢
    obtain ⟨x, y⟩ := p
    by_cases e : (a : Int) = x ∧ (b : Int) = y
    · rw [if_pos e]; simp [e.1, e.2]
    · rw [if_neg e, k3 a b ha hb]
      have : ((a : Int), (b : Int)) ≠ (x, y) := fun q => e (by simpa using q)
      simp [this]
  have e1 : before.take k = before := List.take_of_length_le (by omega)
  rw [e1] at k3
  refine ⟨fun x t => ∃ k : Nat, x = k ∧ k ≤ n ∧ Wst before n k 0 0 t, fun x _ => (n - x).toNat, ⟨0, rfl, Nat.zero_le _, k2, fun a b ha hb h => .one ((k3 a b ha hb).1 h), fun a b ha hb h => (k3 a b ha hb).2 h, fun a b ha hb h => by omega⟩, ?_⟩
  clear k1 k2 k3 h e1
  rintro _ t2 ⟨k, rfl, k1, k2⟩
  unfold F_closure_L3
  simp only [decide_eq_true_eq, decide_eq_false_iff_not]
  refine ⟨fun h => ?_, fun h => ?_⟩
  · refine ⟨fun x t => ∃ i : Nat, x = i ∧ i ≤ n ∧ Wst before n k i 0 t, fun x _ => (n - x).toNat, ⟨0, rfl, Nat.zero_le _, k2⟩, ?_⟩
    rintro _ t3 ⟨i, rfl, i1, i2⟩
    unfold F_closure_L4
    simp only [decide_eq_true_eq, decide_eq_false_iff_not]
    refine ⟨fun h2 => ?_, fun h2 => ?_⟩
    · refine ⟨fun x t => ∃ j : Nat, x = j ∧ j ≤ n ∧ Wst before n k i j t, fun x _ => (n - x).toNat, ⟨0, rfl, Nat.zero_le _, i2⟩, ?_⟩
      rintro _ t4 ⟨j, rfl, j1, j2⟩
      unfold F_closure_L5 F_closure_J1
      simp only [decide_eq_true_eq, decide_eq_false_iff_not, forall_eq]
      have sh := j2.sh
      refine ⟨fun h3 => ?_, fun h3 => ?_⟩
      · have hk : (0 : Int) ≤ k ∧ (k : Int) < n := ⟨by omega, by omega⟩
        have hi : (0 : Int) ≤ i ∧ (i : Int) < n := ⟨by omega, by omega⟩
        have hj : (0 : Int) ≤ j ∧ (j : Int) < n := ⟨by omega, by omega⟩
        have fin : ∀ v : Bool, (v = true ↔ gt (gt t4 (i : Int)) (j : Int) = true ∨ gt (gt t4 (i : Int)) (k : Int) = true ∧ gt (gt t4 (k : Int)) (j : Int) = true) → (∃ j' : Nat, IntKind.i64.wrap ((j : Int) + 1) = j' ∧ j' ≤ n ∧ Wst before n k i j' (t4.set (i : Int).toNat ((gt t4 (i : Int)).set (j : Int).toNat v))) ∧ ((n : Int) - IntKind.i64.wrap ((j : Int) + 1)).toNat < ((n : Int) - j).toNat := fun v hv => by
          rw [w64 (by omega)]
          exact ⟨⟨j + 1, by omega, by omega, j2.step (by omega) (by omega) (by omega) hv⟩, by omega⟩
        refine ⟨sh.i1 hi, sh.i2 hi hj, fun q => fin _ ?_, fun q => ⟨sh.i2 hi hk, fun q2 => ⟨sh.i1 hk, sh.i2 hk hj, fin _ ?_⟩, fun q2 => fin _ ?_⟩⟩
        · simp [q]
        · simp [q, q2]
        · simp [q, q2]
      · have e : j = n := by omega
        subst e
        rw [w64 (by omega)]
        exact ⟨⟨i + 1, by omega, by omega, j2.row⟩, by omega⟩
    · have e : i = n := by omega
      subst e
      rw [w64 (by omega)]
      exact ⟨⟨k + 1, by omega, by omega, i2.next⟩, by omega⟩
  · have e : k = n := by omega
    subst e
    have sh := k2.sh
    refine ⟨fun x => ∃ i : Nat, x = i ∧ i ≤ k ∧ ∀ a : Nat, a < i → gt (gt t2 (a : Int)) (a : Int) = false, fun x => (k - x).toNat, ⟨0, rfl, Nat.zero_le _, fun a h => by omega⟩, ?_⟩
    rintro _ ⟨i, rfl, i1, i2⟩
    unfold F_closure_L6
    simp only [decide_eq_true_eq, decide_eq_false_iff_not]
    refine ⟨fun h2 => ⟨sh.i1 ⟨by omega, by omega⟩, sh.i2 ⟨by omega, by omega⟩ ⟨by omega, by omega⟩, fun q => ?_, fun q => ?_⟩, fun h2 => ?_⟩
    · have := (orders_nil ok).2 ⟨_, k2.so i i (by omega) (by omega) q⟩
      rw [sp_closure, if_pos this]
    · rw [w64 (by omega)]
      refine ⟨⟨i + 1, by omega, by omega, fun a ha => ?_⟩, by omega⟩
      rcases Nat.lt_or_ge a i with g | g
      · exact i2 a g
      · rw [show a = i by omega]; exact q
    · have val : ∀ a b : Nat, a < k → b < k → gt (gt t2 (a : Int)) (b : Int) = reachB before a b := fun a b ha hb => by
        rw [Bool.eq_iff_iff, reachB_iff]
        exact ⟨k2.so a b ha hb, fun q => k2.co a b ha hb (wk_of hr q)⟩
      have ac : Acyc before := fun a ha => by
        have hb := (ha.rng hr).1
        have e : a = ((a.toNat : Nat) : Int) := by omega
        have h3 := i2 a.toNat (by omega)
        rw [val _ _ (by omega) (by omega), reachB_iff.2 (e ▸ ha)] at h3
        exact absurd h3 (by decide)
      rw [sp_closure, if_neg ((acyc_iff ok).2 ac), Int.toNat_natCast, ← sh.ext val]
end Go.Proofs.Ytihbfbofbdkmbaa.Pl
