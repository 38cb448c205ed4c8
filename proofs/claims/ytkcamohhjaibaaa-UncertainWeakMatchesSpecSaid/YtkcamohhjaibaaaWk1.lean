/- When every choice of durations leaves a network that may be met: the extreme choices tell. Plain Lean. No condition. -/
import Derived.Test.YtkcamohhjaibaaaOk17
namespace Go.Proofs.Ytkcamohhjaibaaa.Pl
open Go Go.RowKit
/-- a direct bound is one of those given -/
theorem dirL_at (ls : List Link) (i j : Int) : dirL ls i j = (if i = j ∨ j = 0 then 0 else 1000000000) ∨ ∃ l ∈ ls, (l.src = i ∧ l.dst = j ∧ dirL ls i j = l.high) ∨ (l.src = j ∧ l.dst = i ∧ dirL ls i j = -l.low) := by
  have key : ∀ (ls : List Link) (d : Int), ls.foldl (dirStep i j) d = d ∨ ∃ l ∈ ls, (l.src = i ∧ l.dst = j ∧ ls.foldl (dirStep i j) d = l.high) ∨ (l.src = j ∧ l.dst = i ∧ ls.foldl (dirStep i j) d = -l.low) := by
    intro ls
    induction ls with
    | nil => intro d; exact .inl rfl
    | cons k r ih =>
      intro d
      rw [List.foldl_cons]
      rcases ih (dirStep i j d k) with h | ⟨l, hl, h⟩
      · rw [h]
        have st : dirStep i j d k = d ∨ (k.src = i ∧ k.dst = j ∧ dirStep i j d k = k.high) ∨ (k.src = j ∧ k.dst = i ∧ dirStep i j d k = -k.low) := by
          unfold dirStep; simp only; split <;> split <;> omega
        rcases st with h | h
        · exact .inl h
        · exact .inr ⟨k, List.mem_cons_self, h⟩
      · exact .inr ⟨l, List.mem_cons_of_mem _ hl, h⟩
  exact key ls _
theorem with_mem {u : Uncertain} {d : List Int} (hd : d.length = u.contingent.length) {l : Link} : l ∈ (sp_with_ u d).links ↔ l ∈ u.network.links ∨ ∃ k : Nat, k < u.contingent.length ∧ l = fixL (gt u.contingent k) (gt d k) := by
  unfold sp_with_
  rw [List.mem_append]
  refine ⟨fun h => h.imp id fun h => ?_, fun h => h.imp id ?_⟩
  · obtain ⟨k, hk, rfl⟩ := mem_gt h
    rw [List.length_zipWith] at hk
    exact ⟨k, by omega, gt_zipWith (by omega) (by omega)⟩
  · rintro ⟨k, hk, rfl⟩
    rw [← gt_zipWith (f := fixL) hk (by omega)]
    exact gt_memN (by rw [List.length_zipWith]; omega)
theorem with_okay {u : Uncertain} (uv : UV u) {d : List Int} (hd : InBox u d) : Okay (sp_with_ u d) := by
  have ol := uv.v.okay
  have hl := uv.v.len
  have hc := uv.len
  have key : ∀ l ∈ (sp_with_ u d).links, (0 ≤ l.src ∧ l.src < u.network.events) ∧ (0 ≤ l.dst ∧ l.dst < u.network.events) ∧ l.src ≠ l.dst ∧ (-3000 ≤ l.low ∧ l.low ≤ 3000) ∧ -3000 ≤ l.high ∧ l.high ≤ 3000 := fun l h => by
    rcases (with_mem hd.1).1 h with h | ⟨k, hk, rfl⟩
    · exact ⟨ol.src l h, ol.dst l h, ol.ne l h, ol.low l h, ol.high l h⟩
    · have i := uv.info (gt_memN hk)
      have b := hd.2 k hk
      show (0 ≤ (gt u.contingent k).src ∧ (gt u.contingent k).src < u.network.events) ∧ (0 ≤ (gt u.contingent k).dst ∧ (gt u.contingent k).dst < u.network.events) ∧ (gt u.contingent k).src ≠ (gt u.contingent k).dst ∧ (-3000 ≤ gt d k ∧ gt d k ≤ 3000) ∧ -3000 ≤ gt d k ∧ gt d k ≤ 3000
      exact ⟨i.1, i.2.1, i.2.2.2.1, by omega, by omega⟩
  refine ⟨uv.v.ev, ?_, fun l h => (key l h).1, fun l h => (key l h).2.1, fun l h => (key l h).2.2.1, fun l h => (key l h).2.2.2.1, fun l h => (key l h).2.2.2.2⟩
  show (u.network.links ++ List.zipWith fixL u.contingent d).length ≤ 100
  rw [List.length_append, List.length_zipWith]; omega
theorem tight_false {n : Network} (ok : Okay n) : (sp_tighten n).2 = false ↔ Neg n.events.toNat (Wd n) := by
  rcases tighten_rel ok with ⟨D, t, e⟩ | ⟨h, e⟩
  · rw [e]; exact ⟨fun h => (by cases h), fun h => absurd h t.notNeg⟩
  · rw [e]; exact ⟨fun _ => h, fun _ => rfl⟩
theorem gt_setN {xs : List Int} {i j : Nat} {x : Int} (hi : i < xs.length) : gt (xs.set i x) (j : Int) = if j = i then x else gt xs (j : Int) := by
  have := gt_setI (xs := xs) (i := (i : Int)) (j := (j : Int)) (x := x) ⟨by omega, by omega⟩ (by omega)
  rw [Int.toNat_natCast] at this
  rw [this]
  by_cases c : j = i
  · rw [if_pos c, if_pos (by omega)]
  · rw [if_neg c, if_neg (by omega)]
/-- a direct bound is as a line in each duration, and no other duration has it above that line -/
theorem edge {u : Uncertain} {d : List Int} (hd : d.length = u.contingent.length) {i : Nat} (hi : i < u.contingent.length) (a b : Int) :
    ∃ c s : Int, dirL (sp_with_ u d).links a b = c + s * gt d i ∧ ∀ t' : Int, dirL (sp_with_ u (d.set i t')).links a b ≤ c + s * t' ∧
      (dirL (sp_with_ u d).links a b < inf → -1000 ≤ t' → t' ≤ 1000 → c + s * t' < inf) := by
  have hd' : ∀ t', (d.set i t').length = u.contingent.length := fun t' => by rw [List.length_set]; exact hd
  have flat : (∀ t', dirL (sp_with_ u (d.set i t')).links a b ≤ dirL (sp_with_ u d).links a b) → ∃ c s : Int, dirL (sp_with_ u d).links a b = c + s * gt d i ∧ ∀ t' : Int, dirL (sp_with_ u (d.set i t')).links a b ≤ c + s * t' ∧
      (dirL (sp_with_ u d).links a b < inf → -1000 ≤ t' → t' ≤ 1000 → c + s * t' < inf) := fun h =>
    ⟨dirL (sp_with_ u d).links a b, 0, by rw [Int.zero_mul, Int.add_zero], fun t' => ⟨by rw [Int.zero_mul, Int.add_zero]; exact h t', fun g _ _ => by rw [Int.zero_mul, Int.add_zero]; exact g⟩⟩
  rcases dirL_at (sp_with_ u d).links a b with h | ⟨l, hl, h⟩
  · exact flat fun t' => by rw [h]; exact foldl_dir_le _ _ _ _
  · have same : (∀ t', l ∈ (sp_with_ u (d.set i t')).links) → ∀ t', dirL (sp_with_ u (d.set i t')).links a b ≤ dirL (sp_with_ u d).links a b := fun hm t' => by
      have q := dirL_link (hm t')
      rcases h with ⟨rfl, rfl, h⟩ | ⟨rfl, rfl, h⟩
      · rw [h]; exact q.1
      · rw [h]; exact q.2
    rcases (with_mem hd).1 hl with hm | ⟨k, hk, rfl⟩
    · exact flat (same fun t' => (with_mem (hd' t')).2 (.inl hm))
    · by_cases c : k = i
      · subst c
        have hm : ∀ t', fixL (gt u.contingent k) t' ∈ (sp_with_ u (d.set k t')).links := fun t' => (with_mem (hd' t')).2 (.inr ⟨k, hk, by rw [gt_setN (by omega), if_pos rfl]⟩)
        rcases h with ⟨h1, h2, h⟩ | ⟨h1, h2, h⟩
        · refine ⟨0, 1, ?_, fun t' => ⟨?_, fun _ _ g => ?_⟩⟩
          · rw [h]; show gt d k = _; omega
          · have q := (dirL_link (hm t')).1
            rw [← h1, ← h2]
            have e : (fixL (gt u.contingent k) t').high = t' := rfl
            have e1 : (fixL (gt u.contingent k) t').src = (fixL (gt u.contingent k) (gt d k)).src := rfl
            have e2 : (fixL (gt u.contingent k) t').dst = (fixL (gt u.contingent k) (gt d k)).dst := rfl
            rw [e, e1, e2] at q
            omega
          · simp only [inf]; omega
        · refine ⟨0, -1, ?_, fun t' => ⟨?_, fun _ g _ => ?_⟩⟩
          · rw [h]; show -gt d k = _; omega
          · have q := (dirL_link (hm t')).2
            rw [← h1, ← h2]
            have e : (fixL (gt u.contingent k) t').low = t' := rfl
            have e1 : (fixL (gt u.contingent k) t').src = (fixL (gt u.contingent k) (gt d k)).src := rfl
            have e2 : (fixL (gt u.contingent k) t').dst = (fixL (gt u.contingent k) (gt d k)).dst := rfl
            rw [e, e1, e2] at q
            omega
          · simp only [inf]; omega
      · exact flat (same fun t' => (with_mem (hd' t')).2 (.inr ⟨k, hk, by rw [gt_setN (by omega), if_neg c]⟩))
/-- a walk is as a line in each duration -/
theorem way_line {u : Uncertain} {d : List Int} (hd : d.length = u.contingent.length) {i : Nat} (hi : i < u.contingent.length) {N : Nat} : ∀ (r : List Nat) (a j : Nat), Way N (Wd (sp_with_ u d)) a j r →
    ∃ c s : Int, wt (Wd (sp_with_ u d)) (a :: r) = c + s * gt d i ∧ ∀ t' : Int, -1000 ≤ t' → t' ≤ 1000 → Way N (Wd (sp_with_ u (d.set i t'))) a j r ∧ wt (Wd (sp_with_ u (d.set i t'))) (a :: r) ≤ c + s * t'
  | [], a, j, w => ⟨0, 0, by simp [wt], fun t' _ _ => by
      have e := w.unnil
      subst e
      exact ⟨.nil w.start, by simp [wt]⟩⟩
  | b :: r, a, j, w => by
    obtain ⟨h1, h2, h3⟩ := w.uncons
    obtain ⟨c, s, e, g⟩ := way_line hd hi r b j h3
    obtain ⟨c', s', e', g'⟩ := edge hd hi (a : Int) (b : Int)
    refine ⟨c' + c, s' + s, ?_, fun t' l1 l2 => ?_⟩
    · have : wt (Wd (sp_with_ u d)) (a :: b :: r) = dirL (sp_with_ u d).links a b + wt (Wd (sp_with_ u d)) (b :: r) := rfl
      rw [this, e, e', Int.add_mul]; omega
    · obtain ⟨x1, x2⟩ := g t' l1 l2
      obtain ⟨y1, y2⟩ := g' t'
      have y3 := y2 h2 l1 l2
      have : wt (Wd (sp_with_ u (d.set i t'))) (a :: b :: r) = dirL (sp_with_ u (d.set i t')).links a b + wt (Wd (sp_with_ u (d.set i t'))) (b :: r) := rfl
      refine ⟨.cons h1 (show dirL (sp_with_ u (d.set i t')).links a b < inf by omega) x1, ?_⟩
      rw [this, Int.add_mul]; omega
/-- one duration may be made as short or as long as it gets -/
theorem neg_move {u : Uncertain} (uv : UV u) {d : List Int} (hd : InBox u d) {i : Nat} (hi : i < u.contingent.length) {N : Nat} (h : Neg N (Wd (sp_with_ u d))) :
    ∃ v : Int, (v = (gt u.contingent i).low ∨ v = (gt u.contingent i).high) ∧ Neg N (Wd (sp_with_ u (d.set i v))) := by
  obtain ⟨a, r, w, hw⟩ := h
  obtain ⟨c, s, e, g⟩ := way_line hd.1 hi r a a w
  have inf_ := uv.info (gt_memN hi)
  have b := hd.2 i hi
  by_cases hs : 0 ≤ s
  · obtain ⟨x1, x2⟩ := g (gt u.contingent i).low (by omega) (by omega)
    have := Int.mul_le_mul_of_nonneg_left b.1 hs
    exact ⟨_, .inl rfl, a, r, x1, by omega⟩
  · obtain ⟨x1, x2⟩ := g (gt u.contingent i).high (by omega) (by omega)
    have := Int.mul_le_mul_of_nonneg_left b.2 (show 0 ≤ -s by omega)
    rw [Int.neg_mul, Int.neg_mul] at this
    exact ⟨_, .inr rfl, a, r, x1, by omega⟩
theorem box_set {u : Uncertain} {d : List Int} (hd : InBox u d) {i : Nat} (hi : i < u.contingent.length) {v : Int} (hv : (gt u.contingent i).low ≤ v ∧ v ≤ (gt u.contingent i).high) : InBox u (d.set i v) := by
  refine ⟨by rw [List.length_set]; exact hd.1, fun j hj => ?_⟩
  rw [gt_setN (by rw [hd.1]; exact hi)]
  split
  · rename_i e; subst e; exact hv
  · exact hd.2 j hj
theorem neg_ext {u : Uncertain} (uv : UV u) {d : List Int} (hd : InBox u d) {N : Nat} (h : Neg N (Wd (sp_with_ u d))) : ∀ n, n ≤ u.contingent.length →
    ∃ d', InBox u d' ∧ (∀ j : Nat, j < n → gt d' j = (gt u.contingent j).low ∨ gt d' j = (gt u.contingent j).high) ∧ Neg N (Wd (sp_with_ u d'))
  | 0, _ => ⟨d, hd, fun _ h => absurd h (by omega), h⟩
  | n + 1, hn => by
    obtain ⟨d', b, q, g⟩ := neg_ext uv hd h n (by omega)
    obtain ⟨v, hv, g'⟩ := neg_move uv b (i := n) (by omega) g
    have inf_ := uv.info (gt_memN (xs := u.contingent) (i := n) (by omega))
    refine ⟨d'.set n v, box_set b (by omega) (by rcases hv with rfl | rfl <;> omega), fun j hj => ?_, g'⟩
    rw [gt_setN (by rw [b.1]; omega)]
    split
    · rename_i e; subst e; exact hv
    · exact q j (by omega)
/-- the extreme choices, numbered -/
def extK (u : Uncertain) (k n : Nat) : List Int := (List.range n).map fun (j : Nat) => if k / 2 ^ j % 2 = 0 then (gt u.contingent j).low else (gt u.contingent j).high
theorem extK_succ (u : Uncertain) (k n : Nat) : extK u k (n + 1) = extK u k n ++ [if k / 2 ^ n % 2 = 0 then (gt u.contingent n).low else (gt u.contingent n).high] := by
  unfold extK; rw [List.range_succ, List.map_append]; rfl
theorem extK_len (u : Uncertain) (k n : Nat) : (extK u k n).length = n := by unfold extK; simp
theorem extK_gt (u : Uncertain) (k : Nat) {n j : Nat} (h : j < n) : gt (extK u k n) j = if k / 2 ^ j % 2 = 0 then (gt u.contingent j).low else (gt u.contingent j).high := by
  rw [gt_of ⟨by omega, by rw [extK_len]; omega⟩]
  unfold extK
  simp
theorem extK_box {u : Uncertain} (uv : UV u) (k : Nat) : InBox u (extK u k u.contingent.length) := by
  refine ⟨extK_len _ _ _, fun j hj => ?_⟩
  rw [extK_gt u k hj]
  have := uv.info (gt_memN (xs := u.contingent) (i := j) hj)
  split <;> omega
theorem bits3 (b0 b1 b2 : Nat) (h0 : b0 ≤ 1) (h1 : b1 ≤ 1) (h2 : b2 ≤ 1) : (b0 + 2 * b1 + 4 * b2) / 2 ^ 0 % 2 = b0 ∧ (b0 + 2 * b1 + 4 * b2) / 2 ^ 1 % 2 = b1 ∧ (b0 + 2 * b1 + 4 * b2) / 2 ^ 2 % 2 = b2 := by
  refine ⟨?_, ?_, ?_⟩
  · rw [show (2 : Nat) ^ 0 = 1 from rfl]; omega
  · rw [show (2 : Nat) ^ 1 = 2 from rfl]; omega
  · rw [show (2 : Nat) ^ 2 = 4 from rfl]; omega
theorem extK_surj {u : Uncertain} (hu : u.contingent.length ≤ 3) {d : List Int} (hd : d.length = u.contingent.length) (h : ∀ j : Nat, j < u.contingent.length → gt d j = (gt u.contingent j).low ∨ gt d j = (gt u.contingent j).high) :
    ∃ k, k < 2 ^ u.contingent.length ∧ extK u k u.contingent.length = d := by
  let b : Nat → Nat := fun j => if j < u.contingent.length ∧ gt d j ≠ (gt u.contingent j).low then 1 else 0
  have hb : ∀ j, b j ≤ 1 := fun j => by show (if _ then _ else _) ≤ 1; split <;> omega
  have hz : ∀ j, u.contingent.length ≤ j → b j = 0 := fun j hj => if_neg (by omega)
  obtain ⟨k0, k1, k2⟩ := bits3 (b 0) (b 1) (b 2) (hb 0) (hb 1) (hb 2)
  refine ⟨b 0 + 2 * b 1 + 4 * b 2, ?_, ?_⟩
  · have hb0 := hb 0
    have hb1 := hb 1
    have hb2 := hb 2
    have z0 := hz 0
    have z1 := hz 1
    have z2 := hz 2
    have : u.contingent.length = 0 ∨ u.contingent.length = 1 ∨ u.contingent.length = 2 ∨ u.contingent.length = 3 := by omega
    rcases this with e | e | e | e <;> rw [e]
    · rw [show (2 : Nat) ^ 0 = 1 from rfl]; omega
    · rw [show (2 : Nat) ^ 1 = 2 from rfl]; omega
    · rw [show (2 : Nat) ^ 2 = 4 from rfl]; omega
    · rw [show (2 : Nat) ^ 3 = 8 from rfl]; omega
  · refine ext_gt (by rw [extK_len, hd]) fun j hj => ?_
    rw [extK_len] at hj
    rw [extK_gt _ _ hj]
    have hk : (b 0 + 2 * b 1 + 4 * b 2) / 2 ^ j % 2 = b j := by
      have : j = 0 ∨ j = 1 ∨ j = 2 := by omega
      rcases this with rfl | rfl | rfl <;> assumption
    rw [hk]
    by_cases c : gt d j = (gt u.contingent j).low
    · have e : b j = 0 := if_neg (fun q => q.2 c)
      rw [e, if_pos rfl, c]
    · have e : b j = 1 := if_pos ⟨hj, c⟩
      rw [e, if_neg (by decide)]
      rcases h j hj with q | q
      · exact absurd q c
      · exact q.symm
/-- the extreme choices tell of all -/
theorem weak_iff {u : Uncertain} (uv : UV u) (h : ∀ k, k < 2 ^ u.contingent.length → (sp_tighten (sp_with_ u (extK u k u.contingent.length))).2 = true) : ∀ d, InBox u d → (sp_tighten (sp_with_ u d)).2 = true := fun d hd => by
  refine Classical.byContradiction fun hn => ?_
  have hf : (sp_tighten (sp_with_ u d)).2 = false := by simpa using hn
  have ng := (tight_false (with_okay uv hd)).1 hf
  obtain ⟨d', b, q, g⟩ := neg_ext uv hd ng u.contingent.length (Nat.le_refl _)
  obtain ⟨k, hk, e⟩ := extK_surj uv.len b.1 q
  have h1 := h k hk
  rw [e] at h1
  have h2 := (tight_false (with_okay uv b)).2 g
  rw [h1] at h2; cases h2
/-- what suits all durations leaves none of them without times -/
theorem strong_weak {u : Uncertain} (hv : sp_uvalidate u = ⟨0, 0⟩) (hs : (sp_strong u).2.1 = true) : ∀ d, InBox u d → (sp_tighten (sp_with_ u d)).2 = true := fun d hd => by
  have uv := uv_of hv
  have hev := uv.v.ev
  obtain ⟨T, st, _, hl, hb, _⟩ := strong_facts hv hs
  obtain ⟨l1, g1, g2⟩ := outcome_gt uv hl hd.1
  have ev : ∀ e, 0 ≤ e → e < u.network.events → ∃ x, (place u e).low ≤ x ∧ x ≤ (place u e).high ∧ gt (sp_outcome u (sp_strong u).1 d) e = T (place u e).base + x := fun e h0 h1 => by
    obtain ⟨x, x1, x2, x3⟩ := outcome_delta uv hl hd ⟨h0, h1⟩
    have p := place_range uv ⟨h0, h1⟩
    exact ⟨x, x1, x2, by rw [x3, (hb _ p.1.1 p.1.2 (base_isBase uv _)).1]⟩
  have z : gt (sp_outcome u (sp_strong u).1 d) 0 = 0 := by
    have b0 : IsBase u 0 := fun l hl => (uv.info hl).2.2.2.2
    rw [g1 0 (Int.le_refl _) b0, (hb 0 (Int.le_refl _) (by omega) b0).1]; exact st.zero
  have lk : ∀ l ∈ (sp_with_ u d).links, l.low ≤ gt (sp_outcome u (sp_strong u).1 d) l.dst - gt (sp_outcome u (sp_strong u).1 d) l.src ∧ gt (sp_outcome u (sp_strong u).1 d) l.dst - gt (sp_outcome u (sp_strong u).1 d) l.src ≤ l.high := fun l hl' => by
    rcases (with_mem hd.1).1 hl' with hm | ⟨i, hi, rfl⟩
    · have hsr := uv.v.okay.src l hm
      have hds := uv.v.okay.dst l hm
      obtain ⟨x, x1, x2, x3⟩ := ev l.src hsr.1 hsr.2
      obtain ⟨y, y1, y2, y3⟩ := ev l.dst hds.1 hds.2
      have := st.lk l hm
      unfold lowOf highOf at this
      rw [x3, y3]; omega
    · have hm' := gt_memN (xs := u.contingent) (i := i) (by omega)
      have a1 := g2 i (by omega)
      have a2 := g1 (gt u.contingent i).src (uv.info hm').1.1 (fun l hl => uv.src _ hm' l hl)
      show gt d i ≤ gt (sp_outcome u (sp_strong u).1 d) (gt u.contingent i).dst - gt (sp_outcome u (sp_strong u).1 d) (gt u.contingent i).src ∧ gt (sp_outcome u (sp_strong u).1 d) (gt u.contingent i).dst - gt (sp_outcome u (sp_strong u).1 d) (gt u.contingent i).src ≤ gt d i
      rw [a1, a2]; omega
  have fs : Feasible (sp_with_ u d).events.toNat (Wd (sp_with_ u d)) (fun a => gt (sp_outcome u (sp_strong u).1 d) (a : Int)) := fun i j hi hj hw => by
    have hN : (sp_with_ u d).events = u.network.events := rfl
    rw [hN] at hi
    obtain ⟨x, x1, x2, x3⟩ := ev (i : Int) (by omega) (by omega)
    have p := place_range uv (e := (i : Int)) ⟨by omega, by omega⟩
    have := hb _ p.1.1 p.1.2 (base_isBase uv _)
    exact dirL_feas (T := fun e => gt (sp_outcome u (sp_strong u).1 d) e) z (show 0 ≤ gt (sp_outcome u (sp_strong u).1 d) (i : Int) by rw [x3]; omega) lk hw
  cases h : (sp_tighten (sp_with_ u d)).2
  · exact absurd ((tight_false (with_okay uv hd)).1 h) fs.notNeg
  · rfl
end Go.Proofs.Ytkcamohhjaibaaa.Pl
