/- Contingent links: fixed durations, choices, outcomes, places. Plain Lean. No condition. -/
import Derived.Test.YtkcamohhjaibaaaOk13
namespace Go.Proofs.Ytkcamohhjaibaaa.Pl
open Go Go.RowKit
/-- a valid network with contingent links -/
structure UV (u : Uncertain) : Prop where
  v : Valid u.network
  len : u.contingent.length ≤ 3
  code : ∀ l ∈ u.contingent, sp_linkCode l u.network.events = 0 ∧ 1 ≤ l.low ∧ l.dst ≠ 0
  dup : ∀ i j : Nat, i < j → j < u.contingent.length → (gt u.contingent i).dst ≠ (gt u.contingent j).dst
  src : ∀ l ∈ u.contingent, ∀ k ∈ u.contingent, k.dst ≠ l.src
theorem mem_gt {α : Type} [Inhabited α] {xs : List α} {x : α} (h : x ∈ xs) : ∃ i : Nat, i < xs.length ∧ gt xs (i : Int) = x := by
  obtain ⟨i, hi, e⟩ := List.mem_iff_getElem.1 h
  exact ⟨i, hi, by rw [gt_of ⟨by omega, by omega⟩]; simpa using e⟩
theorem gt_memN {α : Type} [Inhabited α] {xs : List α} {i : Nat} (h : i < xs.length) : gt xs (i : Int) ∈ xs := gt_mem ⟨by omega, by omega⟩
theorem uv_of {u : Uncertain} (h : sp_uvalidate u = ⟨0, 0⟩) : UV u := by
  have hl := uval_small h
  have h1 : sp_validate u.network = ⟨0, 0⟩ := Classical.byContradiction fun q => by
    rw [sp_uvalidate, if_neg q] at h; exact q h
  rw [uval_len h1 hl] at h
  have f1 : ffirst (contF1 u) u.contingent.length = ⟨0, 0⟩ := Classical.byContradiction fun q => by
    rw [if_neg q] at h; exact q h
  rw [if_pos f1] at h
  have z1 := ffirst_zero f1
  have z2 := ffirst_zero h
  have c1 : ∀ i, i < u.contingent.length → contCode u (gt u.contingent i) = 0 ∧ ((u.contingent.take i).any fun x => sp_uval1 x (gt u.contingent i)) = false := fun i hi => by
    have z := z1 i hi
    by_cases hc : contCode u (gt u.contingent i) = 0
    · refine ⟨hc, ?_⟩
      cases ha : (u.contingent.take i).any fun x => sp_uval1 x (gt u.contingent i)
      · rfl
      · rw [contF1_dup hc ha] at z; exact absurd (congrArg Fault.code z) (by simp)
    · rw [contF1_ne hc] at z; exact absurd (congrArg Fault.code z) hc
  refine ⟨valid_of h1, hl, fun l hm => ?_, fun i j hij hj => ?_, fun l hl k hk => ?_⟩
  · obtain ⟨i, hi, rfl⟩ := mem_gt hm
    have := (c1 i hi).1
    unfold contCode at this
    split at this
    · omega
    · rename_i q; exact ⟨this, by omega, by omega⟩
  · have := (c1 j hj).2
    rw [List.any_eq_false] at this
    have hm : gt u.contingent (i : Int) ∈ u.contingent.take j := by
      rw [List.mem_take_iff_getElem]
      refine ⟨i, by omega, ?_⟩
      rw [gt_of ⟨by omega, by omega⟩]
      simp
    have := this _ hm
    simpa [sp_uval1] using this
  · obtain ⟨i, hi, rfl⟩ := mem_gt hl
    have z := z2 i hi
    cases ha : u.contingent.any fun x => sp_uval2 x (gt u.contingent i)
    · rw [List.any_eq_false] at ha
      simpa [sp_uval2] using ha k hk
    · rw [contF2, if_pos ha] at z; exact absurd (congrArg Fault.code z) (by simp)
theorem UV.info {u : Uncertain} (h : UV u) {l : Link} (hl : l ∈ u.contingent) : (0 ≤ l.src ∧ l.src < u.network.events) ∧ (0 ≤ l.dst ∧ l.dst < u.network.events) ∧ (1 ≤ l.low ∧ l.low ≤ l.high ∧ l.high ≤ 1000) ∧ l.src ≠ l.dst ∧ l.dst ≠ 0 := by
  obtain ⟨a, b, c⟩ := h.code l hl
  obtain ⟨k1, k2, k3, k4, k5, k6⟩ := linkCode_zero a
  exact ⟨k1, k2, ⟨b, k6, k4.2⟩, k5, c⟩
theorem UV.choices {u : Uncertain} (h : UV u) : pre_choices u := ⟨h.len, fun l hl => by have := h.info hl; omega⟩
theorem ok_clone : ∀ (s_ : List Link), pre_clone s_ → F_clone s_ (fun r => r = sp_clone s_) := fun s hp => by
  unfold pre_clone at hp
  exact ⟨fun h => by rw [h]; rfl, ⟨by simp only [List.nil_append, maxLen]; omega, by simp only [List.nil_append]; omega⟩, by simp [sp_clone]⟩
theorem gt_zip {α β : Type} [Inhabited α] [Inhabited β] {xs : List α} {ys : List β} {k : Nat} (h1 : k < xs.length) (h2 : k < ys.length) : gt (xs.zip ys) (k : Int) = (gt xs k, gt ys k) := by
  rw [gt_of ⟨by omega, by rw [List.length_zip]; omega⟩, gt_of ⟨by omega, by omega⟩, gt_of ⟨by omega, by omega⟩]
  simp
theorem gt_zipWith {α β γ : Type} [Inhabited α] [Inhabited β] [Inhabited γ] {f : α → β → γ} {xs : List α} {ys : List β} {k : Nat} (h1 : k < xs.length) (h2 : k < ys.length) : gt (List.zipWith f xs ys) (k : Int) = f (gt xs k) (gt ys k) := by
  rw [gt_of ⟨by omega, by rw [List.length_zipWith]; omega⟩, gt_of ⟨by omega, by omega⟩, gt_of ⟨by omega, by omega⟩]
  simp
theorem takeN_gt {α : Type} [Inhabited α] {xs : List α} {k : Nat} (h : k < xs.length) : xs.take (k + 1) = xs.take k ++ [gt xs k] := by
  have := take_gt (xs := xs) (i := (k : Int)) ⟨by omega, by omega⟩
  simpa using this
/-- the loop that appends fixed links -/
theorem with_step {u : Uncertain} {d : List Int} {k : Nat} (h1 : k < u.contingent.length) (h2 : d.length = u.contingent.length) : (List.zipWith fixL u.contingent d).take (k + 1) = (List.zipWith fixL u.contingent d).take k ++ [⟨(gt u.contingent k).src, (gt u.contingent k).dst, gt d k, gt d k⟩] := by
  rw [takeN_gt (by rw [List.length_zipWith]; omega), gt_zipWith h1 (by omega)]
  rfl
theorem ok_with_ : ∀ (u : Uncertain) (durations : List Int), pre_with_ u durations → F_with_ u durations (fun r => r = sp_with_ u durations) := fun u d ⟨hl, hc, hd⟩ => by
  unfold F_with_
  simp only [forall_eq]
  refine ⟨show _ ≤ _ by omega, ?_⟩
  unfold F_with__J1
  refine ⟨fun t l => ∃ k : Nat, t = k ∧ k ≤ u.contingent.length ∧ l = u.network.links ++ (List.zipWith fixL u.contingent d).take k, fun t _ => (u.contingent.length - t).toNat, ⟨0, rfl, Nat.zero_le _, by simp [sp_clone]⟩, ?_⟩
  rintro _ l ⟨k, rfl, k1, rfl⟩
  unfold F_with__L1
  simp only [decide_eq_true_eq, decide_eq_false_iff_not]
  refine ⟨fun h => ?_, fun h => ?_⟩
  · have hk : k < u.contingent.length := by omega
    rw [w64 (by omega), List.append_assoc, ← with_step hk hd]
    have hlen : (u.network.links ++ (List.zipWith fixL u.contingent d).take (k + 1)).length ≤ 33 := by
      rw [List.length_append, List.length_take, List.length_zipWith]; omega
    exact ⟨⟨by omega, h⟩, ⟨by omega, by omega⟩, ⟨by simp only [maxLen]; omega, by omega⟩, ⟨k + 1, by omega, by omega, rfl⟩, show ((u.contingent.length : Int) - ((k : Int) + 1)).toNat < ((u.contingent.length : Int) - (k : Int)).toNat by omega⟩
  · have : k = u.contingent.length := by omega
    rw [sp_with_, List.take_of_length_le (by rw [List.length_zipWith]; omega)]
theorem ok_fixed : ∀ (u : Uncertain) (d : List Int), pre_fixed u d → F_fixed u d (fun r => r = sp_with_ u d) := fun u d ⟨hl, hc, hd⟩ => by
  unfold F_fixed
  refine ⟨⟨by simp only [List.nil_append, maxLen]; omega, by simp only [List.nil_append]; omega⟩, ?_⟩
  refine ⟨fun t l => ∃ k : Nat, t = k ∧ k ≤ u.contingent.length ∧ l = u.network.links ++ (List.zipWith fixL u.contingent d).take k, fun t _ => (u.contingent.length - t).toNat, ⟨0, rfl, Nat.zero_le _, by simp⟩, ?_⟩
  rintro _ l ⟨k, rfl, k1, rfl⟩
  unfold F_fixed_L1
  simp only [decide_eq_true_eq, decide_eq_false_iff_not]
  refine ⟨fun h => ?_, fun h => ?_⟩
  · have hk : k < u.contingent.length := by omega
    rw [w64 (by omega), List.append_assoc, ← with_step hk hd]
    have hlen : (u.network.links ++ (List.zipWith fixL u.contingent d).take (k + 1)).length ≤ 33 := by
      rw [List.length_append, List.length_take, List.length_zipWith]; omega
    exact ⟨⟨by omega, by omega⟩, ⟨by omega, h⟩, ⟨by simp only [maxLen]; omega, by omega⟩, ⟨k + 1, by omega, by omega, rfl⟩, show ((u.contingent.length : Int) - ((k : Int) + 1)).toNat < ((u.contingent.length : Int) - (k : Int)).toNat by omega⟩
  · have : k = u.contingent.length := by omega
    rw [sp_with_, List.take_of_length_le (by rw [List.length_zipWith]; omega)]
theorem check_zero {u : Uncertain} {d : List Int} (h : sp_check u d = ⟨0, 0⟩) : sp_uvalidate u = ⟨0, 0⟩ ∧ InBox u d := by
  have h1 : sp_uvalidate u = ⟨0, 0⟩ := Classical.byContradiction fun q => by rw [sp_check, if_neg q] at h; exact q h
  have h2 : d.length = u.contingent.length := Classical.byContradiction fun q => by
    rw [sp_check, if_pos h1, if_neg q] at h; exact absurd (congrArg Fault.code h) (by simp)
  rw [check_len h1 h2] at h
  refine ⟨h1, h2, fun i hi => ?_⟩
  have z := ffirst_zero h i (by omega)
  unfold durF at z
  split at z
  · exact absurd (congrArg Fault.code z) (by simp)
  · omega
theorem ok_choices : ∀ (u : Uncertain), pre_choices u → F_choices u (fun r => r = sp_choices u) := fun u ⟨hl, hc⟩ => by
  unfold F_choices
  refine ⟨fun n t => ∃ k : Nat, t = k ∧ k ≤ u.contingent.length ∧ 1 ≤ n ∧ n ≤ 1000 ∧ sp_choices u = prodC (u.contingent.drop k) n, fun _ t => (u.contingent.length - t).toNat, ⟨0, rfl, Nat.zero_le _, by omega, by omega, by simp [sp_choices]⟩, ?_⟩
  rintro n _ ⟨k, rfl, k1, n1, n2, hs⟩
  unfold F_choices_L1
  simp only [forall_eq, decide_eq_true_eq, decide_eq_false_iff_not]
  refine ⟨fun h => ?_, fun h => ?_⟩
  · have hb : inb u.contingent (k : Int) := ⟨by omega, h⟩
    have hm := hc _ (gt_mem hb)
    have hd := drop_gt hb
    have e1 : ((k : Int) + 1).toNat = k + 1 := by omega
    rw [Int.toNat_natCast, e1] at hd
    rw [hd, prodC] at hs
    obtain ⟨w, hw⟩ : ∃ w, (gt u.contingent (k : Int)).high - (gt u.contingent (k : Int)).low + 1 = w := ⟨_, rfl⟩
    have w1 : 1 ≤ w ∧ w ≤ 2001 := by omega
    have p1 : 1 * 1 ≤ n * w := Int.mul_le_mul n1 w1.1 (by omega) (by omega)
    have p2 : n * w ≤ 1000 * 2001 := Int.mul_le_mul n2 w1.2 (by omega) (by omega)
    have e2 : IntKind.i64.wrap (IntKind.i64.wrap ((gt u.contingent (k : Int)).high - (gt u.contingent (k : Int)).low) + 1) = w := by
      rw [w64 (n := (gt u.contingent (k : Int)).high - _) (by omega), hw]; exact w64 (by omega)
    rw [hw] at hs
    rw [e2, w64 (n := n * w) (by omega), w64 (n := (k : Int) + 1) (by omega)]
    refine ⟨hb, fun q => by rw [hs, if_pos q], fun q => ?_⟩
    rw [if_neg q] at hs
    exact ⟨⟨k + 1, by omega, by omega, by omega, by omega, hs⟩, show ((u.contingent.length : Int) - ((k : Int) + 1)).toNat < ((u.contingent.length : Int) - (k : Int)).toNat by omega⟩
  · rw [List.drop_of_length_le (by omega)] at hs
    exact hs.symm
theorem ok_choice : ∀ (u : Uncertain) (k : Int), pre_choice u k → F_choice u k (fun r => r = sp_choice u k) := fun u k0 ⟨⟨hl, hc⟩, hk0, hk1⟩ => by
  unfold F_choice
  refine ⟨fun q t d => ∃ k : Nat, t = k ∧ k ≤ u.contingent.length ∧ 0 ≤ q ∧ q ≤ 1000 ∧ d.length = k ∧ sp_choice u k0 = d ++ choiceL (u.contingent.drop k) q, fun _ t _ => (u.contingent.length - t).toNat, ⟨0, rfl, Nat.zero_le _, hk0, hk1, rfl, by simp [sp_choice]⟩, ?_⟩
  rintro q _ d ⟨k, rfl, k1, q1, q2, hd, hs⟩
  unfold F_choice_L1
  simp only [forall_eq, decide_eq_true_eq, decide_eq_false_iff_not]
  refine ⟨fun h => ?_, fun h => ?_⟩
  · have hb : inb u.contingent (k : Int) := ⟨by omega, h⟩
    have hm := hc _ (gt_mem hb)
    have hdr := drop_gt hb
    have e1 : ((k : Int) + 1).toNat = k + 1 := by omega
    rw [Int.toNat_natCast, e1] at hdr
    rw [hdr, choiceL] at hs
    obtain ⟨w, hw⟩ : ∃ w, (gt u.contingent (k : Int)).high - (gt u.contingent (k : Int)).low + 1 = w := ⟨_, rfl⟩
    have w1 : 1 ≤ w ∧ w ≤ 2001 := by omega
    have e2 : IntKind.i64.wrap (IntKind.i64.wrap ((gt u.contingent (k : Int)).high - (gt u.contingent (k : Int)).low) + 1) = w := by
      rw [w64 (n := (gt u.contingent (k : Int)).high - _) (by omega), hw]; exact w64 (by omega)
    have m1 : Int.tmod q w = q % w := Int.tmod_eq_emod_of_nonneg q1
    have m2 : Int.tdiv q w = q / w := Int.tdiv_eq_ediv_of_nonneg q1
    have m3 : 0 ≤ q % w := Int.emod_nonneg _ (by omega)
    have m4 : q % w < w := Int.emod_lt_of_pos _ (by omega)
    have m5 : 0 ≤ q / w := Int.ediv_nonneg q1 (by omega)
    have m6 : q / w ≤ q := Int.ediv_le_self _ q1
    rw [hw] at hs
    rw [e2, m1, m2, w64 (n := q / w) (by omega), w64 (n := (k : Int) + 1) (by omega), w64 (n := (gt u.contingent (k : Int)).low + q % w) (by omega)]
    refine ⟨hb, by omega, ⟨by simp only [List.length_append, List.length_singleton, maxLen]; omega, by simp only [List.length_append, List.length_singleton]; omega⟩, ⟨k + 1, by omega, by omega, m5, by omega, by simp [hd], ?_⟩, show ((u.contingent.length : Int) - ((k : Int) + 1)).toNat < ((u.contingent.length : Int) - (k : Int)).toNat by omega⟩
    rw [hs]; simp
  · rw [List.drop_of_length_le (by omega)] at hs
    rw [hs]; simp [choiceL]
/-- places -/
theorem gt_inj {u : Uncertain} (uv : UV u) {i j : Nat} (hi : i < u.contingent.length) (hj : j < u.contingent.length) (e : (gt u.contingent i).dst = (gt u.contingent j).dst) : i = j := by
  rcases Nat.lt_trichotomy i j with q | q | q
  · exact absurd e (uv.dup i j q hj)
  · exact q
  · exact absurd e.symm (uv.dup j i q hi)
theorem place_hit {u : Uncertain} (uv : UV u) {l : Link} (hl : l ∈ u.contingent) : place u l.dst = ⟨l.src, l.low, l.high⟩ := by
  unfold place
  cases hf : u.contingent.find? fun k => decide (k.dst = l.dst) with
  | none =>
    rw [List.find?_eq_none] at hf
    exact absurd (by simp) (hf l hl)
  | some k =>
    have h1 := List.mem_of_find?_eq_some hf
    have h2 := List.find?_some hf
    simp only [decide_eq_true_eq] at h2
    obtain ⟨i, hi, rfl⟩ := mem_gt hl
    obtain ⟨j, hj, rfl⟩ := mem_gt h1
    have := gt_inj uv hj hi h2
    subst this
    rfl
theorem place_none {u : Uncertain} {e : Int} (h : ∀ l ∈ u.contingent, l.dst ≠ e) : place u e = ⟨e, 0, 0⟩ := by
  unfold place
  have : u.contingent.find? (fun k => decide (k.dst = e)) = none := by
    rw [List.find?_eq_none]
    intro k hk
    simpa using h k hk
  rw [this]
/-- an event that nature does not choose -/
def IsBase (u : Uncertain) (e : Int) : Prop := ∀ l ∈ u.contingent, l.dst ≠ e
theorem place_cases {u : Uncertain} (uv : UV u) (e : Int) : (IsBase u e ∧ place u e = ⟨e, 0, 0⟩) ∨ ∃ l ∈ u.contingent, l.dst = e ∧ place u e = ⟨l.src, l.low, l.high⟩ := by
  by_cases h : IsBase u e
  · exact .inl ⟨h, place_none h⟩
  · obtain ⟨l, hl⟩ := Classical.not_forall.1 h
    obtain ⟨hm, hd⟩ := Classical.not_imp.1 hl
    have hd' : l.dst = e := Classical.not_not.1 hd
    exact .inr ⟨l, hm, hd', by rw [← hd']; exact place_hit uv hm⟩
theorem base_isBase {u : Uncertain} (uv : UV u) (e : Int) : IsBase u (place u e).base := by
  rcases place_cases uv e with ⟨h, p⟩ | ⟨l, hl, _, p⟩
  · rw [p]; exact h
  · rw [p]; exact fun k hk => uv.src l hl k hk
theorem base_eq {u : Uncertain} (uv : UV u) (e : Int) : (place u e).base = e ↔ IsBase u e := by
  rcases place_cases uv e with ⟨h, p⟩ | ⟨l, hl, he, p⟩
  · rw [p]; exact ⟨fun _ => h, fun _ => rfl⟩
  · rw [p]
    have := (uv.info hl).2.2.2.1
    exact ⟨fun q => absurd (q.trans he.symm) this, fun q => absurd he (q l hl)⟩
theorem place_range {u : Uncertain} (uv : UV u) {e : Int} (h : 0 ≤ e ∧ e < u.network.events) : (0 ≤ (place u e).base ∧ (place u e).base < u.network.events) ∧ 0 ≤ (place u e).low ∧ (place u e).low ≤ (place u e).high ∧ (place u e).high ≤ 1000 := by
  rcases place_cases uv e with ⟨_, p⟩ | ⟨l, hl, _, p⟩
  · rw [p]; exact ⟨h, Int.le_refl _, Int.le_refl _, show (0 : Int) ≤ 1000 by decide⟩
  · rw [p]
    have := uv.info hl
    exact ⟨this.1, show 0 ≤ l.low by omega, show l.low ≤ l.high by omega, show l.high ≤ 1000 by omega⟩
/-- outcomes: the first durations have been put in their places -/
def outK (u : Uncertain) (times d : List Int) (k : Nat) : List Int := ((u.contingent.zip d).take k).foldl putL times
theorem outK_succ {u : Uncertain} {times d : List Int} {k : Nat} (h1 : k < u.contingent.length) (h2 : d.length = u.contingent.length) : outK u times d (k + 1) = putL (outK u times d k) (gt u.contingent k, gt d k) := by
  unfold outK
  rw [takeN_gt (by rw [List.length_zip]; omega), gt_zip h1 (by omega), List.foldl_append]
  rfl
theorem gt_setI {α : Type} [Inhabited α] {xs : List α} {i j : Int} {x : α} (hi : inb xs i) (hj : 0 ≤ j) : gt (xs.set i.toNat x) j = if j = i then x else gt xs j := by
  by_cases e : j = i
  · subst e; rw [if_pos rfl, gt_set hi]
  · rw [if_neg e]
    have h1 := hi.1
    unfold gt
    rw [List.getD_eq_getElem?_getD, List.getD_eq_getElem?_getD, List.getElem?_set_ne (by omega)]
theorem outK_len {u : Uncertain} {times d : List Int} (h2 : d.length = u.contingent.length) : ∀ k : Nat, k ≤ u.contingent.length → (outK u times d k).length = times.length
  | 0, _ => by simp [outK]
  | k + 1, h => by
    rw [outK_succ (by omega) h2, putL, List.length_set, outK_len h2 k (by omega)]
theorem outK_gt {u : Uncertain} (uv : UV u) {times d : List Int} (ht : (times.length : Int) = u.network.events) (h2 : d.length = u.contingent.length) : ∀ k : Nat, k ≤ u.contingent.length → (∀ e, 0 ≤ e → IsBase u e → gt (outK u times d k) e = gt times e) ∧ ∀ i : Nat, i < k → gt (outK u times d k) (gt u.contingent i).dst = gt times (gt u.contingent i).src + gt d i
  | 0, _ => ⟨fun e _ _ => by simp [outK], fun i h => absurd h (Nat.not_lt_zero _)⟩
  | k + 1, h => by
    obtain ⟨g1, g2⟩ := outK_gt uv ht h2 k (by omega)
    have hk : k < u.contingent.length := by omega
    have hm := gt_memN hk
    have inf_ := uv.info hm
    have hb : inb (outK u times d k) (gt u.contingent k).dst := ⟨inf_.2.1.1, by rw [outK_len h2 k (by omega)]; omega⟩
    have hsrc : gt (outK u times d k) (gt u.contingent k).src = gt times (gt u.contingent k).src := g1 _ inf_.1.1 fun l hl => uv.src _ hm l hl
    rw [outK_succ hk h2]
    unfold putL
    refine ⟨fun e he hbase => ?_, fun i hi => ?_⟩
    · show gt ((outK u times d k).set (gt u.contingent k).dst.toNat _) e = _
      rw [gt_setI hb he, if_neg (fun q => hbase _ hm q.symm)]
      exact g1 e he hbase
    · show gt ((outK u times d k).set (gt u.contingent k).dst.toNat (gt (outK u times d k) (gt u.contingent k).src + gt d k)) _ = _
      rw [gt_setI hb (uv.info (gt_memN (by omega))).2.1.1]
      by_cases e : i = k
      · subst e; rw [if_pos rfl, hsrc]
      · rw [if_neg (fun q => e (gt_inj uv (by omega) hk q))]
        exact g2 i (by omega)
theorem outK_all {u : Uncertain} {times d : List Int} (h2 : d.length = u.contingent.length) : outK u times d u.contingent.length = sp_outcome u times d := by
  unfold outK sp_outcome
  rw [List.take_of_length_le (by rw [List.length_zip]; omega)]
theorem outcome_gt {u : Uncertain} (uv : UV u) {times d : List Int} (ht : (times.length : Int) = u.network.events) (h2 : d.length = u.contingent.length) : (sp_outcome u times d).length = times.length ∧ (∀ e, 0 ≤ e → IsBase u e → gt (sp_outcome u times d) e = gt times e) ∧ ∀ i : Nat, i < u.contingent.length → gt (sp_outcome u times d) (gt u.contingent i).dst = gt times (gt u.contingent i).src + gt d i := by
  have := outK_gt uv ht h2 u.contingent.length (Nat.le_refl _)
  have hl := outK_len (times := times) h2 u.contingent.length (Nat.le_refl _)
  rw [outK_all h2] at this hl
  exact ⟨hl, this⟩
/-- the table of places -/
def plK (u : Uncertain) (k : Nat) : List Place := (u.contingent.take k).foldl putP ((List.range u.network.events.toNat).map fun (i : Nat) => ⟨(i : Int), 0, 0⟩)
theorem plK_succ {u : Uncertain} {k : Nat} (h1 : k < u.contingent.length) : plK u (k + 1) = putP (plK u k) (gt u.contingent k) := by
  unfold plK
  rw [takeN_gt h1, List.foldl_append]
  rfl
theorem plK_len {u : Uncertain} : ∀ k : Nat, k ≤ u.contingent.length → (plK u k).length = u.network.events.toNat
  | 0, _ => by simp [plK]
  | k + 1, h => by rw [plK_succ (by omega), putP, List.length_set, plK_len k (by omega)]
theorem plK_gt {u : Uncertain} (uv : UV u) : ∀ k : Nat, k ≤ u.contingent.length → (∀ e, 0 ≤ e → e < u.network.events → IsBase u e → gt (plK u k) e = ⟨e, 0, 0⟩) ∧ ∀ i : Nat, i < k → gt (plK u k) (gt u.contingent i).dst = ⟨(gt u.contingent i).src, (gt u.contingent i).low, (gt u.contingent i).high⟩
  | 0, _ => by
    refine ⟨fun e h1 h2 _ => ?_, fun i h => absurd h (Nat.not_lt_zero _)⟩
    have hb : inb (plK u 0) e := ⟨h1, by rw [plK_len 0 (by omega)]; omega⟩
    rw [gt_of hb]
    simp only [plK, List.take_zero, List.foldl_nil, List.getElem_map, List.getElem_range]
    congr 1; omega
  | k + 1, h => by
    obtain ⟨g1, g2⟩ := plK_gt uv k (by omega)
    have hk : k < u.contingent.length := by omega
    have hm := gt_memN hk
    have inf_ := uv.info hm
    have hb : inb (plK u k) (gt u.contingent k).dst := ⟨inf_.2.1.1, by rw [plK_len k (by omega)]; omega⟩
    rw [plK_succ hk]
    unfold putP
    refine ⟨fun e he he2 hbase => ?_, fun i hi => ?_⟩
    · rw [gt_setI hb he, if_neg (fun q => hbase _ hm q.symm)]
      exact g1 e he he2 hbase
    · rw [gt_setI hb (uv.info (gt_memN (by omega))).2.1.1]
      by_cases e : i = k
      · subst e; rw [if_pos rfl]
      · rw [if_neg (fun q => e (gt_inj uv (by omega) hk q))]
        exact g2 i (by omega)
theorem plK_all {u : Uncertain} : plK u u.contingent.length = sp_places u := by
  unfold plK sp_places
  rw [List.take_of_length_le (Nat.le_refl _)]
theorem places_gt {u : Uncertain} (uv : UV u) : (sp_places u).length = u.network.events.toNat ∧ ∀ e, 0 ≤ e → e < u.network.events → gt (sp_places u) e = place u e := by
  have h := plK_gt uv u.contingent.length (Nat.le_refl _)
  have hl := plK_len (u := u) u.contingent.length (Nat.le_refl _)
  rw [plK_all] at h hl
  refine ⟨hl, fun e h1 h2 => ?_⟩
  rcases place_cases uv e with ⟨hb, p⟩ | ⟨l, hm, he, p⟩
  · rw [p]; exact h.1 e h1 h2 hb
  · rw [p]
    obtain ⟨i, hi, rfl⟩ := mem_gt hm
    rw [← he]; exact h.2 i hi
theorem ok_places : ∀ (u : Uncertain), pre_places u → F_places u (fun r => r = sp_places u) := fun u hv => by
  have uv := uv_of hv
  have hev := uv.v.ev
  have hlen := uv.len
  unfold F_places
  refine ⟨fun t out => ∃ k : Nat, t = k ∧ (k : Int) ≤ u.network.events ∧ out = (List.range k).map fun (i : Nat) => ⟨(i : Int), 0, 0⟩, fun t _ => (u.network.events - t).toNat, ⟨0, rfl, by omega, rfl⟩, ?_⟩
  rintro _ _ ⟨k, rfl, k1, rfl⟩
  unfold F_places_L1
  simp only [decide_eq_true_eq, decide_eq_false_iff_not]
  refine ⟨fun h => ?_, fun h => ?_⟩
  · rw [w64 (by omega)]
    refine ⟨⟨by simp only [List.length_append, List.length_map, List.length_range, List.length_singleton, maxLen]; omega, by simp only [List.length_append, List.length_map, List.length_range, List.length_singleton]; omega⟩, ⟨k + 1, by omega, by omega, ?_⟩, by omega⟩
    rw [List.range_succ, List.map_append]; rfl
  · have hk : k = u.network.events.toNat := by omega
    subst hk
    refine ⟨fun t out => ∃ k : Nat, t = k ∧ k ≤ u.contingent.length ∧ out = plK u k, fun t _ => (u.contingent.length - t).toNat, ⟨0, rfl, Nat.zero_le _, by simp [plK]⟩, ?_⟩
    rintro _ _ ⟨m, rfl, m1, rfl⟩
    unfold F_places_L2
    simp only [decide_eq_true_eq, decide_eq_false_iff_not, forall_eq]
    refine ⟨fun g => ?_, fun g => ?_⟩
    · have hm : m < u.contingent.length := by omega
      have inf_ := uv.info (gt_memN hm)
      rw [w64 (by omega)]
      exact ⟨⟨by omega, g⟩, ⟨inf_.2.1.1, by rw [plK_len m (by omega)]; omega⟩, ⟨m + 1, by omega, by omega, by rw [plK_succ hm]; rfl⟩, show ((u.contingent.length : Int) - ((m : Int) + 1)).toNat < ((u.contingent.length : Int) - (m : Int)).toNat by omega⟩
    · have : m = u.contingent.length := by omega
      subst this
      exact plK_all
theorem ok_strong_ : ∀ (u : Uncertain), pre_strong_ u → F_strong_ u (fun r => r = sp_strong_ u) := fun u hv => by
  have uv := uv_of hv
  have hev := uv.v.ev
  have hll := uv.v.len
  obtain ⟨pl, pg⟩ := places_gt uv
  unfold F_strong_
  refine ⟨hv, ?_⟩
  intro r2 hr2
  subst hr2
  refine ⟨fun t l => ∃ k : Nat, t = k ∧ k ≤ u.network.links.length ∧ l.length ≤ k ∧ strongL u u.network.links [] = strongL u (u.network.links.drop k) l, fun t _ => (u.network.links.length - t).toNat, ⟨0, rfl, Nat.zero_le _, by simp, by simp⟩, ?_⟩
  rintro _ l ⟨k, rfl, k1, k2, hs⟩
  unfold F_strong__L1
  simp only [decide_eq_true_eq, decide_eq_false_iff_not]
  refine ⟨fun h => ?_, fun h => ?_⟩
  · have hb : inb u.network.links (k : Int) := ⟨by omega, h⟩
    have hm := gt_mem hb
    have s1 := uv.v.okay.src _ hm
    have s2 := uv.v.okay.dst _ hm
    have s3 := uv.v.okay.low _ hm
    have s4 := uv.v.okay.high _ hm
    have hd := drop_gt hb
    have e1 : ((k : Int) + 1).toNat = k + 1 := by omega
    rw [Int.toNat_natCast, e1] at hd
    rw [hd, strongL] at hs
    have r1 := place_range uv s1
    have r2 := place_range uv s2
    have next : ∀ l', l'.length ≤ k + 1 → strongL u u.network.links [] = strongL u (u.network.links.drop (k + 1)) l' → F_strong__J1 l k (fun t l => ∃ k : Nat, t = k ∧ k ≤ u.network.links.length ∧ l.length ≤ k ∧ strongL u u.network.links [] = strongL u (u.network.links.drop k) l) (fun t _ => (u.network.links.length - t).toNat) l' := fun l' hl' he => by
      unfold F_strong__J1
      rw [w64 (by omega)]
      exact ⟨⟨k + 1, by omega, by omega, hl', he⟩, show ((u.network.links.length : Int) - ((k : Int) + 1)).toNat < ((u.network.links.length : Int) - (k : Int)).toNat by omega⟩
    refine ⟨hb, ⟨s1.1, by rw [pl]; omega⟩, ⟨s2.1, by rw [pl]; omega⟩, ?_⟩
    unfold F_strong__J2
    rw [pg _ s1.1 s1.2, pg _ s2.1 s2.2]
    intro x hx x2 hx2 x3 hx3 x4 hx4 x5 hx5
    rw [w64 (by omega)] at hx hx3
    rw [hx, w64 (by omega)] at hx2
    rw [hx3, w64 (by omega)] at hx4
    replace hx2 : x2 = lowOf u (gt u.network.links k) := hx2
    replace hx4 : x4 = highOf u (gt u.network.links k) := hx4
    subst hx2; subst hx4; subst hx5
    simp only [beq_iff_eq, beq_eq_false_iff_ne, ne_eq, decide_eq_true_eq, decide_eq_false_iff_not]
    refine ⟨fun hbse => ?_, fun hbse => ⟨fun q => ?_, fun q => ?_⟩⟩
    · rw [if_pos hbse] at hs
      have bad : (0 < lowOf u (gt u.network.links k) ∨ highOf u (gt u.network.links k) < 0) → (⟨u.network.events, l⟩, false) = sp_strong_ u := fun q => by
        rw [if_pos q] at hs; unfold sp_strong_; rw [hs]
      unfold F_strong__J3
      refine ⟨fun q => ⟨fun _ => bad (.inl q), fun e => by cases e⟩, fun q => ⟨fun q2 => bad (.inr (by simpa using q2)), fun q2 => next l (by omega) ?_⟩⟩
      rw [if_neg (by simp at q2; omega)] at hs
      exact hs
    · rw [if_neg hbse, if_pos q] at hs
      unfold sp_strong_; rw [hs]
    · rw [if_neg hbse, if_neg q] at hs
      exact ⟨⟨by simp only [List.length_append, List.length_singleton, maxLen]; omega, by simp only [List.length_append, List.length_singleton]; omega⟩, next _ (by simp only [List.length_append, List.length_singleton]; omega) hs⟩
  · rw [List.drop_of_length_le (by omega)] at hs
    unfold sp_strong_; rw [hs]; rfl
end Go.Proofs.Ytkcamohhjaibaaa.Pl
