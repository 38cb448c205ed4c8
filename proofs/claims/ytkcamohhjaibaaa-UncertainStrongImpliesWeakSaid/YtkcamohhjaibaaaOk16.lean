/- The reference's times for all durations: raised step by step they reach the earliest ones. Plain Lean. No condition. -/
import Derived.Test.YtkcamohhjaibaaaOk15
namespace Go.Proofs.Ytkcamohhjaibaaa.Pl
open Go Go.RowKit
/-! ### all choices are counted -/
def BoxL : List Link → List Int → Prop
  | [], [] => True
  | l :: r, t :: d => (l.low ≤ t ∧ t ≤ l.high) ∧ BoxL r d
  | _, _ => False
theorem gt_cons_succ {α : Type} [Inhabited α] (x : α) (r : List α) (i : Nat) : gt (x :: r) ((i + 1 : Nat) : Int) = gt r (i : Int) := by simp [gt]
theorem gt_cons_zero {α : Type} [Inhabited α] (x : α) (r : List α) : gt (x :: r) ((0 : Nat) : Int) = x := by simp [gt]
theorem boxL_iff : ∀ {ls : List Link} {d : List Int}, BoxL ls d ↔ d.length = ls.length ∧ ∀ i : Nat, i < ls.length → (gt ls i).low ≤ gt d i ∧ gt d i ≤ (gt ls i).high
  | [], [] => by simp [BoxL]
  | [], _ :: _ => by simp [BoxL]
  | _ :: _, [] => by simp [BoxL]
  | l :: r, t :: d => by
    have ih := boxL_iff (ls := r) (d := d)
    constructor
    · rintro ⟨h1, h2⟩
      obtain ⟨g1, g2⟩ := ih.1 h2
      refine ⟨by simp [g1], fun i hi => ?_⟩
      cases i with
      | zero => rw [gt_cons_zero, gt_cons_zero]; exact h1
      | succ i => rw [gt_cons_succ, gt_cons_succ]; exact g2 i (by simpa using hi)
    · rintro ⟨h1, h2⟩
      have h0 := h2 0 (by simp)
      rw [gt_cons_zero, gt_cons_zero] at h0
      refine ⟨h0, ih.2 ⟨by simpa using h1, fun i hi => ?_⟩⟩
      have := h2 (i + 1) (by simpa using hi)
      rwa [gt_cons_succ, gt_cons_succ] at this
def widths : List Link → Int
  | [] => 1
  | l :: r => (l.high - l.low + 1) * widths r
theorem widths_pos : ∀ {ls : List Link}, (∀ l ∈ ls, l.low ≤ l.high) → 1 ≤ widths ls
  | [], _ => Int.le_refl _
  | l :: r, h => by
    have h1 := h l List.mem_cons_self
    have h2 := widths_pos (ls := r) fun k hk => h k (List.mem_cons_of_mem _ hk)
    have : 1 * 1 ≤ (l.high - l.low + 1) * widths r := Int.mul_le_mul (by omega) h2 (by omega) (by omega)
    simpa [widths] using this
theorem prodC_true : ∀ {ls : List Link} {n : Int}, 1 ≤ n → (∀ l ∈ ls, l.low ≤ l.high) → prodC ls n < 1000 → prodC ls n = n * widths ls
  | [], n, _, _, _ => by simp [prodC, widths]
  | l :: r, n, hn, h, hlt => by
    unfold prodC at hlt ⊢
    have h1 := h l List.mem_cons_self
    have : 1 * 1 ≤ n * (l.high - l.low + 1) := Int.mul_le_mul hn (by omega) (by omega) (by omega)
    by_cases c : 1000 < n * (l.high - l.low + 1)
    · rw [if_pos c] at hlt; omega
    · rw [if_neg c] at hlt ⊢
      rw [prodC_true (by omega) (fun k hk => h k (List.mem_cons_of_mem _ hk)) hlt, widths, Int.mul_assoc]
theorem prodC_pos : ∀ {ls : List Link} {n : Int}, 1 ≤ n → n ≤ 1000 → (∀ l ∈ ls, l.low ≤ l.high) → 1 ≤ prodC ls n ∧ prodC ls n ≤ 1000
  | [], n, h1, h2, _ => ⟨h1, h2⟩
  | l :: r, n, h1, h2, h => by
    unfold prodC
    have hl := h l List.mem_cons_self
    have : 1 * 1 ≤ n * (l.high - l.low + 1) := Int.mul_le_mul h1 (by omega) (by omega) (by omega)
    split
    · omega
    · exact prodC_pos (by omega) (by omega) fun k hk => h k (List.mem_cons_of_mem _ hk)
theorem choiceL_surj : ∀ {ls : List Link} {d : List Int}, (∀ l ∈ ls, l.low ≤ l.high) → BoxL ls d → ∃ k, 0 ≤ k ∧ k < widths ls ∧ choiceL ls k = d
  | [], [], _, _ => ⟨0, Int.le_refl _, by simp [widths], rfl⟩
  | [], _ :: _, _, h => h.elim
  | _ :: _, [], _, h => h.elim
  | l :: r, t :: d, hl, ⟨h1, h2⟩ => by
    obtain ⟨k, k0, k1, k2⟩ := choiceL_surj (fun x hx => hl x (List.mem_cons_of_mem _ hx)) h2
    obtain ⟨w, hw⟩ : ∃ w, l.high - l.low + 1 = w := ⟨_, rfl⟩
    have w1 : 1 ≤ w := by omega
    have e1 : ((t - l.low) + w * k) % w = t - l.low := by
      rw [Int.add_mul_emod_self_left, Int.emod_eq_of_lt (by omega) (by omega)]
    have e2 : ((t - l.low) + w * k) / w = k := by
      rw [Int.add_mul_ediv_left _ _ (by omega), Int.ediv_eq_zero_of_lt (by omega) (by omega)]; omega
    have m1 : w * k ≤ w * (widths r - 1) := Int.mul_le_mul_of_nonneg_left (by omega) (by omega)
    have m2 : w * (widths r - 1) = w * widths r - w := by rw [Int.mul_sub, Int.mul_one]
    have m3 : 0 ≤ w * k := Int.mul_nonneg (by omega) k0
    refine ⟨(t - l.low) + w * k, by omega, by rw [widths, hw]; omega, ?_⟩
    rw [choiceL, hw, e1, e2, k2]
    congr 1; omega
theorem choiceL_box : ∀ {ls : List Link} (k : Int), (∀ l ∈ ls, l.low ≤ l.high) → BoxL ls (choiceL ls k)
  | [], _, _ => trivial
  | l :: r, k, h => by
    have h1 := h l List.mem_cons_self
    have m1 : 0 ≤ k % (l.high - l.low + 1) := Int.emod_nonneg _ (by omega)
    have m2 : k % (l.high - l.low + 1) < l.high - l.low + 1 := Int.emod_lt_of_pos _ (by omega)
    exact ⟨by omega, choiceL_box _ fun x hx => h x (List.mem_cons_of_mem _ hx)⟩
theorem choice_box {u : Uncertain} (uv : UV u) (k : Int) : InBox u (sp_choice u k) := boxL_iff.1 (choiceL_box k fun _ hl => (uv.info hl).2.2.1.2.1)
theorem choices_range {u : Uncertain} (uv : UV u) : 1 ≤ sp_choices u ∧ sp_choices u ≤ 1000 := prodC_pos (by decide) (by decide) fun l hl => (uv.info hl).2.2.1.2.1
theorem choice_surj {u : Uncertain} (uv : UV u) (h : sp_choices u ≤ 200) {d : List Int} (hd : InBox u d) : ∃ k, 0 ≤ k ∧ k < sp_choices u ∧ sp_choice u k = d := by
  obtain ⟨k, k0, k1, k2⟩ := choiceL_surj (fun l hl => (uv.info hl).2.2.1.2.1) (boxL_iff.2 hd)
  refine ⟨k, k0, ?_, k2⟩
  have := prodC_true (ls := u.contingent) (n := 1) (Int.le_refl _) (fun l hl => (uv.info hl).2.2.1.2.1) (show sp_choices u < 1000 by omega)
  rw [Int.one_mul] at this
  show k < prodC u.contingent 1
  omega
/-! ### outcomes of times -/
theorem outcome_delta {u : Uncertain} (uv : UV u) {ts d : List Int} (ht : (ts.length : Int) = u.network.events) (hd : InBox u d) {e : Int} (he : 0 ≤ e ∧ e < u.network.events) : ∃ x, (place u e).low ≤ x ∧ x ≤ (place u e).high ∧ gt (sp_outcome u ts d) e = gt ts (place u e).base + x := by
  obtain ⟨_, g1, g2⟩ := outcome_gt uv ht hd.1
  rcases place_cases uv e with ⟨hb, p⟩ | ⟨l, hl, hdst, p⟩
  · rw [p]; exact ⟨0, Int.le_refl _, Int.le_refl _, by rw [g1 e he.1 hb]; simp⟩
  · rw [p]
    obtain ⟨i, hi, rfl⟩ := mem_gt hl
    exact ⟨gt d i, (hd.2 i hi).1, (hd.2 i hi).2, by rw [← hdst, g2 i hi]⟩
/-- a choice in which each event takes its longest or its shortest time -/
theorem outcome_choice {u : Uncertain} (uv : UV u) {ts : List Int} (ht : (ts.length : Int) = u.network.events) (f : Link → Bool) : ∃ d, InBox u d ∧ (∀ e, 0 ≤ e → e < u.network.events → IsBase u e → gt (sp_outcome u ts d) e = gt ts e) ∧ ∀ l ∈ u.contingent, gt (sp_outcome u ts d) l.dst = gt ts l.src + (if f l = true then l.high else l.low) := by
  have hl : (u.contingent.map fun l => if f l = true then l.high else l.low).length = u.contingent.length := by simp
  have hg : ∀ i : Nat, i < u.contingent.length → gt (u.contingent.map fun l => if f l = true then l.high else l.low) (i : Int) = if f (gt u.contingent i) = true then (gt u.contingent i).high else (gt u.contingent i).low := fun i hi => by
    rw [gt_of ⟨by omega, by rw [hl]; omega⟩, gt_of ⟨by omega, by omega⟩]
    simp
  obtain ⟨_, g1, g2⟩ := outcome_gt (times := ts) uv ht hl
  refine ⟨_, ⟨hl, fun i hi => ?_⟩, fun e h1 _ hb => g1 e h1 hb, fun _ hm => ?_⟩
  · have := uv.info (gt_memN hi)
    rw [hg i hi]; split <;> omega
  · obtain ⟨i, hi, rfl⟩ := mem_gt hm
    rw [g2 i hi, hg i hi]
def OkAt (u : Uncertain) (ts d : List Int) (l : Link) : Prop := l.low ≤ gt (sp_outcome u ts d) l.dst - gt (sp_outcome u ts d) l.src ∧ gt (sp_outcome u ts d) l.dst - gt (sp_outcome u ts d) l.src ≤ l.high
theorem sat_of_all {u : Uncertain} (uv : UV u) {ts : List Int} (ht : (ts.length : Int) = u.network.events) (hz : gt ts 0 = 0) (hn : ∀ t ∈ ts, 0 ≤ t) (h : ∀ d, InBox u d → ∀ l ∈ u.network.links, OkAt u ts d l) : Sat u (fun e => gt ts e) := by
  refine ⟨hz, fun e h1 h2 => hn _ (gt_mem ⟨h1, by omega⟩), fun l hl => ?_⟩
  have hs := uv.v.okay.src l hl
  have hd := uv.v.okay.dst l hl
  have hne := uv.v.okay.ne l hl
  have at_ : ∀ (f : Link → Bool) (d : List Int), (∀ e, 0 ≤ e → e < u.network.events → IsBase u e → gt (sp_outcome u ts d) e = gt ts e) → (∀ l ∈ u.contingent, gt (sp_outcome u ts d) l.dst = gt ts l.src + (if f l = true then l.high else l.low)) → ∀ e, 0 ≤ e → e < u.network.events → (∀ b : Bool, (∀ k : Link, k.dst = e → f k = b) → gt (sp_outcome u ts d) e = gt ts (place u e).base + (if b = true then (place u e).high else (place u e).low)) := by
    intro f d g1 g2 e h1 h2 b hb
    rcases place_cases uv e with ⟨hbse, p⟩ | ⟨k, hk, hdst, p⟩
    · rw [p, g1 e h1 h2 hbse]; split <;> simp
    · rw [p, ← hdst, g2 k hk, hb k hdst]
  constructor
  · obtain ⟨d, db, g1, g2⟩ := outcome_choice (ts := ts) uv ht fun k => decide (k.dst = l.src)
    have a := at_ _ d g1 g2 l.src hs.1 hs.2 true (fun k hk => by simpa using hk)
    have b := at_ _ d g1 g2 l.dst hd.1 hd.2 false (fun k hk => by rw [hk]; simpa using fun q => hne q.symm)
    have := (h d db l hl).1
    rw [a, b] at this
    simp only [if_true, Bool.false_eq_true, if_false] at this
    unfold lowOf
    show _ ≤ gt ts _ - gt ts _
    omega
  · obtain ⟨d, db, g1, g2⟩ := outcome_choice (ts := ts) uv ht fun k => decide (k.dst = l.dst)
    have a := at_ _ d g1 g2 l.src hs.1 hs.2 false (fun k hk => by rw [hk]; simpa using hne)
    have b := at_ _ d g1 g2 l.dst hd.1 hd.2 true (fun k hk => by simpa using hk)
    have := (h d db l hl).2
    rw [a, b] at this
    simp only [if_true, Bool.false_eq_true, if_false] at this
    unfold highOf
    show gt ts _ - gt ts _ ≤ _
    omega
/-! ### raising -/
structure TI (u : Uncertain) (ts : List Int) : Prop where
  len : (ts.length : Int) = u.network.events
  rng : ∀ t ∈ ts, 0 ≤ t ∧ t ≤ 100000
  z : gt ts 0 = 0
  below : ∀ T, Sat u T → ∀ e, 0 ≤ e → e < u.network.events → IsBase u e → gt ts e ≤ T e
def upOf (u : Uncertain) (l : Link) (x : Int) : Int := if l.high < x then (place u l.src).base else (place u l.dst).base
def byOf (l : Link) (x : Int) : Int := if l.high < x then x - l.high else l.low - x
theorem TI.core {u : Uncertain} (uv : UV u) {ts d : List Int} (ti : TI u ts) (hd : InBox u d) {l : Link} (hl : l ∈ u.network.links) {x : Int} (hx : x = gt (sp_outcome u ts d) l.dst - gt (sp_outcome u ts d) l.src) (hno : ¬ (l.low ≤ x ∧ x ≤ l.high)) {T : Int → Int} (st : Sat u T) :
    (place u l.dst).base ≠ (place u l.src).base ∧ gt ts (upOf u l x) + byOf l x ≤ T (upOf u l x) ∧ upOf u l x ≠ 0 := by
  have hs := uv.v.okay.src l hl
  have hdd := uv.v.okay.dst l hl
  obtain ⟨dx, x1, x2, x3⟩ := outcome_delta uv ti.len hd hs
  obtain ⟨dy, y1, y2, y3⟩ := outcome_delta uv ti.len hd hdd
  have k := st.lk l hl
  unfold lowOf highOf at k
  rw [x3, y3] at hx
  have bx := (place_range uv hs).1
  have by_ := (place_range uv hdd).1
  have lx := ti.below T st _ bx.1 bx.2 (base_isBase uv _)
  have ly := ti.below T st _ by_.1 by_.2 (base_isBase uv _)
  have z := ti.z
  have zt := st.zero
  by_cases c : l.high < x
  · unfold upOf byOf
    rw [if_pos c, if_pos c]
    refine ⟨fun e => ?_, by omega, fun e => ?_⟩
    · rw [e] at hx k; omega
    · rw [e] at k lx hx; omega
  · unfold upOf byOf
    rw [if_neg c, if_neg c]
    refine ⟨fun e => ?_, by omega, fun e => ?_⟩
    · rw [e] at hx k; omega
    · rw [e] at k ly hx; omega
theorem sum_set : ∀ (ts : List Int) (i : Nat) (x : Int), i < ts.length → (ts.set i x).sum = ts.sum + x - ts.getD i 0
  | [], _, _, h => by simp at h
  | t :: r, 0, x, _ => by simp; omega
  | t :: r, i + 1, x, h => by
    have := sum_set r i x (by simpa using h)
    simp only [List.set_cons_succ, List.sum_cons, this, List.getD_cons_succ]; omega
theorem sum_le : ∀ (ts : List Int), (∀ t ∈ ts, t ≤ 100000) → ts.sum ≤ 100000 * (ts.length : Int)
  | [], _ => by simp
  | t :: r, h => by
    have := sum_le r fun x hx => h x (List.mem_cons_of_mem _ hx)
    have := h t List.mem_cons_self
    simp only [List.sum_cons, List.length_cons]; omega
theorem TI.raise {u : Uncertain} (uv : UV u) {ts d : List Int} (ti : TI u ts) (hd : InBox u d) {l : Link} (hl : l ∈ u.network.links) {x : Int} (hx : x = gt (sp_outcome u ts d) l.dst - gt (sp_outcome u ts d) l.src) (hno : ¬ (l.low ≤ x ∧ x ≤ l.high))
    (h0 : upOf u l x ≠ 0) (h1 : gt ts (upOf u l x) + byOf l x ≤ 100000) : inb ts (upOf u l x) ∧ TI u (ts.set (upOf u l x).toNat (gt ts (upOf u l x) + byOf l x)) ∧ ts.sum < (ts.set (upOf u l x).toNat (gt ts (upOf u l x) + byOf l x)).sum := by
  have hs := uv.v.okay.src l hl
  have hdd := uv.v.okay.dst l hl
  have r : 0 ≤ upOf u l x ∧ upOf u l x < u.network.events ∧ IsBase u (upOf u l x) := by
    unfold upOf
    split
    · exact ⟨(place_range uv hs).1.1, (place_range uv hs).1.2, base_isBase uv _⟩
    · exact ⟨(place_range uv hdd).1.1, (place_range uv hdd).1.2, base_isBase uv _⟩
  have lowhigh := (linkCode_zero (uv.v.links l hl)).2.2.2.2.2
  have pos : 0 < byOf l x := by unfold byOf; split <;> omega
  have hlen := ti.len
  have hb : inb ts (upOf u l x) := ⟨r.1, by omega⟩
  have g0 := (ti.rng _ (gt_mem hb)).1
  refine ⟨hb, ⟨by simpa using ti.len, fun t ht => ?_, ?_, fun T st e e0 e1 eb => ?_⟩, ?_⟩
  · rcases List.mem_or_eq_of_mem_set ht with q | rfl
    · exact ti.rng t q
    · omega
  · rw [gt_setI hb (Int.le_refl _), if_neg (fun q => h0 q.symm)]; exact ti.z
  · rw [gt_setI hb e0]
    split
    · rename_i q; rw [q]; exact (ti.core uv hd hl hx hno st).2.1
    · exact ti.below T st e e0 e1 eb
  · rw [sum_set _ _ _ (inb_lt hb)]
    have : ts.getD (upOf u l x).toNat 0 = gt ts (upOf u l x) := rfl
    omega
theorem TI.fails {u : Uncertain} (hv : sp_uvalidate u = ⟨0, 0⟩) {ts d : List Int} (ti : TI u ts) (hd : InBox u d) {l : Link} (hl : l ∈ u.network.links) {x : Int} (hx : x = gt (sp_outcome u ts d) l.dst - gt (sp_outcome u ts d) l.src) (hno : ¬ (l.low ≤ x ∧ x ≤ l.high))
    (h : upOf u l x = 0 ∨ (place u l.dst).base = (place u l.src).base ∨ 100000 < gt ts (upOf u l x) + byOf l x) : sp_strong u = ([], false, ⟨0, 0⟩) := by
  have uv := uv_of hv
  rcases strong_spec hv with ⟨e, _⟩ | ⟨T, D, _, _, _, _, st, _, bd, _⟩
  · exact e
  · exfalso
    obtain ⟨c1, c2, c3⟩ := ti.core uv hd hl hx hno st
    have hs := uv.v.okay.src l hl
    have hdd := uv.v.okay.dst l hl
    have r : T (upOf u l x) ≤ 30000 := by
      unfold upOf
      split
      · exact bd _ (place_range uv hs).1.1 (place_range uv hs).1.2
      · exact bd _ (place_range uv hdd).1.1 (place_range uv hdd).1.2
    rcases h with h | h | h
    · exact c3 h
    · exact c1 h
    · omega
theorem ext_gt {a b : List Int} (hl : a.length = b.length) (h : ∀ i : Nat, i < a.length → gt a (i : Int) = gt b (i : Int)) : a = b := by
  refine List.ext_getElem hl fun i h1 h2 => ?_
  have := h i h1
  rw [gt_of ⟨by omega, by omega⟩, gt_of ⟨by omega, by omega⟩] at this
  simpa using this
end Go.Proofs.Ytkcamohhjaibaaa.Pl
