/- Tightest bounds: the program's way meets the relation. Plain Lean. No condition. -/
import Derived.Test.YtkcamohhjaibaaaOk3
import Derived.Test.YtkcamohhjaibaaaFw
namespace Go.Proofs.Ytkcamohhjaibaaa.Pl
open Go Go.RowKit
theorem tight_unique {n : Network} {r s : List (List Int) × Bool} (h : TightRel n r) (g : TightRel n s) : r = s := by
  rcases h with ⟨D, t, rfl⟩ | ⟨a, rfl⟩ <;> rcases g with ⟨E, u, rfl⟩ | ⟨b, rfl⟩
  · rw [mat_congr fun a b ha hb => t.uniq u ha hb]
  · exact absurd b t.notNeg
  · exact absurd a u.notNeg
  · rfl
theorem tighten_is {n : Network} {r : List (List Int) × Bool} (h : TightRel n r) : r = sp_tighten n := by
  have hx : ∃ r, TightRel n r := ⟨r, h⟩
  unfold sp_tighten
  rw [dif_pos hx]
  exact tight_unique h (Classical.choose_spec hx)
theorem dirStep_le (i j d : Int) (l : Link) : dirStep i j d l ≤ d := by unfold dirStep; simp only; split <;> split <;> omega
theorem dirL_bounds {ls : List Link} (hlow : ∀ l ∈ ls, -3000 ≤ l.low ∧ l.low ≤ 3000) (hhigh : ∀ l ∈ ls, -3000 ≤ l.high ∧ l.high ≤ 3000) (i j : Int) : -3000 ≤ dirL ls i j ∧ dirL ls i j ≤ inf ∧ (dirL ls i j < inf → dirL ls i j ≤ 3000) := by
  unfold dirL
  have key : ∀ (d : Int), (-3000 ≤ d ∧ d ≤ inf ∧ (d < inf → d ≤ 3000)) → -3000 ≤ ls.foldl (dirStep i j) d ∧ ls.foldl (dirStep i j) d ≤ inf ∧ (ls.foldl (dirStep i j) d < inf → ls.foldl (dirStep i j) d ≤ 3000) := by
    induction ls with
    | nil => intro d h; exact h
    | cons l r ih =>
      intro d h
      refine ih (fun l hl => hlow l (List.mem_cons_of_mem _ hl)) (fun l hl => hhigh l (List.mem_cons_of_mem _ hl)) _ ?_
      have h1 := hlow l List.mem_cons_self
      have h2 := hhigh l List.mem_cons_self
      unfold dirStep
      simp only
      simp only [inf] at h ⊢
      split <;> split <;> omega
  refine key _ ?_
  simp only [inf]
  split <;> omega
theorem dirL_diag {ls : List Link} (hne : ∀ l ∈ ls, l.src ≠ l.dst) (i : Int) : dirL ls i i = 0 := by
  unfold dirL
  simp only [true_or, if_true]
  induction ls with
  | nil => rfl
  | cons l r ih =>
    have h1 := hne l List.mem_cons_self
    have e : dirStep i i 0 l = 0 := by
      unfold dirStep
      have c : ¬ (l.src = i ∧ l.dst = i) := by omega
      simp [c]
    rw [List.foldl_cons, e]
    exact ih fun l hl => hne l (List.mem_cons_of_mem _ hl)
theorem Okay.ph {n : Network} (ok : Okay n) : Ph n.events.toNat (Wd n) 0 (Wd n) := by
  have b := fun i j => dirL_bounds ok.low ok.high i j
  refine ⟨fun i j _ _ => (b i j).2.1, fun i j _ _ h => ?_, fun i j _ _ => ?_, fun i j hi hj h => ⟨[j], .cons hi h (.nil hj), by simp [wt]⟩, fun _ _ _ _ => Int.le_refl _, fun i _ => ?_, fun _ m hm => by omega⟩
  · have := (b i j).2.2 h; simpa [Wd] using this
  · have := (b i j).1; simp only [Wd]; omega
  · rw [Wd, dirL_diag ok.ne]; exact Int.le_refl _
theorem Ph.congr {N k : Nat} {W D E : Nat → Nat → Int} (p : Ph N W k D) (h : ∀ a b, D a b = E a b) : Ph N W k E := by
  have : D = E := by funext a b; exact h a b
  exact this ▸ p
theorem In.congr {N k i j : Nat} {W D C E : Nat → Nat → Int} (p : In N W k D i j C) (h : ∀ a b, C a b = E a b) : In N W k D i j E := by
  have : C = E := by funext a b; exact h a b
  exact this ▸ p
def Ext (N : Nat) (W : Nat → Nat → Int) (d : List (List Int)) : Nat → Nat → Int := fun a b => if a < N ∧ b < N then Mx d a b else W a b
theorem Ext_at {N a b : Nat} {W : Nat → Nat → Int} {d : List (List Int)} (ha : a < N) (hb : b < N) : Ext N W d a b = Mx d a b := if_pos ⟨ha, hb⟩
theorem Ext_not {N a b : Nat} {W : Nat → Nat → Int} {d : List (List Int)} (h : ¬ (a < N ∧ b < N)) : Ext N W d a b = W a b := if_neg h
theorem low_any {N : Nat} {d : List (List Int)} (s : Sq N d) (hN : 0 < N) : (sp_any d (fun y_ : List Int => sp_tighten1 y_) (fun y_ : List Int => pre_tighten1 y_) = true ↔ ∃ a b, a < N ∧ b < N ∧ Mx d a b < -1000000) := by
  unfold sp_any sp_tighten1
  rw [List.any_eq_true]
  have row : ∀ a, a < N → d.getD a [] ∈ d := fun a ha => by
    have hl : a < d.length := by rw [s.len]; exact ha
    rw [List.getD_eq_getElem?_getD, List.getElem?_eq_getElem hl]
    exact List.getElem_mem _
  constructor
  · rintro ⟨r, hr, h⟩
    obtain ⟨a, ha, rfl⟩ := List.mem_iff_getElem.1 hr
    have haN : a < N := by rw [← s.len]; exact ha
    have hlen := s.row a haN
    have e1 : d.getD a [] = d[a] := by simp [ha]
    rw [e1] at hlen
    have hne : d[a] ≠ [] := fun e => by rw [e] at hlen; simp at hlen; omega
    rw [decide_eq_true_eq, min_lt hne] at h
    obtain ⟨x, hx, hl⟩ := h
    obtain ⟨b, hb, rfl⟩ := List.mem_iff_getElem.1 hx
    refine ⟨a, b, haN, by omega, ?_⟩
    unfold Mx
    rw [e1]; simpa [hb] using hl
  · rintro ⟨a, b, ha, hb, h⟩
    refine ⟨_, row a ha, ?_⟩
    have hlen := s.row a ha
    have hne : d.getD a [] ≠ [] := fun e => by rw [e] at hlen; simp at hlen; omega
    rw [decide_eq_true_eq, min_lt hne]
    have hbl : b < (d.getD a []).length := by omega
    refine ⟨(d.getD a [])[b], List.getElem_mem _, ?_⟩
    unfold Mx at h
    rw [List.getD_eq_getElem?_getD, List.getElem?_eq_getElem hbl] at h
    exact h
theorem ok_tighten : ∀ (n_ : Network), pre_tighten n_ → F_tighten n_ (fun r => r = sp_tighten n_) := fun n ok => by
  obtain ⟨hev, hlen, _, _, _, hlow, hhigh⟩ := id ok
  have hW : ∀ a b, -3000 ≤ Wd n a b := fun a b => (dirL_bounds hlow hhigh a b).1
  have p0 := Okay.ph ok
  obtain ⟨N, hN⟩ : ∃ N : Nat, n.events.toNat = N := ⟨_, rfl⟩
  rw [hN] at p0
  have hN10 : N ≤ 10 := by omega
  have hN0 : 0 < N := by omega
  have negR : Neg N (Wd n) → (([] : List (List Int)), false) = sp_tighten n := fun h => tighten_is (.inr ⟨by rw [hN]; exact h, rfl⟩)
  unfold F_tighten
  refine ⟨ok, fun r2 hr2 => ?_⟩
  have er : r2 = mat N (Wd n) := by rw [hr2, sp_bounds, hN]
  have sq2 : Sq N r2 := by rw [er]; exact mat_sq _ _
  have l2 : r2.length = N := sq2.len
  refine ⟨fun t d => ∃ k : Nat, t = k ∧ k ≤ N ∧ Sq N d ∧ Ph N (Wd n) k (Ext N (Wd n) d), fun t _ => (N - t).toNat, ⟨0, rfl, Nat.zero_le _, sq2, p0.congr fun a b => ?_⟩, ?_⟩
  · by_cases h : a < N ∧ b < N
    · rw [Ext_at h.1 h.2, er, mat_at h.1 h.2]
    · rw [Ext_not h]
  rintro t d ⟨k, rfl, hk, sq, ph⟩
  unfold F_tighten_L1
  simp only [decide_eq_true_eq, decide_eq_false_iff_not, l2]
  refine ⟨fun h => ?_, fun h => ?_⟩
  · have hkN : k < N := by omega
    refine ⟨fun t c => ∃ i : Nat, t = i ∧ i ≤ N ∧ Sq N c ∧ In N (Wd n) k (Ext N (Wd n) d) i 0 (Ext N (Wd n) c), fun t _ => (N - t).toNat, ⟨0, rfl, Nat.zero_le _, sq, In.start ph hkN⟩, ?_⟩
    rintro t c ⟨i, rfl, hi, sqc, q⟩
    unfold F_tighten_L2
    simp only [decide_eq_true_eq, decide_eq_false_iff_not, l2]
    refine ⟨fun h => ?_, fun h => ?_⟩
    · have hiN : i < N := by omega
      refine ⟨fun t c => ∃ j : Nat, t = j ∧ j ≤ N ∧ Sq N c ∧ In N (Wd n) k (Ext N (Wd n) d) i j (Ext N (Wd n) c), fun t _ => (N - t).toNat, ⟨0, rfl, Nat.zero_le _, sqc, q⟩, ?_⟩
      rintro t c ⟨j, rfl, hj, sqc, q⟩
      unfold F_tighten_L3
      simp only [decide_eq_true_eq, decide_eq_false_iff_not, l2]
      refine ⟨fun h => ?_, fun h => ?_⟩
      · have hjN : j < N := by omega
        have ni := w64 (n := (j : Int) + 1) (by omega)
        have nj : ((j : Int) + 1) = ((j + 1 : Nat) : Int) := by omega
        have cell : ∀ a b, a < N → b < N → (Ext N (Wd n) c) a b = Mx c a b := fun a b ha hb => Ext_at ha hb
        have stay : ¬ (Mx c i k < inf ∧ Mx c k j < inf) → F_tighten_J1 j (fun t c => ∃ j : Nat, t = j ∧ j ≤ N ∧ Sq N c ∧ In N (Wd n) k (Ext N (Wd n) d) i j (Ext N (Wd n) c)) (fun t _ => (N - t).toNat) c c := fun hx => by
          unfold F_tighten_J1
          rw [ni, nj]
          refine ⟨⟨j + 1, rfl, hjN, sqc, q.skip hiN hjN (fun hh => hx ?_) hkN⟩, ?_⟩
          · rw [cell i k hiN hkN, cell k j hkN hjN] at hh
            exact hh
          · show ((N : Int) - ((j + 1 : Nat) : Int)).toNat < ((N : Int) - (j : Int)).toNat
            omega
        refine ⟨sqc.inb hiN, sqc.inb2 hiN hkN, fun h1 => ⟨sqc.inb hkN, sqc.inb2 hkN hjN, ?_⟩, fun h1 => ?_⟩
        · unfold F_tighten_J2
          simp only [decide_eq_true_eq, decide_eq_false_iff_not]
          refine ⟨fun h2 => ⟨sqc.inb hiN, sqc.inb2 hiN hjN, sqc.inb2 hiN hkN, sqc.inb hkN, sqc.inb2 hkN hjN, ?_⟩, fun h2 => stay fun hx => h2 hx.2⟩
          intro x hx d8 hd8
          obtain ⟨s8, e8⟩ := sqc.set hiN hjN x
          have hd8' : d8 = c.set i ((c.getD i []).set j x) := hd8
          rw [← hd8'] at s8 e8
          unfold F_tighten_J1
          rw [ni, nj]
          have b1 := q.b1.1 i hiN
          have b2 := q.b1.2 j hjN
          rw [cell i k hiN hkN] at b1
          rw [cell k j hkN hjN] at b2
          have hx' : x = (if IntKind.i64.wrap (Mx c i k + Mx c k j) < Mx c i j then IntKind.i64.wrap (Mx c i k + Mx c k j) else Mx c i j) := hx
          have h1' : Mx c i k < 1000000000 := h1
          have h2' : Mx c k j < 1000000000 := h2
          rw [w64 (by omega)] at hx'
          refine ⟨⟨j + 1, rfl, hjN, s8, q.step ph hiN hjN hkN (by rw [cell i k hiN hkN]; exact h1) (by rw [cell k j hkN hjN]; exact h2) fun a b => ?_⟩, ?_⟩
          · by_cases hab : a < N ∧ b < N
            · rw [Ext_at hab.1 hab.2, e8, cell i k hiN hkN, cell k j hkN hjN, cell i j hiN hjN, cell a b hab.1 hab.2, hx']
            · have : ¬ (a = i ∧ b = j) := fun e => hab ⟨by omega, by omega⟩
              rw [Ext_not hab, Ext_not hab, if_neg this]
          · show ((N : Int) - ((j + 1 : Nat) : Int)).toNat < ((N : Int) - (j : Int)).toNat
            omega
        · unfold F_tighten_J2
          simp only [Bool.false_eq_true, false_implies, true_and, forall_const]
          exact stay fun hx => h1 hx.1
      · have : j = N := by omega
        subst this
        rw [w64 (by omega)]
        exact ⟨⟨i + 1, by omega, by omega, sqc, q.row⟩, by omega⟩
    · have : i = N := by omega
      subst this
      have hrow : ∀ x ∈ c, x.length ≤ 1000 ∧ x ≠ [] := fun x hx => by
        obtain ⟨a, ha, rfl⟩ := List.mem_iff_getElem.1 hx
        have := sqc.row a (by rw [← sqc.len]; exact ha)
        rw [show c.getD a [] = c[a] by simp [ha]] at this
        refine ⟨by omega, fun e => ?_⟩
        rw [e] at this; simp at this; omega
      refine ⟨⟨by rw [sqc.len]; omega, fun x hx => ⟨(hrow x hx).2, (hrow x hx).1⟩⟩, ?_⟩
      intro r3 hr3
      have cell : ∀ a b, a < i → b < i → (Ext i (Wd n) c) a b = Mx c a b := fun a b ha hb => Ext_at ha hb
      refine ⟨fun h3 => ?_, fun h3 => ?_⟩
      · rw [hr3] at h3
        obtain ⟨a, b, ha, hb, hl⟩ := (low_any sqc hN0).1 h3
        refine negR (neg_of_low (i := a) (j := b) hW hN10 (x := Mx c a b) ?_ hl)
        have := q.s3 a b ha hb (by rw [cell a b ha hb]; simp only [inf]; omega)
        rwa [cell a b ha hb] at this
      · rw [w64 (by omega)]
        refine ⟨⟨k + 1, by omega, by omega, sqc, In.done ph q hkN hN10 fun a b ha hb => ?_⟩, by omega⟩
        rw [cell a b ha hb]
        refine Int.not_lt.1 fun hl => ?_
        rw [hr3, (low_any sqc hN0).2 ⟨a, b, ha, hb, hl⟩] at h3
        cases h3
  · have : k = N := by omega
    subst this
    have cell : ∀ a b, a < k → b < k → (Ext k (Wd n) d) a b = Mx d a b := fun a b ha hb => Ext_at ha hb
    refine ⟨fun t => ∃ i : Nat, t = i ∧ i ≤ k ∧ ∀ a, a < i → 0 ≤ Mx d a a, fun t => (k - t).toNat, ⟨0, rfl, Nat.zero_le _, fun a h => by omega⟩, ?_⟩
    rintro t ⟨i, rfl, hi, hdg⟩
    unfold F_tighten_L4
    simp only [decide_eq_true_eq, decide_eq_false_iff_not, l2]
    refine ⟨fun h => ?_, fun h => ?_⟩
    · have hik : i < k := by omega
      refine ⟨sq.inb hik, sq.inb2 hik hik, fun h1 => ?_, fun h1 => ?_⟩
      · have h1' : Mx d i i < 0 := h1
        refine negR (neg_of_diag (i := i) (x := Mx d i i) ?_ h1')
        have := ph.re i i hik hik (by rw [cell i i hik hik]; simp only [inf]; omega)
        rwa [cell i i hik hik] at this
      · rw [w64 (by omega)]
        refine ⟨⟨i + 1, by omega, by omega, fun a ha => ?_⟩, by omega⟩
        have h1' : ¬ Mx d i i < 0 := h1
        by_cases e : a = i
        · subst e; omega
        · exact hdg a (by omega)
    · have : i = k := by omega
      subst this
      have t := ph.tight hN10 fun a ha => by rw [cell a a ha ha]; exact hdg a ha
      refine tighten_is (.inl ⟨_, by rw [hN]; exact t, ?_⟩)
      rw [hN]
      exact congrArg (fun z => (z, true)) (mat_ext sq fun a b ha hb => (cell a b ha hb).symm)
end Go.Proofs.Ytkcamohhjaibaaa.Pl
