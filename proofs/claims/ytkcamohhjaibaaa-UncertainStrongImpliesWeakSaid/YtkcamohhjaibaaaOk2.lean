/- Square lists of numbers, and the direct bounds of a network. Plain Lean. No condition. -/
import Derived.Test.YtkcamohhjaibaaaOk1
namespace Go.Proofs.Ytkcamohhjaibaaa.Pl
open Go Go.RowKit
def Mx (d : List (List Int)) (a b : Nat) : Int := (d.getD a []).getD b 0
structure Sq (N : Nat) (d : List (List Int)) : Prop where
  len : d.length = N
  row : ∀ a, a < N → (d.getD a []).length = N
theorem gt_cast {α : Type} [Inhabited α] (xs : List α) (a : Nat) : gt xs (a : Int) = xs.getD a default := rfl
theorem gt_set {α : Type} [Inhabited α] {xs : List α} {i : Int} {x : α} (h : inb xs i) : gt (xs.set i.toNat x) i = x := by
  have := inb_lt h
  simp [gt, this]
theorem inb_set {α : Type} {xs : List α} {i : Int} {k : Nat} {x : α} (h : inb xs i) : inb (xs.set k x) i := by
  unfold inb at *; simpa using h
theorem Sq.gt {N : Nat} {d : List (List Int)} (_s : Sq N d) (a b : Nat) : Pl.gt (Pl.gt d (a : Int)) (b : Int) = Mx d a b := rfl
theorem Sq.inb {N a : Nat} {d : List (List Int)} (s : Sq N d) (h : a < N) : Pl.inb d (a : Int) := ⟨by omega, by rw [s.len]; omega⟩
theorem Sq.inb2 {N a b : Nat} {d : List (List Int)} (s : Sq N d) (h : a < N) (h2 : b < N) : Pl.inb (Pl.gt d (a : Int)) (b : Int) := ⟨by omega, by rw [gt_cast]; have := s.row a h; rw [show (default : List Int) = [] from rfl, this]; omega⟩
theorem getD_set {α : Type} {xs : List α} {k a : Nat} {x y : α} (h : k < xs.length) : (xs.set k x).getD a y = if a = k then x else xs.getD a y := by
  by_cases e : a = k
  · subst e; simp [h]
  · rw [if_neg e, List.getD_eq_getElem?_getD, List.getElem?_set_ne (by omega), List.getD_eq_getElem?_getD]
theorem Sq.set {N a b : Nat} {d : List (List Int)} (s : Sq N d) (ha : a < N) (hb : b < N) (x : Int) : Sq N (d.set a ((d.getD a []).set b x)) ∧ ∀ a' b', Mx (d.set a ((d.getD a []).set b x)) a' b' = if a' = a ∧ b' = b then x else Mx d a' b' := by
  have hl : a < d.length := by rw [s.len]; exact ha
  refine ⟨⟨by simpa using s.len, fun a' h' => ?_⟩, fun a' b' => ?_⟩
  · rw [getD_set hl]
    split
    · simpa using s.row a ha
    · exact s.row a' h'
  · unfold Mx
    rw [getD_set hl]
    by_cases e : a' = a
    · subst e
      rw [if_pos rfl, getD_set (by rw [s.row a' ha]; exact hb)]
      simp
    · rw [if_neg e, if_neg (fun q => e q.1)]
theorem mat_sq (N : Nat) (f : Nat → Nat → Int) : Sq N (mat N f) := ⟨by simp [mat], fun a h => by simp [mat, h]⟩
theorem mat_at {N a b : Nat} {f : Nat → Nat → Int} (ha : a < N) (hb : b < N) : Mx (mat N f) a b = f a b := by simp [Mx, mat, ha, hb]
theorem mat_ext {N : Nat} {d : List (List Int)} {f : Nat → Nat → Int} (s : Sq N d) (h : ∀ a b, a < N → b < N → Mx d a b = f a b) : d = mat N f := by
  apply List.ext_getElem (by rw [s.len]; simp [mat])
  intro a h1 h2
  have ha : a < N := by rw [← s.len]; exact h1
  have hr := s.row a ha
  have e1 : d.getD a [] = d[a] := by simp [h1]
  rw [e1] at hr
  apply List.ext_getElem (by rw [hr]; simp [mat])
  intro b g1 g2
  have hb : b < N := by rw [← hr]; exact g1
  have := h a b ha hb
  unfold Mx at this
  rw [e1] at this
  simp [mat, g1] at this ⊢
  exact this
theorem mat_congr {N : Nat} {f g : Nat → Nat → Int} (h : ∀ a b, a < N → b < N → f a b = g a b) : mat N f = mat N g :=
  mat_ext (mat_sq N f) fun a b ha hb => by rw [mat_at ha hb, h a b ha hb]
/-- the rows before any link -/
def irow (N a : Nat) : List Int := ((List.replicate N 1000000000).set 0 0).set a 0
theorem irow_at {N a b : Nat} (hN : 0 < N) (ha : a < N) (hb : b < N) : (irow N a).getD b 0 = if a = b ∨ b = 0 then 0 else 1000000000 := by
  unfold irow
  rw [getD_set (by simpa using ha), getD_set (by simpa using hN)]
  by_cases e : b = a
  · simp [e]
  · have e' : a ≠ b := fun q => e q.symm
    by_cases e0 : b = 0 <;> simp [e, e', e0, hb]
theorem repeat_one (N : Nat) (x : Int) : (List.replicate N [x]).flatten = List.replicate N x := by
  induction N with
  | zero => rfl
  | succ n ih => rw [List.replicate_succ, List.replicate_succ, List.flatten_cons, ih]; rfl
theorem gt_mem {α : Type} [Inhabited α] {xs : List α} {i : Int} (h : inb xs i) : gt xs i ∈ xs := by rw [gt_of h]; exact List.getElem_mem _
theorem take_gt {α : Type} [Inhabited α] {xs : List α} {i : Int} (h : inb xs i) : xs.take (i + 1).toNat = xs.take i.toNat ++ [gt xs i] := by
  have h1 := inb_lt h
  have h2 : (i + 1).toNat = i.toNat + 1 := by have := h.1; omega
  rw [gt_of h, h2, List.take_succ_eq_append_getElem h1]
theorem dirL_snoc (ls : List Link) (l : Link) (i j : Int) : dirL (ls ++ [l]) i j = dirStep i j (dirL ls i j) l := by simp [dirL]
theorem ok_bounds : ∀ (n_ : Network), pre_bounds n_ → F_bounds n_ (fun r => r = sp_bounds n_) := fun n ok => by
  obtain ⟨hev, hlen, hsrc, hdst, hne, hlow, hhigh⟩ := ok
  obtain ⟨N, hN⟩ : ∃ N : Nat, n.events = N := ⟨n.events.toNat, by omega⟩
  have hN0 : 0 < N := by omega
  have htn : n.events.toNat = N := by omega
  unfold F_bounds
  refine ⟨⟨by omega, by rw [htn]; omega, by rw [htn]; simp only [maxLen]; omega⟩, fun t d => 0 ≤ t ∧ t ≤ N ∧ d.length = N ∧ ∀ a : Nat, (a : Int) < t → d.getD a [] = irow N a, fun t _ => (N - t).toNat, ⟨Int.le_refl _, by omega, by simp [htn], fun a h => by omega⟩, ?_⟩
  rintro t d ⟨h0, h1, h2, h3⟩
  unfold F_bounds_L1
  simp only [decide_eq_true_eq, decide_eq_false_iff_not, htn]
  refine ⟨fun h => ⟨⟨rfl, by omega, by omega⟩, ?_⟩, fun h => ?_⟩
  · have hb : inb d t := ⟨h0, by rw [h2]; exact h⟩
    intro r2 hr2
    have er : r2 = List.replicate N 1000000000 := by rw [hr2, sp_repeat, htn, repeat_one]
    refine ⟨hb, ?_⟩
    intro d3 hd3
    have hb3 : inb d3 t := by rw [hd3]; exact inb_set hb
    have g3 : gt d3 t = r2 := by rw [hd3]; exact gt_set hb
    refine ⟨hb3, by rw [g3, er]; exact ⟨by omega, by simpa using hN0⟩, ?_⟩
    intro d4 hd4
    have hb4 : inb d4 t := by rw [hd4]; exact inb_set hb3
    have g4 : gt d4 t = r2.set 0 0 := by rw [hd4, g3]; exact gt_set hb3
    refine ⟨hb4, by rw [g4, er]; exact ⟨h0, by simpa using h⟩, ?_⟩
    intro d5 hd5
    have e5 : d5 = d.set t.toNat (irow N t.toNat) := by
      rw [hd5, g4, hd4, g3, hd3, List.set_set, List.set_set, er]; rfl
    rw [w64 (by omega)]
    refine ⟨⟨by omega, by omega, by rw [e5]; simpa using h2, fun a ha => ?_⟩, by omega⟩
    rw [e5, getD_set (inb_lt hb)]
    by_cases e : a = t.toNat
    · rw [if_pos e, e]
    · rw [if_neg e]; exact h3 a (by omega)
  · have ht : t = N := by omega
    subst ht
    have sq0 : Sq N d := ⟨h2, fun a ha => by rw [h3 a (by omega)]; simp [irow]⟩
    refine ⟨fun t d => 0 ≤ t ∧ t ≤ n.links.length ∧ Sq N d ∧ ∀ a b : Nat, a < N → b < N → Mx d a b = dirL (n.links.take t.toNat) a b, fun t _ => (n.links.length - t).toNat, ⟨Int.le_refl _, by omega, sq0, fun a b ha hb => ?_⟩, ?_⟩
    · unfold Mx
      rw [h3 a (by omega), irow_at hN0 ha hb]
      show _ = (if ((a : Int) = b ∨ (b : Int) = 0) then (0 : Int) else 1000000000)
      split <;> split <;> omega
    rintro t d ⟨g0, g1, sq, g2⟩
    unfold F_bounds_L2
    simp only [decide_eq_true_eq, decide_eq_false_iff_not]
    refine ⟨fun h => ?_, fun h => ?_⟩
    · have hi : inb n.links t := ⟨g0, h⟩
      have hm := gt_mem hi
      have m1 := hsrc _ hm
      have m2 := hdst _ hm
      have m3 := hne _ hm
      have m4 := hlow _ hm
      have m5 := hhigh _ hm
      have tk := take_gt hi
      generalize hl : gt n.links t = l at *
      obtain ⟨a, ha⟩ : ∃ a : Nat, l.src = a := ⟨l.src.toNat, by omega⟩
      obtain ⟨b, hb⟩ : ∃ b : Nat, l.dst = b := ⟨l.dst.toNat, by omega⟩
      have la : a < N := by omega
      have lb : b < N := by omega
      have hab : a ≠ b := fun e => m3 (by rw [ha, hb, e])
      simp only [ha, hb]
      refine ⟨hi, sq.inb la, sq.inb2 la lb, ?_⟩
      intro x hx d8 hd8
      obtain ⟨s8, e8⟩ := sq.set la lb x
      have hd8' : d8 = d.set a ((d.getD a []).set b x) := hd8
      rw [← hd8'] at s8 e8
      refine ⟨s8.inb lb, s8.inb2 lb la, ?_⟩
      intro x2 hx2 d9 hd9
      obtain ⟨s9, e9⟩ := s8.set lb la x2
      have hd9' : d9 = d8.set b ((d8.getD b []).set a x2) := hd9
      rw [← hd9'] at s9 e9
      rw [w64 (by omega)]
      refine ⟨⟨by omega, by omega, s9, fun a' b' ha' hb' => ?_⟩, by omega⟩
      rw [tk, dirL_snoc, ← g2 a' b' ha' hb', e9, e8]
      rw [sq.gt a b] at hx
      have e8' : Mx d8 b a = Mx d b a := by rw [e8, if_neg (by omega)]
      rw [s8.gt b a, e8', w64 (by omega)] at hx2
      unfold dirStep
      simp only [ha, hb]
      by_cases c1 : a' = b ∧ b' = a
      · have c2 : ¬ ((a : Int) = (a' : Int) ∧ (b : Int) = (b' : Int)) := by omega
        have c3 : (a : Int) = (b' : Int) ∧ (b : Int) = (a' : Int) := by omega
        rw [if_pos c1, if_neg c2, if_pos c3, hx2, c1.1, c1.2]
        have c4 : ¬ (b = a ∧ a = b) := by omega
        omega
      · have c3 : ¬ ((a : Int) = (b' : Int) ∧ (b : Int) = (a' : Int)) := by omega
        rw [if_neg c1, if_neg c3]
        by_cases c5 : a' = a ∧ b' = b
        · have c2 : (a : Int) = (a' : Int) ∧ (b : Int) = (b' : Int) := by omega
          rw [if_pos c5, if_pos c2, hx, c5.1, c5.2]; omega
        · have c2 : ¬ ((a : Int) = (a' : Int) ∧ (b : Int) = (b' : Int)) := by omega
          rw [if_neg c5, if_neg c2]
    · have ht : t = n.links.length := by omega
      rw [sp_bounds, htn]
      refine mat_ext sq fun a b ha hb => ?_
      rw [g2 a b ha hb, ht]
      simp [Wd]
end Go.Proofs.Ytkcamohhjaibaaa.Pl
