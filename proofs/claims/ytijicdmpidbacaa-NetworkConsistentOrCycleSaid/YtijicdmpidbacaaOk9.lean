/- The laws on schedules, joined. Plain Lean. No condition. -/
import Derived.Test.YtijicdmpidbacaaOk8
namespace Go.Proofs.Ytijicdmpidbacaa.Pl
open Go Go.RowKit
theorem Tight.low {n : Network} {D : Nat → Nat → Int} (v : Valid n) (t : Tight n.events.toNat (Wd n) D) {x y : Nat} (hx : x < n.events.toNat) (hy : y < n.events.toNat) : -30000 ≤ D x y := by
  have hev := v.ev
  rcases Int.lt_or_eq_of_le (t.le x y hx hy) with q | q
  · obtain ⟨r, w, hw⟩ := t.re x y hx hy q
    have := w.ge t.notNeg (fun p q => (dirL_bounds v.okay.low v.okay.high p q).1)
    omega
  · rw [q]; simp only [inf]; omega
theorem Sched.le {n : Network} {ts : List Int} {D : Nat → Nat → Int} (s : Sched n ts) (t : Tight n.events.toNat (Wd n) D) {a b : Nat} (ha : a < n.events.toNat) (hb : b < n.events.toNat) : gt ts (b : Int) - gt ts (a : Int) ≤ D a b := by
  rcases Int.lt_or_eq_of_le (t.le a b ha hb) with q | q
  · exact t.feasible s.feasible ha hb q
  · have mem : ∀ a : Nat, a < n.events.toNat → gt ts (a : Int) ∈ ts := fun a ha => gt_mem ⟨by omega, by rw [s.len]; have := s.valid.ev; omega⟩
    have ra := s.rng _ (mem a ha)
    have rb := s.rng _ (mem b hb)
    rw [q]; simp only [inf]; omega
theorem ok_lawBoundsHold : ∀ (n_ : Network) (times : List Int) (i : Int) (j : Int), F_lawBoundsHold n_ times i j (fun r => r = sp_lawBoundsHold n_ times i j) := fun n ts i j => by
  unfold F_lawBoundsHold sp_lawBoundsHold
  have out : F_lawBoundsHold_J1 n ts i j (fun r => r = true) true := by
    unfold F_lawBoundsHold_J1
    simp [sp_bounded]
  have main : (sp_respects n ts).2.code = 0 → (sp_respects n ts).1 = true → sp_in_ i 0 (IntKind.i64.wrap (n.events - 1)) = true → sp_in_ j 0 (IntKind.i64.wrap (n.events - 1)) = true → F_lawBoundsHold_J1 n ts i j (fun r => r = true) false := fun h1 h2 hi hj => by
    have s := respects_good h1 h2
    obtain ⟨g1, g2, D, ⟨v, t⟩, e⟩ := s.good
    have hev := v.ev
    simp only [sp_in_, Bool.and_eq_true, decide_eq_true_eq] at hi hj
    rw [w64 (by omega)] at hi hj
    obtain ⟨a, rfl⟩ : ∃ a : Nat, i = a := ⟨i.toNat, by omega⟩
    obtain ⟨b, rfl⟩ : ∃ b : Nat, j = b := ⟨j.toNat, by omega⟩
    have ha : a < n.events.toNat := by omega
    have hb : b < n.events.toNat := by omega
    have sq : Sq n.events.toNat (sp_minimal n).1 := by rw [e]; exact mat_sq _ _
    have at_ : gt (gt (sp_minimal n).1 a) b = D a b := by rw [sq.gt, e, mat_at ha hb]
    have len : ((gt (sp_minimal n).1 a).length : Int) = n.events := by
      have := sq.row a ha
      rw [gt_cast, show (default : List Int) = [] from rfl, this]; omega
    have l0 : ((sp_minimal n).1.length : Int) = n.events := by rw [sq.len]; omega
    have ia : inb ts (a : Int) := ⟨by omega, by rw [s.len]; omega⟩
    have ib : inb ts (b : Int) := ⟨by omega, by rw [s.len]; omega⟩
    have ra := s.rng _ (gt_mem ia)
    have rb := s.rng _ (gt_mem ib)
    have key : IntKind.i64.wrap (gt ts (b : Int) - gt ts (a : Int)) ≤ D a b := by
      rw [w64 (by omega)]; exact s.le t ha hb
    unfold F_lawBoundsHold_J1
    simp [sp_bounded, g1, g2, l0, len, at_, sq.inb ha, sq.inb2 ha hb, ia, ib, key]
  intro r2 hr2
  subst hr2
  simp only [forall_eq, bne_iff_ne, ne_eq, bne_eq_false_iff_eq, Bool.not_eq_true', Bool.not_eq_false']
  refine ⟨fun _ => out, fun h1 => ⟨fun _ => out, fun h2 => ⟨fun _ => out, fun h3 => ?_⟩⟩⟩
  cases h4 : sp_in_ j 0 (IntKind.i64.wrap (n.events - 1))
  · exact out
  · exact main h1 h2 h3 h4
theorem ok_lawEarliestIsLeast : ∀ (n_ : Network) (times : List Int), F_lawEarliestIsLeast n_ times (fun r => r = sp_lawEarliestIsLeast n_ times) := fun n ts => by
  unfold F_lawEarliestIsLeast sp_lawEarliestIsLeast
  intro r2 hr2
  subst hr2
  simp only [bne_iff_ne, ne_eq, bne_eq_false_iff_eq]
  have out : F_lawEarliestIsLeast_J1 n ts (fun r => r = true) true := by
    unfold F_lawEarliestIsLeast_J1
    simp [sp_bounded]
  refine ⟨fun _ => out, fun h1 => ?_⟩
  cases h2 : (sp_respects n ts).1
  · exact out
  · have s := respects_good h1 h2
    obtain ⟨g1, g2, D, ⟨v, t⟩, e⟩ := s.good
    have hev := v.ev
    obtain ⟨N, hN⟩ : ∃ N : Nat, n.events.toNat = N := ⟨_, rfl⟩
    have hN0 : 0 < N := by omega
    have hs : sp_earliest n = ((sp_minimal n).1.map (fun r => -(gt r 0)), true, (sp_minimal n).2.2) := by rw [sp_earliest, if_pos g2]
    have sq : Sq n.events.toNat (sp_minimal n).1 := by rw [e]; exact mat_sq _ _
    have ll : (sp_earliest n).1.length = N := by rw [hs]; simp [sq.len, hN]
    have tl : ts.length = N := by have := s.len; omega
    have at_ : ∀ a : Nat, a < N → gt (sp_earliest n).1 (a : Int) = -(D a 0) := fun a ha => by
      have h0 := sq.inb (a := a) (by omega)
      have : gt (gt (sp_minimal n).1 (a : Int)) (0 : Int) = D a 0 := by
        have := sq.gt a 0
        rw [e, mat_at (by omega) (by omega)] at this
        rw [← e] at this
        exact this
      rw [hs, ← this]
      have hlt := inb_lt h0
      simp only [gt, Int.toNat_natCast] at hlt ⊢
      rw [List.getD_eq_getElem?_getD, List.getElem?_map, List.getElem?_eq_getElem hlt, List.getD_eq_getElem?_getD (l := (sp_minimal n).1), List.getElem?_eq_getElem hlt]
      rfl
    unfold F_lawEarliestIsLeast_J1
    simp only [Bool.not_true, Bool.false_eq_true, false_implies, true_and, forall_const]
    intro r4 hr4
    subst hr4
    have c0 : (sp_earliest n).2.2.code = 0 := by rw [hs]; exact g1
    have c1 : (sp_earliest n).2.1 = true := by rw [hs]
    have c2 : (((sp_earliest n).1.length : Nat) : Int) = ((ts.length : Nat) : Int) := by rw [ll, tl]
    simp only [c0, c1, c2, bne_self_eq_false, Bool.false_eq_true, false_implies, true_and, forall_const, Bool.not_true]
    unfold F_lawEarliestIsLeast_J2
    simp only [Bool.false_eq_true, false_implies, true_and, forall_const]
    refine ⟨fun t => 0 ≤ t ∧ t ≤ N, fun t => (N - t).toNat, ⟨Int.le_refl _, by omega⟩, ?_⟩
    rintro k ⟨k0, k1⟩
    unfold F_lawEarliestIsLeast_L1
    simp only [decide_eq_true_eq, decide_eq_false_iff_not, tl, forall_eq, sp_bounded, implies_true, and_true]
    intro g
    obtain ⟨a, rfl⟩ : ∃ a : Nat, k = a := ⟨k.toNat, by omega⟩
    have ha : a < N := by omega
    have le := s.le t (a := a) (b := 0) (by omega) (by omega)
    have z : gt ts ((0 : Nat) : Int) = 0 := s.zero
    rw [z] at le
    rw [at_ a ha, w64 (by omega)]
    exact ⟨⟨by omega, by rw [ll]; omega⟩, ⟨by omega, by rw [tl]; omega⟩, fun h => by omega, fun _ => ⟨⟨by omega, by omega⟩, by omega⟩⟩
end Go.Proofs.Ytijicdmpidbacaa.Pl
