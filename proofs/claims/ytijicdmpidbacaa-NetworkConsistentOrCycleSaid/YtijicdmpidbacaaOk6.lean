/- The law on the triangle. Plain Lean. No condition. -/
import Derived.Test.YtijicdmpidbacaaOk5
namespace Go.Proofs.Ytijicdmpidbacaa.Pl
open Go Go.RowKit
/-- a Tight from sums of single bounds -/
theorem tight_of {N : Nat} {W D : Nat → Nat → Int} (hw : ∀ i j, i < N → j < N → D i j ≤ W i j) (hs : ∀ i j, i < N → j < N → D i j < inf → W i j = D i j) (hf : ∀ i j, i < N → j < N → D i j ≤ 1000000)
    (hd : ∀ i, i < N → D i i ≤ 0) (ht : ∀ i j k, i < N → j < N → k < N → D i k ≤ D i j + D j k) : Tight N W D := by
  refine ⟨fun i j hi hj => by have := hf i j hi hj; simp only [inf]; omega, fun i j r w => ?_, fun i j hi hj h => ⟨[j], .cons hi (by rw [hs i j hi hj h]; exact h) (.nil hj), by simp [wt, hs i j hi hj h]⟩⟩
  induction r generalizing i with
  | nil =>
    have := w.unnil; subst this
    simpa [wt] using hd i w.start
  | cons b r ih =>
    obtain ⟨h1, h2, h3⟩ := w.uncons
    have := ih b h3
    have := hw i b h1 h3.start
    have := ht i b j h1 h3.start h3.stop
    simp only [wt]; omega
def pairD (a b : Nat) : Int := if a = b then 0 else if a = 0 then 5 else -2
theorem pair_minimal : sp_minimal (sp_pair 2 5) = ([[0, 5], [-2, 0]], true, ⟨0, 0⟩) := by
  have hv : sp_validate (sp_pair 2 5) = ⟨0, 0⟩ := by decide
  have t : Tight 2 (Wd (sp_pair 2 5)) pairD := by
    have two : ∀ a, a < 2 → a = 0 ∨ a = 1 := fun a h => by omega
    refine tight_of (fun i j hi hj => ?_) (fun i j hi hj _ => ?_) (fun i j hi hj => ?_) (fun i hi => ?_) (fun i j k hi hj hk => ?_)
    · rcases two i hi with rfl | rfl <;> rcases two j hj with rfl | rfl <;> decide
    · rcases two i hi with rfl | rfl <;> rcases two j hj with rfl | rfl <;> decide
    · rcases two i hi with rfl | rfl <;> rcases two j hj with rfl | rfl <;> decide
    · rcases two i hi with rfl | rfl <;> decide
    · rcases two i hi with rfl | rfl <;> rcases two j hj with rfl | rfl <;> rcases two k hk with rfl | rfl <;> decide
  have e : sp_tighten (sp_pair 2 5) = (mat 2 pairD, true) := (tighten_is (n := sp_pair 2 5) (.inl ⟨pairD, t, rfl⟩)).symm
  rw [sp_minimal, if_pos hv, e]
  rfl
theorem ok_bounded : F_bounded (fun r => r = sp_bounded) := by
  unfold F_bounded
  simp only [forall_eq, pair_minimal, sp_bounded]
  refine ⟨fun _ => ⟨fun _ => ⟨⟨by decide, by decide⟩, by decide⟩, fun h => by cases h⟩, fun h => by cases h⟩
/-- what a good answer of Minimal is -/
structure Good (n : Network) (D : Nat → Nat → Int) : Prop where
  valid : Valid n
  tight : Tight n.events.toNat (Wd n) D
theorem minimal_ok {n : Network} (h : (sp_minimal n).2.2.code = 0) (h2 : (sp_minimal n).2.1 = true) : ∃ D, Good n D ∧ (sp_minimal n).1 = mat n.events.toNat D := by
  obtain ⟨hv, he⟩ := minimal_good h
  have v := valid_of hv
  rw [he] at h2 ⊢
  rcases tighten_rel v.okay with ⟨D, t, e⟩ | ⟨_, e⟩
  · exact ⟨D, ⟨v, t⟩, by rw [e]⟩
  · rw [e] at h2; cases h2
theorem ok_lawTriangle : ∀ (n_ : Network) (i : Int) (j : Int) (k : Int), F_lawTriangle n_ i j k (fun r => r = sp_lawTriangle n_ i j k) := fun n i j k => by
  unfold F_lawTriangle sp_lawTriangle
  have out : F_lawTriangle_J1 n i j k (fun r => r = true) (sp_minimal n) true := by
    unfold F_lawTriangle_J1
    simp [sp_bounded]
  have main : (sp_minimal n).2.2.code = 0 → (sp_minimal n).2.1 = true → sp_in_ i 0 (IntKind.i64.wrap (n.events - 1)) = true → sp_in_ j 0 (IntKind.i64.wrap (n.events - 1)) = true → sp_in_ k 0 (IntKind.i64.wrap (n.events - 1)) = true →
      F_lawTriangle_J1 n i j k (fun r => r = true) (sp_minimal n) false := fun h1 h2 hi hj hk => by
    obtain ⟨D, ⟨v, t⟩, e⟩ := minimal_ok h1 h2
    have hev := v.ev
    simp only [sp_in_, Bool.and_eq_true, decide_eq_true_eq] at hi hj hk
    rw [w64 (by omega)] at hi hj hk
    obtain ⟨a, rfl⟩ : ∃ a : Nat, i = a := ⟨i.toNat, by omega⟩
    obtain ⟨b, rfl⟩ : ∃ b : Nat, j = b := ⟨j.toNat, by omega⟩
    obtain ⟨c, rfl⟩ : ∃ c : Nat, k = c := ⟨k.toNat, by omega⟩
    obtain ⟨N, hN⟩ : ∃ N : Nat, n.events.toNat = N := ⟨_, rfl⟩
    rw [hN] at e t
    have ha : a < N := by omega
    have hb : b < N := by omega
    have hc : c < N := by omega
    have sq : Sq N (sp_minimal n).1 := by rw [e]; exact mat_sq _ _
    have at_ : ∀ x y : Nat, x < N → y < N → gt (gt (sp_minimal n).1 x) y = D x y := fun x y hx hy => by
      rw [sq.gt, e, mat_at hx hy]
    have len : ∀ x : Nat, x < N → ((gt (sp_minimal n).1 x).length : Int) = n.events := fun x hx => by
      have := sq.row x hx
      rw [gt_cast, show (default : List Int) = [] from rfl, this]; omega
    have l0 : ((sp_minimal n).1.length : Int) = n.events := by rw [sq.len]; omega
    have fin : ∀ x y, x < N → y < N → D x y ≤ inf := t.le
    have low : ∀ x y, x < N → y < N → -30000 ≤ D x y := fun x y hx hy => by
      rcases Int.lt_or_eq_of_le (t.le x y hx hy) with q | q
      · obtain ⟨r, w, hw⟩ := t.re x y hx hy q
        have := w.ge t.notNeg (fun p q => (dirL_bounds v.okay.low v.okay.high p q).1)
        omega
      · rw [q]; simp only [inf]; omega
    have f1 := fin a b ha hb
    have f2 := fin b c hb hc
    have f3 := low a b ha hb
    have f4 := low b c hb hc
    unfold F_lawTriangle_J1 F_lawTriangle_J2
    simp only [bne_iff_ne, ne_eq, bne_eq_false_iff_eq, beq_iff_eq, beq_eq_false_iff_ne, forall_eq, sp_bounded, l0, len a ha, len b hb, at_ a a ha ha, at_ a b ha hb, at_ b c hb hc, at_ a c ha hc, t.diag ha]
    simp only [inf] at f1 f2
    have key : ¬D a b = 1000000000 → ¬D b c = 1000000000 → D a c ≤ IntKind.i64.wrap (D a b + D b c) := fun g1 g2 => by
      rw [w64 (by omega)]
      exact t.tri ha hb hc (by simp only [inf]; omega) (by simp only [inf]; omega)
    simp [sq.inb ha, sq.inb hb, sq.inb2 ha ha, sq.inb2 ha hb, sq.inb2 hb hc, sq.inb2 ha hc]
    exact key
  intro r2 hr2
  subst hr2
  simp only [forall_eq, bne_iff_ne, ne_eq, bne_eq_false_iff_eq, Bool.not_eq_true', Bool.not_eq_false']
  refine ⟨fun _ => out, fun h1 => ⟨fun _ => out, fun h2 => ⟨fun _ => out, fun h3 => ⟨fun _ => out, fun h4 => ?_⟩⟩⟩⟩
  cases h5 : sp_in_ k 0 (IntKind.i64.wrap (n.events - 1))
  · exact out
  · exact main h1 h2 h3 h4 h5
end Go.Proofs.Ytijicdmpidbacaa.Pl
