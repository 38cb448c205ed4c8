/- The search for a cycle: what it gives; a network has a schedule or a cycle. Plain Lean. No condition. -/
import Derived.Test.YtijicdmpidbacaaOk17
import Derived.Test.YtijicdmpidbacaaCy
namespace Go.Proofs.Ytijicdmpidbacaa.Pl
open Go Go.RowKit
theorem ok_has : ∀ (l : List Int) (n_ : Int), pre_has l n_ → F_has l n_ (fun r => r = sp_has l n_) := fun l x hp => by
  unfold pre_has at hp
  refine ⟨fun t => ∃ k : Nat, t = k ∧ k ≤ l.length ∧ x ∉ l.take k, fun t => (l.length - t).toNat, ⟨0, rfl, Nat.zero_le _, by simp⟩, ?_⟩
  rintro _ ⟨k, rfl, k1, k2⟩
  unfold F_has_L1
  simp only [decide_eq_true_eq, decide_eq_false_iff_not, beq_iff_eq, beq_eq_false_iff_ne, ne_eq]
  refine ⟨fun h => ?_, fun h => ?_⟩
  · have hk : k < l.length := by omega
    refine ⟨⟨by omega, h⟩, fun q => ?_, fun q => ?_⟩
    · have : x ∈ l := q ▸ gt_memN hk
      simp [sp_has, this]
    · rw [w64 (by omega)]
      refine ⟨⟨k + 1, by omega, by omega, ?_⟩, by omega⟩
      rw [takeN_gt hk]
      simp only [List.mem_append, List.mem_singleton, not_or]
      exact ⟨k2, fun e => q e.symm⟩
  · rw [List.take_of_length_le (by omega)] at k2
    simp [sp_has, k2]
theorem ok_reverse : ∀ (s_ : List Int), pre_reverse s_ → F_reverse s_ (fun r => r = sp_reverse s_) := fun s hp => by
  unfold pre_reverse at hp
  unfold F_reverse
  rw [w64 (by omega)]
  refine ⟨fun i j l => ∃ k : Nat, i = k ∧ j = (s.length : Int) - 1 - k ∧ 2 * k ≤ s.length + 1 ∧ l.length = s.length ∧ ∀ t : Nat, t < s.length → gt l (t : Int) = if t < k ∨ s.length < t + 1 + k then gt s ((s.length - 1 - t : Nat) : Int) else gt s (t : Int), fun i _ _ => (s.length - i).toNat, ⟨0, rfl, by omega, by omega, rfl, fun t ht => by rw [if_neg (by omega)]⟩, ?_⟩
  rintro _ _ l ⟨k, rfl, rfl, k1, k2, k3⟩
  unfold F_reverse_L1
  simp only [decide_eq_true_eq, decide_eq_false_iff_not, forall_eq]
  refine ⟨fun h => ?_, fun h => ?_⟩
  · have hj : inb l ((s.length : Int) - 1 - k) := ⟨by omega, by omega⟩
    have hi : inb l (k : Int) := ⟨by omega, by omega⟩
    have ej : ((s.length : Int) - 1 - k) = ((s.length - 1 - k : Nat) : Int) := by omega
    have vj : gt l ((s.length : Int) - 1 - k) = gt s ((s.length - 1 - k : Nat) : Int) := by rw [ej, k3 _ (by omega), if_neg (by omega)]
    have vi : gt l (k : Int) = gt s (k : Int) := by rw [k3 _ (by omega), if_neg (by omega)]
    rw [vj, vi, w64 (n := (k : Int) + 1) (by omega), w64 (n := (s.length : Int) - 1 - k - 1) (by omega)]
    have hj2 : inb (l.set (k : Int).toNat (gt s ((s.length - 1 - k : Nat) : Int))) ((s.length : Int) - 1 - k) := inb_set hj
    refine ⟨hj, hi, hj2, ⟨k + 1, by omega, by omega, by omega, by simpa using k2, fun t ht => ?_⟩, by omega⟩
    rw [gt_setI hj2 (by omega), gt_setI hi (by omega)]
    by_cases c1 : (t : Int) = (s.length : Int) - 1 - k
    · rw [if_pos c1, if_pos (by omega)]
      congr 1; omega
    · rw [if_neg c1]
      by_cases c2 : (t : Int) = (k : Int)
      · rw [if_pos c2, if_pos (by omega)]
        congr 1; omega
      · rw [if_neg c2, k3 t ht]
        by_cases c3 : t < k ∨ s.length < t + 1 + k
        · rw [if_pos c3, if_pos (by omega)]
        · rw [if_neg c3, if_neg (by omega)]
  · refine ext_gt (by rw [k2]; exact (List.length_reverse).symm) fun t ht => ?_
    have hr : gt (sp_reverse s) (t : Int) = gt s ((s.length - 1 - t : Nat) : Int) := by
      rw [gt_of ⟨by omega, by rw [sp_reverse_len]; omega⟩, gt_of ⟨by omega, by omega⟩]
      simp [sp_reverse, List.getElem_reverse]
    rw [hr, k3 t (by omega)]
    by_cases c3 : t < k ∨ s.length < t + 1 + k
    · rw [if_pos c3]
    · rw [if_neg c3]
      congr 1; omega
/-! ### the state of the search -/
def ofI (x : Int) : Option Nat := if x < 0 then none else some x.toNat
def prd (N : Nat) (f : List Int) (v : Nat) : Option Nat := if v < N then ofI (gt f (v : Int)) else none
structure CSt (n : Network) (N r a b : Nat) (s : Int × List Int × List Int) : Prop where
  dl : s.2.1.length = N
  fl : s.2.2.length = N
  ls : s.1 = -1 ∨ 0 ≤ s.1 ∧ s.1 < N
  pr : ∃ ρ τ, Pr N (Wd n) r a b (fun v => gt s.2.1 (v : Int)) (prd N s.2.2) (ofI s.1) ρ τ
section
variable {n : Network} {N r a b : Nat} {s : Int × List Int × List Int}
theorem CSt.range (c : CSt n N r a b s) {v : Nat} (hv : v < N) : -3000 * ((r * 100 + a * 10 + b : Nat) : Int) ≤ gt s.2.1 (v : Int) ∧ gt s.2.1 (v : Int) ≤ 0 := by
  obtain ⟨_, _, p⟩ := c.pr
  exact p.bnd v hv
theorem bounds_gt (hN : n.events.toNat = N) {i j : Nat} (hi : i < N) (hj : j < N) : gt (gt (sp_bounds n) (i : Int)) (j : Int) = Wd n i j := by
  have sq := mat_sq n.events.toNat (Wd n)
  show gt (gt (mat n.events.toNat (Wd n)) (i : Int)) (j : Int) = _
  rw [sq.gt]; exact mat_at (by omega) (by omega)
theorem CSt.relax (ok : Okay n) (hN : n.events.toNat = N) (c : CSt n N r a b s) (ha : a < N) (hb : b < N) : CSt n N r a (b + 1) (relax1 (sp_bounds n) a b s) := by
  obtain ⟨ρ, τ, p⟩ := c.pr
  have W1 : ∀ a b, -3000 ≤ Wd n a b := fun a b => (dirL_bounds ok.low ok.high a b).1
  unfold relax1
  rw [bounds_gt hN ha hb]
  split
  · rename_i h
    have ib : inb s.2.1 (b : Int) := ⟨by omega, by rw [c.dl]; omega⟩
    have ibf : inb s.2.2 (b : Int) := ⟨by omega, by rw [c.fl]; omega⟩
    refine ⟨by simpa using c.dl, by simpa using c.fl, .inr ⟨by show (0 : Int) ≤ b; omega, by show (b : Int) < N; omega⟩, ?_⟩
    have := p.relax (D' := fun v => gt (s.2.1.set b (gt s.2.1 (a : Int) + Wd n a b)) (v : Int)) (f' := prd N (s.2.2.set b (a : Int))) W1 ha hb h.1 h.2.1 h.2.2 (fun j hj => ?_) (fun j hj => ?_) (fun j hj => ?_)
    · have e : ofI (b : Int) = some b := by unfold ofI; rw [if_neg (by omega)]; simp
      obtain ⟨ρ', τ', p'⟩ := this
      refine ⟨ρ', τ', ?_⟩
      show Pr N (Wd n) r a (b + 1) _ _ (ofI (b : Int)) ρ' τ'
      rw [e]; exact p'
    · have := gt_setI (x := gt s.2.1 (a : Int) + Wd n a b) ib (j := (j : Int)) (by omega)
      rw [Int.toNat_natCast] at this
      show gt _ _ = _
      rw [this]
      by_cases e : j = b
      · subst e; rw [if_pos rfl, if_pos rfl]
      · rw [if_neg (by omega), if_neg e]
    · unfold prd
      rw [if_pos hj, if_pos hj]
      have := gt_setI (x := (a : Int)) ibf (j := (j : Int)) (by omega)
      rw [Int.toNat_natCast] at this
      rw [this]
      by_cases e : j = b
      · subst e; rw [if_pos rfl, if_pos rfl]; unfold ofI; rw [if_neg (by omega)]; simp
      · rw [if_neg (by omega), if_neg e]
    · unfold prd; rw [if_neg (by omega)]
  · rename_i h
    exact ⟨c.dl, c.fl, c.ls, ρ, τ, p.skip h⟩
theorem CSt.row (ok : Okay n) (hN : n.events.toNat = N) (c : CSt n N r a 0 s) (ha : a < N) : ∀ b, b ≤ N → CSt n N r a b (rowK (sp_bounds n) a s b)
  | 0, _ => c
  | b + 1, h => (CSt.row ok hN c ha b (by omega)).relax ok hN ha (by omega)
theorem CSt.next (c : CSt n N r a N s) (hN : N ≤ 10) : CSt n N r (a + 1) 0 s := by
  obtain ⟨ρ, τ, p⟩ := c.pr
  exact ⟨c.dl, c.fl, c.ls, ρ, τ, p.next hN⟩
theorem CSt.rnd (ok : Okay n) (hN : n.events.toNat = N) (h10 : N ≤ 10) (c : CSt n N r 0 0 s) : ∀ a, a ≤ N → CSt n N r a 0 (rndK (sp_bounds n) N s a)
  | 0, _ => c
  | a + 1, h => ((CSt.rnd ok hN h10 c a (by omega)).row ok hN (by omega) N (Nat.le_refl _)).next h10
theorem CSt.start (c : CSt n N r N 0 s) (h10 : N ≤ 10) : CSt n N (r + 1) 0 0 (-1, s.2.1, s.2.2) := by
  obtain ⟨ρ, τ, p⟩ := c.pr
  exact ⟨c.dl, c.fl, .inl rfl, ρ, τ, p.round h10⟩
theorem rounds_first : CSt n N 1 0 0 (-1, (rounds (sp_bounds n) N 0).2.1, (rounds (sp_bounds n) N 0).2.2) := by
  have g : ∀ (x : Int) (v : Nat), v < N → gt (List.replicate N x) (v : Int) = x := fun x v hv => by
    rw [gt_of ⟨by omega, by simp; omega⟩]; simp
  refine ⟨by simp [rounds], by simp [rounds], .inl rfl, _, _, Pr.init (fun j hj => g 0 j hj) (fun j => ?_)⟩
  unfold prd
  split
  · rename_i hj
    rw [show (rounds (sp_bounds n) N 0).2.2 = List.replicate N (-1) from rfl, g (-1) j hj]; rfl
  · rfl
theorem rounds_start (ok : Okay n) (hN : n.events.toNat = N) (h10 : N ≤ 10) : ∀ r, CSt n N (r + 1) 0 0 (-1, (rounds (sp_bounds n) N r).2.1, (rounds (sp_bounds n) N r).2.2)
  | 0 => rounds_first
  | r + 1 => by
    have h := (rounds_start ok hN h10 r).rnd ok hN h10 N (Nat.le_refl _)
    exact h.start h10
theorem rounds_end (ok : Okay n) (hN : n.events.toNat = N) (h10 : N ≤ 10) (r : Nat) : CSt n N (r + 1) N 0 (rounds (sp_bounds n) N (r + 1)) := (rounds_start ok hN h10 r).rnd ok hN h10 N (Nat.le_refl _)
/-- the predecessors as numbers -/
theorem fromK_pre {f : List Int} {x : Nat} (h : ∀ k, pre (prd N f) x k < N ∧ prd N f (pre (prd N f) x k) ≠ none) : ∀ k, fromK f (x : Int) k = (pre (prd N f) x k : Int)
  | 0 => rfl
  | k + 1 => by
    obtain ⟨h1, h2⟩ := h k
    show gt f (fromK f x k) = _
    rw [fromK_pre h k]
    show _ = (((prd N f (pre (prd N f) x k)).getD 0 : Nat) : Int)
    obtain ⟨y, hy⟩ : ∃ y, pre (prd N f) x k = y := ⟨_, rfl⟩
    rw [hy] at h1 h2 ⊢
    unfold prd at h2 ⊢
    rw [if_pos h1] at h2 ⊢
    unfold ofI at h2 ⊢
    split at h2
    · exact absurd rfl h2
    · rename_i q; rw [if_neg q]; simp; omega
theorem backK_spec {f : List Int} {x : Int} (h : ∃ m, 1 ≤ m ∧ m ≤ N ∧ fromK f x m = x) : 1 ≤ backK f x N ∧ backK f x N ≤ N ∧ fromK f x (backK f x N) = x ∧ ∀ j, 1 ≤ j → j < backK f x N → fromK f x j ≠ x := by
  unfold backK
  cases hf : (List.range N).find? fun k => decide (fromK f x (k + 1) = x) with
  | none =>
    exfalso
    obtain ⟨m, m1, m2, m3⟩ := h
    rw [List.find?_eq_none] at hf
    have := hf (m - 1) (List.mem_range.2 (by omega))
    rw [show m - 1 + 1 = m by omega] at this
    simp [m3] at this
  | some k =>
    rw [List.find?_range_eq_some] at hf
    obtain ⟨h1, h2, h3⟩ := hf
    refine ⟨by simp, by have := List.mem_range.1 h2; simp; omega, by simpa using h1, fun j j1 j2 => ?_⟩
    have := h3 (j - 1) (by simp at j2; omega)
    rw [show j - 1 + 1 = j by omega] at this
    simpa using this
end
theorem fromK_add (f : List Int) (x : Int) (a : Nat) : ∀ b, fromK f x (a + b) = fromK f (fromK f x a) b
  | 0 => rfl
  | b + 1 => by
    show gt f (fromK f x (a + b)) = gt f (fromK f (fromK f x a) b)
    rw [fromK_add f x a b]
/-- what the search ends with -/
structure CEnd (n : Network) (N : Nat) (f : List Int) (x : Int) (m : Nat) : Prop where
  rng : ∀ k, 0 ≤ fromK f x k ∧ fromK f x k < N
  m2 : 2 ≤ m ∧ m ≤ N
  back : fromK f x m = x
  least : ∀ j, 1 ≤ j → j < m → fromK f x j ≠ x
  neg : ∃ s : Nat → Int, s 0 = 0 ∧ (∀ k, k < m → s (k + 1) = s k + dirL n.links (fromK f x (k + 1)) (fromK f x k)) ∧ s m < 0
theorem cyc_end {n : Network} (ok : Okay n) {N : Nat} (hN : n.events.toNat = N) (h0 : 1 ≤ N) (h10 : N ≤ 10) (h : ¬ (rounds (sp_bounds n) N N).1 < 0) : (∀ k, 0 ≤ fromK (rounds (sp_bounds n) N N).2.2 (rounds (sp_bounds n) N N).1 k ∧ fromK (rounds (sp_bounds n) N N).2.2 (rounds (sp_bounds n) N N).1 k < N) ∧
    CEnd n N (rounds (sp_bounds n) N N).2.2 (fromK (rounds (sp_bounds n) N N).2.2 (rounds (sp_bounds n) N N).1 N) (backK (rounds (sp_bounds n) N N).2.2 (fromK (rounds (sp_bounds n) N N).2.2 (rounds (sp_bounds n) N N).1 N) N) := by
  have c := rounds_end ok hN h10 (N - 1)
  rw [show N - 1 + 1 = N by omega] at c
  generalize rounds (sp_bounds n) N N = s at c h ⊢
  obtain ⟨ρ, τ, p⟩ := c.pr
  have hl : 0 ≤ s.1 ∧ s.1 < N := by rcases c.ls with q | q <;> omega
  obtain ⟨y, hy⟩ : ∃ y : Nat, s.1 = y := ⟨s.1.toNat, by omega⟩
  have eo : ofI s.1 = some y := by unfold ofI; rw [if_neg (by omega), hy]; simp
  rw [eo] at p
  obtain ⟨all, m, m1, m2, m3⟩ := p.cycle
  have fk := fromK_pre all
  rw [hy]
  have all2 : ∀ k, pre (prd N s.2.2) (pre (prd N s.2.2) y N) k < N ∧ prd N s.2.2 (pre (prd N s.2.2) (pre (prd N s.2.2) y N) k) ≠ none := fun k => by
    rw [← pre_add]; exact all _
  have fk2 := fromK_pre all2
  rw [← fk N] at fk2
  have hex : ∃ m, 1 ≤ m ∧ m ≤ N ∧ fromK s.2.2 (fromK s.2.2 (y : Int) N) m = fromK s.2.2 (y : Int) N := ⟨m, m1, m2, by rw [fk2 m, m3, fk N]⟩
  obtain ⟨b1, b2, b3, b4⟩ := backK_spec hex
  generalize backK s.2.2 (fromK s.2.2 (y : Int) N) N = mm at b1 b2 b3 b4
  have dia : ∀ i : Nat, Wd n i i = 0 := fun i => dirL_diag ok.ne i
  have hyk : ∀ k, k < mm → prd N s.2.2 (pre (prd N s.2.2) (pre (prd N s.2.2) y N) k) = some (pre (prd N s.2.2) (pre (prd N s.2.2) y N) (k + 1)) := fun k _ => by
    obtain ⟨i, hi⟩ := Option.ne_none_iff_exists'.1 (all2 k).2
    show _ = some ((prd N s.2.2 (pre (prd N s.2.2) (pre (prd N s.2.2) y N) k)).getD 0)
    rw [hi]; rfl
  have hcl : pre (prd N s.2.2) (pre (prd N s.2.2) y N) mm = pre (prd N s.2.2) (pre (prd N s.2.2) y N) 0 := by
    have q := b3
    rw [fk2 mm, fk N] at q
    show _ = pre (prd N s.2.2) y N
    omega
  refine ⟨fun k => by rw [fk k]; have := (all k).1; omega, ⟨fun k => by rw [fk2 k]; have := (all2 k).1; omega, ⟨?_, b2⟩, b3, b4, ?_⟩⟩
  · refine Nat.le_of_not_lt fun q => ?_
    have : mm = 1 := by omega
    subst this
    have e1 := hyk 0 (by omega)
    rw [hcl] at e1
    have := p.str _ _ e1 (Nat.le_refl _)
    rw [dia] at this
    omega
  · obtain ⟨t, t0, t1, t2⟩ := p.neg b1 hyk hcl
    refine ⟨t, t0, fun k hk => ?_, t2⟩
    rw [t1 k hk, fk2 k, fk2 (k + 1)]
    rfl
theorem ok_cycle : ∀ (n_ : Network), F_cycle n_ (fun r => r = sp_cycle n_) := fun n => by
  unfold F_cycle
  simp only [forall_eq, fault_ne, fault_eq]
  refine ⟨fun h => by rw [sp_cycle, if_neg h], fun hv => ?_⟩
  have v := valid_of hv
  have ok := v.okay
  have hev := v.ev
  obtain ⟨N, hN⟩ : ∃ N : Nat, n.events = N := ⟨n.events.toNat, by omega⟩
  have htn : n.events.toNat = N := by omega
  have h0 : 1 ≤ N := by omega
  have h10 : N ≤ 10 := by omega
  have W1 : ∀ a b, -3000 ≤ Wd n a b := fun a b => (dirL_bounds ok.low ok.high a b).1
  have W3 : ∀ a b, Wd n a b ≤ inf := fun a b => (dirL_bounds ok.low ok.high a b).2.1
  have sq : Sq N (sp_bounds n) := by rw [← htn]; exact mat_sq _ _
  rw [hN, Int.toNat_natCast]
  have er : sp_repeat [-1] (N : Int) = List.replicate N (-1) := by rw [sp_repeat, Int.toNat_natCast, repeat_one]
  rw [er]
  refine ⟨ok, ⟨by omega, by simp only [Int.toNat_natCast]; omega, by simp only [Int.toNat_natCast, maxLen]; omega⟩, ⟨rfl, by omega, by omega⟩, ?_⟩
  have hsp : sp_cycle n = if (rounds (sp_bounds n) N N).1 < 0 then ([], false, ⟨0, 0⟩) else (((List.range (backK (rounds (sp_bounds n) N N).2.2 (fromK (rounds (sp_bounds n) N N).2.2 (rounds (sp_bounds n) N N).1 N) N)).map fun k => fromK (rounds (sp_bounds n) N N).2.2 (fromK (rounds (sp_bounds n) N N).2.2 (rounds (sp_bounds n) N N).1 N) k).reverse, true, ⟨0, 0⟩) := by
    rw [sp_cycle, if_pos hv, htn]
  generalize hK : (fun r => r = sp_cycle n) = K
  refine ⟨fun last t dist fr => ∃ r : Nat, t = r ∧ r ≤ N ∧ (last, dist, fr) = rounds (sp_bounds n) N r, fun _ t _ _ => (N - t).toNat, ⟨0, rfl, Nat.zero_le _, rfl⟩, ?_⟩
  rintro last _ dist fr ⟨r, rfl, r1, hst⟩
  unfold F_cycle_L1
  simp only [hN, decide_eq_true_eq, decide_eq_false_iff_not]
  refine ⟨fun h => ?_, fun h => ⟨fun hl => ?_, fun hl => ?_⟩⟩
  · have st0 := rounds_start ok htn h10 r
    rw [← hst] at st0
    refine ⟨fun last3 t dist3 fr3 => ∃ a : Nat, t = a ∧ a ≤ N ∧ (last3, dist3, fr3) = rndK (sp_bounds n) N (-1, dist, fr) a, fun _ t _ _ => (N - t).toNat, ⟨0, rfl, Nat.zero_le _, rfl⟩, ?_⟩
    rintro last3 _ dist3 fr3 ⟨a, rfl, a1, ha⟩
    unfold F_cycle_L2
    simp only [sq.len, decide_eq_true_eq, decide_eq_false_iff_not]
    refine ⟨fun g => ?_, fun g => ?_⟩
    · have haN : a < N := by omega
      have st1 := st0.rnd ok htn h10 a a1
      rw [← ha] at st1
      refine ⟨fun last5 t dist5 fr5 => ∃ b : Nat, t = b ∧ b ≤ N ∧ (last5, dist5, fr5) = rowK (sp_bounds n) a (last3, dist3, fr3) b, fun _ t _ _ => (N - t).toNat, ⟨0, rfl, Nat.zero_le _, rfl⟩, ?_⟩
      rintro last5 _ dist5 fr5 ⟨b, rfl, b1, hb⟩
      unfold F_cycle_L3
      simp only [sq.len, decide_eq_true_eq, decide_eq_false_iff_not, bne_iff_ne, ne_eq, bne_eq_false_iff_eq]
      refine ⟨fun f => ?_, fun f => ?_⟩
      · have hbN : b < N := by omega
        have st2 := st1.row ok htn haN b b1
        rw [← hb] at st2
        have da := st2.range haN
        have db := st2.range hbN
        have ia : inb dist5 (a : Int) := ⟨by omega, by rw [st2.dl]; omega⟩
        have ib : inb dist5 (b : Int) := ⟨by omega, by rw [st2.dl]; omega⟩
        have ifb : inb fr5 (b : Int) := ⟨by omega, by rw [st2.fl]; omega⟩
        have w := bounds_gt htn haN hbN
        have w1 := W1 a b
        have w3 := W3 a b
        simp only [inf] at w3
        have hr10 : r ≤ 10 := by omega
        have e1 := w64 (n := (b : Int) + 1) (by omega)
        have mu : ((N : Int) - ((b : Int) + 1)).toNat < ((N : Int) - (b : Int)).toNat := by omega
        have no : ¬ (a ≠ b ∧ gt (gt (sp_bounds n) (a : Int)) (b : Int) < 1000000000 ∧ gt dist5 (a : Int) + gt (gt (sp_bounds n) (a : Int)) (b : Int) < gt dist5 (b : Int)) → F_cycle_J2 (sp_bounds n) false b (fun last5 t dist5 fr5 => ∃ b : Nat, t = b ∧ b ≤ N ∧ (last5, dist5, fr5) = rowK (sp_bounds n) a (last3, dist3, fr3) b) (fun _ t _ _ => (N - t).toNat) a last5 dist5 fr5 := fun q => by
          unfold F_cycle_J2 F_cycle_J1
          rw [e1]
          refine ⟨fun x => (by cases x), fun _ => ⟨⟨b + 1, by omega, by omega, ?_⟩, mu⟩⟩
          show _ = relax1 (sp_bounds n) a b (rowK (sp_bounds n) a (last3, dist3, fr3) b)
          rw [← hb, relax1, if_neg q]
        refine ⟨fun hne => ⟨sq.inb haN, sq.inb2 haN hbN, fun hw => ⟨ia, ib, ?_⟩, fun hw => no (fun q => hw q.2.1)⟩, fun hne => no (fun q => q.1 (by omega))⟩
        intro x hx
        rw [w] at hw
        have da2 : -3000 * (((r + 1) * 100 + a * 10 + b : Nat) : Int) ≤ gt dist5 (a : Int) ∧ gt dist5 (a : Int) ≤ 0 := da
        rw [w, w64 (n := gt dist5 (a : Int) + Wd n a b) (by omega)] at hx
        by_cases q : gt dist5 (a : Int) + Wd n a b < gt dist5 (b : Int)
        · have hx' : x = true := by rw [hx]; simpa using q
          subst hx'
          unfold F_cycle_J2 F_cycle_J1
          refine ⟨fun _ => ⟨ia, sq.inb haN, sq.inb2 haN hbN, ib, ?_⟩, fun x => (by cases x)⟩
          intro d hd
          rw [w, w64 (n := gt dist5 (a : Int) + Wd n a b) (by omega)] at hd
          refine ⟨ifb, ?_⟩
          intro d2 hd2
          rw [e1]
          refine ⟨⟨b + 1, by omega, by omega, ?_⟩, mu⟩
          show _ = relax1 (sp_bounds n) a b (rowK (sp_bounds n) a (last3, dist3, fr3) b)
          rw [← hb, relax1, if_pos ⟨by omega, by rw [w]; exact hw, by rw [w]; exact q⟩, hd, hd2, w]
          simp
        · have hx' : x = false := by rw [hx]; simpa using q
          subst hx'
          exact no (fun z => q (by rw [← w]; exact z.2.2))
      · have hbN : b = N := by omega
        subst hbN
        rw [w64 (by omega)]
        refine ⟨⟨a + 1, by omega, by omega, ?_⟩, show ((b : Int) - ((a : Int) + 1)).toNat < ((b : Int) - (a : Int)).toNat by omega⟩
        show _ = rowK (sp_bounds n) a (rndK (sp_bounds n) b (-1, dist, fr) a) b
        rw [← ha]; exact hb
    · have haN : a = N := by omega
      subst haN
      rw [w64 (by omega)]
      refine ⟨⟨r + 1, by omega, by omega, ?_⟩, show ((a : Int) - ((r : Int) + 1)).toNat < ((a : Int) - (r : Int)).toNat by omega⟩
      show _ = rndK (sp_bounds n) a (-1, (rounds (sp_bounds n) a r).2.1, (rounds (sp_bounds n) a r).2.2) a
      rw [← hst]; exact ha
  · have hr : r = N := by omega
    subst hr
    rw [← hK, hsp, ← hst, if_pos hl]
  · have hr : r = N := by omega
    subst hr
    have hl' : ¬ (rounds (sp_bounds n) r r).1 < 0 := by rw [← hst]; exact hl
    obtain ⟨rg, ce⟩ := cyc_end ok htn h0 h10 hl'
    have fl := (rounds_end ok htn h10 (r - 1)).fl
    rw [show r - 1 + 1 = r by omega] at fl
    rw [if_neg hl'] at hsp
    rw [← hst] at rg ce hsp fl
    refine ⟨fun x t => ∃ k : Nat, t = k ∧ k ≤ r ∧ x = fromK fr last k, fun _ t => (r - t).toNat, ⟨0, rfl, Nat.zero_le _, rfl⟩, ?_⟩
    rintro x _ ⟨k, rfl, k1, rfl⟩
    unfold F_cycle_L4
    simp only [hN, decide_eq_true_eq, decide_eq_false_iff_not]
    have ik : ∀ k, inb fr (fromK fr last k) := fun k => ⟨(rg k).1, by have := (rg k).2; rw [show fr.length = r from fl]; exact this⟩
    refine ⟨fun g => ⟨ik k, ?_⟩, fun g => ⟨ik k, ?_⟩⟩
    · rw [w64 (by omega)]
      exact ⟨⟨k + 1, by omega, by omega, rfl⟩, show ((r : Int) - ((k : Int) + 1)).toNat < ((r : Int) - (k : Int)).toNat by omega⟩
    · have hk : k = r := by omega
      subst hk
      obtain ⟨x, hx⟩ : ∃ x, fromK fr last k = x := ⟨_, rfl⟩
      rw [hx]
      replace ce : CEnd n k fr (fromK fr last k) (backK fr (fromK fr last k) k) := ce
      replace hsp : sp_cycle n = (((List.range (backK fr (fromK fr last k) k)).map fun j => fromK fr (fromK fr last k) j).reverse, true, ⟨0, 0⟩) := hsp
      rw [hx] at ce hsp
      generalize backK fr x k = m at ce hsp
      have im : ∀ j, inb fr (fromK fr x j) := fun j => ⟨(ce.rng j).1, by have := (ce.rng j).2; rw [show fr.length = k from fl]; exact this⟩
      refine ⟨fun e out => ∃ j : Nat, j < m ∧ e = fromK fr x (j + 1) ∧ out = (List.range (j + 1)).map fun i => fromK fr x i, fun _ out => m + 1 - out.length, ⟨0, by have := ce.m2; omega, rfl, rfl⟩, ?_⟩
      rintro _ _ ⟨j, j1, rfl, rfl⟩
      unfold F_cycle_L5
      simp only [bne_iff_ne, ne_eq, bne_eq_false_iff_eq, forall_eq]
      have m2 := ce.m2
      refine ⟨fun g => ?_, fun g => ⟨?_, ?_⟩⟩
      · have hj : j + 1 < m := by
          refine Nat.lt_of_le_of_ne j1 fun q => g ?_
          rw [show j + 1 = m from q]; exact ce.back
        refine ⟨⟨by simp only [List.length_append, List.length_map, List.length_range, List.length_singleton, maxLen]; omega, by simp only [List.length_append, List.length_map, List.length_range, List.length_singleton]; omega⟩, im _, ⟨j + 1, hj, rfl, ?_⟩, ?_⟩
        · rw [List.range_succ (n := j + 1), List.map_append]; rfl
        · simp only [List.length_append, List.length_map, List.length_range, List.length_singleton]; omega
      · show _ ≤ 1000
        simp; omega
      · have hj : j + 1 = m := by
          refine Nat.le_antisymm j1 (Nat.le_of_not_lt fun q => ?_)
          exact ce.least (j + 1) (by omega) q g
        rw [← hK, hj]
        exact hsp.symm
theorem tight_sched {n : Network} (v : Valid n) {D : Nat → Nat → Int} (t : Tight n.events.toNat (Wd n) D) (e : sp_minimal n = (mat n.events.toNat D, true, ⟨0, 0⟩)) (hv : sp_validate n = ⟨0, 0⟩) : sp_respects n (sp_earliest n).1 = (true, ⟨0, 0⟩) := by
  have hev := v.ev
  have ok := v.okay
  obtain ⟨f1, f2, f3⟩ := earliest_at e (by omega)
  have tl : ∀ x, x < n.events.toNat → -30000 ≤ D x 0 ∧ D x 0 ≤ 0 := fun x hx => by
    have up : D x 0 ≤ 0 := by
      by_cases c : x = 0
      · subst c; exact Int.le_of_eq (t.diag hx)
      · have w0 : Wd n x 0 ≤ 0 := by
          refine Int.le_trans (foldl_dir_le _ _ _ _) ?_
          rw [if_pos (.inr rfl)]; exact Int.le_refl _
        have := t.lo x 0 [0] (.cons hx (by simp only [inf]; omega) (.nil (by omega)))
        simp only [wt] at this; omega
    exact ⟨t.low v hx (by omega), up⟩
  have fe : ∀ i j, i < n.events.toNat → j < n.events.toNat → Wd n i j < inf → D i 0 ≤ Wd n i j + D j 0 := fun i j hi hj hw => by
    have h1 := tl j hj
    obtain ⟨r, w, he⟩ := t.re j 0 hj (by omega) (by simp only [inf]; omega)
    have := t.lo i 0 (j :: r) (.cons hi hw w)
    simp only [wt] at this ⊢
    rw [he] at this; exact this
  have rg : ∀ x ∈ (sp_earliest n).1, 0 ≤ x ∧ x ≤ 30000 := fun x hx => by
    obtain ⟨i, hi, rfl⟩ := mem_gt hx
    have := tl i (by omega)
    rw [f3 i (by omega)]; omega
  have tf := timesFault_ok (sp_earliest n).1 0 fun x hx => by have := rg x hx; omega
  rw [sp_respects, if_pos hv, if_pos (by rw [f2]; omega), if_pos tf]
  have z : gt (sp_earliest n).1 0 = 0 := by
    have := f3 0 (by omega)
    rw [t.diag (by omega)] at this
    exact this
  have nn : ((sp_earliest n).1.all fun t => decide (0 ≤ t)) = true := by
    rw [List.all_eq_true]; intro x hx; simpa using (rg x hx).1
  have lk : (n.links.any fun l => sp_fits1 l (sp_earliest n).1) = false := by
    rw [List.any_eq_false]
    intro l hl
    unfold sp_fits1
    simp only [decide_eq_true_eq]
    have hsrc := ok.src l hl
    have hdst := ok.dst l hl
    have d1 := dirL_link hl
    have b1 := ok.high l hl
    have b2 := ok.low l hl
    have q1 : ((l.src.toNat : Nat) : Int) = l.src := by omega
    have q2 : ((l.dst.toNat : Nat) : Int) = l.dst := by omega
    have w1 : Wd n l.src.toNat l.dst.toNat = dirL n.links l.src l.dst := by unfold Wd; rw [q1, q2]
    have w2 : Wd n l.dst.toNat l.src.toNat = dirL n.links l.dst l.src := by unfold Wd; rw [q1, q2]
    have g1 := fe l.src.toNat l.dst.toNat (by omega) (by omega) (by rw [w1]; simp only [inf]; omega)
    have g2 := fe l.dst.toNat l.src.toNat (by omega) (by omega) (by rw [w2]; simp only [inf]; omega)
    have a1 := f3 l.src.toNat (by omega)
    have a2 := f3 l.dst.toNat (by omega)
    rw [q1] at a1
    rw [q2] at a2
    rw [w1] at g1
    rw [w2] at g2
    rw [a1, a2]
    omega
  rw [sp_fits, z, nn, lk]; rfl
theorem cycle_law {n : Network} (hv : sp_validate n = ⟨0, 0⟩) {N : Nat} (hN : n.events.toNat = N) {f : List Int} {x : Int} {m : Nat} (ce : CEnd n N f x m) : ((List.range m).map fun k => fromK f x k).reverse.Nodup ∧ ((List.range m).map fun k => fromK f x k).reverse.length = m ∧ sp_negative n ((List.range m).map fun k => fromK f x k).reverse = (true, ⟨0, 0⟩) ∧ Neg N (Wd n) := by
  have v := valid_of hv
  have hev := v.ev
  have h10 : N ≤ 10 := by omega
  obtain ⟨m2, mN⟩ := ce.m2
  have nd : ((List.range m).map fun k => fromK f x k).Nodup := by
    rw [List.nodup_iff_pairwise_ne, List.pairwise_map]
    refine List.Pairwise.imp_of_mem ?_ (List.pairwise_lt_range (n := m))
    intro a b _ hb hab e
    have hb' := List.mem_range.1 hb
    have : fromK f x (m - b + a) = x := by
      have q := fromK_add f x b (m - b)
      rw [show b + (m - b) = m by omega, ce.back, ← e, ← fromK_add, show a + (m - b) = m - b + a by omega] at q
      exact q.symm
    exact ce.least (m - b + a) (by omega) (by omega) this
  have ll : ((List.range m).map fun k => fromK f x k).reverse.length = m := by simp
  have at_ : ∀ t : Nat, t < m → gt ((List.range m).map fun k => fromK f x k).reverse (t : Int) = fromK f x (m - 1 - t) := fun t ht => by
    rw [gt_of ⟨by omega, by rw [ll]; omega⟩]
    simp [List.getElem_reverse]
  have nx : ∀ t : Nat, t < m → cycNext ((List.range m).map fun k => fromK f x k).reverse t = fromK f x (m - 1 - ((t + 1) % m)) := fun t ht => by
    unfold cycNext
    rw [ll]
    by_cases c : t + 1 < m
    · rw [if_pos (by omega), show (t : Int) + 1 = ((t + 1 : Nat) : Int) by omega, at_ _ c, Nat.mod_eq_of_lt c]
    · have : t + 1 = m := by omega
      rw [if_neg (by omega), show (0 : Int) = ((0 : Nat) : Int) from rfl, at_ 0 (by omega), this, Nat.mod_self]
  obtain ⟨s, s0, s1, s2⟩ := ce.neg
  -- the sum from the last step back
  have sum : ∀ t : Nat, t < m → cycSum n ((List.range m).map fun k => fromK f x k).reverse t = s (m - 1) - s (m - 1 - t) := fun t => by
    induction t with
    | zero => intro _; simp [cycSum]
    | succ t ih =>
      intro ht
      have h1 := s1 (m - 1 - (t + 1)) (by omega)
      rw [show m - 1 - (t + 1) + 1 = m - 1 - t by omega] at h1
      show cycSum n _ t + dirL n.links (gt _ t) (cycNext _ t) = _
      rw [ih (by omega), at_ t (by omega), nx t (by omega), Nat.mod_eq_of_lt ht, h1]
      omega
  have tot : cycSum n ((List.range m).map fun k => fromK f x k).reverse m = s m := by
    obtain ⟨q, rfl⟩ : ∃ q, m = q + 1 := ⟨m - 1, by omega⟩
    have h1 := sum q (by omega)
    have h2 := s1 q (by omega)
    show cycSum n _ q + dirL n.links (gt _ q) (cycNext _ q) = _
    rw [h1, at_ q (by omega), nx q (by omega), Nat.mod_self, show q + 1 - 1 - q = 0 by omega, show q + 1 - 1 - 0 = q by omega, s0]
    have e0 : fromK f x 0 = fromK f x (q + 1) := by rw [ce.back]; rfl
    rw [e0]
    rw [show q + 1 - 1 = q by omega]
    omega
  have ef : evFault n.events ((List.range m).map fun k => fromK f x k).reverse 0 = ⟨0, 0⟩ := by
    have : ∀ (ts : List Int) (i : Int), (∀ t ∈ ts, 0 ≤ t ∧ t < n.events) → evFault n.events ts i = ⟨0, 0⟩ := by
      intro ts
      induction ts with
      | nil => intro _ _; rfl
      | cons y r ih =>
        intro i h
        have := h y List.mem_cons_self
        rw [evFault_cons, if_neg (by omega)]
        exact ih _ fun z hz => h z (List.mem_cons_of_mem _ hz)
    refine this _ _ fun t ht => ?_
    obtain ⟨k, _, rfl⟩ := List.mem_map.1 (List.mem_reverse.1 ht)
    have := ce.rng k
    omega
  refine ⟨by rw [List.nodup_iff_pairwise_ne, List.pairwise_reverse]; exact (List.nodup_iff_pairwise_ne.1 nd).imp fun h => h.symm, ll, ?_, ?_⟩
  · rw [sp_negative, if_pos hv, if_pos (by rw [ll]; omega), if_pos ef, ll, tot, decide_eq_true s2]
  · -- the way along the events, from the last one
    have way : ∀ k, k ≤ m → ∃ r, Way N (Wd n) (fromK f x k).toNat x.toNat r ∧ wt (Wd n) ((fromK f x k).toNat :: r) = s k := by
      intro k
      induction k with
      | zero =>
        intro _
        have := ce.rng 0
        exact ⟨[], .nil (by omega), by simp [wt, s0]⟩
      | succ k ih =>
        intro hk
        obtain ⟨r, w, hw⟩ := ih (by omega)
        have a1 := ce.rng (k + 1)
        have a2 := ce.rng k
        have q1 : (((fromK f x (k + 1)).toNat : Nat) : Int) = fromK f x (k + 1) := by omega
        have q2 : (((fromK f x k).toNat : Nat) : Int) = fromK f x k := by omega
        have ed : Wd n (fromK f x (k + 1)).toNat (fromK f x k).toNat = dirL n.links (fromK f x (k + 1)) (fromK f x k) := by unfold Wd; rw [q1, q2]
        have fin : Wd n (fromK f x (k + 1)).toNat (fromK f x k).toNat < inf := by
          have := (dirL_bounds v.okay.low v.okay.high (fromK f x (k + 1)) (fromK f x k))
          rcases Int.lt_or_eq_of_le this.2.1 with q | q
          · rw [ed]; exact q
          · exfalso
            -- one step that is not there makes the whole sum great
            have low : ∀ j, j ≤ m → -3000 * (j : Int) ≤ s j := by
              intro j
              induction j with
              | zero => intro _; rw [s0]; omega
              | succ j ih =>
                intro hj
                have := ih (by omega)
                have h2 := (dirL_bounds v.okay.low v.okay.high (fromK f x (j + 1)) (fromK f x j)).1
                rw [s1 j (by omega)]; omega
            have up : ∀ j, k + 1 + j ≤ m → s (k + 1) - 3000 * (j : Int) ≤ s (k + 1 + j) := by
              intro j
              induction j with
              | zero => intro _; simp
              | succ j ih =>
                intro hj
                have := ih (by omega)
                have h2 := (dirL_bounds v.okay.low v.okay.high (fromK f x (k + 1 + j + 1)) (fromK f x (k + 1 + j))).1
                rw [show k + 1 + (j + 1) = k + 1 + j + 1 by omega, s1 (k + 1 + j) (by omega)]; omega
            have h1 := low k (by omega)
            have h2 := s1 k (by omega)
            have h3 := up (m - (k + 1)) (by omega)
            rw [show k + 1 + (m - (k + 1)) = m by omega] at h3
            rw [q] at h2
            simp only [inf] at h2
            omega
        refine ⟨_, .cons (by omega) fin w, ?_⟩
        simp only [wt]
        rw [hw, ed, s1 k (by omega)]; omega
    obtain ⟨r, w, hw⟩ := way m (Nat.le_refl _)
    rw [ce.back] at w hw
    exact ⟨x.toNat, r, w, by rw [hw]; exact s2⟩
theorem ok_lawConsistentOrCycle : ∀ (n_ : Network), F_lawConsistentOrCycle n_ (fun r => r = sp_lawConsistentOrCycle n_) := fun n => by
  unfold F_lawConsistentOrCycle sp_lawConsistentOrCycle
  intro r2 hr2 r3 hr3
  subst hr2; subst hr3
  by_cases hv : sp_validate n = ⟨0, 0⟩
  · have v := valid_of hv
    have ok := v.okay
    have hev := v.ev
    have he : sp_minimal n = ((sp_tighten n).1, (sp_tighten n).2, ⟨0, 0⟩) := by rw [sp_minimal, if_pos hv]
    have m3 : (sp_earliest n).2.2 = ⟨0, 0⟩ := by
      unfold sp_earliest; split <;> rw [he]
    have c3 : (sp_cycle n).2.2 = ⟨0, 0⟩ := by
      rw [sp_cycle, if_pos hv]; dsimp only; split <;> rfl
    rw [m3]
    refine ⟨fun h => (by cases h), fun _ => ?_⟩
    rw [c3]
    unfold F_lawConsistentOrCycle_J1
    refine ⟨fun h => (by cases h), fun _ => ?_⟩
    have rel := tighten_rel ok
    by_cases hl : (rounds (sp_bounds n) n.events.toNat n.events.toNat).1 < 0
    · have ec : sp_cycle n = ([], false, ⟨0, 0⟩) := by rw [sp_cycle, if_pos hv]; exact if_pos hl
      have c := rounds_end ok rfl (by omega) (n.events.toNat - 1)
      rw [show n.events.toNat - 1 + 1 = n.events.toNat by omega] at c
      obtain ⟨ρ, τ, p⟩ := c.pr
      have eo : ofI (rounds (sp_bounds n) n.events.toNat n.events.toNat).1 = none := by unfold ofI; rw [if_pos hl]
      rw [eo] at p
      have nn := (p.feasible fun i _ => dirL_diag ok.ne i).notNeg
      rcases rel with ⟨D, t, e⟩ | ⟨h, _⟩
      · have e1 : sp_minimal n = (mat n.events.toNat D, true, ⟨0, 0⟩) := by rw [he, e]
        have f1 := (earliest_at e1 (by omega)).1
        have rs := tight_sched v t e1 hv
        have o1 : (sp_earliest n).2.1 = true := by rw [f1]
        rw [ec, o1]
        refine ⟨fun h => (by cases h), fun _ => ⟨fun _ => ?_, fun h => (by cases h)⟩⟩
        rw [rs]
        simp [sp_bounded]
      · exact absurd h nn
    · obtain ⟨_, ce⟩ := cyc_end ok rfl (by omega) (by omega) hl
      obtain ⟨l1, l2, l3, l4⟩ := cycle_law hv rfl ce
      have ec : sp_cycle n = (((List.range (backK (rounds (sp_bounds n) n.events.toNat n.events.toNat).2.2 (fromK (rounds (sp_bounds n) n.events.toNat n.events.toNat).2.2 (rounds (sp_bounds n) n.events.toNat n.events.toNat).1 n.events.toNat) n.events.toNat)).map fun k => fromK (rounds (sp_bounds n) n.events.toNat n.events.toNat).2.2 (fromK (rounds (sp_bounds n) n.events.toNat n.events.toNat).2.2 (rounds (sp_bounds n) n.events.toNat n.events.toNat).1 n.events.toNat) k).reverse, true, ⟨0, 0⟩) := by rw [sp_cycle, if_pos hv]; exact if_neg hl
      have m2 := ce.m2
      generalize ((List.range (backK (rounds (sp_bounds n) n.events.toNat n.events.toNat).2.2 (fromK (rounds (sp_bounds n) n.events.toNat n.events.toNat).2.2 (rounds (sp_bounds n) n.events.toNat n.events.toNat).1 n.events.toNat) n.events.toNat)).map fun k => fromK (rounds (sp_bounds n) n.events.toNat n.events.toNat).2.2 (fromK (rounds (sp_bounds n) n.events.toNat n.events.toNat).2.2 (rounds (sp_bounds n) n.events.toNat n.events.toNat).1 n.events.toNat) k).reverse = cyc at l1 l2 l3 ec
      rcases rel with ⟨D, t, e⟩ | ⟨_, e⟩
      · exact absurd l4 t.notNeg
      · have f1 : (sp_earliest n).2.1 = false := by
          rw [sp_earliest, if_neg (by rw [he, e]; simp)]
        rw [f1, ec]
        refine ⟨fun h => (by cases h), fun _ => ⟨fun h => (by cases h), fun _ => ?_⟩⟩
        refine ⟨fun t => ∃ k : Nat, t = k ∧ k ≤ cyc.length, fun t => (cyc.length - t).toNat, ⟨0, rfl, Nat.zero_le _⟩, ?_⟩
        rintro _ ⟨k, rfl, k1⟩
        unfold F_lawConsistentOrCycle_L1
        simp only [forall_eq, decide_eq_true_eq, decide_eq_false_iff_not]
        refine ⟨fun g => ⟨⟨by omega, by omega⟩, ⟨by omega, g⟩, ?_, fun q => ?_, fun q => ?_⟩, fun g => ?_⟩
        · show _ ≤ 1000
          rw [List.length_take]; omega
        · exfalso
          simp only [sp_has, Int.toNat_natCast, decide_eq_true_eq] at q
          have hk : k < cyc.length := by omega
          have et := takeN_gt hk
          have nd : (cyc.take (k + 1)).Nodup := List.Nodup.sublist (List.take_sublist _ _) l1
          rw [et] at nd
          exact (List.nodup_append.1 nd).2.2 _ q _ (List.mem_singleton.2 rfl) rfl
        · rw [w64 (by omega)]
          exact ⟨⟨k + 1, by omega, by omega⟩, by omega⟩
        · rw [l3]
          simp [sp_bounded]
  · have e1 : sp_minimal n = ([], false, sp_validate n) := by rw [sp_minimal, if_neg hv]
    have e2 : sp_earliest n = ([], false, sp_validate n) := by rw [sp_earliest, if_neg (by rw [e1]; simp), e1]
    have e3 : sp_cycle n = ([], false, sp_validate n) := by rw [sp_cycle, if_neg hv]
    have hc := validate_ne hv
    rw [e2, e3]
    refine ⟨fun _ => ?_, fun h => absurd (by simpa using h) hc⟩
    unfold F_lawConsistentOrCycle_J1
    refine ⟨fun _ => ⟨fun _ r4 h4 => h4, fun h => ?_⟩, fun h => (by cases h)⟩
    have := fault_beq (sp_validate n)
    rw [this] at h; cases h
end Go.Proofs.Ytijicdmpidbacaa.Pl
