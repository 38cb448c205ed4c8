/- Times that suit all durations: when there are any, and the earliest ones. Plain Lean. No condition. -/
import Derived.Test.YtkcamohhjaibaaaOk14
namespace Go.Proofs.Ytkcamohhjaibaaa.Pl
open Go Go.RowKit
theorem foldl_dir_le (i j : Int) : ∀ (ls : List Link) (d : Int), ls.foldl (dirStep i j) d ≤ d
  | [], d => Int.le_refl d
  | l :: r, d => Int.le_trans (foldl_dir_le i j r _) (dirStep_le i j d l)
theorem dirL_link {ls : List Link} {l : Link} (hl : l ∈ ls) : dirL ls l.src l.dst ≤ l.high ∧ dirL ls l.dst l.src ≤ -l.low := by
  have key : ∀ (i j x : Int), (∀ d, dirStep i j d l ≤ x) → ∀ (ls : List Link) (d : Int), l ∈ ls → ls.foldl (dirStep i j) d ≤ x := by
    intro i j x hx ls
    induction ls with
    | nil => intro _ h; cases h
    | cons k r ih =>
      intro d h
      rcases List.mem_cons.1 h with rfl | h
      · exact Int.le_trans (foldl_dir_le i j r _) (hx d)
      · exact ih _ h
  refine ⟨key _ _ _ (fun d => ?_) ls _ hl, key _ _ _ (fun d => ?_) ls _ hl⟩
  · unfold dirStep; simp only [and_self, if_true]; split <;> omega
  · unfold dirStep; simp only [and_self, if_true]; split <;> omega
theorem dirL_feas {ls : List Link} {T : Int → Int} (h0 : T 0 = 0) {i j : Int} (hi : 0 ≤ T i) (hl : ∀ l ∈ ls, l.low ≤ T l.dst - T l.src ∧ T l.dst - T l.src ≤ l.high) (h : dirL ls i j < inf) : T j - T i ≤ dirL ls i j := by
  have key : ∀ (ls : List Link), (∀ l ∈ ls, l.low ≤ T l.dst - T l.src ∧ T l.dst - T l.src ≤ l.high) → ∀ d : Int, (d < inf → T j - T i ≤ d) → ls.foldl (dirStep i j) d < inf → T j - T i ≤ ls.foldl (dirStep i j) d := by
    intro ls
    induction ls with
    | nil => intro _ d h h2; exact h h2
    | cons l r ih =>
      intro hl d h h2
      refine ih (fun l hl' => hl l (List.mem_cons_of_mem _ hl')) _ (fun h3 => ?_) h2
      have := hl l List.mem_cons_self
      unfold dirStep at h3 ⊢
      simp only at h3 ⊢
      have e1 : l.src = i → l.dst = j → T j - T i ≤ l.high := fun a b => by rw [a, b] at this; exact this.2
      have e2 : l.src = j → l.dst = i → T j - T i ≤ -l.low := fun a b => by rw [a, b] at this; omega
      split at h3
      · rename_i c
        rw [if_pos c]
        have := e2 c.1 c.2
        split at h3
        · rename_i c'; rw [if_pos c']; have := e1 c'.1 c'.2; omega
        · rename_i c'; rw [if_neg c']; omega
      · rename_i c
        rw [if_neg c]
        split at h3
        · rename_i c'; rw [if_pos c']; have := e1 c'.1 c'.2; omega
        · rename_i c'; rw [if_neg c']; exact h h3
  refine key ls hl _ (fun h3 => ?_) h
  split at h3
  · rename_i c
    rw [if_pos c]
    rcases c with rfl | rfl
    · omega
    · rw [h0]; omega
  · simp only [inf] at h3; omega
/-- times that suit all durations -/
structure Sat (u : Uncertain) (T : Int → Int) : Prop where
  zero : T 0 = 0
  nn : ∀ e, 0 ≤ e → e < u.network.events → 0 ≤ T e
  lk : ∀ l ∈ u.network.links, lowOf u l ≤ T (place u l.dst).base - T (place u l.src).base ∧ T (place u l.dst).base - T (place u l.src).base ≤ highOf u l
def mkL (u : Uncertain) (l : Link) : Link := ⟨(place u l.src).base, (place u l.dst).base, lowOf u l, highOf u l⟩
theorem strongL_ok (u : Uncertain) : ∀ (ls acc : List Link), (strongL u ls acc).2 = true → (strongL u ls acc).1 = acc ++ (ls.filter fun l => decide ((place u l.src).base ≠ (place u l.dst).base)).map (mkL u) ∧ ∀ l ∈ ls, (place u l.src).base = (place u l.dst).base → lowOf u l ≤ 0 ∧ 0 ≤ highOf u l
  | [], acc, _ => ⟨by simp [strongL], fun l h => by cases h⟩
  | l :: r, acc, h => by
    unfold strongL at h ⊢
    by_cases c : (place u l.src).base = (place u l.dst).base
    · rw [if_pos c] at h ⊢
      by_cases q : 0 < lowOf u l ∨ highOf u l < 0
      · rw [if_pos q] at h; cases h
      · rw [if_neg q] at h ⊢
        obtain ⟨g1, g2⟩ := strongL_ok u r acc h
        refine ⟨by rw [g1]; simp [c], fun k hk hc => ?_⟩
        rcases List.mem_cons.1 hk with rfl | hk
        · omega
        · exact g2 k hk hc
    · rw [if_neg c] at h ⊢
      by_cases q : highOf u l < lowOf u l
      · rw [if_pos q] at h; cases h
      · rw [if_neg q] at h ⊢
        obtain ⟨g1, g2⟩ := strongL_ok u r _ h
        refine ⟨by rw [g1]; simp [c, mkL], fun k hk hc => ?_⟩
        rcases List.mem_cons.1 hk with rfl | hk
        · exact absurd hc c
        · exact g2 k hk hc
theorem strongL_bad (u : Uncertain) : ∀ (ls acc : List Link), (strongL u ls acc).2 = false → ∃ l ∈ ls, ((place u l.src).base = (place u l.dst).base ∧ (0 < lowOf u l ∨ highOf u l < 0)) ∨ highOf u l < lowOf u l
  | [], acc, h => by cases h
  | l :: r, acc, h => by
    unfold strongL at h
    by_cases c : (place u l.src).base = (place u l.dst).base
    · rw [if_pos c] at h
      by_cases q : 0 < lowOf u l ∨ highOf u l < 0
      · exact ⟨l, List.mem_cons_self, .inl ⟨c, q⟩⟩
      · rw [if_neg q] at h
        obtain ⟨k, hk, g⟩ := strongL_bad u r _ h
        exact ⟨k, List.mem_cons_of_mem _ hk, g⟩
    · rw [if_neg c] at h
      by_cases q : highOf u l < lowOf u l
      · exact ⟨l, List.mem_cons_self, .inr q⟩
      · rw [if_neg q] at h
        obtain ⟨k, hk, g⟩ := strongL_bad u r _ h
        exact ⟨k, List.mem_cons_of_mem _ hk, g⟩
theorem low_high_range {u : Uncertain} (uv : UV u) {l : Link} (hl : l ∈ u.network.links) : (-3000 ≤ lowOf u l ∧ lowOf u l ≤ 3000) ∧ (-3000 ≤ highOf u l ∧ highOf u l ≤ 3000) := by
  have s1 := place_range uv (uv.v.okay.src _ hl)
  have s2 := place_range uv (uv.v.okay.dst _ hl)
  obtain ⟨_, _, k3, k4, _, _⟩ := linkCode_zero (uv.v.links l hl)
  unfold lowOf highOf
  omega
theorem strong_okay {u : Uncertain} (uv : UV u) (h : (sp_strong_ u).2 = true) : Okay (sp_strong_ u).1 ∧ (sp_strong_ u).1.events = u.network.events := by
  have hev := uv.v.ev
  have e := (strongL_ok u u.network.links [] h).1
  have hl : (sp_strong_ u).1.links = (u.network.links.filter fun l => decide ((place u l.src).base ≠ (place u l.dst).base)).map (mkL u) := by
    show (strongL u u.network.links []).1 = _
    rw [e, List.nil_append]
  have mem : ∀ k ∈ (sp_strong_ u).1.links, ∃ l ∈ u.network.links, (place u l.src).base ≠ (place u l.dst).base ∧ mkL u l = k := fun k hk => by
    rw [hl] at hk
    obtain ⟨l, h1, h2⟩ := List.mem_map.1 hk
    obtain ⟨h3, h4⟩ := List.mem_filter.1 h1
    exact ⟨l, h3, by simpa using h4, h2⟩
  refine ⟨⟨hev, ?_, fun k hk => ?_, fun k hk => ?_, fun k hk => ?_, fun k hk => ?_, fun k hk => ?_⟩, rfl⟩
  · rw [hl, List.length_map]
    have := List.length_filter_le (fun l => decide ((place u l.src).base ≠ (place u l.dst).base)) u.network.links
    have := uv.v.len
    omega
  · obtain ⟨l, h1, h2, rfl⟩ := mem k hk
    exact (place_range uv (uv.v.okay.src _ h1)).1
  · obtain ⟨l, h1, h2, rfl⟩ := mem k hk
    exact (place_range uv (uv.v.okay.dst _ h1)).1
  · obtain ⟨l, h1, h2, rfl⟩ := mem k hk
    exact h2
  · obtain ⟨l, h1, h2, rfl⟩ := mem k hk
    exact (low_high_range uv h1).1
  · obtain ⟨l, h1, h2, rfl⟩ := mem k hk
    exact (low_high_range uv h1).2
theorem strong_sat {u : Uncertain} (h : (sp_strong_ u).2 = true) {T : Int → Int} : (∀ l ∈ (sp_strong_ u).1.links, l.low ≤ T l.dst - T l.src ∧ T l.dst - T l.src ≤ l.high) ↔ ∀ l ∈ u.network.links, lowOf u l ≤ T (place u l.dst).base - T (place u l.src).base ∧ T (place u l.dst).base - T (place u l.src).base ≤ highOf u l := by
  obtain ⟨e, hz⟩ := strongL_ok u u.network.links [] h
  have hl : (sp_strong_ u).1.links = (u.network.links.filter fun l => decide ((place u l.src).base ≠ (place u l.dst).base)).map (mkL u) := by
    show (strongL u u.network.links []).1 = _
    rw [e, List.nil_append]
  constructor
  · intro hk l hm
    by_cases c : (place u l.src).base = (place u l.dst).base
    · have := hz l hm c
      rw [c]; omega
    · exact hk (mkL u l) (by rw [hl]; exact List.mem_map.2 ⟨l, List.mem_filter.2 ⟨hm, by simpa using c⟩, rfl⟩)
  · intro hk k hm
    rw [hl] at hm
    obtain ⟨l, h1, rfl⟩ := List.mem_map.1 hm
    exact hk l (List.mem_filter.1 h1).1
theorem strong_spec {u : Uncertain} (hv : sp_uvalidate u = ⟨0, 0⟩) : (sp_strong u = ([], false, ⟨0, 0⟩) ∧ ¬ ∃ T, Sat u T) ∨
    ∃ (T : Int → Int) (D : Nat → Nat → Int), (sp_strong_ u).2 = true ∧ Okay (sp_strong_ u).1 ∧ sp_tighten (sp_strong_ u).1 = (mat u.network.events.toNat D, true) ∧ (∀ a : Nat, T a = -(D a 0)) ∧ Sat u T ∧ (∀ T', Sat u T' → ∀ e, 0 ≤ e → e < u.network.events → T e ≤ T' e) ∧ (∀ e, 0 ≤ e → e < u.network.events → T e ≤ 30000) ∧
      sp_strong u = ((List.range u.network.events.toNat).map fun (i : Nat) => if (place u i).base = i then T i else -1, true, ⟨0, 0⟩) := by
  have uv := uv_of hv
  have hev := uv.v.ev
  cases hs : (sp_strong_ u).2
  · refine .inl ⟨by rw [sp_strong, if_pos hv, if_neg (by rw [hs]; decide)], ?_⟩
    rintro ⟨T, st⟩
    obtain ⟨l, hl, h⟩ := strongL_bad u u.network.links [] hs
    have := st.lk l hl
    rcases h with ⟨c, q⟩ | q
    · rw [c] at this; omega
    · omega
  · obtain ⟨ok, hen⟩ := strong_okay uv hs
    have feas : ∀ T, Sat u T → Feasible u.network.events.toNat (Wd (sp_strong_ u).1) (fun a => T (a : Int)) := fun T st i j hi hj hw =>
      dirL_feas st.zero (st.nn i (by omega) (by omega)) ((strong_sat hs).2 st.lk) hw
    have rel := tighten_rel ok
    unfold TightRel at rel
    rw [hen] at rel
    rcases rel with ⟨D, t, e⟩ | ⟨hn, e⟩
    · refine .inr ⟨fun x => -(D x.toNat 0), D, rfl, ok, e, fun a => by simp, ?_⟩
      have tl : ∀ x, x < u.network.events.toNat → -30000 ≤ D x 0 ∧ D x 0 ≤ 0 := fun x hx => by
        have up : D x 0 ≤ 0 := by
          by_cases c : x = 0
          · subst c; exact Int.le_of_eq (t.diag hx)
          · have w0 : Wd (sp_strong_ u).1 x 0 ≤ 0 := by
              refine Int.le_trans (foldl_dir_le _ _ _ _) ?_
              rw [if_pos (.inr rfl)]; exact Int.le_refl _
            have := t.lo x 0 [0] (.cons hx (by simp only [inf]; omega) (.nil (by omega)))
            simp only [wt] at this; omega
        refine ⟨?_, up⟩
        obtain ⟨r, w, hw⟩ := t.re x 0 hx (by omega) (by simp only [inf]; omega)
        have := w.ge t.notNeg (fun p q => (dirL_bounds ok.low ok.high p q).1)
        omega
      have fe : ∀ i j, i < u.network.events.toNat → j < u.network.events.toNat → Wd (sp_strong_ u).1 i j < inf → D i 0 ≤ Wd (sp_strong_ u).1 i j + D j 0 := fun i j hi hj hw => by
        have h1 := tl j hj
        obtain ⟨r, w, he⟩ := t.re j 0 hj (by omega) (by simp only [inf]; omega)
        have := t.lo i 0 (j :: r) (.cons hi hw w)
        simp only [wt] at this ⊢
        rw [he] at this; exact this
      refine ⟨⟨?_, fun x h1 h2 => ?_, (strong_sat hs (T := fun x => -(D x.toNat 0))).1 fun l hl => ?_⟩, fun T' st x h1 h2 => ?_, fun x h1 h2 => ?_, ?_⟩
      · show -(D 0 0) = 0
        rw [t.diag (by omega)]; rfl
      · have := tl x.toNat (by omega)
        show 0 ≤ -(D x.toNat 0)
        omega
      · have hsrc := ok.src l hl
        have hdst := ok.dst l hl
        have d1 := dirL_link hl
        have b1 := ok.high l hl
        have b2 := ok.low l hl
        rw [hen] at hsrc hdst
        have q1 : ((l.src.toNat : Nat) : Int) = l.src := by omega
        have q2 : ((l.dst.toNat : Nat) : Int) = l.dst := by omega
        have w1 : Wd (sp_strong_ u).1 l.src.toNat l.dst.toNat = dirL (sp_strong_ u).1.links l.src l.dst := by unfold Wd; rw [q1, q2]
        have w2 : Wd (sp_strong_ u).1 l.dst.toNat l.src.toNat = dirL (sp_strong_ u).1.links l.dst l.src := by unfold Wd; rw [q1, q2]
        have f1 := fe l.src.toNat l.dst.toNat (by omega) (by omega) (by rw [w1]; simp only [inf]; omega)
        have f2 := fe l.dst.toNat l.src.toNat (by omega) (by omega) (by rw [w2]; simp only [inf]; omega)
        rw [w1] at f1
        rw [w2] at f2
        show l.low ≤ -(D l.dst.toNat 0) - -(D l.src.toNat 0) ∧ -(D l.dst.toNat 0) - -(D l.src.toNat 0) ≤ l.high
        omega
      · have h3 := tl x.toNat (by omega)
        have := t.feasible (feas T' st) (i := x.toNat) (j := 0) (by omega) (by omega) (by simp only [inf]; omega)
        have z := st.zero
        have q : ((x.toNat : Nat) : Int) = x := by omega
        rw [q] at this
        show -(D x.toNat 0) ≤ T' x
        have z' : T' ((0 : Nat) : Int) = 0 := z
        rw [z'] at this
        omega
      · have := tl x.toNat (by omega)
        show -(D x.toNat 0) ≤ 30000
        omega
      · rw [sp_strong, if_pos hv, if_pos hs, e, if_pos rfl]
        unfold strongOut
        have : ∀ i ∈ List.range u.network.events.toNat, (if (place u i).base = (i : Int) then -(gt (gt (mat u.network.events.toNat D) (i : Int)) 0) else -1) = if (place u i).base = (i : Int) then -(D ((i : Nat) : Int).toNat 0) else -1 := fun i hi => by
          have hi' := List.mem_range.1 hi
          have := (mat_sq u.network.events.toNat D).gt i 0
          rw [mat_at hi' (by omega)] at this
          have e0 : gt (gt (mat u.network.events.toNat D) (i : Int)) (0 : Int) = D i 0 := this
          rw [e0, Int.toNat_natCast]
        rw [List.map_congr_left this]
    · refine .inl ⟨by rw [sp_strong, if_pos hv, if_pos hs, e, if_neg (by decide)], ?_⟩
      rintro ⟨T, st⟩
      exact (feas T st).notNeg hn
theorem ok_strong : ∀ (u : Uncertain), F_strong u (fun r => r = sp_strong u) := fun u => by
  unfold F_strong
  intro r2 hr2
  subst hr2
  simp only [fault_ne, fault_eq]
  refine ⟨fun h => by rw [sp_strong, if_neg h], fun hv => ?_⟩
  have uv := uv_of hv
  have hev := uv.v.ev
  refine ⟨hv, ?_⟩
  intro r3 hr3
  subst hr3
  simp only [Bool.not_eq_true', Bool.not_eq_false']
  refine ⟨fun h => by rw [sp_strong, if_pos hv, if_neg (by rw [h]; decide)], fun hs => ⟨(strong_okay uv hs).1, ?_⟩⟩
  intro r4 hr4
  subst hr4
  refine ⟨fun h => by rw [sp_strong, if_pos hv, if_pos hs, if_neg (by rw [h]; decide)], fun ht => ⟨hv, ?_⟩⟩
  have hsp : sp_strong u = (strongOut u (sp_tighten (sp_strong_ u).1).1, true, ⟨0, 0⟩) := by rw [sp_strong, if_pos hv, if_pos hs, if_pos ht]
  obtain ⟨T, D, _, _, e, hT, st, _, hT3, _⟩ : ∃ (T : Int → Int) (D : Nat → Nat → Int), (sp_strong_ u).2 = true ∧ Okay (sp_strong_ u).1 ∧ sp_tighten (sp_strong_ u).1 = (mat u.network.events.toNat D, true) ∧ (∀ a : Nat, T a = -(D a 0)) ∧ Sat u T ∧ (∀ T', Sat u T' → ∀ e, 0 ≤ e → e < u.network.events → T e ≤ T' e) ∧ (∀ e, 0 ≤ e → e < u.network.events → T e ≤ 30000) ∧
      sp_strong u = ((List.range u.network.events.toNat).map fun (i : Nat) => if (place u i).base = i then T i else -1, true, ⟨0, 0⟩) := by
    rcases strong_spec hv with ⟨h, _⟩ | h
    · rw [hsp] at h; exact absurd (congrArg (fun z => z.2.1) h) (fun q => by cases (show true = false from q))
    · exact h
  obtain ⟨pl, pg⟩ := places_gt uv
  intro r5 hr5
  subst hr5
  have sq := mat_sq u.network.events.toNat D
  have ol : (strongOut u (sp_tighten (sp_strong_ u).1).1).length = u.network.events.toNat := by simp [strongOut]
  refine ⟨fun t out => ∃ k : Nat, t = k ∧ k ≤ u.network.events.toNat ∧ out = (strongOut u (sp_tighten (sp_strong_ u).1).1).take k, fun t _ => (u.network.events.toNat - t).toNat, ⟨0, rfl, Nat.zero_le _, by simp⟩, ?_⟩
  rintro _ _ ⟨k, rfl, k1, rfl⟩
  unfold F_strong_L1
  simp only [decide_eq_true_eq, decide_eq_false_iff_not, pl]
  refine ⟨fun h => ?_, fun h => ?_⟩
  · have hk : k < u.network.events.toNat := by omega
    have next : ∀ x, x = gt (strongOut u (sp_tighten (sp_strong_ u).1).1) k → room (((strongOut u (sp_tighten (sp_strong_ u).1).1).take k) ++ [x]).length 8 ∧ F_strong_J1 ((strongOut u (sp_tighten (sp_strong_ u).1).1).take k) k (fun t out => ∃ k : Nat, t = k ∧ k ≤ u.network.events.toNat ∧ out = (strongOut u (sp_tighten (sp_strong_ u).1).1).take k) (fun t _ => (u.network.events.toNat - t).toNat) (((strongOut u (sp_tighten (sp_strong_ u).1).1).take k) ++ [x]) := by
      rintro x rfl
      have hl : ((strongOut u (sp_tighten (sp_strong_ u).1).1).take k ++ [gt (strongOut u (sp_tighten (sp_strong_ u).1).1) k]).length = k + 1 := by
        rw [List.length_append, List.length_take, ol, List.length_singleton]; omega
      unfold F_strong_J1
      rw [w64 (by omega)]
      refine ⟨⟨by rw [hl]; simp only [maxLen]; omega, by rw [hl]; omega⟩, ⟨k + 1, by omega, by omega, by rw [takeN_gt (by rw [ol]; exact hk)]⟩, show ((u.network.events.toNat : Int) - ((k : Int) + 1)).toNat < ((u.network.events.toNat : Int) - (k : Int)).toNat by omega⟩
    have at_ : gt (strongOut u (sp_tighten (sp_strong_ u).1).1) k = if (place u k).base = (k : Int) then -(gt (gt (sp_tighten (sp_strong_ u).1).1 (k : Int)) 0) else -1 := by
      rw [gt_of ⟨by omega, by rw [ol]; omega⟩]
      simp [strongOut]
    have g0 : gt (gt (sp_tighten (sp_strong_ u).1).1 (k : Int)) (0 : Int) = D k 0 := by
      have := sq.gt k 0
      rw [mat_at hk (by omega)] at this
      rw [e]; exact this
    have hD := hT3 k (by omega) (by omega)
    have hN := st.nn k (by omega) (by omega)
    rw [hT k] at hD hN
    refine ⟨⟨by omega, by rw [pl]; omega⟩, ?_⟩
    rw [pg k (by omega) (by omega)]
    simp only [beq_iff_eq, beq_eq_false_iff_ne, ne_eq]
    refine ⟨fun q => ?_, fun q => next _ (by rw [at_, if_neg q])⟩
    refine ⟨by rw [e]; exact sq.inb hk, by rw [e]; exact sq.inb2 (b := 0) hk (by omega), ?_⟩
    rw [g0, w64 (n := 0 - D k 0) (by omega)]
    exact next _ (by rw [at_, if_pos q, g0]; omega)
  · have : k = u.network.events.toNat := by omega
    rw [hsp, List.take_of_length_le (by omega)]
end Go.Proofs.Ytkcamohhjaibaaa.Pl
