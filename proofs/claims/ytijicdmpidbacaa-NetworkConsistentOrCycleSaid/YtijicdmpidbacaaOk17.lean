/- The laws on contingent links. Plain Lean. No condition. -/
import Derived.Test.YtijicdmpidbacaaOk16
namespace Go.Proofs.Ytijicdmpidbacaa.Pl
open Go Go.RowKit
theorem strong_facts {u : Uncertain} (hv : sp_uvalidate u = ⟨0, 0⟩) (h : (sp_strong u).2.1 = true) : ∃ T, Sat u T ∧ (sp_strong u).2.2 = ⟨0, 0⟩ ∧ ((sp_strong u).1.length : Int) = u.network.events ∧ (∀ e, 0 ≤ e → e < u.network.events → IsBase u e → gt (sp_strong u).1 e = T e ∧ 0 ≤ T e ∧ T e ≤ 30000) ∧ ∀ t ∈ (sp_strong u).1, -1 ≤ t ∧ t ≤ 30000 := by
  have uv := uv_of hv
  have hev := uv.v.ev
  rcases strong_spec hv with ⟨e, _⟩ | ⟨T, D, _, _, _, _, st, _, bd, e⟩
  · rw [e] at h; cases h
  · have ll : (sp_strong u).1.length = u.network.events.toNat := by rw [e]; simp
    have at_ : ∀ i : Nat, i < u.network.events.toNat → gt (sp_strong u).1 (i : Int) = if (place u i).base = (i : Int) then T i else -1 := fun i hi => by
      rw [gt_of ⟨by omega, by rw [ll]; omega⟩]
      simp only [e]; simp
    refine ⟨T, st, by rw [e], by omega, fun x h1 h2 hb => ?_, fun t ht => ?_⟩
    · have q : ((x.toNat : Nat) : Int) = x := by omega
      have := at_ x.toNat (by omega)
      rw [q, if_pos ((base_eq uv x).2 hb)] at this
      exact ⟨this, st.nn x h1 h2, bd x h1 h2⟩
    · obtain ⟨i, hi, rfl⟩ := mem_gt ht
      rw [at_ i (by omega)]
      split
      · have := st.nn i (by omega) (by omega); have := bd i (by omega) (by omega); omega
      · omega
theorem strong_code {u : Uncertain} (hv : sp_uvalidate u = ⟨0, 0⟩) : (sp_strong u).2.2 = ⟨0, 0⟩ := by
  rw [sp_strong, if_pos hv]; split <;> (try split) <;> rfl
theorem strong_false {u : Uncertain} (h : (sp_strong u).2.1 = false) : (sp_strong u).1 = [] := by
  unfold sp_strong at h ⊢
  by_cases h1 : sp_uvalidate u = ⟨0, 0⟩
  · rw [if_pos h1] at h ⊢
    by_cases h2 : (sp_strong_ u).2 = true
    · rw [if_pos h2] at h ⊢
      by_cases h3 : (sp_tighten (sp_strong_ u).1).2 = true
      · rw [if_pos h3] at h; cases h
      · rw [if_neg h3]
    · rw [if_neg h2]
  · rw [if_neg h1]
theorem box_range {u : Uncertain} (uv : UV u) {d : List Int} (hd : InBox u d) : ∀ t ∈ d, 1 ≤ t ∧ t ≤ 1000 := fun t ht => by
  obtain ⟨i, hi, rfl⟩ := mem_gt ht
  have := hd.2 i (by rw [← hd.1]; exact hi)
  have := uv.info (gt_memN (xs := u.contingent) (i := i) (by rw [← hd.1]; exact hi))
  omega
theorem ok_dispatch : ∀ (u : Uncertain) (durations : List Int), F_dispatch u durations (fun r => r = sp_dispatch u durations) := fun u d => by
  unfold F_dispatch
  intro r2 hr2
  subst hr2
  simp only [fault_ne, fault_eq]
  refine ⟨fun h => by rw [sp_dispatch, if_neg h], fun hc => ?_⟩
  obtain ⟨hv, hd⟩ := check_zero hc
  have uv := uv_of hv
  have hcl := uv.len
  intro r3 hr3
  subst hr3
  simp only [Bool.not_eq_true', Bool.not_eq_false']
  refine ⟨fun h => by rw [sp_dispatch, if_pos hc, if_neg (by rw [h]; decide)], fun h => ?_⟩
  obtain ⟨T, st, e0, hl, hb, hr⟩ := strong_facts hv h
  have hsp : sp_dispatch u d = (sp_outcome u (sp_strong u).1 d, true, (sp_strong u).2.2) := by rw [sp_dispatch, if_pos hc, if_pos h]
  refine ⟨fun t out => ∃ k : Nat, t = k ∧ k ≤ u.contingent.length ∧ out = outK u (sp_strong u).1 d k, fun t _ => (u.contingent.length - t).toNat, ⟨0, rfl, Nat.zero_le _, by simp [outK]⟩, ?_⟩
  rintro _ _ ⟨k, rfl, k1, rfl⟩
  unfold F_dispatch_L1
  simp only [decide_eq_true_eq, decide_eq_false_iff_not, forall_eq]
  refine ⟨fun g => ?_, fun g => ?_⟩
  · have hk : k < u.contingent.length := by omega
    have hm := gt_memN hk
    have inf_ := uv.info hm
    have ol := outK_len (times := (sp_strong u).1) hd.1 k (by omega)
    have hsrc : gt (outK u (sp_strong u).1 d k) (gt u.contingent k).src = gt (sp_strong u).1 (gt u.contingent k).src := (outK_gt uv hl hd.1 k (by omega)).1 _ inf_.1.1 fun l hl => uv.src _ hm l hl
    have rs := hr _ (gt_mem (xs := (sp_strong u).1) (i := (gt u.contingent k).src) ⟨inf_.1.1, by omega⟩)
    have ib : inb d (k : Int) := ⟨by omega, by rw [hd.1]; omega⟩
    have rd := box_range uv hd _ (gt_mem ib)
    rw [w64 (n := gt (outK u (sp_strong u).1 d k) _ + _) (by rw [hsrc]; omega), w64 (n := (k : Int) + 1) (by omega)]
    exact ⟨⟨by omega, g⟩, ⟨inf_.1.1, by rw [ol]; omega⟩, ib, ⟨inf_.2.1.1, by rw [ol]; omega⟩, ⟨k + 1, by omega, by omega, by rw [outK_succ hk hd.1]; rfl⟩, show ((u.contingent.length : Int) - ((k : Int) + 1)).toNat < ((u.contingent.length : Int) - (k : Int)).toNat by omega⟩
  · have : k = u.contingent.length := by omega
    subst this
    rw [hsp, outK_all hd.1]
theorem ok_net : ∀ (a : Network) (b : Network), pre_net a b → F_net a b (fun r => r = sp_net a b) := fun a b hp => by
  unfold pre_net at hp
  have ne : a.events ≠ b.events ∨ a.links ≠ b.links → sp_net a b = false := fun h => by
    unfold sp_net
    refine decide_eq_false fun e => ?_
    subst e
    rcases h with h | h <;> exact h rfl
  unfold F_net F_net_J1
  simp only [bne_iff_ne, ne_eq, bne_eq_false_iff_eq, true_implies, Bool.true_eq_false, false_implies, and_true]
  refine ⟨fun h => (ne (.inl h)).symm, fun he => ⟨fun h => (ne (.inr fun e => h (by rw [e]))).symm, fun h => ?_⟩⟩
  have hl : a.links.length = b.links.length := by omega
  refine ⟨fun t => ∃ k : Nat, t = k ∧ k ≤ a.links.length ∧ a.links.take k = b.links.take k, fun t => (a.links.length - t).toNat, ⟨0, rfl, Nat.zero_le _, by simp⟩, ?_⟩
  rintro _ ⟨k, rfl, k1, k2⟩
  unfold F_net_L1
  simp only [decide_eq_true_eq, decide_eq_false_iff_not, forall_eq]
  refine ⟨fun g => ?_, fun g => ?_⟩
  · have eqv : ∀ x y : Link, ((x.src == y.src && x.dst == y.dst) && (x.low == y.low && x.high == y.high)) = decide (x = y) := fun x y => by
      obtain ⟨a1, a2, a3, a4⟩ := x
      obtain ⟨b1, b2, b3, b4⟩ := y
      rw [Bool.eq_iff_iff]; simp [and_assoc]
    refine ⟨⟨by omega, g⟩, ⟨by omega, by omega⟩, fun q => ?_, fun q => ?_⟩
    · rw [eqv] at q
      simp only [Bool.not_eq_true', decide_eq_false_iff_not] at q
      exact (ne (.inr fun e => q (by rw [e]))).symm
    · rw [eqv] at q
      simp only [Bool.not_eq_false', decide_eq_true_eq] at q
      rw [w64 (by omega)]
      exact ⟨⟨k + 1, by omega, by omega, by rw [takeN_gt (by omega), takeN_gt (by omega), k2, q]⟩, by omega⟩
  · rw [List.take_of_length_le (by omega), List.take_of_length_le (by omega)] at k2
    obtain ⟨ae, al⟩ := a
    obtain ⟨be, bl⟩ := b
    simp only at he k2
    subst he; subst k2
    simp [sp_net]
/-- the program's own example -/
def awU : Uncertain := ⟨⟨3, [⟨1, 2, 0, 9⟩]⟩, [⟨0, 1, 1, 3⟩]⟩
theorem awaited_strong : sp_strong awU = ([0, -1, 3], true, ⟨0, 0⟩) := by
  have hv : sp_uvalidate awU = ⟨0, 0⟩ := by decide +kernel
  have hp : ∀ e : Int, place awU e = if e = 1 then ⟨0, 1, 3⟩ else ⟨e, 0, 0⟩ := fun e => by
    unfold place awU
    by_cases h : e = 1
    · subst h; rfl
    · rw [if_neg h]
      have : (List.find? (fun l : Link => decide (l.dst = e)) [⟨0, 1, 1, 3⟩]) = none := by
        rw [List.find?_eq_none]; intro x hx; rw [List.mem_singleton.1 hx]; simpa using fun q : (1 : Int) = e => h q.symm
      rw [this]
  have st : Sat awU fun e => if e = 2 then 3 else 0 := by
    refine ⟨rfl, fun e _ _ => by show 0 ≤ (if e = 2 then (3 : Int) else 0); split <;> decide, fun l hl => ?_⟩
    have : l = ⟨1, 2, 0, 9⟩ := List.mem_singleton.1 hl
    subst this
    unfold lowOf highOf
    rw [hp, hp]
    decide
  rcases strong_spec hv with ⟨_, h⟩ | ⟨T, D, _, _, _, _, sT, hmin, _, e⟩
  · exact absurd ⟨_, st⟩ h
  · have h0 := sT.zero
    have h2 := hmin _ st 2 (by decide) (by decide)
    have lk := sT.lk ⟨1, 2, 0, 9⟩ (List.mem_singleton.2 rfl)
    unfold lowOf highOf at lk
    rw [hp, hp] at lk
    have h3 : (if (2 : Int) = 2 then (3 : Int) else 0) = 3 := rfl
    have l1 : (3 : Int) ≤ T 2 - T 0 := lk.1
    have t2 : T 2 = 3 := by
      have : T 2 ≤ 3 := h2
      omega
    rw [e]
    have r : List.range (awU.network.events.toNat) = [0, 1, 2] := by decide
    rw [r]
    simp only [List.map_cons, List.map_nil]
    have b0 : (place awU ((0 : Nat) : Int)).base = ((0 : Nat) : Int) := by rw [hp]; rfl
    have b1 : ¬ (place awU ((1 : Nat) : Int)).base = ((1 : Nat) : Int) := by rw [hp]; decide
    have b2 : (place awU ((2 : Nat) : Int)).base = ((2 : Nat) : Int) := by rw [hp]; rfl
    rw [if_pos b0, if_neg b1, if_pos b2]
    have z : T ((0 : Nat) : Int) = 0 := h0
    have w : T ((2 : Nat) : Int) = 3 := t2
    rw [z, w]
theorem ok_awaited : F_awaited (fun r => r = sp_awaited) := by
  unfold F_awaited sp_awaited
  intro r2 hr2
  have e : r2 = ([0, -1, 3], true, ⟨0, 0⟩) := hr2.trans awaited_strong
  subst e
  refine ⟨fun _ => ⟨fun _ => ⟨by unfold pre_numbers; decide, fun r3 h3 => by rw [h3]; decide⟩, fun h => (by cases h)⟩, fun h => (by cases h)⟩
theorem fault_beq (f : Fault) : ((f.code == f.code) && (f.index == f.index)) = true := by simp
theorem ok_lawStrongMatchesSpec : ∀ (u : Uncertain), F_lawStrongMatchesSpec u (fun r => r = sp_lawStrongMatchesSpec u) := fun u => by
  unfold F_lawStrongMatchesSpec sp_lawStrongMatchesSpec
  intro r2 hr2 r3 hr3
  subst hr2; subst hr3
  by_cases hv : sp_uvalidate u = ⟨0, 0⟩
  · have uv := uv_of hv
    have hev := uv.v.ev
    have c0 := strong_code hv
    rw [c0]
    refine ⟨fun h => (by rw [hv] at h; cases h), fun _ => ⟨fun h => (by cases h), fun _ => ⟨uv.choices, ?_⟩⟩⟩
    simp only [forall_eq, decide_eq_true_eq, decide_eq_false_iff_not, sp_awaited]
    refine ⟨fun _ => trivial, fun h => ⟨⟨hv, by omega⟩, fun _ => ⟨?_, fun _ => trivial, fun q => ?_⟩, fun q => ?_⟩⟩
    · unfold pre_numbers
      cases hs : (sp_strong u).2.1
      · rw [strong_false hs]; simp
      · obtain ⟨T, _, _, hl, _, _⟩ := strong_facts hv hs
        omega
    · exfalso; rw [sp_numbers, sp_strongTimes] at q; simp at q
    · exfalso; rw [sp_strongTimes] at q; simp at q
  · have e : sp_strong u = ([], false, sp_uvalidate u) := by rw [sp_strong, if_neg hv]
    have hc : (sp_uvalidate u).code ≠ 0 := fun q => hv (uval_code q)
    rw [e]
    refine ⟨fun _ => ⟨fun _ => ⟨fun _ => ⟨fun _ r4 h4 => h4, fun h => (by cases h)⟩, fun h => (by cases h)⟩, fun h => ?_⟩, fun h => absurd (by simpa using h) hc⟩
    have := fault_beq (sp_uvalidate u)
    rw [this] at h; cases h
theorem check_code {u : Uncertain} {d : List Int} (h : (sp_check u d).code = 0) : sp_check u d = ⟨0, 0⟩ := by
  unfold sp_check at h ⊢
  by_cases h1 : sp_uvalidate u = ⟨0, 0⟩
  · rw [if_pos h1] at h ⊢
    by_cases h2 : d.length = u.contingent.length
    · rw [if_pos h2] at h ⊢
      unfold ffirst at h ⊢
      cases hq : (List.range d.length).find? (fun i => decide (durF u d i ≠ ⟨0, 0⟩)) with
      | none => rfl
      | some i =>
        rw [hq] at h
        simp only at h ⊢
        unfold durF at h ⊢
        split
        · rename_i q; rw [if_pos q] at h; cases h
        · rfl
    · rw [if_neg h2] at h; exact absurd h (by decide)
  · rw [if_neg h1] at h
    exact absurd (uval_code h) h1
theorem dispatch_facts {u : Uncertain} {d : List Int} : (sp_dispatch u d).2.2.code = 0 → sp_check u d = ⟨0, 0⟩ ∧ (sp_dispatch u d).2.1 = (sp_strong u).2.1 := fun h => by
  by_cases hc : sp_check u d = ⟨0, 0⟩
  · refine ⟨hc, ?_⟩
    rw [sp_dispatch, if_pos hc]
    cases hs : (sp_strong u).2.1
    · simp
    · simp
  · rw [sp_dispatch, if_neg hc] at h
    exact absurd (check_code h) hc
theorem ok_lawDispatchIsSteady : ∀ (u : Uncertain) (d : List Int) (e_ : List Int), F_lawDispatchIsSteady u d e_ (fun r => r = sp_lawDispatchIsSteady u d e_) := fun u d e => by
  unfold F_lawDispatchIsSteady sp_lawDispatchIsSteady
  intro r2 hr2 r3 hr3
  subst hr2; subst hr3
  have out : ((sp_dispatch u d).2.2.code = 0 → (sp_dispatch u e).2.2.code = 0 → (sp_dispatch u d).2.1 = (sp_dispatch u e).2.1) → F_lawDispatchIsSteady_J1 u (fun r => r = true) (sp_dispatch u d) (sp_dispatch u e) true := fun h => by
    unfold F_lawDispatchIsSteady_J1
    simp only [forall_eq, sp_awaited, bne_iff_ne, ne_eq, bne_eq_false_iff_eq, beq_iff_eq, beq_eq_false_iff_ne, true_implies, Bool.true_eq_false, false_implies, and_true, implies_true, true_and]
    exact fun h1 h2 h3 => absurd (h h1 h2) h3
  have same : (sp_dispatch u d).2.2.code = 0 → (sp_dispatch u e).2.2.code = 0 → (sp_dispatch u d).2.1 = (sp_dispatch u e).2.1 := fun h1 h2 => by
    rw [(dispatch_facts h1).2, (dispatch_facts h2).2]
  simp only [bne_iff_ne, ne_eq, bne_eq_false_iff_eq, Bool.not_eq_true', Bool.not_eq_false']
  refine ⟨fun _ => out same, fun h1 => ⟨fun _ => out same, fun h2 => ⟨fun _ => out same, fun h3 => ?_⟩⟩⟩
  obtain ⟨c1, s1⟩ := dispatch_facts h1
  obtain ⟨c2, s2⟩ := dispatch_facts h2
  obtain ⟨hv, bd⟩ := check_zero c1
  obtain ⟨_, be⟩ := check_zero c2
  have uv := uv_of hv
  have hcl := uv.len
  have hs : (sp_strong u).2.1 = true := by rw [← s1]; exact h3
  have h4 : (sp_dispatch u e).2.1 = true := by rw [s2]; exact hs
  obtain ⟨T, st, _, hl, hb, _⟩ := strong_facts hv hs
  have e1 : (sp_dispatch u d).1 = sp_outcome u (sp_strong u).1 d := by rw [sp_dispatch, if_pos c1, if_pos hs]
  have e2 : (sp_dispatch u e).1 = sp_outcome u (sp_strong u).1 e := by rw [sp_dispatch, if_pos c2, if_pos hs]
  obtain ⟨l1, g1, _⟩ := outcome_gt uv hl bd.1
  obtain ⟨l2, g2, _⟩ := outcome_gt uv hl be.1
  rw [h4]
  have n1 : ((sp_dispatch u d).1.length : Int) = u.network.events := by rw [e1, l1]; exact hl
  have n2 : ((sp_dispatch u e).1.length : Int) = u.network.events := by rw [e2, l2]; exact hl
  have hev := uv.v.ev
  unfold F_lawDispatchIsSteady_J1 F_lawDispatchIsSteady_J2
  simp only [n1, n2, bne_self_eq_false, Bool.not_true, Bool.false_eq_true, false_implies, true_and, forall_const]
  refine ⟨fun t => ∃ k : Nat, t = k ∧ (k : Int) ≤ u.network.events, fun t => (u.network.events - t).toNat, ⟨0, rfl, by omega⟩, ?_⟩
  rintro _ ⟨k, rfl, k1⟩
  unfold F_lawDispatchIsSteady_L1
  simp only [n1, forall_eq, sp_awaited, decide_eq_true_eq, decide_eq_false_iff_not, implies_true, and_true]
  intro g
  refine ⟨fun c t => ∃ j : Nat, t = j ∧ j ≤ u.contingent.length ∧ c = (u.contingent.take j).any fun l => decide (l.dst = (k : Int)), fun _ t => (u.contingent.length - t).toNat, ⟨0, rfl, Nat.zero_le _, by simp⟩, ?_⟩
  rintro _ _ ⟨j, rfl, j1, rfl⟩
  unfold F_lawDispatchIsSteady_L2
  simp only [decide_eq_true_eq, decide_eq_false_iff_not, Bool.not_eq_true', Bool.not_eq_false']
  refine ⟨fun f => ?_, fun f => ?_⟩
  · have hj : j < u.contingent.length := by omega
    have et : u.contingent.take (j + 1) = u.contingent.take j ++ [gt u.contingent j] := takeN_gt hj
    have step : ∀ c, c = ((u.contingent.take (j + 1)).any fun l => decide (l.dst = (k : Int))) → F_lawDispatchIsSteady_J3 ((u.contingent.take j).any fun l => decide (l.dst = (k : Int))) j (fun c t => ∃ j : Nat, t = j ∧ j ≤ u.contingent.length ∧ c = (u.contingent.take j).any fun l => decide (l.dst = (k : Int))) (fun _ t => (u.contingent.length - t).toNat) c := by
      rintro c rfl
      unfold F_lawDispatchIsSteady_J3
      rw [w64 (by omega)]
      exact ⟨⟨j + 1, by omega, by omega, rfl⟩, show ((u.contingent.length : Int) - ((j : Int) + 1)).toNat < ((u.contingent.length : Int) - (j : Int)).toNat by omega⟩
    refine ⟨fun q => step _ ?_, fun q => ⟨⟨by omega, f⟩, step _ ?_⟩⟩
    · rw [et, List.any_append, q]; rfl
    · rw [et, List.any_append, q]
      rw [Bool.eq_iff_iff]; simp
  · have hj : j = u.contingent.length := by omega
    subst hj
    have next : F_lawDispatchIsSteady_J4 (fun r => r = true) false (k : Int) (fun t => ∃ k : Nat, t = k ∧ (k : Int) ≤ u.network.events) (fun t => (u.network.events - t).toNat) := by
      unfold F_lawDispatchIsSteady_J4
      rw [w64 (by omega)]
      exact ⟨fun h => (by cases h), fun _ => ⟨⟨k + 1, by omega, by omega⟩, show (u.network.events - ((k : Int) + 1)).toNat < (u.network.events - (k : Int)).toNat by omega⟩⟩
    refine ⟨fun q => ⟨⟨by omega, by omega⟩, ⟨by omega, by omega⟩, ?_⟩, fun _ => next⟩
    rw [List.take_of_length_le (Nat.le_refl _), List.any_eq_false] at q
    have hb : IsBase u (k : Int) := fun l hl => by simpa using q l hl
    have : (gt (sp_dispatch u d).1 (k : Int) != gt (sp_dispatch u e).1 (k : Int)) = false := by
      rw [e1, e2, g1 _ (by omega) hb, g2 _ (by omega) hb]; exact bne_self_eq_false _
    rw [this]; exact next
theorem validate_ok {n : Network} (h1 : 1 ≤ n.events ∧ n.events ≤ 10) (h2 : n.links.length ≤ 30) (h3 : ∀ l ∈ n.links, sp_linkCode l n.events = 0) : sp_validate n = ⟨0, 0⟩ := by
  unfold sp_validate
  rw [if_neg (by omega), if_neg (by omega)]
  have : ∀ (ls : List Link) (i : Int), (∀ l ∈ ls, sp_linkCode l n.events = 0) → linksFault n.events ls i = ⟨0, 0⟩ := by
    intro ls
    induction ls with
    | nil => intro _ _; rfl
    | cons l r ih => intro i h; unfold linksFault; rw [if_pos (h l List.mem_cons_self)]; exact ih _ fun l hl => h l (List.mem_cons_of_mem _ hl)
  exact this _ _ h3
theorem timesFault_ok : ∀ (ts : List Int) (i : Int), (∀ t ∈ ts, -1000000 ≤ t ∧ t ≤ 1000000) → timesFault ts i = ⟨0, 0⟩
  | [], _, _ => rfl
  | t :: r, i, h => by
    have := h t List.mem_cons_self
    rw [timesFault_cons, if_neg (by omega)]
    exact timesFault_ok r _ fun x hx => h x (List.mem_cons_of_mem _ hx)
theorem fix_facts {u : Uncertain} {d : List Int} (h : (sp_fix u d).2.code = 0) : sp_check u d = ⟨0, 0⟩ ∧ (sp_fix u d).1 = sp_with_ u d ∧ (sp_with_ u d).links.length ≤ 30 := by
  by_cases hc : sp_check u d = ⟨0, 0⟩
  · rw [sp_fix, if_pos hc] at h ⊢
    by_cases c : 30 < (sp_with_ u d).links.length
    · rw [if_pos c] at h; exact absurd h (by decide)
    · rw [if_neg c]; exact ⟨hc, rfl, by omega⟩
  · rw [sp_fix, if_neg hc] at h
    exact absurd (check_code h) hc
/-- with a choice of durations, the network is valid if it has no link too many -/
theorem with_valid {u : Uncertain} (uv : UV u) {d : List Int} (hd : InBox u d) (h : (sp_with_ u d).links.length ≤ 30) : sp_validate (sp_with_ u d) = ⟨0, 0⟩ := by
  refine validate_ok uv.v.ev h fun l hl => ?_
  rcases List.mem_append.1 hl with hl | hl
  · exact uv.v.links l hl
  · obtain ⟨i, hi, rfl⟩ := mem_gt hl
    rw [List.length_zipWith] at hi
    rw [gt_zipWith (by omega) (by omega)]
    have b := hd.2 i (by omega)
    have f := uv.info (gt_memN (xs := u.contingent) (i := i) (by omega))
    unfold sp_linkCode fixL
    show (if (gt u.contingent i).src < 0 ∨ u.network.events ≤ (gt u.contingent i).src ∨ (gt u.contingent i).dst < 0 ∨ u.network.events ≤ (gt u.contingent i).dst then (3 : Int) else if gt d i < -1000 ∨ 1000 < gt d i ∨ gt d i < -1000 ∨ 1000 < gt d i then 3 else if (gt u.contingent i).src = (gt u.contingent i).dst ∨ gt d i < gt d i then 5 else 0) = 0
    rw [if_neg (by omega), if_neg (by omega), if_neg (by omega)]
theorem ok_lawDispatchRespects : ∀ (u : Uncertain) (d : List Int), F_lawDispatchRespects u d (fun r => r = sp_lawDispatchRespects u d) := fun u d => by
  unfold F_lawDispatchRespects sp_lawDispatchRespects
  intro r2 hr2 r3 hr3
  subst hr2; subst hr3
  have out : F_lawDispatchRespects_J1 (fun r => r = true) (sp_dispatch u d) (sp_fix u d) true := by
    unfold F_lawDispatchRespects_J1
    simp [sp_awaited]
  simp only [bne_iff_ne, ne_eq, bne_eq_false_iff_eq]
  refine ⟨fun _ => out, fun h1 => ⟨fun _ => out, fun h2 => ?_⟩⟩
  cases h3 : (sp_dispatch u d).2.1
  · exact out
  obtain ⟨c1, s1⟩ := dispatch_facts h1
  obtain ⟨_, f1, f2⟩ := fix_facts h2
  obtain ⟨hv, hd⟩ := check_zero c1
  have uv := uv_of hv
  have hev := uv.v.ev
  have hs : (sp_strong u).2.1 = true := by rw [← s1]; exact h3
  obtain ⟨T, st, _, hl, hb, _⟩ := strong_facts hv hs
  have e1 : (sp_dispatch u d).1 = sp_outcome u (sp_strong u).1 d := by rw [sp_dispatch, if_pos c1, if_pos hs]
  obtain ⟨l1, g1, g2⟩ := outcome_gt uv hl hd.1
  have hval := with_valid uv hd f2
  -- each event's time
  have ev : ∀ e, 0 ≤ e → e < u.network.events → ∃ x, (place u e).low ≤ x ∧ x ≤ (place u e).high ∧ gt (sp_outcome u (sp_strong u).1 d) e = T (place u e).base + x := fun e h0 h1 => by
    obtain ⟨x, x1, x2, x3⟩ := outcome_delta uv hl hd ⟨h0, h1⟩
    have p := place_range uv ⟨h0, h1⟩
    exact ⟨x, x1, x2, by rw [x3, (hb _ p.1.1 p.1.2 (base_isBase uv _)).1]⟩
  have rng : ∀ t ∈ sp_outcome u (sp_strong u).1 d, 0 ≤ t ∧ t ≤ 31000 := fun t ht => by
    obtain ⟨i, hi, rfl⟩ := mem_gt ht
    obtain ⟨x, x1, x2, x3⟩ := ev i (by omega) (by omega)
    have p := place_range uv (e := (i : Int)) ⟨by omega, by omega⟩
    have := hb _ p.1.1 p.1.2 (base_isBase uv _)
    rw [x3]; omega
  have key : sp_respects (sp_with_ u d) (sp_outcome u (sp_strong u).1 d) = (true, ⟨0, 0⟩) := by
    have tf := timesFault_ok (sp_outcome u (sp_strong u).1 d) 0 fun t ht => by have := rng t ht; omega
    rw [sp_respects, if_pos hval, if_pos (by rw [l1]; exact hl), if_pos tf]
    have z : gt (sp_outcome u (sp_strong u).1 d) 0 = 0 := by
      have b0 : IsBase u 0 := fun l hl => (uv.info hl).2.2.2.2
      rw [g1 0 (Int.le_refl _) b0, (hb 0 (Int.le_refl _) (by omega) b0).1]; exact st.zero
    have nn : ((sp_outcome u (sp_strong u).1 d).all fun t => decide (0 ≤ t)) = true := by
      rw [List.all_eq_true]; intro t ht; simpa using (rng t ht).1
    have lk : ((sp_with_ u d).links.any fun l => sp_fits1 l (sp_outcome u (sp_strong u).1 d)) = false := by
      rw [List.any_eq_false]
      intro l hl'
      unfold sp_fits1
      simp only [decide_eq_true_eq]
      rcases List.mem_append.1 hl' with hm | hm
      · have hsr := uv.v.okay.src l hm
        have hds := uv.v.okay.dst l hm
        obtain ⟨x, x1, x2, x3⟩ := ev l.src hsr.1 hsr.2
        obtain ⟨y, y1, y2, y3⟩ := ev l.dst hds.1 hds.2
        have := st.lk l hm
        unfold lowOf highOf at this
        rw [x3, y3]; omega
      · obtain ⟨i, hi, rfl⟩ := mem_gt hm
        rw [List.length_zipWith] at hi
        rw [gt_zipWith (by omega) (by omega)]
        have hm' := gt_memN (xs := u.contingent) (i := i) (by omega)
        have a1 := g2 i (by omega)
        have a2 := g1 (gt u.contingent i).src (uv.info hm').1.1 (fun l hl => uv.src _ hm' l hl)
        show ¬ (gt (sp_outcome u (sp_strong u).1 d) (gt u.contingent i).dst - gt (sp_outcome u (sp_strong u).1 d) (gt u.contingent i).src < gt d i ∨ gt d i < gt (sp_outcome u (sp_strong u).1 d) (gt u.contingent i).dst - gt (sp_outcome u (sp_strong u).1 d) (gt u.contingent i).src)
        rw [a1, a2]; omega
    rw [sp_fits, z, nn, lk]; rfl
  unfold F_lawDispatchRespects_J1
  rw [e1, f1, key]
  simp [sp_awaited]
theorem ok_lawUncertainMatchesSpec : ∀ (u : Uncertain) (d : List Int), F_lawUncertainMatchesSpec u d (fun r => r = sp_lawUncertainMatchesSpec u d) := fun u d => by
  unfold F_lawUncertainMatchesSpec sp_lawUncertainMatchesSpec
  intro r2 hr2 r3 hr3 r4 hr4 r19 hr19 r20 hr20
  subst hr2; subst hr3; subst hr4; subst hr19; subst hr20
  have main : F_lawUncertainMatchesSpec_J1 u d (fun r => r = true) (sp_fix u d) (sp_dispatch u d) (sp_check u d) false := by
    unfold F_lawUncertainMatchesSpec_J1
    refine ⟨fun h => (by cases h), fun _ => ?_⟩
    by_cases hc : sp_check u d = ⟨0, 0⟩
    · obtain ⟨hv, hd⟩ := check_zero hc
      have uv := uv_of hv
      have hev := uv.v.ev
      have hcl := uv.len
      have hll := uv.v.len
      have c0 := strong_code hv
      have wl : (sp_with_ u d).links.length = u.network.links.length + d.length := by
        show (u.network.links ++ List.zipWith fixL u.contingent d).length = _
        rw [List.length_append, List.length_zipWith, hd.1]; omega
      have j2 : F_lawUncertainMatchesSpec_J2 u d (fun r => r = true) (sp_dispatch u d) := by
        unfold F_lawUncertainMatchesSpec_J2
        refine ⟨uv.choices, ?_⟩
        simp only [forall_eq, decide_eq_true_eq, decide_eq_false_iff_not, sp_awaited, implies_true, true_and]
        refine fun h => ⟨⟨hv, by omega⟩, ?_⟩
        have ds : (sp_dispatch u d).2.1 = (sp_strong u).2.1 := (dispatch_facts (by
          rw [sp_dispatch, if_pos hc]; split <;> (show (sp_strong u).2.2.code = 0; rw [c0]))).2
        have e2 : (sp_strongTimes u).2 = (sp_strong u).2.1 := rfl
        rw [e2, ds]
        refine ⟨fun q => by simp at q, fun _ => ?_⟩
        cases hs : (sp_strong u).2.1
        · have e1 : (sp_dispatch u d).1 = [] := by rw [sp_dispatch, if_pos hc, if_neg (by rw [hs]; decide)]
          rw [e1]
          exact ⟨fun _ q => absurd q (by decide), fun q => (by cases q)⟩
        · obtain ⟨T, st, _, hl, hb, hr⟩ := strong_facts hv hs
          have e1 : (sp_dispatch u d).1 = sp_outcome u (sp_strong u).1 d := by rw [sp_dispatch, if_pos hc, if_pos hs]
          have e3 : (sp_strongTimes u).1 = (sp_strong u).1 := rfl
          have l1 := (outcome_gt (times := (sp_strong u).1) uv hl hd.1).1
          rw [e1, e3]
          refine ⟨fun q => (by cases q), fun _ => ⟨fun _ => ⟨⟨hv, hl, hd.1, fun t ht => by have := hr t ht; omega, fun t ht => by have := box_range uv hd t ht; omega⟩, ?_, fun q => ?_⟩, fun q => (by cases q)⟩⟩
          · unfold pre_numbers; rw [l1]; omega
          · exfalso; rw [sp_numbers] at q; simp at q
      have j3 : F_lawUncertainMatchesSpec_J3 u d (fun r => r = true) (sp_dispatch u d) false := ⟨fun h => (by cases h), fun _ => j2⟩
      have j4 : F_lawUncertainMatchesSpec_J4 u d (fun r => r = true) (sp_dispatch u d) false := ⟨fun h => (by cases h), fun _ => j2⟩
      refine ⟨fun h => (by rw [hc] at h; cases h), fun _ => ?_⟩
      simp only [forall_eq, sp_at_, decide_eq_true_eq, decide_eq_false_iff_not]
      have hdl := hd.1
      rw [w64 (n := (u.network.links.length : Int) + (d.length : Int)) (by omega)]
      refine ⟨fun h => ?_, fun h => ?_⟩
      · have e : sp_fix u d = (⟨0, []⟩, ⟨10, -1⟩) := by rw [sp_fix, if_pos hc, if_pos (by omega)]
        rw [e]
        exact ⟨fun q => (by cases q), fun _ => j3⟩
      · have e : sp_fix u d = (sp_with_ u d, ⟨0, 0⟩) := by rw [sp_fix, if_pos hc, if_neg (by omega)]
        rw [e]
        refine ⟨fun q => (by cases q), fun _ => ⟨⟨hll, hcl, hdl⟩, ?_, ?_⟩⟩
        · show (sp_with_ u d).links.length ≤ 1000
          omega
        · have : (!sp_net (sp_with_ u d) (sp_with_ u d)) = false := by simp [sp_net]
          rw [this]; exact j4
    · have hne : (sp_check u d).code ≠ 0 := fun q => hc (check_code q)
      have e1 : sp_fix u d = (⟨0, []⟩, sp_check u d) := by rw [sp_fix, if_neg hc]
      have e2 : sp_dispatch u d = ([], false, sp_check u d) := by rw [sp_dispatch, if_neg hc]
      rw [e1, e2]
      have w0 : IntKind.i64.wrap 0 = 0 := rfl
      simp [sp_awaited, hne, w0]
  have d0 : (sp_dispatch u d).2.2 = sp_check u d := by
    by_cases hc : sp_check u d = ⟨0, 0⟩
    · have c0 := strong_code (check_zero hc).1
      rw [sp_dispatch, if_pos hc, hc]; split <;> exact c0
    · rw [sp_dispatch, if_neg hc]
  rw [d0, fault_beq, fault_beq]
  exact ⟨fun h => (by cases h), fun _ => main⟩
end Go.Proofs.Ytijicdmpidbacaa.Pl
