/- The laws on contingent links. Plain Lean. No condition. -/
import Derived.Test.YtkcamohhjaibaaaOk16
namespace Go.Proofs.Ytkcamohhjaibaaa.Pl
open Go Go.RowKit
theorem strong_facts {u : Uncertain} (hv : sp_uvalidate u = ⟨0, 0⟩) (h : (sp_strong u).2.1 = true) : ∃ T, Sat u T ∧ (sp_strong u).2.2 = ⟨0, 0⟩ ∧ ((sp_strong u).1.length : Int) = u.network.events ∧ (∀ e, 0 ≤ e → e < u.network.events → IsBase u e → gt (sp_strong u).1 e = T e ∧ 0 ≤ T e ∧ T e ≤ 30000) ∧ ∀ t ∈ (sp_strong u).1, -1 ≤ t ∧ t ≤ 30000 := by
  have uv := uv_of hv
  have hev := uv.v.ev
  rcases strong_spec hv with ⟨e, _⟩ | ⟨T, D, _, _, _, _, st, _, bd, e⟩
  · rw [e] at h; cases h
  · have ll : (sp_strong u).1.length = u.network.events.toNat := by rw [e]; simp
    have at_ : ∀ i : Nat, i < u.network.events.toNat → gt (sp_strong u).1 (i : Int) = if (place u i).base = (i : Int) then T i else -1 := fun i hi => by
      rw [gt_of ⟨by omega, by rw [ll]; omega⟩]
      simp only [e]; simp
    refine ⟨T, st, by rw [e], by omega, fun x h1 h2 hb => ?_, fun t ht => ?_⟩
    · have q : ((x.toNat : Nat) : Int) = x := by omega
      have := at_ x.toNat (by omega)
      rw [q, if_pos ((base_eq uv x).2 hb)] at this
      exact ⟨this, st.nn x h1 h2, bd x h1 h2⟩
    · obtain ⟨i, hi, rfl⟩ := mem_gt ht
      rw [at_ i (by omega)]
      split
      · have := st.nn i (by omega) (by omega); have := bd i (by omega) (by omega); omega
      · omega
theorem strong_code {u : Uncertain} (hv : sp_uvalidate u = ⟨0, 0⟩) : (sp_strong u).2.2 = ⟨0, 0⟩ := by
  rw [sp_strong, if_pos hv]; split <;> (try split) <;> rfl
theorem strong_false {u : Uncertain} (h : (sp_strong u).2.1 = false) : (sp_strong u).1 = [] := by
  unfold sp_strong at h ⊢
  by_cases h1 : sp_uvalidate u = ⟨0, 0⟩
  · rw [if_pos h1] at h ⊢
    by_cases h2 : (sp_strong_ u).2 = true
    · rw [if_pos h2] at h ⊢
      by_cases h3 : (sp_tighten (sp_strong_ u).1).2 = true
      · rw [if_pos h3] at h; cases h
      · rw [if_neg h3]
    · rw [if_neg h2]
  · rw [if_neg h1]
theorem box_range {u : Uncertain} (uv : UV u) {d : List Int} (hd : InBox u d) : ∀ t ∈ d, 1 ≤ t ∧ t ≤ 1000 := fun t ht => by
  obtain ⟨i, hi, rfl⟩ := mem_gt ht
  have := hd.2 i (by rw [← hd.1]; exact hi)
  have := uv.info (gt_memN (xs := u.contingent) (i := i) (by rw [← hd.1]; exact hi))
  omega
/-- the program's own example -/
def awU : Uncertain := ⟨⟨3, [⟨1, 2, 0, 9⟩]⟩, [⟨0, 1, 1, 3⟩]⟩
theorem awaited_strong : sp_strong awU = ([0, -1, 3], true, ⟨0, 0⟩) := by
  have hv : sp_uvalidate awU = ⟨0, 0⟩ := by decide +kernel
  have hp : ∀ e : Int, place awU e = if e = 1 then ⟨0, 1, 3⟩ else ⟨e, 0, 0⟩ := fun e => by
    unfold place awU
    by_cases h : e = 1
    · subst h; rfl
    · rw [if_neg h]
      have : (List.find? (fun l : Link => decide (l.dst = e)) [⟨0, 1, 1, 3⟩]) = none := by
        rw [List.find?_eq_none]; intro x hx; rw [List.mem_singleton.1 hx]; simpa using fun q : (1 : Int) = e => h q.symm
      rw [this]
  have st : Sat awU fun e => if e = 2 then 3 else 0 := by
    refine ⟨rfl, fun e _ _ => by show 0 ≤ (if e = 2 then (3 : Int) else 0); split <;> decide, fun l hl => ?_⟩
    have : l = ⟨1, 2, 0, 9⟩ := List.mem_singleton.1 hl
    subst this
    unfold lowOf highOf
    rw [hp, hp]
    decide
  rcases strong_spec hv with ⟨_, h⟩ | ⟨T, D, _, _, _, _, sT, hmin, _, e⟩
  · exact absurd ⟨_, st⟩ h
  · have h0 := sT.zero
    have h2 := hmin _ st 2 (by decide) (by decide)
    have lk := sT.lk ⟨1, 2, 0, 9⟩ (List.mem_singleton.2 rfl)
    unfold lowOf highOf at lk
    rw [hp, hp] at lk
    have h3 : (if (2 : Int) = 2 then (3 : Int) else 0) = 3 := rfl
    have l1 : (3 : Int) ≤ T 2 - T 0 := lk.1
    have t2 : T 2 = 3 := by
      have : T 2 ≤ 3 := h2
      omega
    rw [e]
    have r : List.range (awU.network.events.toNat) = [0, 1, 2] := by decide
    rw [r]
    simp only [List.map_cons, List.map_nil]
    have b0 : (place awU ((0 : Nat) : Int)).base = ((0 : Nat) : Int) := by rw [hp]; rfl
    have b1 : ¬ (place awU ((1 : Nat) : Int)).base = ((1 : Nat) : Int) := by rw [hp]; decide
    have b2 : (place awU ((2 : Nat) : Int)).base = ((2 : Nat) : Int) := by rw [hp]; rfl
    rw [if_pos b0, if_neg b1, if_pos b2]
    have z : T ((0 : Nat) : Int) = 0 := h0
    have w : T ((2 : Nat) : Int) = 3 := t2
    rw [z, w]
theorem ok_awaited : F_awaited (fun r => r = sp_awaited) := by
  unfold F_awaited sp_awaited
  intro r2 hr2
  have e : r2 = ([0, -1, 3], true, ⟨0, 0⟩) := hr2.trans awaited_strong
  subst e
  refine ⟨fun _ => ⟨fun _ => ⟨by unfold pre_numbers; decide, fun r3 h3 => by rw [h3]; decide⟩, fun h => (by cases h)⟩, fun h => (by cases h)⟩
theorem fault_beq (f : Fault) : ((f.code == f.code) && (f.index == f.index)) = true := by simp
theorem check_code {u : Uncertain} {d : List Int} (h : (sp_check u d).code = 0) : sp_check u d = ⟨0, 0⟩ := by
  unfold sp_check at h ⊢
  by_cases h1 : sp_uvalidate u = ⟨0, 0⟩
  · rw [if_pos h1] at h ⊢
    by_cases h2 : d.length = u.contingent.length
    · rw [if_pos h2] at h ⊢
      unfold ffirst at h ⊢
      cases hq : (List.range d.length).find? (fun i => decide (durF u d i ≠ ⟨0, 0⟩)) with
      | none => rfl
      | some i =>
        rw [hq] at h
        simp only at h ⊢
        unfold durF at h ⊢
        split
        · rename_i q; rw [if_pos q] at h; cases h
        · rfl
    · rw [if_neg h2] at h; exact absurd h (by decide)
  · rw [if_neg h1] at h
    exact absurd (uval_code h) h1
theorem dispatch_facts {u : Uncertain} {d : List Int} : (sp_dispatch u d).2.2.code = 0 → sp_check u d = ⟨0, 0⟩ ∧ (sp_dispatch u d).2.1 = (sp_strong u).2.1 := fun h => by
  by_cases hc : sp_check u d = ⟨0, 0⟩
  · refine ⟨hc, ?_⟩
    rw [sp_dispatch, if_pos hc]
    cases hs : (sp_strong u).2.1
    · simp
    · simp
  · rw [sp_dispatch, if_neg hc] at h
    exact absurd (check_code h) hc
theorem validate_ok {n : Network} (h1 : 1 ≤ n.events ∧ n.events ≤ 10) (h2 : n.links.length ≤ 30) (h3 : ∀ l ∈ n.links, sp_linkCode l n.events = 0) : sp_validate n = ⟨0, 0⟩ := by
  unfold sp_validate
  rw [if_neg (by omega), if_neg (by omega)]
  have : ∀ (ls : List Link) (i : Int), (∀ l ∈ ls, sp_linkCode l n.events = 0) → linksFault n.events ls i = ⟨0, 0⟩ := by
    intro ls
    induction ls with
    | nil => intro _ _; rfl
    | cons l r ih => intro i h; unfold linksFault; rw [if_pos (h l List.mem_cons_self)]; exact ih _ fun l hl => h l (List.mem_cons_of_mem _ hl)
  exact this _ _ h3
theorem timesFault_ok : ∀ (ts : List Int) (i : Int), (∀ t ∈ ts, -1000000 ≤ t ∧ t ≤ 1000000) → timesFault ts i = ⟨0, 0⟩
  | [], _, _ => rfl
  | t :: r, i, h => by
    have := h t List.mem_cons_self
    rw [timesFault_cons, if_neg (by omega)]
    exact timesFault_ok r _ fun x hx => h x (List.mem_cons_of_mem _ hx)
theorem fix_facts {u : Uncertain} {d : List Int} (h : (sp_fix u d).2.code = 0) : sp_check u d = ⟨0, 0⟩ ∧ (sp_fix u d).1 = sp_with_ u d ∧ (sp_with_ u d).links.length ≤ 30 := by
  by_cases hc : sp_check u d = ⟨0, 0⟩
  · rw [sp_fix, if_pos hc] at h ⊢
    by_cases c : 30 < (sp_with_ u d).links.length
    · rw [if_pos c] at h; exact absurd h (by decide)
    · rw [if_neg c]; exact ⟨hc, rfl, by omega⟩
  · rw [sp_fix, if_neg hc] at h
    exact absurd (check_code h) hc
/-- with a choice of durations, the network is valid if it has no link too many -/
theorem with_valid {u : Uncertain} (uv : UV u) {d : List Int} (hd : InBox u d) (h : (sp_with_ u d).links.length ≤ 30) : sp_validate (sp_with_ u d) = ⟨0, 0⟩ := by
  refine validate_ok uv.v.ev h fun l hl => ?_
  rcases List.mem_append.1 hl with hl | hl
  · exact uv.v.links l hl
  · obtain ⟨i, hi, rfl⟩ := mem_gt hl
    rw [List.length_zipWith] at hi
    rw [gt_zipWith (by omega) (by omega)]
    have b := hd.2 i (by omega)
    have f := uv.info (gt_memN (xs := u.contingent) (i := i) (by omega))
    unfold sp_linkCode fixL
    show (if (gt u.contingent i).src < 0 ∨ u.network.events ≤ (gt u.contingent i).src ∨ (gt u.contingent i).dst < 0 ∨ u.network.events ≤ (gt u.contingent i).dst then (3 : Int) else if gt d i < -1000 ∨ 1000 < gt d i ∨ gt d i < -1000 ∨ 1000 < gt d i then 3 else if (gt u.contingent i).src = (gt u.contingent i).dst ∨ gt d i < gt d i then 5 else 0) = 0
    rw [if_neg (by omega), if_neg (by omega), if_neg (by omega)]
end Go.Proofs.Ytkcamohhjaibaaa.Pl
