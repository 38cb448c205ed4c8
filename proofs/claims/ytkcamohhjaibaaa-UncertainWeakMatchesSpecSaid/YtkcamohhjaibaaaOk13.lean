/- Networks with contingent links: what the checks ask and give. Plain Lean. No condition. -/
import Derived.Test.YtkcamohhjaibaaaOk12
namespace Go.Proofs.Ytkcamohhjaibaaa.Pl
open Go Go.RowKit
theorem ffirst_hit {f : Nat → Fault} {n i : Nat} (hi : i < n) (hz : ∀ j, j < i → f j = ⟨0, 0⟩) (hf : f i ≠ ⟨0, 0⟩) : ffirst f n = f i := by
  unfold ffirst
  have : (List.range n).find? (fun i => decide (f i ≠ ⟨0, 0⟩)) = some i := by
    rw [List.find?_range_eq_some]
    exact ⟨by simpa using hf, List.mem_range.2 hi, fun j hj => by simpa using hz j hj⟩
  rw [this]
theorem ffirst_none {f : Nat → Fault} {n : Nat} (hz : ∀ j, j < n → f j = ⟨0, 0⟩) : ffirst f n = ⟨0, 0⟩ := by
  unfold ffirst
  have : (List.range n).find? (fun i => decide (f i ≠ ⟨0, 0⟩)) = none := by
    rw [List.find?_eq_none]
    intro x hx
    simpa using hz x (List.mem_range.1 hx)
  rw [this]
theorem ffirst_zero {f : Nat → Fault} {n : Nat} (h : ffirst f n = ⟨0, 0⟩) : ∀ j, j < n → f j = ⟨0, 0⟩ := by
  intro j
  induction j using Nat.strongRecOn with
  | _ j ih =>
    intro hj
    refine Classical.byContradiction fun hf => ?_
    have := ffirst_hit hj (fun k hk => ih k hk (by omega)) hf
    rw [h] at this
    exact hf this.symm
theorem zero_next {f : Nat → Fault} {k : Nat} (h : ∀ j, j < k → f j = ⟨0, 0⟩) (hk : f k = ⟨0, 0⟩) : ∀ j, j < k + 1 → f j = ⟨0, 0⟩ := fun j hj => by
  rcases Nat.lt_succ_iff_lt_or_eq.1 hj with q | rfl
  · exact h j q
  · exact hk
theorem contCode_range (u : Uncertain) (l : Link) : contCode u l = 0 ∨ contCode u l = 3 ∨ contCode u l = 5 := by
  unfold contCode sp_linkCode
  repeat' split
  all_goals simp
theorem ok_uval1 : ∀ (k : Link) (x : Link), F_uval1 k x (fun r => r = sp_uval1 k x) := fun k x => by
  unfold F_uval1 sp_uval1
  show (k.dst == x.dst) = decide (k.dst = x.dst)
  rw [Bool.eq_iff_iff]; simp
theorem ok_uval2 : ∀ (k : Link) (x : Link), F_uval2 k x (fun r => r = sp_uval2 k x) := fun k x => by
  unfold F_uval2 sp_uval2
  show (k.dst == x.src) = decide (k.dst = x.src)
  rw [Bool.eq_iff_iff]; simp
theorem fault_mk {c i : Int} (h : c ≠ 0) : (⟨c, i⟩ : Fault) ≠ ⟨0, 0⟩ := fun e => h (congrArg Fault.code e)
theorem contF1_ne {u : Uncertain} {i : Nat} (h : contCode u (gt u.contingent i) ≠ 0) : contF1 u i = ⟨contCode u (gt u.contingent i), -3 - i⟩ := by rw [contF1, if_pos h]
theorem contF1_dup {u : Uncertain} {i : Nat} (h : contCode u (gt u.contingent i) = 0) (h2 : ((u.contingent.take i).any fun x => sp_uval1 x (gt u.contingent i)) = true) : contF1 u i = ⟨7, -3 - i⟩ := by rw [contF1, if_neg (by simpa using h), if_pos h2]
theorem contF1_ok {u : Uncertain} {i : Nat} (h : contCode u (gt u.contingent i) = 0) (h2 : ((u.contingent.take i).any fun x => sp_uval1 x (gt u.contingent i)) = false) : contF1 u i = ⟨0, 0⟩ := by rw [contF1, if_neg (by simpa using h), if_neg (by rw [h2]; decide)]
theorem uval_len {u : Uncertain} (h1 : sp_validate u.network = ⟨0, 0⟩) (h2 : u.contingent.length ≤ 3) : sp_uvalidate u = if ffirst (contF1 u) u.contingent.length = ⟨0, 0⟩ then ffirst (contF2 u) u.contingent.length else ffirst (contF1 u) u.contingent.length := by
  rw [sp_uvalidate, if_pos h1, if_pos h2]
theorem uval_f1 {u : Uncertain} (h1 : sp_validate u.network = ⟨0, 0⟩) (h2 : u.contingent.length ≤ 3) {k : Nat} (hk : k < u.contingent.length) (hz : ∀ j, j < k → contF1 u j = ⟨0, 0⟩) (hf : contF1 u k ≠ ⟨0, 0⟩) : sp_uvalidate u = contF1 u k := by
  have := ffirst_hit hk hz hf
  rw [uval_len h1 h2, this, if_neg hf]
theorem uval_f2 {u : Uncertain} (h1 : sp_validate u.network = ⟨0, 0⟩) (h2 : u.contingent.length ≤ 3) (hz : ∀ j, j < u.contingent.length → contF1 u j = ⟨0, 0⟩) : sp_uvalidate u = ffirst (contF2 u) u.contingent.length := by
  rw [uval_len h1 h2, if_pos (ffirst_none hz)]
theorem ok_uvalidate : ∀ (u : Uncertain), F_uvalidate u (fun r => r = sp_uvalidate u) := fun u => by
  unfold F_uvalidate
  simp only [forall_eq, fault_ne, fault_eq, decide_eq_true_eq, decide_eq_false_iff_not]
  refine ⟨fun h => by rw [sp_uvalidate, if_neg h], fun h1 => ⟨fun h2 => by rw [sp_uvalidate, if_pos h1, if_neg (by omega)], fun h2 => ?_⟩⟩
  have hlen : u.contingent.length ≤ 3 := by omega
  refine ⟨fun t => ∃ k : Nat, t = k ∧ k ≤ u.contingent.length ∧ ∀ j, j < k → contF1 u j = ⟨0, 0⟩, fun t => (u.contingent.length - t).toNat, ⟨0, rfl, Nat.zero_le _, fun j hj => absurd hj (Nat.not_lt_zero _)⟩, ?_⟩
  rintro _ ⟨k, rfl, k1, k2⟩
  unfold F_uvalidate_L1
  simp only [forall_eq, decide_eq_true_eq, decide_eq_false_iff_not, beq_iff_eq, beq_eq_false_iff_ne, ne_eq]
  refine ⟨fun h => ?_, fun h => ?_⟩
  · have hb : inb u.contingent (k : Int) := ⟨by omega, h⟩
    have hk : k < u.contingent.length := by omega
    have main : ∀ e, e = contCode u (gt u.contingent k) → F_uvalidate_J2 u (fun r => r = sp_uvalidate u) e k (fun t => ∃ k : Nat, t = k ∧ k ≤ u.contingent.length ∧ ∀ j, j < k → contF1 u j = ⟨0, 0⟩) (fun t => (u.contingent.length - t).toNat) := by
      rintro e rfl
      unfold F_uvalidate_J2
      simp only [forall_eq, bne_iff_ne, ne_eq, bne_eq_false_iff_eq, Int.toNat_natCast]
      refine ⟨fun hc => ?_, fun hc => ⟨⟨by omega, by omega⟩, ⟨by rw [List.length_take]; omega, fun _ _ => trivial⟩, fun ha => ?_, fun ha => ?_⟩⟩
      · rw [w64 (by omega), uval_f1 h1 hlen hk k2 (by rw [contF1_ne hc]; exact fault_mk hc), contF1_ne hc]
      · rw [w64 (by omega), uval_f1 h1 hlen hk k2 (by rw [contF1_dup hc ha]; exact fault_mk (by decide)), contF1_dup hc ha]
      · rw [w64 (by omega)]
        exact ⟨⟨k + 1, by omega, by omega, zero_next k2 (contF1_ok hc ha)⟩, show ((u.contingent.length : Int) - ((k : Int) + 1)).toNat < ((u.contingent.length : Int) - (k : Int)).toNat by omega⟩
    unfold F_uvalidate_J1
    refine ⟨hb, fun hc => ⟨fun hl => ⟨fun _ => main _ (by rw [contCode, if_pos ⟨hc, .inl hl⟩]), fun e => by cases e⟩, fun hl => ⟨fun e => main _ (by rw [contCode, if_pos ⟨hc, .inr (by simpa using e)⟩]), fun e => main _ (by rw [contCode, if_neg (by simp at e; omega)])⟩⟩, fun hc => ⟨fun e => (by cases e), fun _ => main _ (by rw [contCode, if_neg (by omega)])⟩⟩
  · have hk : k = u.contingent.length := by omega
    subst hk
    have hs := uval_f2 h1 hlen k2
    refine ⟨fun t => ∃ k : Nat, t = k ∧ k ≤ u.contingent.length ∧ ∀ j, j < k → contF2 u j = ⟨0, 0⟩, fun t => (u.contingent.length - t).toNat, ⟨0, rfl, Nat.zero_le _, fun j hj => absurd hj (Nat.not_lt_zero _)⟩, ?_⟩
    rintro _ ⟨m, rfl, m1, m2⟩
    unfold F_uvalidate_L2
    simp only [forall_eq, decide_eq_true_eq, decide_eq_false_iff_not]
    refine ⟨fun g => ⟨⟨by omega, g⟩, ⟨by omega, fun _ _ => trivial⟩, fun ha => ?_, fun ha => ?_⟩, fun g => ?_⟩
    · have e : contF2 u m = ⟨8, -3 - m⟩ := by rw [contF2]; exact if_pos ha
      rw [w64 (by omega), hs, ffirst_hit (by omega) m2 (by rw [e]; exact fault_mk (by decide)), e]
    · have e : contF2 u m = ⟨0, 0⟩ := by rw [contF2, if_neg (by rw [show (u.contingent.any fun x => sp_uval2 x (gt u.contingent m)) = false from ha]; decide)]
      rw [w64 (by omega)]
      exact ⟨⟨m + 1, by omega, by omega, zero_next m2 e⟩, by omega⟩
    · have : m = u.contingent.length := by omega
      subst this
      rw [hs, ffirst_none m2]
theorem ok_uncertainFault : ∀ (u : Uncertain), F_uncertainFault u (fun r => r = sp_uvalidate u) := fun u => by
  unfold F_uncertainFault
  simp only [forall_eq, sp_at_, bne_iff_ne, ne_eq, bne_eq_false_iff_eq, decide_eq_true_eq, decide_eq_false_iff_not]
  refine ⟨fun h => by rw [sp_uvalidate, if_neg (fun e => h (by rw [e]))], fun h1' => ?_⟩
  have h1 := validate_code h1'
  have v := valid_of h1
  refine ⟨fun h2 => by rw [sp_uvalidate, if_pos h1, if_neg (by omega)], fun h2 => ?_⟩
  have hlen : u.contingent.length ≤ 3 := by omega
  refine ⟨fun t => ∃ k : Nat, t = k ∧ k ≤ u.contingent.length ∧ ∀ j, j < k → contF1 u j = ⟨0, 0⟩, fun t => (u.contingent.length - t).toNat, ⟨0, rfl, Nat.zero_le _, fun j hj => absurd hj (Nat.not_lt_zero _)⟩, ?_⟩
  rintro _ ⟨k, rfl, k1, k2⟩
  unfold F_uncertainFault_L1
  simp only [forall_eq, decide_eq_true_eq, decide_eq_false_iff_not, beq_iff_eq, beq_eq_false_iff_ne, ne_eq]
  refine ⟨fun h => ?_, fun h => ?_⟩
  · have hb : inb u.contingent (k : Int) := ⟨by omega, h⟩
    have hk : k < u.contingent.length := by omega
    have main : ∀ e, e = contCode u (gt u.contingent k) → F_uncertainFault_J2 u (fun r => r = sp_uvalidate u) e k (fun t => ∃ k : Nat, t = k ∧ k ≤ u.contingent.length ∧ ∀ j, j < k → contF1 u j = ⟨0, 0⟩) (fun t => (u.contingent.length - t).toNat) := by
      rintro e rfl
      unfold F_uncertainFault_J2
      refine ⟨fun e t => ∃ m : Nat, t = m ∧ m ≤ k ∧ e = if contCode u (gt u.contingent k) = 0 then (if ((u.contingent.take m).any fun x => sp_uval1 x (gt u.contingent k)) = true then 7 else 0) else contCode u (gt u.contingent k), fun _ t => (k - t).toNat, ⟨0, rfl, Nat.zero_le _, ?_⟩, ?_⟩
      · split
        · rename_i q; simpa using q
        · rfl
      rintro e _ ⟨m, rfl, m1, m2⟩
      unfold F_uncertainFault_L2
      simp only [forall_eq, sp_at_, bne_iff_ne, ne_eq, bne_eq_false_iff_eq, decide_eq_true_eq, decide_eq_false_iff_not, beq_iff_eq, beq_eq_false_iff_ne]
      refine ⟨fun g => ?_, fun g => ?_⟩
      · have hm : inb u.contingent (m : Int) := ⟨by omega, by omega⟩
        have et : u.contingent.take (m + 1) = u.contingent.take m ++ [gt u.contingent m] := by
          have := take_gt hm
          simpa using this
        have step : ∀ b : Bool, b = (decide (e = 0) && sp_uval1 (gt u.contingent m) (gt u.contingent k)) → F_uncertainFault_J4 b e m (fun e t => ∃ m : Nat, t = m ∧ m ≤ k ∧ e = if contCode u (gt u.contingent k) = 0 then (if ((u.contingent.take m).any fun x => sp_uval1 x (gt u.contingent k)) = true then 7 else 0) else contCode u (gt u.contingent k)) (fun _ t => (k - t).toNat) := by
          rintro b rfl
          unfold F_uncertainFault_J4 F_uncertainFault_J3
          rw [w64 (by omega)]
          have mu : ((k : Int) - ((m : Int) + 1)).toNat < ((k : Int) - (m : Int)).toNat := by omega
          refine ⟨fun q => ⟨⟨m + 1, by omega, by omega, ?_⟩, mu⟩, fun q => ⟨⟨m + 1, by omega, by omega, ?_⟩, mu⟩⟩
          · simp only [Bool.and_eq_true, decide_eq_true_eq] at q
            rw [et, List.any_append]
            by_cases hc : contCode u (gt u.contingent k) = 0
            · simp [hc, q.2]
            · rw [if_neg hc] at m2; omega
          · rw [et, List.any_append, m2]
            by_cases hc : contCode u (gt u.contingent k) = 0
            · rw [if_pos hc] at m2
              rw [if_pos hc, if_pos hc]
              cases ha : (u.contingent.take m).any fun x => sp_uval1 x (gt u.contingent k)
              · rw [ha] at m2
                simp only [Bool.false_eq_true, if_false] at m2
                subst m2
                simp only [decide_true, Bool.true_and] at q
                simp [q]
              · simp
            · rw [if_neg hc, if_neg hc]
        refine ⟨fun hc => ⟨hm, step _ ?_⟩, fun hc => step _ ?_⟩
        · simp only [hc, decide_true, Bool.true_and, sp_uval1]; rw [Bool.eq_iff_iff]; simp
        · simp [hc]
      · have hmk : m = k := by omega
        subst hmk
        refine ⟨fun hc => ?_, fun hc => ?_⟩
        · rw [w64 (by omega)]
          by_cases h0 : contCode u (gt u.contingent m) = 0
          · rw [if_pos h0] at m2
            cases ha : (u.contingent.take m).any fun x => sp_uval1 x (gt u.contingent m)
            · rw [ha] at m2; simp at m2; exact absurd m2 hc
            · rw [ha] at m2
              simp only [if_true] at m2
              rw [uval_f1 h1 hlen hk k2 (by rw [contF1_dup h0 ha]; exact fault_mk (by decide)), contF1_dup h0 ha, m2]
          · rw [if_neg h0] at m2
            rw [uval_f1 h1 hlen hk k2 (by rw [contF1_ne h0]; exact fault_mk h0), contF1_ne h0, m2]
        · rw [w64 (by omega)]
          refine ⟨⟨m + 1, by omega, by omega, zero_next k2 ?_⟩, show ((u.contingent.length : Int) - ((m : Int) + 1)).toNat < ((u.contingent.length : Int) - (m : Int)).toNat by omega⟩
          by_cases h0 : contCode u (gt u.contingent m) = 0
          · rw [if_pos h0] at m2
            cases ha : (u.contingent.take m).any fun x => sp_uval1 x (gt u.contingent m)
            · exact contF1_ok h0 ha
            · rw [ha] at m2; simp at m2; omega
          · rw [if_neg h0] at m2; omega
    unfold F_uncertainFault_J1
    refine ⟨hb, ⟨by have := v.ev; omega, by have := v.ev; omega⟩, fun hc => ⟨fun hl => ⟨fun _ => main _ (by rw [contCode, if_pos ⟨hc, .inl hl⟩]), fun e => by cases e⟩, fun hl => ⟨fun e => main _ (by rw [contCode, if_pos ⟨hc, .inr (by simpa using e)⟩]), fun e => main _ (by rw [contCode, if_neg (by simp at e; omega)])⟩⟩, fun hc => ⟨fun e => (by cases e), fun _ => main _ (by rw [contCode, if_neg (by omega)])⟩⟩
  · have hk : k = u.contingent.length := by omega
    subst hk
    have hs := uval_f2 h1 hlen k2
    refine ⟨fun t => ∃ k : Nat, t = k ∧ k ≤ u.contingent.length ∧ ∀ j, j < k → contF2 u j = ⟨0, 0⟩, fun t => (u.contingent.length - t).toNat, ⟨0, rfl, Nat.zero_le _, fun j hj => absurd hj (Nat.not_lt_zero _)⟩, ?_⟩
    rintro _ ⟨m, rfl, m1, m2⟩
    unfold F_uncertainFault_L3
    simp only [decide_eq_true_eq, decide_eq_false_iff_not]
    refine ⟨fun g => ?_, fun g => ?_⟩
    · have hm : inb u.contingent (m : Int) := ⟨by omega, g⟩
      refine ⟨fun t => ∃ j : Nat, t = j ∧ j ≤ u.contingent.length ∧ ((u.contingent.take j).any fun x => sp_uval2 x (gt u.contingent m)) = false, fun t => (u.contingent.length - t).toNat, ⟨0, rfl, Nat.zero_le _, by simp⟩, ?_⟩
      rintro _ ⟨j, rfl, j1, j2⟩
      unfold F_uncertainFault_L4
      simp only [forall_eq, sp_at_, decide_eq_true_eq, decide_eq_false_iff_not, beq_iff_eq, beq_eq_false_iff_ne, ne_eq]
      refine ⟨fun g2 => ?_, fun g2 => ?_⟩
      · have hj : inb u.contingent (j : Int) := ⟨by omega, g2⟩
        refine ⟨hj, hm, fun q => ?_, fun q => ?_⟩
        · have ha : (u.contingent.any fun x => sp_uval2 x (gt u.contingent m)) = true := List.any_eq_true.2 ⟨_, gt_mem hj, by simpa [sp_uval2] using q⟩
          have e : contF2 u m = ⟨8, -3 - m⟩ := by rw [contF2, if_pos ha]
          rw [w64 (by omega), hs, ffirst_hit (by omega) m2 (by rw [e]; exact fault_mk (by decide)), e]
        · rw [w64 (by omega)]
          refine ⟨⟨j + 1, by omega, by omega, ?_⟩, show ((u.contingent.length : Int) - ((j : Int) + 1)).toNat < ((u.contingent.length : Int) - (j : Int)).toNat by omega⟩
          have et : u.contingent.take (j + 1) = u.contingent.take j ++ [gt u.contingent j] := by
            have := take_gt hj
            simpa using this
          rw [et, List.any_append, j2]
          simpa [sp_uval2] using q
      · rw [List.take_of_length_le (by omega)] at j2
        have e : contF2 u m = ⟨0, 0⟩ := by rw [contF2, if_neg (by rw [j2]; decide)]
        rw [w64 (by omega)]
        exact ⟨⟨m + 1, by omega, by omega, zero_next m2 e⟩, show ((u.contingent.length : Int) - ((m : Int) + 1)).toNat < ((u.contingent.length : Int) - (m : Int)).toNat by omega⟩
    · have : m = u.contingent.length := by omega
      subst this
      rw [hs, ffirst_none m2]
theorem check_len {u : Uncertain} {d : List Int} (h1 : sp_uvalidate u = ⟨0, 0⟩) (h2 : d.length = u.contingent.length) : sp_check u d = ffirst (durF u d) d.length := by rw [sp_check, if_pos h1, if_pos h2]
theorem uval_small {u : Uncertain} (h : sp_uvalidate u = ⟨0, 0⟩) : u.contingent.length ≤ 3 := by
  refine Nat.le_of_not_lt fun hl => ?_
  unfold sp_uvalidate at h
  split at h
  · rw [if_neg (by omega)] at h; cases h
  · rename_i q; exact q h
theorem uval_code {u : Uncertain} (h : (sp_uvalidate u).code = 0) : sp_uvalidate u = ⟨0, 0⟩ := by
  have key : ∀ (f : Nat → Fault) (n : Nat), (∀ i, f i = ⟨0, 0⟩ ∨ (f i).code ≠ 0) → (ffirst f n).code = 0 → ffirst f n = ⟨0, 0⟩ := fun f n hf hc => by
    unfold ffirst at hc ⊢
    cases hq : (List.range n).find? (fun i => decide (f i ≠ ⟨0, 0⟩)) with
    | none => rfl
    | some i =>
      rw [hq] at hc
      rcases hf i with e | e
      · exact e
      · exact absurd hc e
  have k1 : ∀ i, contF1 u i = ⟨0, 0⟩ ∨ (contF1 u i).code ≠ 0 := fun i => by
    unfold contF1
    split
    · right; assumption
    · split
      · right; simp
      · left; rfl
  have k2 : ∀ i, contF2 u i = ⟨0, 0⟩ ∨ (contF2 u i).code ≠ 0 := fun i => by
    unfold contF2
    split
    · right; simp
    · left; rfl
  unfold sp_uvalidate at h ⊢
  split
  · rename_i q1
    rw [if_pos q1] at h
    split
    · rename_i q2
      rw [if_pos q2] at h
      split
      · rename_i q3; rw [if_pos q3] at h; exact key _ _ k2 h
      · rename_i q3; rw [if_neg q3] at h; exact absurd (key _ _ k1 h) q3
    · rename_i q2; rw [if_neg q2] at h; exact absurd h (by decide)
  · rename_i q1
    rw [if_neg q1] at h
    exact absurd (validate_code h) q1
end Go.Proofs.Ytkcamohhjaibaaa.Pl
