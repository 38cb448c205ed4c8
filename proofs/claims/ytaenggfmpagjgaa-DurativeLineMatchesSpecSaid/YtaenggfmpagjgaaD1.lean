/- The order of what happens. Plain Lean. No condition. -/
import Derived.Test.YtaenggfmpagjgaaB6
namespace Go.Proofs.Ytaenggfmpagjgaa.Pl
open Go Go.RowKit
theorem ok_compare : ∀ (x : Int) (y : Int), F_compare x y (fun r => r = sp_compare x y) := fun x y => by
  unfold F_compare
  simp only [forall_eq, sp_isNaN1, decide_eq_true_eq, decide_eq_false_iff_not]
  refine ⟨fun h => absurd h (by decide), fun _ => ⟨fun h => absurd h (by decide), fun _ => ⟨fun h => ?_, fun h => ⟨fun g => ?_, fun g => ?_⟩⟩⟩⟩
  · rw [sp_compare, if_pos h]
  · rw [sp_compare, if_neg h, if_pos g]
  · rw [sp_compare, if_neg h, if_neg g]
theorem ok_rank : ∀ (h_ : Hap), F_rank h_ (fun r => r = sp_rank h_) := fun h => by
  refine ⟨fun g => ?_, fun g => ?_⟩
  · rw [sp_rank, if_pos g]
  · rw [sp_rank, if_neg (by rw [g]; decide)]
theorem ok_cmpOr : ∀ (vals : List Int), pre_cmpOr vals → F_cmpOr vals (fun r => r = sp_cmpOr vals) := fun l hp => by
  unfold pre_cmpOr at hp
  refine ⟨fun t => ∃ k : Nat, t = k ∧ k ≤ l.length ∧ ∀ x ∈ l.take k, x = 0, fun t => (l.length - t).toNat, ⟨0, rfl, Nat.zero_le _, by simp⟩, ?_⟩
  rintro _ ⟨k, rfl, k1, k2⟩
  unfold F_cmpOr_L1
  simp only [decide_eq_true_eq, decide_eq_false_iff_not, bne_iff_ne, ne_eq, bne_eq_false_iff_eq]
  have hnone : (l.take k).find? (fun x => decide (x ≠ 0)) = none := List.find?_eq_none.2 fun x hx => by simp [k2 x hx]
  refine ⟨fun h => ⟨⟨by omega, h⟩, fun q => ?_, fun q => ?_⟩, fun h => ?_⟩
  · have e : l.find? (fun x => decide (x ≠ 0)) = some (gt l (k : Int)) := by
      have h2 := drop_gt (xs := l) (i := (k : Int)) ⟨by omega, by omega⟩
      rw [Int.toNat_natCast] at h2
      have h3 : (l.take k ++ (gt l (k : Int) :: l.drop ((k : Int) + 1).toNat)).find? (fun x => decide (x ≠ 0)) = some (gt l (k : Int)) := by
        rw [List.find?_append, hnone, Option.none_or, List.find?_cons_of_pos]
        exact decide_eq_true q
      rw [← h2, List.take_append_drop] at h3
      exact h3
    rw [sp_cmpOr, e]; rfl
  · rw [w64 (by omega)]
    refine ⟨⟨k + 1, by omega, by omega, fun x hx => ?_⟩, by omega⟩
    rw [takeN_gt (by omega)] at hx
    rcases List.mem_append.1 hx with hx | hx
    · exact k2 x hx
    · rw [List.mem_singleton.1 hx]; exact q
  · rw [List.take_of_length_le (by omega)] at hnone
    rw [sp_cmpOr, hnone]; rfl
theorem ok_hcmp : ∀ (a : Hap) (b : Hap), F_hcmp a b (fun r => r = sp_hcmp a b) := fun a b => by
  unfold F_hcmp
  simp only [forall_eq]
  refine ⟨?_, rfl⟩
  show (3 : Nat) ≤ 1000
  omega
theorem hcmp_lt {a b : Hap} : sp_hcmp a b < 0 ↔ a.time < b.time ∨ (a.time = b.time ∧ (sp_rank a < sp_rank b ∨ (sp_rank a = sp_rank b ∧ a.index < b.index))) := by
  have key : ∀ x y : Int, (sp_compare x y < 0 ↔ x < y) ∧ (sp_compare x y = 0 ↔ x = y) := fun x y => by
    unfold sp_compare
    split
    · omega
    · split <;> omega
  obtain ⟨a1, a2⟩ := key a.time b.time
  obtain ⟨b1, b2⟩ := key (sp_rank a) (sp_rank b)
  obtain ⟨c1, c2⟩ := key a.index b.index
  unfold sp_hcmp sp_cmpOr
  by_cases h1 : sp_compare a.time b.time = 0
  · by_cases h2 : sp_compare (sp_rank a) (sp_rank b) = 0
    · by_cases h3 : sp_compare a.index b.index = 0
      · simp [h1, h2, h3]; omega
      · simp [h1, h2, h3]; omega
    · simp [h1, h2]; omega
  · simp [h1]; omega
theorem rank_eq {a b : Hap} : sp_rank a = sp_rank b ↔ a.ending = b.ending := by
  unfold sp_rank
  cases a.ending <;> cases b.ending <;> simp
theorem hap_ext {a b : Hap} (h1 : a.time = b.time) (h2 : a.index = b.index) (h3 : a.ending = b.ending) : a = b := by
  cases a; cases b; simp only at h1 h2 h3; subst h1; subst h2; subst h3; rfl
/-- before -/
def hlt (a b : Hap) : Prop := sp_hcmp a b < 0
theorem hlt_irr (a : Hap) : ¬ hlt a a := by unfold hlt; rw [hcmp_lt]; omega
theorem hlt_trans {a b c : Hap} (h1 : hlt a b) (h2 : hlt b c) : hlt a c := by unfold hlt at *; rw [hcmp_lt] at *; omega
theorem hlt_tri (a b : Hap) : hlt a b ∨ a = b ∨ hlt b a := by
  unfold hlt
  by_cases h : sp_hcmp a b < 0
  · exact .inl h
  · by_cases g : sp_hcmp b a < 0
    · exact .inr (.inr g)
    · refine .inr (.inl ?_)
      rw [hcmp_lt] at h g
      exact hap_ext (by omega) (by omega) (rank_eq.1 (by omega))
theorem hle_iff {x y : Hap} : hle x y = true ↔ ¬ hlt y x := by
  unfold hle hlt
  simp
theorem mem_sortHap {l : List Hap} {x : Hap} : x ∈ sp_sortHap l ↔ x ∈ l := List.mem_mergeSort
theorem sortHap_len (l : List Hap) : (sp_sortHap l).length = l.length := List.length_mergeSort _
theorem sortHap_le (l : List Hap) : (sp_sortHap l).Pairwise fun x y => ¬ hlt y x := by
  have := List.pairwise_mergeSort (le := hle) (fun a b c h1 h2 => by
    rw [hle_iff] at *
    intro h
    rcases hlt_tri a b with g | g | g
    · exact h2 (hlt_trans h g)
    · subst g; exact h2 h
    · exact h1 g) (fun a b => by
    rw [Bool.or_eq_true, hle_iff, hle_iff]
    rcases hlt_tri a b with g | g | g
    · exact .inl fun h => hlt_irr _ (hlt_trans g h)
    · subst g; exact .inl (hlt_irr _)
    · exact .inr fun h => hlt_irr _ (hlt_trans g h)) l
  exact this.imp fun h => hle_iff.1 h
theorem sortHap_lt {l : List Hap} (h : l.Nodup) : (sp_sortHap l).Pairwise hlt := by
  have h2 : (sp_sortHap l).Nodup := (List.mergeSort_perm l hle).nodup_iff.2 h
  exact List.Pairwise.imp₂ (fun a b h1 h2 => by
    rcases hlt_tri a b with g | g | g
    · exact g
    · exact absurd g h2
    · exact absurd g h1) (sortHap_le l) h2
/-- a list in this order is told by what lies in it -/
theorem hlt_ext : ∀ {a b : List Hap}, a.Pairwise hlt → b.Pairwise hlt → (∀ x, x ∈ a ↔ x ∈ b) → a = b
  | [], b, _, _, h => by
    cases b with
    | nil => rfl
    | cons y s => exact absurd ((h y).2 List.mem_cons_self) (by simp)
  | x :: r, [], _, _, h => absurd ((h x).1 List.mem_cons_self) (by simp)
  | x :: r, y :: s, ha, hb, h => by
    obtain ⟨a1, a2⟩ := List.pairwise_cons.1 ha
    obtain ⟨b1, b2⟩ := List.pairwise_cons.1 hb
    have e : x = y := by
      rcases List.mem_cons.1 ((h x).1 List.mem_cons_self) with q | q
      · exact q
      · rcases List.mem_cons.1 ((h y).2 List.mem_cons_self) with q2 | q2
        · exact q2.symm
        · exact absurd (hlt_trans (a1 _ q2) (b1 _ q)) (hlt_irr _)
    subst e
    rw [hlt_ext a2 b2 fun z => ?_]
    constructor
    · intro hz
      rcases List.mem_cons.1 ((h z).1 (List.mem_cons_of_mem _ hz)) with q | q
      · subst q; exact absurd (a1 _ hz) (hlt_irr _)
      · exact q
    · intro hz
      rcases List.mem_cons.1 ((h z).2 (List.mem_cons_of_mem _ hz)) with q | q
      · subst q; exact absurd (b1 _ hz) (hlt_irr _)
      · exact q
end Go.Proofs.Ytaenggfmpagjgaa.Pl
