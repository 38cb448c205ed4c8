/- Orders of steps: which there are, and when there are none. Plain Lean, no program in sight. No condition. -/
import Derived.Test.YtihbfbofbdkmbaaOk3
namespace Go.Proofs.Ytihbfbofbdkmbaa.Pl
open Go Go.RowKit
theorem sub_len : ∀ (a b : List Int), a.Nodup → (∀ x ∈ a, x ∈ b) → a.length ≤ b.length
  | [], _, _, _ => Nat.zero_le _
  | x :: r, b, hn, hs => by
    obtain ⟨h1, h2⟩ := List.nodup_cons.1 hn
    have hx : x ∈ b := hs x List.mem_cons_self
    have ih := sub_len r (b.erase x) h2 fun y hy => (List.mem_erase_of_ne (fun e : y = x => h1 (by rw [← e]; exact hy))).2 (hs y (List.mem_cons_of_mem _ hy))
    have := List.length_erase_of_mem hx
    have := List.length_pos_of_mem hx
    simp only [List.length_cons]
    omega
theorem mem_allS {n : Nat} {x : Int} : x ∈ allS n ↔ 0 ≤ x ∧ x < n := by
  unfold allS
  simp only [List.mem_map, List.mem_range]
  constructor
  · rintro ⟨j, hj, rfl⟩; omega
  · intro h; exact ⟨x.toNat, by omega, by omega⟩
theorem allS_len (n : Nat) : (allS n).length = n := by simp [allS]
theorem allS_nodup (n : Nat) : (allS n).Nodup := by
  refine List.pairwise_map.2 ((List.nodup_range (n := n)).imp fun h e => h ?_)
  omega
theorem len_le {n : Nat} {l : List Int} (hn : l.Nodup) (h : ∀ x ∈ l, 0 ≤ x ∧ x < n) : l.length ≤ n := by
  have := sub_len l (allS n) hn fun x hx => mem_allS.2 (h x hx)
  rwa [allS_len] at this
theorem some_free {n : Nat} {l : List Int} (h : l.length < n) : ∃ i : Nat, i < n ∧ (i : Int) ∉ l := Classical.byContradiction fun q => by
  have := sub_len (allS n) l (allS_nodup n) fun x hx => by
    obtain ⟨a, b⟩ := mem_allS.1 hx
    refine Classical.byContradiction fun g => q ⟨x.toNat, by omega, ?_⟩
    rwa [Int.toNat_of_nonneg a]
  rw [allS_len] at this
  omega
theorem all_in {n : Nat} {l : List Int} (hn : l.Nodup) (h : ∀ x ∈ l, 0 ≤ x ∧ x < n) (hl : l.length = n) {x : Int} (hx : 0 ≤ x ∧ x < n) : x ∈ l := Classical.byContradiction fun q => by
  have := len_le (n := n) (l := x :: l) (List.nodup_cons.2 ⟨q, hn⟩) fun y hy => by
    rcases List.mem_cons.1 hy with rfl | hy
    · exact hx
    · exact h y hy
  simp only [List.length_cons] at this
  omega
section
variable {before : List (Int × Int)} {n : Nat}
theorem ready_iff {done : List Int} {i : Int} : sp_ready before done i = true ↔ (∀ p ∈ before, p.2 = i → p.1 ∈ done) ∧ i ∉ done := by
  simp only [sp_ready, Bool.and_eq_true, List.all_eq_true, decide_eq_true_eq]
def Rng (n : Nat) (before : List (Int × Int)) : Prop := ∀ p ∈ before, (0 ≤ p.1 ∧ p.1 < n) ∧ 0 ≤ p.2 ∧ p.2 < n
def Acyc (before : List (Int × Int)) : Prop := ∀ a, ¬ Reach before a a
theorem Reach.rng {a b : Int} (h : Reach before a b) (hr : Rng n before) : (0 ≤ a ∧ a < n) ∧ 0 ≤ b ∧ b < n := by
  induction h with
  | one h => exact hr _ h
  | more _ h ih => exact ⟨ih.1, (hr _ h).2⟩
theorem Reach.trans {a b c : Int} (h : Reach before a b) (g : Reach before b c) : Reach before a c := by
  induction g with
  | one g => exact .more h g
  | more _ g ih => exact .more ih g
/-- steps that may have been done -/
structure Inv (before : List (Int × Int)) (n : Nat) (done : List Int) : Prop where
  nd : done.Nodup
  rng : ∀ x ∈ done, 0 ≤ x ∧ x < n
  cl : ∀ b ∈ done, ∀ a, Reach before a b → a ∈ done ∧ a ≠ b
theorem Inv.nil : Inv before n [] := ⟨List.nodup_nil, fun _ h => (by cases h), fun _ h => (by cases h)⟩
theorem Inv.add {done : List Int} {i : Int} (h : Inv before n done) (hr : sp_ready before done i = true) (hi : 0 ≤ i ∧ i < n) : Inv before n (done ++ [i]) := by
  obtain ⟨h1, h2⟩ := ready_iff.1 hr
  refine ⟨?_, fun x hx => ?_, fun b hb a hab => ?_⟩
  · refine List.nodup_append.2 ⟨h.nd, (by simp), fun a ha b hb e => ?_⟩
    rw [List.mem_singleton.1 hb] at e
    exact h2 (e ▸ ha)
  · rcases List.mem_append.1 hx with hx | hx
    · exact h.rng x hx
    · rw [List.mem_singleton.1 hx]; exact hi
  · rcases List.mem_append.1 hb with hb | hb
    · exact ⟨List.mem_append_left _ (h.cl b hb a hab).1, (h.cl b hb a hab).2⟩
    · rw [List.mem_singleton.1 hb] at hab ⊢
      have : a ∈ done := by
        cases hab with
        | one g => exact h1 _ g rfl
        | more g1 g2 => exact (h.cl _ (h1 _ g2 rfl) a g1).1
      exact ⟨List.mem_append_left _ this, fun e => h2 (e ▸ this)⟩
open Classical in
/-- below a step that is not done there is one that may come next -/
theorem ready_below (ac : Acyc before) (hr : Rng n before) {done : List Int} {i : Int} (hi : 0 ≤ i ∧ i < n) (hd : i ∉ done) : ∃ j : Int, (0 ≤ j ∧ j < n) ∧ sp_ready before done j = true ∧ (j = i ∨ Reach before j i) := by
  have key : ∀ (m : Nat) (i : Int), ((allS n).filter fun a => decide (Reach before a i)).length = m → (0 ≤ i ∧ i < n) → i ∉ done → ∃ j : Int, (0 ≤ j ∧ j < n) ∧ sp_ready before done j = true ∧ (j = i ∨ Reach before j i) := by
    intro m
    induction m using Nat.strongRecOn with
    | _ m ih =>
      intro i hm hi hd
      by_cases hq : sp_ready before done i = true
      · exact ⟨i, hi, hq, .inl rfl⟩
      · have : ∃ p ∈ before, p.2 = i ∧ p.1 ∉ done := Classical.byContradiction fun g => hq (ready_iff.2 ⟨fun p hp e => Classical.byContradiction fun g2 => g ⟨p, hp, e, g2⟩, hd⟩)
        obtain ⟨⟨a, b⟩, hp, rfl, ha⟩ := this
        have hab : Reach before a b := .one hp
        have hlt : ((allS n).filter fun c => decide (Reach before c a)).length < m := by
          have := sub_len (a :: (allS n).filter fun c => decide (Reach before c a)) ((allS n).filter fun c => decide (Reach before c b)) (List.nodup_cons.2 ⟨fun g => ac a (of_decide_eq_true (List.mem_filter.1 g).2), (allS_nodup n).filter _⟩) fun c hc => by
            rcases List.mem_cons.1 hc with rfl | hc
            · exact List.mem_filter.2 ⟨mem_allS.2 (hr _ hp).1, decide_eq_true hab⟩
            · exact List.mem_filter.2 ⟨(List.mem_filter.1 hc).1, decide_eq_true ((of_decide_eq_true (List.mem_filter.1 hc).2 : Reach before c a).trans hab)⟩
          simp only [List.length_cons] at this
          have hm' : ((allS n).filter fun c => decide (Reach before c b)).length = m := hm
          omega
        obtain ⟨j, h1, h2, h3⟩ := ih _ hlt a rfl (hr _ hp).1 ha
        refine ⟨j, h1, h2, .inr ?_⟩
        rcases h3 with rfl | h3
        · exact hab
        · exact h3.trans hab
  exact key _ i rfl hi hd
theorem some_ready (ac : Acyc before) (hr : Rng n before) {done : List Int} (hl : done.length < n) : ∃ i : Nat, i < n ∧ sp_ready before done i = true := by
  obtain ⟨i, h1, h2⟩ := some_free hl
  obtain ⟨j, h3, h4, _⟩ := ready_below ac hr (i := (i : Int)) ⟨by omega, by omega⟩ h2
  exact ⟨j.toNat, by omega, by rwa [Int.toNat_of_nonneg h3.1]⟩
theorem mem_succ {k : Nat} {done o : List Int} : o ∈ ordersF before n (k + 1) done ↔ ∃ i : Nat, i < n ∧ sp_ready before done i = true ∧ o ∈ ordersF before n k (done ++ [(i : Int)]) := by
  rw [ordersF, List.mem_flatMap]
  constructor
  · rintro ⟨i, h1, h2⟩
    split at h2
    · rename_i h3; exact ⟨i, List.mem_range.1 h1, h3, h2⟩
    · cases h2
  · rintro ⟨i, h1, h2, h3⟩
    exact ⟨i, List.mem_range.2 h1, by rwa [if_pos h2]⟩
theorem orders_some (ac : Acyc before) (hr : Rng n before) : ∀ (k : Nat) (done : List Int), done.length + k = n → ∃ o, o ∈ ordersF before n k done
  | 0, done, _ => ⟨done, by simp [ordersF]⟩
  | k + 1, done, h => by
    obtain ⟨i, h1, h2⟩ := some_ready ac hr (done := done) (by omega)
    obtain ⟨o, ho⟩ := orders_some ac hr k (done ++ [(i : Int)]) (by simp only [List.length_append, List.length_cons, List.length_nil]; omega)
    exact ⟨o, mem_succ.2 ⟨i, h1, h2, ho⟩⟩
theorem orders_inv : ∀ (k : Nat) (done o : List Int), Inv before n done → o ∈ ordersF before n k done → Inv before n o ∧ o.length = done.length + k ∧ ∃ r, o = done ++ r
  | 0, done, o, h, ho => by
    have : o = done := by simpa [ordersF] using ho
    subst this
    exact ⟨h, rfl, [], by simp⟩
  | k + 1, done, o, h, ho => by
    obtain ⟨i, h1, h2, h3⟩ := mem_succ.1 ho
    obtain ⟨a, b, r, c⟩ := orders_inv k _ o (h.add h2 ⟨by omega, by omega⟩) h3
    refine ⟨a, ?_, (i : Int) :: r, ?_⟩
    · rw [b, List.length_append, List.length_singleton]; omega
    · rw [c, List.append_assoc]; rfl
theorem acyc_of {o : List Int} (h : Inv before n o) (hl : o.length = n) (hr : Rng n before) : Acyc before := fun a ha => (h.cl a (all_in h.nd h.rng hl (ha.rng hr).1) a ha).2 rfl
theorem flat_len {α β : Type} (f : α → List β) (B : Nat) : ∀ (l : List α), (∀ x ∈ l, (f x).length ≤ B) → (l.flatMap f).length ≤ l.length * B
  | [], _ => by simp
  | a :: r, h => by
    have := flat_len f B r fun x hx => h x (List.mem_cons_of_mem _ hx)
    have := h a List.mem_cons_self
    rw [List.flatMap_cons, List.length_append, List.length_cons, Nat.add_mul]
    omega
theorem orders_len : ∀ (k : Nat) (done : List Int), (ordersF before n k done).length ≤ n ^ k
  | 0, done => by simp [ordersF]
  | k + 1, done => by
    have := flat_len (fun i : Nat => if sp_ready before done i = true then ordersF before n k (done ++ [(i : Int)]) else []) (n ^ k) (List.range n) fun i _ => by
      show (if sp_ready before done i = true then ordersF before n k (done ++ [(i : Int)]) else []).length ≤ n ^ k
      split
      · exact orders_len k _
      · simp
    rw [List.length_range] at this
    rw [ordersF, Nat.pow_succ, Nat.mul_comm]
    exact this
theorem sp_orders_nil {m : Int} : sp_orders m before [] = ordersF before m.toNat m.toNat [] := by simp [sp_orders]
theorem OrdOK.rngN {m : Int} (ok : OrdOK m before) : Rng m.toNat before := fun p hp => by
  have := ok.rng p hp
  have := ok.lo
  omega
theorem orders_nil {m : Int} (ok : OrdOK m before) : sp_orders m before [] = [] ↔ ∃ a, Reach before a a := by
  rw [sp_orders_nil]
  constructor
  · intro h
    refine Classical.byContradiction fun g => ?_
    obtain ⟨o, ho⟩ := orders_some (n := m.toNat) (fun a ha => g ⟨a, ha⟩) ok.rngN m.toNat [] (by simp)
    rw [h] at ho
    cases ho
  · rintro ⟨a, ha⟩
    refine List.eq_nil_iff_forall_not_mem.2 fun o ho => ?_
    obtain ⟨h1, h2, _⟩ := orders_inv _ _ o Inv.nil ho
    exact acyc_of h1 (by simpa using h2) ok.rngN a ha
theorem acyc_iff {m : Int} (ok : OrdOK m before) : sp_orders m before [] ≠ [] ↔ Acyc before := by
  rw [ne_eq, orders_nil ok]
  exact ⟨fun h a ha => h ⟨a, ha⟩, fun h ⟨a, ha⟩ => h a ha⟩
end
end Go.Proofs.Ytihbfbofbdkmbaa.Pl
