/- Lists of states in order: insertion, normal form, states that are possible. Plain Lean. No condition. -/
import Derived.Test.YtojoehfldbimpaaGreatDoorK3
namespace Go.Proofs.YtojoehfldbimpaaGreatDoor.Pl
open Go Go.RowKit
theorem before_irr : ∀ a : List Int, sp_before a a = false
  | [] => rfl
  | x :: r => by simp [sp_before, before_irr r]
theorem before_trans : ∀ a b c : List Int, sp_before a b = true → sp_before b c = true → sp_before a c = true
  | [], [], _, h, _ => by simp [sp_before] at h
  | [], _ :: _, [], _, h => by simp [sp_before] at h
  | [], _ :: _, _ :: _, _, _ => rfl
  | _ :: _, [], _, h, _ => by simp [sp_before] at h
  | _ :: _, _ :: _, [], _, h => by simp [sp_before] at h
  | x :: a, y :: b, z :: c, h, g => by
    unfold sp_before at h g ⊢
    by_cases e : x = y
    · subst e
      rw [if_pos rfl] at h
      by_cases e2 : x = z
      · subst e2
        rw [if_pos rfl] at g ⊢
        exact before_trans a b c h g
      · rw [if_neg e2] at g ⊢; exact g
    · rw [if_neg e] at h
      have h := of_decide_eq_true h
      by_cases e2 : y = z
      · subst e2
        rw [if_neg e]; exact decide_eq_true h
      · rw [if_neg e2] at g
        have g := of_decide_eq_true g
        rw [if_neg (by omega)]
        exact decide_eq_true (by omega)
theorem before_tri : ∀ a b : List Int, sp_before a b = true ∨ a = b ∨ sp_before b a = true
  | [], [] => .inr (.inl rfl)
  | [], _ :: _ => .inl rfl
  | _ :: _, [] => .inr (.inr rfl)
  | x :: a, y :: b => by
    by_cases e : x = y
    · subst e
      rcases before_tri a b with h | h | h
      · exact .inl (by simp [sp_before, h])
      · exact .inr (.inl (by rw [h]))
      · exact .inr (.inr (by simp [sp_before, h]))
    · rcases Int.lt_or_lt_of_ne e with h | h
      · exact .inl (by simp [sp_before, e, h])
      · exact .inr (.inr (by simp [sp_before, Ne.symm e, h]))
theorem scompare_before : ∀ a b : List Int, (sp_scompare a b < 0 ↔ sp_before a b = true) ∧ (sp_scompare a b = 0 ↔ a = b)
  | [], [] => by simp [sp_scompare, sp_before]
  | [], _ :: _ => by simp [sp_scompare, sp_before]
  | _ :: _, [] => by simp [sp_scompare, sp_before]
  | x :: a, y :: b => by
    have ih := scompare_before a b
    by_cases e : x = y
    · subst e
      simp [sp_scompare, sp_before, ih]
    · rcases Int.lt_or_lt_of_ne e with h | h
      · simp [sp_scompare, sp_before, e, h]
      · have : ¬ x < y := by omega
        simp [sp_scompare, sp_before, e, h, this]
/-- strictly ordered lists with the same members are the same -/
theorem ordered_ext {α : Type} {r : α → α → Prop} (irr : ∀ x, ¬ r x x) (tr : ∀ x y z, r x y → r y z → r x z) : ∀ (a b : List α), a.Pairwise r → b.Pairwise r → (∀ x, x ∈ a ↔ x ∈ b) → a = b
  | [], [], _, _, _ => rfl
  | [], y :: b, _, _, h => absurd ((h y).2 List.mem_cons_self) List.not_mem_nil
  | x :: a, [], _, _, h => absurd ((h x).1 List.mem_cons_self) List.not_mem_nil
  | x :: a, y :: b, ha, hb, h => by
    rw [List.pairwise_cons] at ha hb
    have e : x = y := by
      rcases List.mem_cons.1 ((h x).1 List.mem_cons_self) with e | e
      · exact e
      · rcases List.mem_cons.1 ((h y).2 List.mem_cons_self) with e' | e'
        · exact e'.symm
        · exact absurd (tr _ _ _ (ha.1 y e') (hb.1 x e)) (irr _)
    subst e
    rw [ordered_ext irr tr a b ha.2 hb.2 fun z => ?_]
    have hz := h z
    simp only [List.mem_cons] at hz
    constructor
    · intro k
      rcases hz.1 (.inr k) with g | g
      · subst g; exact absurd (ha.1 _ k) (irr _)
      · exact g
    · intro k
      rcases hz.2 (.inr k) with g | g
      · subst g; exact absurd (hb.1 _ k) (irr _)
      · exact g
abbrev Bfr (a b : List Int) : Prop := sp_before a b = true
theorem bfr_irr (x : List Int) : ¬ Bfr x x := fun h => by rw [Bfr, before_irr] at h; cases h
theorem bfr_ext {a b : List (List Int)} (ha : a.Pairwise Bfr) (hb : b.Pairwise Bfr) (h : ∀ x, x ∈ a ↔ x ∈ b) : a = b := ordered_ext bfr_irr before_trans a b ha hb h
theorem mem_insert : ∀ {l : List (List Int)} {s x : List Int}, x ∈ sp_insert l s ↔ x = s ∨ x ∈ l
  | [], s, x => by simp [sp_insert]
  | y :: r, s, x => by
    unfold sp_insert
    split
    · rw [List.mem_cons, mem_insert, List.mem_cons]
      constructor
      · rintro (h | h | h)
        · exact .inr (.inl h)
        · exact .inl h
        · exact .inr (.inr h)
      · rintro (h | h | h)
        · exact .inr (.inl h)
        · exact .inl h
        · exact .inr (.inr h)
    · split
      · rename_i e
        subst e
        constructor
        · exact .inr
        · rintro (h | h)
          · rw [h]; exact List.mem_cons_self
          · exact h
      · rw [List.mem_cons]
theorem insert_sorted : ∀ {l : List (List Int)} {s : List Int}, l.Pairwise Bfr → (sp_insert l s).Pairwise Bfr
  | [], s, _ => by simp [sp_insert]
  | y :: r, s, h => by
    have h' := List.pairwise_cons.1 h
    unfold sp_insert
    split
    · rename_i hb
      refine List.pairwise_cons.2 ⟨fun x hx => ?_, insert_sorted h'.2⟩
      rcases mem_insert.1 hx with e | e
      · rw [e]; exact hb
      · exact h'.1 x e
    · rename_i hb
      split
      · exact h
      · rename_i hne
        have hs : Bfr s y := by
          rcases before_tri s y with g | g | g
          · exact g
          · exact absurd g.symm hne
          · exact absurd g hb
        refine List.pairwise_cons.2 ⟨fun x hx => ?_, h⟩
        rcases List.mem_cons.1 hx with e | e
        · rw [e]; exact hs
        · exact before_trans _ _ _ hs (h'.1 x e)
theorem insert_len : ∀ (l : List (List Int)) (s : List Int), (sp_insert l s).length ≤ l.length + 1
  | [], s => by simp [sp_insert]
  | y :: r, s => by
    unfold sp_insert
    split
    · have := insert_len r s; simp; omega
    · split <;> simp
theorem mem_foldI : ∀ {l m : List (List Int)} {x : List Int}, x ∈ l.foldl sp_insert m ↔ x ∈ l ∨ x ∈ m
  | [], m, x => by simp
  | s :: l, m, x => by
    rw [List.foldl_cons, mem_foldI, mem_insert, List.mem_cons]
    constructor
    · rintro (h | h | h)
      · exact .inl (.inr h)
      · exact .inl (.inl h)
      · exact .inr h
    · rintro ((h | h) | h)
      · exact .inr (.inl h)
      · exact .inl h
      · exact .inr (.inr h)
theorem foldI_sorted : ∀ {l m : List (List Int)}, m.Pairwise Bfr → (l.foldl sp_insert m).Pairwise Bfr
  | [], _, h => h
  | _ :: l, _, h => foldI_sorted (l := l) (insert_sorted h)
theorem foldI_len : ∀ (l m : List (List Int)), (l.foldl sp_insert m).length ≤ l.length + m.length
  | [], m => by simp
  | s :: l, m => by
    have := foldI_len l (sp_insert m s)
    have := insert_len m s
    simp; omega
theorem mem_normal {l : List (List Int)} {x : List Int} : x ∈ sp_normal l ↔ x ∈ l := by
  unfold sp_normal; rw [mem_foldI]; simp
theorem normal_sorted (l : List (List Int)) : (sp_normal l).Pairwise Bfr := foldI_sorted List.Pairwise.nil
theorem normal_len (l : List (List Int)) : (sp_normal l).length ≤ l.length := by
  have := foldI_len l []
  simpa [sp_normal] using this
/-! ### states that are possible -/
theorem mem_maskAdd {u : List Int} {m : Nat} {x : Int} : x ∈ maskAdd u m ↔ ∃ i : Nat, u[i]? = some x ∧ m.testBit i = true := by
  unfold maskAdd
  simp only [List.mem_map, List.mem_filter]
  constructor
  · rintro ⟨⟨y, i⟩, ⟨h1, h2⟩, rfl⟩
    rw [List.mem_zipIdx_iff_getElem?] at h1
    exact ⟨i, h1, h2⟩
  · rintro ⟨i, h1, h2⟩
    exact ⟨(x, i), ⟨List.mem_zipIdx_iff_getElem?.2 h1, h2⟩, rfl⟩
theorem ex_mask (p : Nat → Bool) : ∀ k : Nat, ∃ m : Nat, m < 2 ^ k ∧ ∀ i, i < k → m.testBit i = p i
  | 0 => ⟨0, by simp, fun i h => by omega⟩
  | k + 1 => by
    obtain ⟨m, h1, h2⟩ := ex_mask p k
    cases hp : p k
    · refine ⟨m, by rw [Nat.pow_succ]; omega, fun i hi => ?_⟩
      by_cases e : i = k
      · subst e; rw [hp]; exact Nat.testBit_lt_two_pow h1
      · exact h2 i (by omega)
    · refine ⟨2 ^ k + m, by rw [Nat.pow_succ]; omega, fun i hi => ?_⟩
      by_cases e : i = k
      · subst e
        rw [hp, Nat.testBit_two_pow_add_eq, Nat.testBit_lt_two_pow h1]; rfl
      · rw [Nat.testBit_two_pow_add_gt (by omega)]
        exact h2 i (by omega)
/-- a state that differs from the initial one in unknown facts alone -/
def Poss (t : Task) (u s : List Int) : Prop := sp_isSet s t.facts = true ∧ ∀ x, x ∉ u → (x ∈ s ↔ x ∈ t.init)
theorem mask_set {t : Task} {u : List Int} (hv : sp_validate t = ⟨0, 0⟩) (hu : sp_isSet u t.facts = true) (m : Nat) : sp_isSet (sp_update t.init (maskAdd u m) u) t.facts = true := decide_eq_true ⟨update_sorted _ _ _, fun x hx => by
  rcases mem_update.1 hx with h | h
  · exact set_rng (TaskOK.rng hv).2.2.1 x h.1
  · obtain ⟨i, h1, _⟩ := mem_maskAdd.1 h
    exact set_rng hu x (List.mem_of_getElem? h1)⟩
theorem mem_worlds {t : Task} {u s : List Int} (hv : sp_validate t = ⟨0, 0⟩) (hu : sp_isSet u t.facts = true) : s ∈ sp_worlds t u ↔ Poss t u s := by
  obtain ⟨f0, f1, hi, hg⟩ := TaskOK.rng hv
  unfold sp_worlds
  rw [mem_normal]
  simp only [List.mem_map, List.mem_range]
  constructor
  · rintro ⟨m, hm, rfl⟩
    refine ⟨mask_set hv hu m, fun x hx => ?_⟩
    rw [mem_update]
    constructor
    · rintro (h | h)
      · exact h.1
      · obtain ⟨i, h1, _⟩ := mem_maskAdd.1 h
        exact absurd (List.mem_of_getElem? h1) hx
    · exact fun h => .inl ⟨h, hx⟩
  · rintro ⟨h1, h2⟩
    obtain ⟨m, hm, hb⟩ := ex_mask (fun i => decide (u.getD i 0 ∈ s)) u.length
    refine ⟨m, hm, sorted_ext _ _ (update_sorted _ _ _) (set_sorted h1) fun x => ?_⟩
    rw [mem_update]
    constructor
    · rintro (h | h)
      · exact (h2 x h.2).2 h.1
      · obtain ⟨i, g1, g2⟩ := mem_maskAdd.1 h
        have hl := (List.getElem?_eq_some_iff.1 g1).1
        rw [hb i hl] at g2
        have := of_decide_eq_true g2
        rw [List.getD_eq_getElem?_getD, g1] at this
        exact this
    · intro h
      by_cases hx : x ∈ u
      · obtain ⟨i, hl, e⟩ := List.mem_iff_getElem.1 hx
        refine .inr (mem_maskAdd.2 ⟨i, by rw [List.getElem?_eq_getElem hl, e], ?_⟩)
        rw [hb i hl]
        refine decide_eq_true ?_
        rw [List.getD_eq_getElem?_getD, List.getElem?_eq_getElem hl, e]
        exact h
      · exact .inl ⟨(h2 x hx).1 h, hx⟩
theorem worlds_sorted (t : Task) (u : List Int) : (sp_worlds t u).Pairwise Bfr := normal_sorted _
theorem worlds_len {t : Task} {u : List Int} (h : u.length ≤ 4) : (sp_worlds t u).length ≤ 16 := by
  unfold sp_worlds
  refine Nat.le_trans (normal_len _) ?_
  rw [List.length_map, List.length_range]
  calc 2 ^ u.length ≤ 2 ^ 4 := Nat.pow_le_pow_right (by decide) h
    _ = 16 := rfl
theorem worlds_set {t : Task} {u s : List Int} (hv : sp_validate t = ⟨0, 0⟩) (hu : sp_isSet u t.facts = true) (h : s ∈ sp_worlds t u) : sp_isSet s t.facts = true := ((mem_worlds hv hu).1 h).1
theorem mem_flips {n x : Int} : ∀ {l next : List (List Int)} {s : List Int}, s ∈ l.foldl (flip2 n x) next ↔ s ∈ next ∨ ∃ s0 ∈ l, s = sp_changed n s0 [x] [] ∨ s = sp_changed n s0 [] [x]
  | [], next, s => by simp
  | a :: l, next, s => by
    rw [List.foldl_cons, mem_flips, flip2, mem_insert, mem_insert]
    constructor
    · rintro ((h | h | h) | ⟨s0, h1, h2⟩)
      · exact .inr ⟨a, List.mem_cons_self, .inr h⟩
      · exact .inr ⟨a, List.mem_cons_self, .inl h⟩
      · exact .inl h
      · exact .inr ⟨s0, List.mem_cons_of_mem _ h1, h2⟩
    · rintro (h | ⟨s0, h1, h2⟩)
      · exact .inl (.inr (.inr h))
      · rcases List.mem_cons.1 h1 with rfl | h1
        · rcases h2 with h2 | h2
          · exact .inl (.inr (.inl h2))
          · exact .inl (.inl h2)
        · exact .inr ⟨s0, h1, h2⟩
theorem flips_sorted {n x : Int} : ∀ {l next : List (List Int)}, next.Pairwise Bfr → (l.foldl (flip2 n x) next).Pairwise Bfr
  | [], _, h => h
  | _ :: l, _, h => flips_sorted (l := l) (insert_sorted (insert_sorted h))
theorem flips_len {n x : Int} : ∀ (l next : List (List Int)), (l.foldl (flip2 n x) next).length ≤ 2 * l.length + next.length
  | [], next => by simp
  | a :: l, next => by
    have h1 := flips_len (n := n) (x := x) l (flip2 n x next a)
    have h2 := insert_len (sp_insert next (sp_changed n a [x] [])) (sp_changed n a [] [x])
    have h3 := insert_len next (sp_changed n a [x] [])
    rw [List.foldl_cons, List.length_cons]
    unfold flip2 at h1 ⊢
    omega
theorem possible_snoc (t : Task) (u : List Int) (x : Int) : sp_possible t (u ++ [x]) = (sp_possible t u).foldl (flip2 t.facts x) [] := by
  unfold sp_possible; rw [List.foldl_append]; rfl
theorem possible_sorted (t : Task) (u : List Int) : (sp_possible t u).Pairwise Bfr := by
  rcases List.eq_nil_or_concat u with rfl | ⟨u, x, rfl⟩
  · simp [sp_possible]
  · rw [List.concat_eq_append, possible_snoc]; exact flips_sorted List.Pairwise.nil
theorem mem_possible {t : Task} (hv : sp_validate t = ⟨0, 0⟩) : ∀ (m : Nat) {u s : List Int}, u.length = m → (∀ x ∈ u, 0 ≤ x ∧ x < t.facts) → (s ∈ sp_possible t u ↔ Poss t u s)
  | 0, u, s, hm, _ => by
    have : u = [] := List.length_eq_zero_iff.1 hm
    subst this
    obtain ⟨_, _, hi, _⟩ := TaskOK.rng hv
    simp only [sp_possible, List.foldl_nil, List.mem_singleton, Poss]
    constructor
    · rintro rfl; exact ⟨hi, fun _ _ => Iff.rfl⟩
    · rintro ⟨h1, h2⟩; exact sorted_ext _ _ (set_sorted h1) (set_sorted hi) fun x => h2 x List.not_mem_nil
  | m + 1, u, s, hm, hu => by
    rcases List.eq_nil_or_concat u with rfl | ⟨u, x, rfl⟩
    · simp at hm
    rw [List.concat_eq_append] at hm hu ⊢
    obtain ⟨f0, _, _, _⟩ := TaskOK.rng hv
    have hx := hu x (by simp)
    have ih : ∀ s0, s0 ∈ sp_possible t u ↔ Poss t u s0 := fun s0 => mem_possible hv m (by simpa using hm) fun y hy => hu y (List.mem_append_left _ hy)
    rw [possible_snoc, mem_flips]
    constructor
    · rintro (h | ⟨s0, h1, h2⟩)
      · cases h
      · obtain ⟨g1, g2⟩ := (ih s0).1 h1
        rcases h2 with rfl | rfl
        · refine ⟨changed_set f0 _ _ _, fun y hy => ?_⟩
          simp only [List.mem_append, List.mem_singleton, not_or] at hy
          rw [mem_changed f0, ← g2 y hy.1]
          constructor
          · rintro ⟨_, h | h⟩
            · exact absurd (List.mem_singleton.1 h) hy.2
            · exact h.1
          · exact fun h => ⟨set_rng g1 y h, .inr ⟨h, List.not_mem_nil⟩⟩
        · refine ⟨changed_set f0 _ _ _, fun y hy => ?_⟩
          simp only [List.mem_append, List.mem_singleton, not_or] at hy
          rw [mem_changed f0, ← g2 y hy.1]
          constructor
          · rintro ⟨_, h | h⟩
            · cases h
            · exact h.1
          · exact fun h => ⟨set_rng g1 y h, .inr ⟨h, fun k => hy.2 (List.mem_singleton.1 k)⟩⟩
    · rintro ⟨h1, h2⟩
      refine .inr ?_
      -- the state with x as it was
      have key : ∀ (add del : List Int), (∀ y, y ∈ add ∨ y ∈ del ↔ y = x) → (x ∈ add ↔ x ∈ t.init) → (x ∈ del ↔ x ∉ t.init) → Poss t u (sp_changed t.facts s add del) := fun add del ha h3 h4 => by
        refine ⟨changed_set f0 _ _ _, fun y hy => ?_⟩
        rw [mem_changed f0]
        by_cases e : y = x
        · subst e
          constructor
          · rintro ⟨_, h | ⟨_, h⟩⟩
            · exact h3.1 h
            · exact Classical.byContradiction fun k => h (h4.2 k)
          · exact fun h => ⟨hx, .inl (h3.2 h)⟩
        · rw [← h2 y (by simp [hy, e])]
          have n1 : y ∉ add := fun k => e ((ha y).1 (.inl k))
          have n2 : y ∉ del := fun k => e ((ha y).1 (.inr k))
          constructor
          · rintro ⟨_, h | h⟩
            · exact absurd h n1
            · exact h.1
          · exact fun h => ⟨set_rng h1 y h, .inr ⟨h, n2⟩⟩
      have back : ∀ (a d a2 d2 : List Int), (∀ y, y ∈ a ∨ y ∈ d → y = x) → (∀ y, y ∈ a2 ∨ y ∈ d2 ↔ y = x) → (x ∈ a2 ↔ x ∈ s) → (x ∈ d2 ↔ x ∉ s) → s = sp_changed t.facts (sp_changed t.facts s a d) a2 d2 := fun a d a2 d2 ha ha2 h3 h4 => by
        refine sorted_ext _ _ (set_sorted h1) (set_sorted (changed_set f0 _ _ _)) fun y => ?_
        rw [mem_changed f0, mem_changed f0]
        by_cases e : y = x
        · subst e
          constructor
          · exact fun h => ⟨set_rng h1 _ h, .inl (h3.2 h)⟩
          · rintro ⟨_, h | ⟨_, h⟩⟩
            · exact h3.1 h
            · exact Classical.byContradiction fun k => h (h4.2 k)
        · have n1 : y ∉ a := fun k => e (ha y (.inl k))
          have n2 : y ∉ d := fun k => e (ha y (.inr k))
          have n3 : y ∉ a2 := fun k => e ((ha2 y).1 (.inl k))
          have n4 : y ∉ d2 := fun k => e ((ha2 y).1 (.inr k))
          constructor
          · exact fun h => ⟨set_rng h1 y h, .inr ⟨⟨set_rng h1 y h, .inr ⟨h, n2⟩⟩, n4⟩⟩
          · rintro ⟨_, h | ⟨⟨_, h | h⟩, _⟩⟩
            · exact absurd h n3
            · exact absurd h n1
            · exact h.1
      by_cases hin : x ∈ t.init
      · refine ⟨sp_changed t.facts s [x] [], (ih _).2 (key [x] [] (by simp) (by simp [hin]) (by simp [hin])), ?_⟩
        by_cases hs : x ∈ s
        · exact .inl (back _ _ _ _ (by simp) (by simp) (by simp [hs]) (by simp [hs]))
        · exact .inr (back _ _ _ _ (by simp) (by simp) (by simp [hs]) (by simp [hs]))
      · refine ⟨sp_changed t.facts s [] [x], (ih _).2 (key [] [x] (by simp) (by simp [hin]) (by simp [hin])), ?_⟩
        by_cases hs : x ∈ s
        · exact .inl (back _ _ _ _ (by simp) (by simp) (by simp [hs]) (by simp [hs]))
        · exact .inr (back _ _ _ _ (by simp) (by simp) (by simp [hs]) (by simp [hs]))
theorem worlds_possible {t : Task} {u : List Int} (hv : sp_validate t = ⟨0, 0⟩) (hu : sp_isSet u t.facts = true) : sp_worlds t u = sp_possible t u :=
  bfr_ext (worlds_sorted t u) (possible_sorted t u) fun _ => (mem_worlds hv hu).trans (mem_possible hv _ rfl (set_rng hu)).symm
theorem possible_len {t : Task} : ∀ (m : Nat) (u : List Int), u.length = m → (sp_possible t u).length ≤ 2 ^ m
  | 0, u, hm => by
    have : u = [] := List.length_eq_zero_iff.1 hm
    subst this
    simp [sp_possible]
  | m + 1, u, hm => by
    rcases List.eq_nil_or_concat u with rfl | ⟨u, x, rfl⟩
    · simp at hm
    rw [List.concat_eq_append] at hm ⊢
    rw [possible_snoc]
    have h1 := possible_len (t := t) m u (by simpa using hm)
    have h2 := flips_len (n := t.facts) (x := x) (sp_possible t u) []
    simp at h2
    rw [Nat.pow_succ]; omega
/-! ### states after an operator -/
theorem mem_bafter {t : Task} {ws : List (List Int)} {op : Int} {s : List Int} : s ∈ sp_bafter t ws op ↔ ∃ s0 ∈ ws, s = sp_after t s0 op := by
  unfold sp_bafter; rw [mem_normal, List.mem_map]
  exact ⟨fun ⟨a, h, e⟩ => ⟨a, h, e.symm⟩, fun ⟨a, h, e⟩ => ⟨a, h, e.symm⟩⟩
theorem bafter_len (t : Task) (ws : List (List Int)) (op : Int) : (sp_bafter t ws op).length ≤ ws.length := by
  have := normal_len (ws.map fun s => sp_after t s op)
  rwa [List.length_map] at this
theorem bafter_set {t : Task} (hv : sp_validate t = ⟨0, 0⟩) {ws : List (List Int)} {op : Int} {s : List Int} (h : s ∈ sp_bafter t ws op) : sp_isSet s t.facts = true := by
  obtain ⟨s0, _, rfl⟩ := mem_bafter.1 h
  exact after_set (TaskOK.rng hv).1 _ _
end Go.Proofs.YtojoehfldbimpaaGreatDoor.Pl

