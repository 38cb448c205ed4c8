/- When a fact is true at a step in every order. Plain Lean, no program in sight. No condition. -/
import Derived.Test.YtihbfbofbdkmbaaOk7
namespace Go.Proofs.Ytihbfbofbdkmbaa.Pl
open Go Go.RowKit
section
variable {before : List (Int × Int)} {n : Nat}
/-- steps that can be done one after the other -/
inductive V (before : List (Int × Int)) (n : Nat) : List Int → Prop
  | nil : V before n []
  | add {l : List Int} {i : Int} : V before n l → (0 ≤ i ∧ i < n) → sp_ready before l i = true → V before n (l ++ [i])
theorem V.inv {l : List Int} (h : V before n l) : Inv before n l := by
  induction h with
  | nil => exact .nil
  | add _ h2 h3 ih => exact ih.add h3 h2
theorem V.last {l : List Int} {i : Int} (h : V before n (l ++ [i])) : V before n l ∧ (0 ≤ i ∧ i < n) ∧ sp_ready before l i = true := by
  generalize hx : l ++ [i] = x at h
  cases h with
  | nil => simp at hx
  | add h1 h2 h3 =>
    obtain ⟨rfl, e⟩ := List.append_inj' hx rfl
    simp only [List.cons.injEq, and_true] at e
    subst e
    exact ⟨h1, h2, h3⟩
theorem V.pre : ∀ (m : Nat) {l r : List Int}, r.length = m → V before n (l ++ r) → V before n l
  | 0, l, r, hm, h => by rwa [List.length_eq_zero_iff.1 hm, List.append_nil] at h
  | m + 1, l, r, hm, h => by
    rcases List.eq_nil_or_concat r with rfl | ⟨r', x, rfl⟩
    · simp at hm
    · rw [List.concat_eq_append] at h hm
      rw [← List.append_assoc] at h
      exact V.pre m (by simpa using hm) h.last.1
theorem V.split {d r : List Int} {j : Int} (h : V before n (d ++ j :: r)) : V before n d ∧ V before n (d ++ [j]) ∧ (0 ≤ j ∧ j < n) ∧ sp_ready before d j = true := by
  have e : d ++ j :: r = (d ++ [j]) ++ r := by simp
  rw [e] at h
  have h1 := V.pre _ rfl h
  exact ⟨h1.last.1, h1, h1.last.2⟩
theorem mem_orders : ∀ (k : Nat) {done o : List Int}, V before n done → (o ∈ ordersF before n k done ↔ ∃ r, r.length = k ∧ o = done ++ r ∧ V before n o)
  | 0, done, o, h => by
    rw [ordersF, List.mem_singleton]
    constructor
    · rintro rfl; exact ⟨[], rfl, by simp, h⟩
    · rintro ⟨r, hr, rfl, _⟩
      rw [List.length_eq_zero_iff.1 hr, List.append_nil]
  | k + 1, done, o, h => by
    rw [mem_succ]
    constructor
    · rintro ⟨i, h1, h2, h3⟩
      obtain ⟨r, hr, e, hv⟩ := (mem_orders k (h.add ⟨by omega, by omega⟩ h2)).1 h3
      exact ⟨(i : Int) :: r, by rw [List.length_cons, hr], by rw [e]; simp, hv⟩
    · rintro ⟨r, hr, e, hv⟩
      cases r with
      | nil => simp at hr
      | cons j r =>
        rw [e] at hv
        obtain ⟨h1, h2, h3, h4⟩ := hv.split
        have ej : ((j.toNat : Nat) : Int) = j := by omega
        refine ⟨j.toNat, by omega, by rw [ej]; exact h4, ?_⟩
        rw [ej]
        exact (mem_orders k h2).2 ⟨r, by simpa using hr, by rw [e]; simp, by rw [e]; exact hv⟩
theorem V.fill (ac : Acyc before) (hr : Rng n before) (D : Int → Prop) (hD : ∀ a b, D b → Reach before a b → D a) : ∀ (m : Nat) {l : List Int}, n - l.length = m → V before n l → (∀ x ∈ l, D x) → ∃ r, V before n (l ++ r) ∧ ∀ x : Int, x ∈ l ++ r ↔ (0 ≤ x ∧ x < n) ∧ D x := by
  intro m
  induction m using Nat.strongRecOn with
  | _ m ih =>
    intro l hm h hl
    by_cases q : ∃ x : Int, ((0 ≤ x ∧ x < n) ∧ D x) ∧ x ∉ l
    · obtain ⟨x, ⟨h1, h2⟩, h3⟩ := q
      obtain ⟨j, h4, h5, h6⟩ := ready_below ac hr h1 h3
      have hj : D j := by
        rcases h6 with rfl | h6
        · exact h2
        · exact hD _ _ h2 h6
      have hv := h.add h4 h5
      have hlen := len_le hv.inv.nd hv.inv.rng
      rw [List.length_append, List.length_singleton] at hlen
      obtain ⟨r, h7, h8⟩ := ih (n - (l ++ [j]).length) (by rw [List.length_append, List.length_singleton]; omega) rfl hv fun y hy => by
        rcases List.mem_append.1 hy with hy | hy
        · exact hl y hy
        · rw [List.mem_singleton.1 hy]; exact hj
      refine ⟨j :: r, ?_, fun x => ?_⟩
      · rw [List.append_cons]; exact h7
      · rw [List.append_cons]; exact h8 x
    · refine ⟨[], by simpa using h, fun x => ?_⟩
      rw [List.append_nil]
      exact ⟨fun hx => ⟨h.inv.rng x hx, hl x hx⟩, fun hx => Classical.byContradiction fun g => q ⟨x, hx, g⟩⟩
theorem V.full (ac : Acyc before) (hr : Rng n before) {l : List Int} (h : V before n l) : ∃ r, V before n (l ++ r) ∧ (l ++ r).length = n := by
  obtain ⟨r, h1, h2⟩ := V.fill ac hr (fun _ => True) (fun _ _ _ _ => trivial) _ rfl h fun _ _ => trivial
  refine ⟨r, h1, Nat.le_antisymm (len_le h1.inv.nd h1.inv.rng) ?_⟩
  have := sub_len (allS n) (l ++ r) (allS_nodup n) fun x hx => (h2 x).2 ⟨mem_allS.1 hx, trivial⟩
  rwa [allS_len] at this
/-- a fact after some steps -/
def Tr (A B : Int → Prop) : Prop → List Int → Prop
  | I, [] => I
  | I, x :: r => Tr A B (A x ∨ (I ∧ ¬ B x)) r
variable {A B : Int → Prop}
theorem tr_keep : ∀ {d : List Int} {I : Prop}, I → (∀ x ∈ d, ¬ B x) → Tr A B I d
  | [], _, h, _ => h
  | x :: r, I, h, g => show Tr A B (A x ∨ (I ∧ ¬ B x)) r from tr_keep (.inr ⟨h, g _ List.mem_cons_self⟩) fun y hy => g y (List.mem_cons_of_mem _ hy)
theorem tr_not : ∀ {d : List Int} {I : Prop}, ¬ I → (∀ x ∈ d, ¬ A x) → ¬ Tr A B I d
  | [], _, h, _ => h
  | x :: r, I, h, g => show ¬ Tr A B (A x ∨ (I ∧ ¬ B x)) r from tr_not (fun q => q.elim (g _ List.mem_cons_self) fun q => h q.1) fun y hy => g y (List.mem_cons_of_mem _ hy)
theorem tr_app : ∀ {d e : List Int} {I : Prop}, Tr A B I (d ++ e) = Tr A B (Tr A B I d) e
  | [], _, _ => rfl
  | _ :: _, _, _ => by rw [List.cons_append, Tr, Tr, tr_app]
theorem tr_add {d e : List Int} {x : Int} {I : Prop} (h : A x) (g : ∀ y ∈ e, ¬ B y) : Tr A B I (d ++ x :: e) := by
  rw [tr_app, Tr]
  exact tr_keep (.inl h) g
theorem tr_del {d e : List Int} {x : Int} {I : Prop} (h : B x) (h2 : ¬ A x) (g : ∀ y ∈ e, ¬ A y) : ¬ Tr A B I (d ++ x :: e) := by
  rw [tr_app, Tr]
  exact tr_not (fun q => q.elim h2 fun q => q.2 h) g
theorem last_split {P : Int → Prop} : ∀ {d : List Int}, (∃ x ∈ d, P x) → ∃ d1 k d2, d = d1 ++ k :: d2 ∧ P k ∧ ∀ x ∈ d2, ¬ P x
  | [], h => by obtain ⟨x, hx, _⟩ := h; cases hx
  | y :: d, h => by
    by_cases q : ∃ x ∈ d, P x
    · obtain ⟨d1, k, d2, e, h1, h2⟩ := last_split q
      exact ⟨y :: d1, k, d2, by rw [e]; rfl, h1, h2⟩
    · obtain ⟨x, hx, hp⟩ := h
      rcases List.mem_cons.1 hx with rfl | hx
      · exact ⟨[], x, d, rfl, hp, fun z hz g => q ⟨z, hz, g⟩⟩
      · exact absurd ⟨x, hx, hp⟩ q
/-- the test: made before, and made again after whatever may take it away -/
def Cert (before : List (Int × Int)) (n : Nat) (j : Int) (A B : Int → Prop) (I : Prop) : Prop :=
  (I ∨ ∃ i : Int, (0 ≤ i ∧ i < n) ∧ i ≠ j ∧ (j = n ∨ Reach before i j) ∧ A i) ∧
  ∀ k : Int, (0 ≤ k ∧ k < n) → B k → (k = j ∨ (j < n ∧ Reach before j k)) ∨ ∃ w : Int, (0 ≤ w ∧ w < n) ∧ w ≠ j ∧ A w ∧ Reach before k w ∧ (j = n ∨ Reach before w j)
/-- the steps up to j -/
def UpTo (before : List (Int × Int)) (n : Nat) (j : Int) (d : List Int) : Prop := V before n d ∧ (j < n → V before n (d ++ [j])) ∧ (j = n → d.length = n)
theorem UpTo.has {j : Int} {d : List Int} (h : UpTo before n j d) (hj : j ≤ n) {i : Int} (hi : 0 ≤ i ∧ i < n) (e : j = n ∨ Reach before i j) : i ∈ d := by
  by_cases q : j = n
  · exact all_in h.1.inv.nd h.1.inv.rng (h.2.2 q) hi
  · rcases e with e | e
    · exact absurd e q
    · have hv := h.2.1 (by omega)
      obtain ⟨h1, h2⟩ := hv.inv.cl j (List.mem_append_right _ List.mem_cons_self) i e
      rcases List.mem_append.1 h1 with h1 | h1
      · exact h1
      · exact absurd (List.mem_singleton.1 h1) h2
theorem UpTo.not {j : Int} {d : List Int} (h : UpTo before n j d) (hj : j ≤ n) {k : Int} (hk : k ∈ d) : ¬ (k = j ∨ (j < n ∧ Reach before j k)) := by
  have hr := h.1.inv.rng k hk
  rintro (e | ⟨q, e⟩)
  · subst e
    have := (ready_iff.1 (h.2.1 hr.2).last.2.2).2
    exact this hk
  · have := (ready_iff.1 (h.2.1 q).last.2.2).2
    exact this (h.1.inv.cl k hk j e).1
theorem cert_tr (ac : Acyc before) {j : Int} {I : Prop} (hj : j ≤ n) (hc : Cert before n j A B I) {d : List Int} (h : UpTo before n j d) : Tr A B I d := by
  by_cases q : ∃ x ∈ d, B x
  · obtain ⟨d1, k, d2, rfl, hB, h2⟩ := last_split q
    have hk : k ∈ d1 ++ k :: d2 := List.mem_append_right _ List.mem_cons_self
    rcases hc.2 k (h.1.inv.rng k hk) hB with g | ⟨w, hw, _, hA, hkw, hwj⟩
    · exact absurd g (h.not hj hk)
    · have hin := h.has hj hw hwj
      have hw2 : w ∈ d2 := by
        rcases List.mem_append.1 hin with g | g
        · have hv := h.1.split.1
          have hkd := (hv.inv.cl w g k hkw).1
          exact absurd hkd (ready_iff.1 h.1.split.2.2.2).2
        · rcases List.mem_cons.1 g with g | g
          · subst g; exact absurd hkw (ac w)
          · exact g
      obtain ⟨e1, e2, rfl⟩ := List.append_of_mem hw2
      rw [show d1 ++ k :: (e1 ++ w :: e2) = (d1 ++ k :: e1) ++ w :: e2 by simp]
      exact tr_add hA fun y hy => h2 y (List.mem_append_right _ (List.mem_cons_of_mem _ hy))
  · have q' : ∀ x ∈ d, ¬ B x := fun x hx g => q ⟨x, hx, g⟩
    rcases hc.1 with hI | ⟨i, hi, _, hij, hA⟩
    · exact tr_keep hI q'
    · obtain ⟨e1, e2, rfl⟩ := List.append_of_mem (h.has hj hi hij)
      exact tr_add hA fun y hy => q' y (List.mem_append_right _ (List.mem_cons_of_mem _ hy))
/-- what comes before j can be done before all else -/
theorem upTo_of {j : Int} {d : List Int} (hj : 0 ≤ j ∧ j ≤ n) (hr : Rng n before) (hv : V before n d) (hin : ∀ x : Int, (0 ≤ x ∧ x < n) → (j = n ∨ Reach before x j) → x ∈ d) (hn : j < n → j ∉ d) : UpTo before n j d := by
  refine ⟨hv, fun q => hv.add ⟨hj.1, q⟩ (ready_iff.2 ⟨fun p hp e => ?_, hn q⟩), fun q => ?_⟩
  · have hp1 := (hr p hp).1
    refine hin _ hp1 (.inr (.one ?_))
    rw [← e]; exact hp
  · refine Nat.le_antisymm (len_le hv.inv.nd hv.inv.rng) ?_
    have := sub_len (allS n) d (allS_nodup n) fun x hx => hin x (mem_allS.1 hx) (.inl q)
    rwa [allS_len] at this
theorem tr_cert (ac : Acyc before) (hr : Rng n before) (hAB : ∀ x, A x → ¬ B x) {j : Int} {I : Prop} (hj : 0 ≤ j ∧ j ≤ n) (h : ∀ d, UpTo before n j d → Tr A B I d) : Cert before n j A B I := by
  have up : ∀ a b, (j = n ∨ Reach before b j) → Reach before a b → (j = n ∨ Reach before a j) := fun a b h1 h2 => h1.imp id fun g => h2.trans g
  have nj : ∀ x : Int, (0 ≤ x ∧ x < n) → (j = n ∨ Reach before x j) → x ≠ j := fun x hx g e => by
    subst e
    rcases g with g | g
    · omega
    · exact ac _ g
  refine ⟨Classical.byContradiction fun hc => ?_, fun k hk hB => Classical.byContradiction fun hc => ?_⟩
  · obtain ⟨d, hv, hm⟩ := V.fill ac hr (fun x => j = n ∨ Reach before x j) up _ rfl V.nil fun x hx => (by cases hx)
    rw [List.nil_append] at hv hm
    refine tr_not (fun g => hc (.inl g)) (fun x hx g => hc (.inr ?_)) (h d (upTo_of hj hr hv (fun x h1 h2 => (hm x).2 ⟨h1, h2⟩) fun q g => ?_))
    · obtain ⟨h1, h2⟩ := (hm x).1 hx
      exact ⟨x, h1, nj x h1 h2, h2, g⟩
    · obtain ⟨h1, h2⟩ := (hm j).1 g
      exact nj j h1 h2 rfl
  · have hkj : k ≠ j := fun e => hc (.inl (.inl e))
    have hjk : j < n → ¬ Reach before j k := fun q g => hc (.inl (.inr ⟨q, g⟩))
    obtain ⟨d1, hv1, hm1⟩ := V.fill ac hr (fun x => Reach before x k ∨ ((j = n ∨ Reach before x j) ∧ ¬ Reach before k x ∧ x ≠ k)) (fun a b h1 h2 => by
      rcases h1 with h1 | ⟨h1, h3, h4⟩
      · exact .inl (h2.trans h1)
      · refine .inr ⟨up a b h1 h2, fun g => h3 (g.trans h2), fun e => h3 (e ▸ h2)⟩) _ rfl V.nil fun x hx => (by cases hx)
    rw [List.nil_append] at hv1 hm1
    have hk1 : k ∉ d1 := fun g => by
      rcases ((hm1 k).1 g).2 with g | g
      · exact ac k g
      · exact g.2.2 rfl
    have hv2 : V before n (d1 ++ [k]) := hv1.add hk (ready_iff.2 ⟨fun p hp e => (hm1 _).2 ⟨(hr p hp).1, .inl (.one (by rw [← e]; exact hp))⟩, hk1⟩)
    obtain ⟨d2, hv3, hm3⟩ := V.fill ac hr (fun x => x ∈ d1 ∨ x = k ∨ (Reach before k x ∧ (j = n ∨ Reach before x j))) (fun a b h1 h2 => by
      rcases h1 with h1 | rfl | ⟨h1, h3⟩
      · exact .inl (hv1.inv.cl b h1 a h2).1
      · exact .inl ((hm1 a).2 ⟨(h2.rng hr).1, .inl h2⟩)
      · by_cases q : a = k
        · exact .inr (.inl q)
        · by_cases q2 : Reach before k a
          · exact .inr (.inr ⟨q2, up a b h3 h2⟩)
          · exact .inl ((hm1 a).2 ⟨(h2.rng hr).1, .inr ⟨up a b h3 h2, q2, q⟩⟩)) _ rfl hv2 fun x hx => by
      rcases List.mem_append.1 hx with hx | hx
      · exact .inl hx
      · exact .inr (.inl (List.mem_singleton.1 hx))
    have hd2 : ∀ x : Int, x ∈ d2 → (0 ≤ x ∧ x < n) ∧ Reach before k x ∧ (j = n ∨ Reach before x j) := fun x hx => by
      have hnd := (List.nodup_append.1 hv3.inv.nd).2.2
      obtain ⟨h1, h2⟩ := (hm3 x).1 (List.mem_append_right _ hx)
      rcases h2 with h2 | h2 | h2
      · exact absurd rfl (hnd x (List.mem_append_left _ h2) x hx)
      · exact absurd rfl (hnd x (List.mem_append_right _ (by rw [h2]; exact List.mem_cons_self)) x hx)
      · exact ⟨h1, h2⟩
    have hup : UpTo before n j (d1 ++ [k] ++ d2) := upTo_of hj hr hv3 (fun x h1 h2 => (hm3 x).2 ⟨h1, by
      by_cases q : x = k
      · exact .inr (.inl q)
      · by_cases q2 : Reach before k x
        · exact .inr (.inr ⟨q2, h2⟩)
        · exact .inl ((hm1 x).2 ⟨h1, .inr ⟨h2, q2, q⟩⟩)⟩) fun q g => by
      obtain ⟨h1, h2⟩ := (hm3 j).1 g
      rcases h2 with h2 | h2 | ⟨_, h2⟩
      · rcases ((hm1 j).1 h2).2 with g | g
        · exact hjk q g
        · exact nj j h1 g.1 rfl
      · exact hkj h2.symm
      · exact nj j h1 h2 rfl
    have := h _ hup
    rw [List.append_assoc] at this
    refine tr_del hB (fun g => hAB k g hB) (fun y hy g => hc (.inr ?_)) this
    obtain ⟨h1, h2, h3⟩ := hd2 y hy
    exact ⟨y, h1, nj y h1 h3, g, h2, h3⟩
theorem cert_iff (ac : Acyc before) (hr : Rng n before) (hAB : ∀ x, A x → ¬ B x) {j : Int} {I : Prop} (hj : 0 ≤ j ∧ j ≤ n) : Cert before n j A B I ↔ ∀ d, UpTo before n j d → Tr A B I d :=
  ⟨fun h _ hd => cert_tr ac hj.2 h hd, tr_cert ac hr hAB hj⟩
end
end Go.Proofs.Ytihbfbofbdkmbaa.Pl
