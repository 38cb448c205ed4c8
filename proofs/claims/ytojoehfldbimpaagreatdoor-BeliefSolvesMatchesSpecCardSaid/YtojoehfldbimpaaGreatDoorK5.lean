/- What the searches among beliefs ask and give. Plain Lean. No condition. -/
import Derived.Test.YtojoehfldbimpaaGreatDoorK4
namespace Go.Proofs.YtojoehfldbimpaaGreatDoor.Pl
open Go Go.RowKit
/-! ### keys differ -/
theorem digits_mem (u : Nat) : ∀ c ∈ Lib.decDigits u, 48 ≤ c.toNat ∧ c.toNat ≤ 57 := by
  induction u using Nat.strongRecOn with
  | _ u ih =>
    intro c hc
    have one : ∀ d : Fin 10, 48 ≤ (UInt8.ofNat (48 + d.val)).toNat ∧ (UInt8.ofNat (48 + d.val)).toNat ≤ 57 := by decide
    by_cases h : u < 10
    · rw [Lib.decDigits, dif_pos h] at hc
      rw [List.mem_singleton.1 hc]
      exact one ⟨u, h⟩
    · rw [Lib.decDigits, dif_neg h] at hc
      rcases List.mem_append.1 hc with hc | hc
      · exact ih (u / 10) (by omega) c hc
      · rw [List.mem_singleton.1 hc]
        exact one ⟨u % 10, by omega⟩
theorem digits_inj (u : Nat) : ∀ v : Nat, Lib.decDigits u = Lib.decDigits v → u = v := by
  have one : ∀ d e : Fin 10, UInt8.ofNat (48 + d.val) = UInt8.ofNat (48 + e.val) → d = e := by decide
  have pos : ∀ v : Nat, Lib.decDigits v ≠ [] := fun v => by
    rw [Lib.decDigits]
    split <;> simp
  induction u using Nat.strongRecOn with
  | _ u ih =>
    intro v h
    by_cases hu : u < 10 <;> by_cases hv : v < 10
    · rw [Lib.decDigits, dif_pos hu, Lib.decDigits, dif_pos hv] at h
      have := one ⟨u, hu⟩ ⟨v, hv⟩ (List.singleton_inj.1 h)
      exact congrArg Fin.val this
    · rw [Lib.decDigits, dif_pos hu, Lib.decDigits, dif_neg hv] at h
      have h2 := congrArg List.length h
      have := List.length_pos_iff.2 (pos (v / 10))
      simp only [List.length_append, List.length_singleton] at h2; omega
    · rw [Lib.decDigits, dif_neg hu] at h
      conv at h => rhs; rw [Lib.decDigits, dif_pos hv]
      have h2 := congrArg List.length h
      have := List.length_pos_iff.2 (pos (u / 10))
      simp only [List.length_append, List.length_singleton] at h2; omega
    · rw [Lib.decDigits, dif_neg hu] at h
      conv at h => rhs; rw [Lib.decDigits, dif_neg hv]
      obtain ⟨h1, h2⟩ := List.append_inj' h rfl
      have e1 := ih (u / 10) (by omega) (v / 10) h1
      have e2 := congrArg Fin.val (one ⟨u % 10, by omega⟩ ⟨v % 10, by omega⟩ (List.singleton_inj.1 h2))
      simp only at e2
      omega
theorem itoa_mem (x : Int) : ∀ c ∈ Lib.itoa x, c.toNat = 45 ∨ (48 ≤ c.toNat ∧ c.toNat ≤ 57) := fun c hc => by
  unfold Lib.itoa at hc
  split at hc
  · rcases List.mem_cons.1 hc with rfl | hc
    · exact .inl rfl
    · exact .inr (digits_mem _ c hc)
  · exact .inr (digits_mem _ c hc)
theorem itoa_inj {x y : Int} (h : Lib.itoa x = Lib.itoa y) : x = y := by
  have head : ∀ (u v : Nat), 45 :: Lib.decDigits u ≠ Lib.decDigits v := fun u v e => by
    have := digits_mem v 45 (e ▸ List.mem_cons_self)
    exact absurd this.1 (by decide)
  unfold Lib.itoa at h
  split at h <;> split at h
  · have := digits_inj _ _ (List.cons.inj h).2; omega
  · exact absurd h (head _ _)
  · exact absurd h.symm (head _ _)
  · have := digits_inj _ _ h; omega
theorem itoa_ne (x : Int) {c : UInt8} (h : c.toNat = 44 ∨ 58 ≤ c.toNat) : c ∉ Lib.itoa x := fun hc => by
  have := itoa_mem x c hc
  omega
theorem split_at {c : UInt8} : ∀ {p q u v : List UInt8}, c ∉ p → c ∉ q → p ++ c :: u = q ++ c :: v → p = q ∧ u = v
  | [], [], _, _, _, _, h => ⟨rfl, (List.cons.inj h).2⟩
  | [], y :: q, _, _, _, hq, h => absurd ((List.cons.inj h).1 ▸ List.mem_cons_self) hq
  | x :: p, [], _, _, hp, _, h => absurd ((List.cons.inj h).1 ▸ List.mem_cons_self) hp
  | x :: p, y :: q, u, v, hp, hq, h => by
    obtain ⟨h1, h2⟩ := List.cons.inj h
    obtain ⟨h3, h4⟩ := split_at (fun k => hp (List.mem_cons_of_mem _ k)) (fun k => hq (List.mem_cons_of_mem _ k)) h2
    exact ⟨by rw [h1, h3], h4⟩
theorem itoa_pos (x : Int) : Lib.itoa x ≠ [] := by
  unfold Lib.itoa
  split
  · simp
  · rw [Lib.decDigits]; split <;> simp
theorem rowL_inj : ∀ {a b : List Int} {r r' : List UInt8}, rowL a ++ 59 :: r = rowL b ++ 59 :: r' → a = b ∧ r = r'
  | [], [], _, _, h => ⟨rfl, (List.cons.inj h).2⟩
  | [], y :: b, r, r', h => by
    have e : rowL (y :: b) = Lib.itoa y ++ (44 :: rowL b) := by simp [rowL]
    rw [e] at h
    cases hi : Lib.itoa y with
    | nil => exact absurd hi (itoa_pos y)
    | cons c q =>
      rw [hi] at h
      have := (List.cons.inj h).1
      exact absurd (hi ▸ this ▸ List.mem_cons_self) (itoa_ne y (c := 59) (by decide))
  | x :: a, [], r, r', h => by
    have e : rowL (x :: a) = Lib.itoa x ++ (44 :: rowL a) := by simp [rowL]
    rw [e] at h
    cases hi : Lib.itoa x with
    | nil => exact absurd hi (itoa_pos x)
    | cons c q =>
      rw [hi] at h
      have := (List.cons.inj h).1
      exact absurd (hi ▸ this ▸ List.mem_cons_self) (itoa_ne x (c := 59) (by decide))
  | x :: a, y :: b, r, r', h => by
    have e1 : rowL (x :: a) = Lib.itoa x ++ (44 :: rowL a) := by simp [rowL]
    have e2 : rowL (y :: b) = Lib.itoa y ++ (44 :: rowL b) := by simp [rowL]
    rw [e1, e2, List.append_assoc, List.append_assoc] at h
    obtain ⟨h1, h2⟩ := split_at (itoa_ne x (by decide)) (itoa_ne y (by decide)) h
    obtain ⟨h3, h4⟩ := rowL_inj (a := a) (b := b) h2
    exact ⟨by rw [itoa_inj h1, h3], h4⟩
theorem keyL_inj : ∀ {a b : Bel}, keyL a = keyL b → a = b
  | [], [], _ => rfl
  | [], s :: b, h => by simp [keyL] at h
  | s :: a, [], h => by simp [keyL] at h
  | s :: a, q :: b, h => by
    have e1 : keyL (s :: a) = rowL s ++ 59 :: keyL a := by simp [keyL]
    have e2 : keyL (q :: b) = rowL q ++ 59 :: keyL b := by simp [keyL]
    rw [e1, e2] at h
    obtain ⟨h1, h2⟩ := rowL_inj h
    rw [h1, keyL_inj h2]
/-! ### the map of what was seen -/
def mapOf (l : List Entry) : List UInt8 → Int := fun k => if k ∈ l.map (fun e => keyL e.node) then 1 else 0
theorem mapOf_pos {l : List Entry} {n : Bel} : 0 < mapOf l (keyL n) ↔ n ∈ l.map (·.node) := by
  unfold mapOf
  constructor
  · intro h
    split at h
    · rename_i hm
      obtain ⟨e, he, hk⟩ := List.mem_map.1 hm
      exact List.mem_map.2 ⟨e, he, keyL_inj hk⟩
    · exact absurd h (by decide)
  · intro h
    obtain ⟨e, he, hk⟩ := List.mem_map.1 h
    rw [if_pos (List.mem_map.2 ⟨e, he, by rw [hk]⟩)]
    decide
theorem mapOf_push (l : List Entry) (e : Entry) : upd (mapOf l) (keyL e.node) 1 = mapOf (l ++ [e]) := by
  funext k
  unfold upd mapOf
  rw [List.map_append]
  by_cases h : k = keyL e.node
  · rw [if_pos h, if_pos (by simp [h])]
  · rw [if_neg h]
    simp [h]
theorem mapOf_one (e : Entry) : upd (fun _ => 0) (keyL e.node) 1 = mapOf [e] := by
  funext k
  unfold upd mapOf
  by_cases h : k = keyL e.node
  · rw [if_pos h, if_pos (by simp [h])]
  · rw [if_neg h, if_neg (by simp [h])]
/-! ### nodes of the search -/
theorem key_ok {t : Task} (hv : sp_validate t = ⟨0, 0⟩) {ws : Bel} (hw : WsOK t ws) : pre_key ws := by
  obtain ⟨f0, f1, _⟩ := TaskOK.rng hv
  refine ⟨by have := hw.1; omega, fun s hs => ⟨by have := set_len24 hv (hw.2 s hs); omega, fun x hx => ?_⟩⟩
  have := set_rng (hw.2 s hs) x hx
  omega
theorem bafter_ok {t : Task} (hv : sp_validate t = ⟨0, 0⟩) {ws : Bel} (hw : WsOK t ws) (op : Int) : WsOK t (sp_bafter t ws op) :=
  ⟨Nat.le_trans (bafter_len t ws op) hw.1, fun _ hs => bafter_set hv hs⟩
def opS (t : Task) (ws : Bel) (op : Int) : Option (Int × Bel) := if sp_sure ws (gt t.ops op).pre = true then some (op, sp_bafter t ws op) else none
theorem bsucc_def (t : Task) (ws : Bel) : bsucc t ws = (allS t.ops.length).filterMap (opS t ws) := rfl
theorem mem_bsucc {t : Task} {ws : Bel} {x : Int × Bel} : x ∈ bsucc t ws ↔ inb t.ops x.1 ∧ sp_sure ws (gt t.ops x.1).pre = true ∧ x.2 = sp_bafter t ws x.1 := by
  rw [bsucc_def, List.mem_filterMap]
  constructor
  · rintro ⟨op, h1, h2⟩
    unfold opS at h2
    split at h2
    · rename_i hs
      obtain rfl := Option.some.inj h2
      obtain ⟨a, b⟩ := mem_allS.1 h1
      exact ⟨⟨a, b⟩, hs, rfl⟩
    · cases h2
  · rintro ⟨h1, h2, h3⟩
    refine ⟨x.1, mem_allS.2 ⟨h1.1, h1.2⟩, ?_⟩
    unfold opS
    rw [if_pos h2, ← h3]
theorem allS_drop {n j : Nat} (h : j < n) : (allS n).drop j = (j : Int) :: (allS n).drop (j + 1) := by
  have hl : j < (allS n).length := by rw [allS_len]; exact h
  rw [List.drop_eq_getElem_cons hl]
  congr 1
  simp [allS]
theorem backR_len (q : List Entry) : ∀ (k : Nat) (i : Int), (backR q k i).length ≤ k
  | 0, _ => Nat.le_refl _
  | k + 1, i => by
    rw [backR]
    split
    · split
      · simp
      · have := backR_len q k (by assumption : Entry).from_
        simp; omega
    · simp
/-- what holds of the queue, while a node is expanded or not -/
structure QOK (t : Task) (start : Bel) (l : List Entry) (m : List UInt8 → Int) : Prop where
  map : m = mapOf l
  shape : Shape (bsucc t) start l
  len : l.length ≤ 2000
  ok : ∀ e ∈ l, WsOK t e.node
theorem QOK.start {t : Task} {start : Bel} (h : WsOK t start) : QOK t start [⟨start, -1, 0⟩] (upd (fun _ => 0) (keyL start) 1) :=
  ⟨mapOf_one ⟨start, -1, 0⟩, Shape.start _ _, by simp, fun e he => by rw [List.mem_singleton.1 he]; exact h⟩
theorem QOK.push {t : Task} {start : Bel} {l : List Entry} {m : List UInt8 → Int} (h : QOK t start l m) {i : Nat} {e : Entry} (hi : l[i]? = some e) {s : Int} {n : Bel} (hs : (s, n) ∈ bsucc t e.node) (hn : n ∉ l.map (·.node)) (hw : WsOK t n) (hl : l.length ≠ 2000) : QOK t start (l ++ [⟨n, (i : Int), s⟩]) (upd m (keyL n) 1) := by
  refine ⟨by rw [h.map]; exact mapOf_push l ⟨n, (i : Int), s⟩, h.shape.push hi hs hn, by have := h.len; simp; omega, fun e' he' => ?_⟩
  rcases List.mem_append.1 he' with he' | he'
  · exact h.ok e' he'
  · rw [List.mem_singleton.1 he']; exact hw
theorem entry_gt {l : List Entry} {i : Nat} (h : i < l.length) : l[i]? = some (gt l (i : Int)) := by
  have := gt_get (xs := l) (i := (i : Int)) ⟨by omega, by omega⟩
  rwa [Int.toNat_natCast] at this
theorem ok_breadthS : ∀ (start2 : List (List Int)) (x : Task), pre_breadthS start2 x → F_breadthS start2 x (fun r => r = sp_breadthS start2 x) := fun start t hp => by
  obtain ⟨hv, hw⟩ := hp
  have hops := (taskOK_of hv).len
  refine ⟨key_ok hv hw, ?_⟩
  simp only [forall_eq, sp_key]
  refine ⟨fun x2 l m => ∃ i : Nat, x2 = i ∧ i ≤ l.length ∧ QOK t start l m ∧ bfs (bsucc t) (fun _ => false) (2001 - i) l i = search (bsucc t) (fun _ => false) start, fun x2 _ _ => (2001 - x2).toNat, ⟨0, rfl, Nat.zero_le _, QOK.start hw, rfl⟩, ?_⟩
  rintro _ l m ⟨i, rfl, i1, hq, hb⟩
  have hlen := hq.len
  have ef : 2001 - i = (2000 - i) + 1 := by omega
  unfold F_breadthS_L1
  simp only [forall_eq, decide_eq_true_eq, decide_eq_false_iff_not]
  refine ⟨fun h => ?_, fun h => ?_⟩
  · have hi : i < l.length := by omega
    have hg := entry_gt hi
    have hwn := hq.ok _ (gt_memN hi)
    rw [ef, bfs] at hb
    simp only [hg] at hb
    refine ⟨⟨by omega, h⟩, fun e => absurd e Bool.false_ne_true, fun _ _ _ => ?_⟩
    · rw [if_neg Bool.false_ne_true] at hb
      refine ⟨fun t9 l4 m3 => ∃ j : Nat, t9 = j ∧ j ≤ t.ops.length ∧ QOK t start l4 m3 ∧ (∃ r, l4 = l ++ r) ∧ expand (i : Int) (((allS t.ops.length).drop j).filterMap (opS t (gt l (i : Int)).node)) l4 = expand (i : Int) (bsucc t (gt l (i : Int)).node) l, fun t9 _ _ => (t.ops.length - t9).toNat, ⟨0, rfl, Nat.zero_le _, hq, ⟨[], by simp⟩, rfl⟩, ?_⟩
      rintro _ l4 m3 ⟨j, rfl, j1, hq4, ⟨r, rfl⟩, he⟩
      have hlen4 := hq4.len
      have hi4 : (l ++ r)[i]? = some (gt l (i : Int)) := by rw [List.getElem?_append_left hi]; exact hg
      unfold F_breadthS_L3 F_breadthS_J1
      simp only [forall_eq, decide_eq_true_eq, decide_eq_false_iff_not, beq_iff_eq, beq_eq_false_iff_ne, ne_eq, sp_key]
      refine ⟨fun g => ?_, fun g => ?_⟩
      · have hj : j < t.ops.length := by omega
        have hin : inb t.ops (j : Int) := ⟨by omega, g⟩
        rw [allS_drop hj, List.filterMap_cons] at he
        rw [w64 (n := (j : Int) + 1) (by omega)]
        refine ⟨hin, pre_sure_of hv hwn ((taskOK_of hv).op hin).1, fun q => ?_, fun q => ?_⟩
        · have eo : opS t (gt l (i : Int)).node (j : Int) = some ((j : Int), sp_bafter t (gt l (i : Int)).node (j : Int)) := by rw [opS, if_pos q]
          rw [eo] at he
          simp only [expand] at he
          have hwb := bafter_ok hv hwn (j : Int)
          refine ⟨⟨hv, hin, hwn⟩, key_ok hv hwb, fun k => ?_, fun k => ?_⟩
          · rw [hq4.map, mapOf_pos] at k
            rw [if_pos k] at he
            exact ⟨⟨j + 1, by omega, by omega, hq4, ⟨r, rfl⟩, he⟩, by omega⟩
          · rw [hq4.map, mapOf_pos] at k
            rw [if_neg k] at he
            refine ⟨fun e => ?_, fun e => ?_⟩
            · rw [if_pos (by omega)] at he
              rw [← he] at hb
              exact hb
            · have hne : ¬ (l ++ r).length = 2000 := by omega
              rw [if_neg hne] at he
              have hps := hq4.push hi4 (mem_bsucc.2 ⟨hin, q, rfl⟩) k hwb hne
              have hl5 := hps.len
              exact ⟨⟨Nat.le_trans hl5 (by decide), Nat.le_trans (Nat.mul_le_mul_right 40 hl5) (by decide)⟩, ⟨j + 1, by omega, by omega, hps, ⟨r ++ [_], by rw [List.append_assoc]⟩, he⟩, by omega⟩
        · have eo : opS t (gt l (i : Int)).node (j : Int) = none := by rw [opS, if_neg (by rw [q]; decide)]
          rw [eo] at he
          exact ⟨⟨j + 1, by omega, by omega, hq4, ⟨r, rfl⟩, he⟩, by omega⟩
      · have ed : (allS t.ops.length).drop j = [] := List.drop_eq_nil_of_le (by rw [allS_len]; omega)
        rw [ed, List.filterMap_nil, expand] at he
        rw [← he] at hb
        rw [w64 (n := (i : Int) + 1) (by omega)]
        refine ⟨⟨i + 1, by omega, by rw [List.length_append]; omega, hq4, ?_⟩, by omega⟩
        rw [show 2001 - (i + 1) = 2000 - i by omega]
        exact hb
  · have hn : l[i]? = none := List.getElem?_eq_none (by omega)
    rw [ef, bfs] at hb
    simp only [hn] at hb
    exact hb
theorem ok_breadthP : ∀ (start2 : List (List Int)) (x : Task) (x2 : Task), pre_breadthP start2 x x2 → F_breadthP start2 x x2 (fun r => r = sp_breadthP start2 x x2) := fun start t t2 hp => by
  obtain ⟨hv, hw, he2⟩ := hp
  obtain rfl := he2.symm
  have hops := (taskOK_of hv).len
  refine ⟨key_ok hv hw, ?_⟩
  simp only [forall_eq, sp_key]
  refine ⟨fun x2 l m => ∃ i : Nat, x2 = i ∧ i ≤ l.length ∧ QOK t start l m ∧ bfs (bsucc t) (fun w => sp_sure w t.goal) (2001 - i) l i = search (bsucc t) (fun w => sp_sure w t.goal) start, fun x2 _ _ => (2001 - x2).toNat, ⟨0, rfl, Nat.zero_le _, QOK.start hw, rfl⟩, ?_⟩
  rintro _ l m ⟨i, rfl, i1, hq, hb⟩
  have hlen := hq.len
  have ef : 2001 - i = (2000 - i) + 1 := by omega
  unfold F_breadthP_L1
  simp only [forall_eq, decide_eq_true_eq, decide_eq_false_iff_not]
  refine ⟨fun h => ?_, fun h => ?_⟩
  · have hi : i < l.length := by omega
    have hg := entry_gt hi
    have hwn := hq.ok _ (gt_memN hi)
    rw [ef, bfs] at hb
    simp only [hg] at hb
    refine ⟨⟨by omega, h⟩, ⟨hv, hwn⟩, fun e => ?_, fun e _ _ => ?_⟩
    · rw [if_pos (show sp_sure (gt l (i : Int)).node t.goal = true from e)] at hb
      have hbl := backR_len l (i + 1) i
      refine ⟨fun p out => ∃ j : Nat, p = j ∧ j < l.length ∧ out ++ backR l (j + 1) j = backR l (i + 1) i, fun p _ => p.toNat, ⟨i, rfl, hi, rfl⟩, ?_⟩
      rintro _ out ⟨j, rfl, j1, hj⟩
      have hgj := entry_gt j1
      have ol := congrArg List.length hj
      rw [List.length_append] at ol
      unfold F_breadthP_L2
      simp only [forall_eq, decide_eq_true_eq, decide_eq_false_iff_not]
      have e0 : l[((j : Nat) : Int).toNat]? = some (gt l (j : Int)) := by simpa using hgj
      rw [backR] at hj
      simp only [e0] at hj
      refine ⟨⟨by omega, by omega⟩, fun f => ?_, fun f => ?_⟩
      · rw [if_neg (by omega)] at hj
        have h0 : 0 < j := Nat.pos_of_ne_zero fun e => by
          subst e
          have h1 := hq.shape.head
          rw [hgj] at h1
          rw [Option.some.inj h1] at f
          exact absurd f (show ¬ (0 : Int) ≤ -1 by decide)
        obtain ⟨k, u, k1, k2, k3, _⟩ := hq.shape.link j _ hgj h0
        have k4 := (List.getElem?_eq_some_iff.1 k3).1
        rw [k1, backR_fuel hq.shape k j k4 k2] at hj
        rw [k1]
        refine ⟨⟨?_, ?_⟩, ⟨k, rfl, k4, by rw [List.append_assoc]; exact hj⟩, by omega⟩
        · simp only [List.length_append, List.length_singleton, maxLen]; omega
        · simp only [List.length_append, List.length_singleton]; omega
      · rw [if_pos (by omega), List.append_nil] at hj
        refine ⟨by unfold pre_reverse; omega, ?_⟩
        rw [hj]
        exact hb
    · rw [if_neg (by rw [show sp_sure (gt l (i : Int)).node t.goal = false from e]; decide)] at hb
      refine ⟨fun t9 l4 m3 => ∃ j : Nat, t9 = j ∧ j ≤ t.ops.length ∧ QOK t start l4 m3 ∧ (∃ r, l4 = l ++ r) ∧ expand (i : Int) (((allS t.ops.length).drop j).filterMap (opS t (gt l (i : Int)).node)) l4 = expand (i : Int) (bsucc t (gt l (i : Int)).node) l, fun t9 _ _ => (t.ops.length - t9).toNat, ⟨0, rfl, Nat.zero_le _, hq, ⟨[], by simp⟩, rfl⟩, ?_⟩
      rintro _ l4 m3 ⟨j, rfl, j1, hq4, ⟨r, rfl⟩, he⟩
      have hlen4 := hq4.len
      have hi4 : (l ++ r)[i]? = some (gt l (i : Int)) := by rw [List.getElem?_append_left hi]; exact hg
      unfold F_breadthP_L3 F_breadthP_J1
      simp only [forall_eq, decide_eq_true_eq, decide_eq_false_iff_not, beq_iff_eq, beq_eq_false_iff_ne, ne_eq, sp_key]
      refine ⟨fun g => ?_, fun g => ?_⟩
      · have hj : j < t.ops.length := by omega
        have hin : inb t.ops (j : Int) := ⟨by omega, g⟩
        rw [allS_drop hj, List.filterMap_cons] at he
        rw [w64 (n := (j : Int) + 1) (by omega)]
        refine ⟨hin, pre_sure_of hv hwn ((taskOK_of hv).op hin).1, fun q => ?_, fun q => ?_⟩
        · have eo : opS t (gt l (i : Int)).node (j : Int) = some ((j : Int), sp_bafter t (gt l (i : Int)).node (j : Int)) := by rw [opS, if_pos q]
          rw [eo] at he
          simp only [expand] at he
          have hwb := bafter_ok hv hwn (j : Int)
          refine ⟨⟨hv, hin, hwn⟩, key_ok hv hwb, fun k => ?_, fun k => ?_⟩
          · rw [hq4.map, mapOf_pos] at k
            rw [if_pos k] at he
            exact ⟨⟨j + 1, by omega, by omega, hq4, ⟨r, rfl⟩, he⟩, by omega⟩
          · rw [hq4.map, mapOf_pos] at k
            rw [if_neg k] at he
            refine ⟨fun e => ?_, fun e => ?_⟩
            · rw [if_pos (by omega)] at he
              rw [← he] at hb
              exact hb
            · have hne : ¬ (l ++ r).length = 2000 := by omega
              rw [if_neg hne] at he
              have hps := hq4.push hi4 (mem_bsucc.2 ⟨hin, q, rfl⟩) k hwb hne
              have hl5 := hps.len
              exact ⟨⟨Nat.le_trans hl5 (by decide), Nat.le_trans (Nat.mul_le_mul_right 40 hl5) (by decide)⟩, ⟨j + 1, by omega, by omega, hps, ⟨r ++ [_], by rw [List.append_assoc]⟩, he⟩, by omega⟩
        · have eo : opS t (gt l (i : Int)).node (j : Int) = none := by rw [opS, if_neg (by rw [q]; decide)]
          rw [eo] at he
          exact ⟨⟨j + 1, by omega, by omega, hq4, ⟨r, rfl⟩, he⟩, by omega⟩
      · have ed : (allS t.ops.length).drop j = [] := List.drop_eq_nil_of_le (by rw [allS_len]; omega)
        rw [ed, List.filterMap_nil, expand] at he
        rw [← he] at hb
        rw [w64 (n := (i : Int) + 1) (by omega)]
        refine ⟨⟨i + 1, by omega, by rw [List.length_append]; omega, hq4, ?_⟩, by omega⟩
        rw [show 2001 - (i + 1) = 2000 - i by omega]
        exact hb
  · have hn : l[i]? = none := List.getElem?_eq_none (by omega)
    rw [ef, bfs] at hb
    simp only [hn] at hb
    exact hb
theorem ok_small : ∀ (start2 : List (List Int)) (x : Task), pre_small start2 x → F_small start2 x (fun r => r = sp_small start2 x) := fun _ _ hp => ⟨hp, fun r hr => by rw [hr]; rfl⟩
theorem ok_bplan : ∀ (t : Task) (unknown : List Int), F_bplan t unknown (fun r => r = sp_bplan t unknown) := fun t u => by
  unfold F_bplan sp_bplan
  simp only [forall_eq, fault_ne, fault_eq]
  refine ⟨fun h => by rw [if_neg h], fun h => ?_⟩
  have hu := unknown_ok h
  have hw := worlds_ok hu
  rw [if_pos h]
  simp only [decide_eq_true_eq, decide_eq_false_iff_not, Bool.not_eq_true', Bool.not_eq_false']
  refine fun _ _ => ⟨hu, ⟨hu.1, hw⟩, fun g => by rw [if_neg (by rw [g]; decide)], fun g => ?_⟩
  rw [if_pos g]
  exact ⟨⟨hu.1, hw, rfl⟩, fun q => by rw [if_pos (by omega)], fun q => by rw [if_neg (by omega)]⟩
end Go.Proofs.YtojoehfldbimpaaGreatDoor.Pl

