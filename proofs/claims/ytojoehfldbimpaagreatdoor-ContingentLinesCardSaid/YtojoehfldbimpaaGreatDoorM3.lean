import Derived.Test.YtojoehfldbimpaaGreatDoorM2
import Derived.Test.YtojoehfldbimpaaGreatDoorM1
import Derived.Ground.NamesProg
import Derived.Test.YtojoehfldbimpaaGreatDoorChecked
/- Contingent plans: tree plans of at most a depth; the searcher. Plain Lean. No condition. -/
namespace Go.Proofs.YtojoehfldbimpaaGreatDoor.Pl
open Go Go.RowKit
theorem within_sure {t : Task} {sensors : List Int} {ws : Bel} (h : sp_sure ws t.goal = true) : ∀ d : Nat, within t sensors d ws = true
  | 0 => h
  | d + 1 => by unfold within; rw [h]; rfl
theorem within_succ {t : Task} {sensors : List Int} {ws : Bel} (h : sp_sure ws t.goal = false) (d : Nat) : within t sensors (d + 1) ws = (((bsucc t ws).any fun x => within t sensors d x.2) || sensors.any fun f => obsOk ws f && (within t sensors d (sp_observed ws f).1 && within t sensors d (sp_observed ws f).2)) := by
  conv => lhs; unfold within
  rw [h, Bool.false_or]
theorem ops_hit {t : Task} {sensors : List Int} {ws : Bel} {d : Nat} {o : Int} (ho : inb t.ops o) (hs : sp_sure ws (gt t.ops o).pre = true) (hw : within t sensors d (sp_bafter t ws o) = true) : ((bsucc t ws).any fun x => within t sensors d x.2) = true := by
  rw [List.any_eq_true]
  exact ⟨(o, sp_bafter t ws o), mem_bsucc.2 ⟨ho, hs, rfl⟩, hw⟩
theorem ops_none {t : Task} {sensors : List Int} {ws : Bel} {d : Nat} (h : ∀ j : Nat, j < t.ops.length → sp_sure ws (gt t.ops (j : Int)).pre = true → within t sensors d (sp_bafter t ws j) = false) : ((bsucc t ws).any fun x => within t sensors d x.2) = false := by
  rw [List.any_eq_false]
  intro x hx
  obtain ⟨h1, h2, h3⟩ := mem_bsucc.1 hx
  have e : ((x.1.toNat : Nat) : Int) = x.1 := by have := h1.1; omega
  have := h x.1.toNat (inb_lt h1) (by rw [e]; exact h2)
  rw [e, ← h3] at this
  rw [this]; decide
theorem obs_len {ws : Bel} {f : Int} : obsOk ws f = (decide (0 < (((sp_observed ws f).1.length : Nat) : Int)) && decide (0 < (((sp_observed ws f).2.length : Nat) : Int))) := by
  unfold obsOk
  cases h1 : (sp_observed ws f).1 <;> cases h2 : (sp_observed ws f).2 <;> simp
  all_goals omega
theorem sens_hit {t : Task} {sensors : List Int} {ws : Bel} {d : Nat} {f : Int} (hf : f ∈ sensors) (ho : obsOk ws f = true) (h1 : within t sensors d (sp_observed ws f).1 = true) (h2 : within t sensors d (sp_observed ws f).2 = true) : (sensors.any fun f => obsOk ws f && (within t sensors d (sp_observed ws f).1 && within t sensors d (sp_observed ws f).2)) = true := by
  rw [List.any_eq_true]
  exact ⟨f, hf, by rw [ho, h1, h2]; rfl⟩
theorem sens_none {t : Task} {sensors : List Int} {ws : Bel} {d : Nat} (h : ∀ j : Nat, j < sensors.length → (obsOk ws (gt sensors (j : Int)) && (within t sensors d (sp_observed ws (gt sensors (j : Int))).1 && within t sensors d (sp_observed ws (gt sensors (j : Int))).2)) = false) : (sensors.any fun f => obsOk ws f && (within t sensors d (sp_observed ws f).1 && within t sensors d (sp_observed ws f).2)) = false := by
  rw [List.any_eq_false]
  intro f hf
  obtain ⟨j, hj, rfl⟩ := mem_gt hf
  rw [h j hj]; decide
theorem obs_pre {t : Task} (hv : sp_validate t = ⟨0, 0⟩) {ws : Bel} (hw : WsOK t ws) (f : Int) : pre_observed ws f := ⟨by have := hw.1; omega, fun s hs => by have := set_len24 hv (hw.2 s hs); omega⟩
theorem within_pre {t : Task} {sensors : List Int} {ws : Bel} {d : Nat} (h : pre_within t sensors ws ((d : Int) + 1)) {x : Bel} (hx : WsOK t x) : pre_within t sensors x d := ⟨h.1, hx, h.2.2.1, by omega, by have := h.2.2.2.2; omega⟩
theorem nat_pred (d : Nat) (h : (d : Int) ≤ 6) : IntKind.i64.wrap ((d : Int) + 1 - 1) = d := by rw [w64 (by omega)]; omega
end Go.Proofs.YtojoehfldbimpaaGreatDoor.Pl

/- Contingent plans: what the searcher knows; the least depth. Plain Lean. No condition. -/
namespace Go.Proofs.YtojoehfldbimpaaGreatDoor.Pl
open Go Go.RowKit
theorem key_split {d e : Int} {a b : Bel} (h : (Lib.itoa d ++ [58]) ++ keyL a = (Lib.itoa e ++ [58]) ++ keyL b) : d = e ∧ a = b := by
  rw [List.append_assoc, List.append_assoc] at h
  obtain ⟨h1, h2⟩ := split_at (itoa_ne d (.inr (by decide))) (itoa_ne e (.inr (by decide))) h
  exact ⟨itoa_inj h1, keyL_inj h2⟩
theorem srInv_start (k : Srch) : srInv k (fun _ => 0) := fun _ _ _ _ h => absurd h (Int.lt_irrefl 0)
theorem srInv_upd {k : Srch} {m : List UInt8 → Int} (h : srInv k m) {d : Int} {ws : Bel} (hw : within k.t k.sensors d.toNat ws = false) : srInv k (upd m ((Lib.itoa d ++ [58]) ++ keyL ws) 1) := fun d' ws' h0 hk hm => by
  by_cases e : (Lib.itoa d' ++ [58]) ++ keyL ws' = (Lib.itoa d ++ [58]) ++ keyL ws
  · obtain ⟨rfl, rfl⟩ := key_split e
    exact hw
  · rw [upd_ne e] at hm
    exact h d' ws' h0 hk hm
theorem itoa_len {d : Int} (h : 0 ≤ d ∧ d ≤ 100) : (Lib.itoa d).length ≤ 21 := Lib.itoa_length_le d (by omega) (by omega)
theorem key_len {t : Task} (hv : sp_validate t = ⟨0, 0⟩) {ws : Bel} (hw : WsOK t ws) : (keyL ws).length ≤ 22001 * 16 := by
  have h1 := keyL_len (key_ok hv hw).2
  have h2 := hw.1
  omega
theorem ok_scan : ∀ (k : Srch) (worlds : List (List Int)) (depth : Int), pre_scan k worlds depth → F_scan k worlds depth (fun r => r = sp_scan k worlds depth) := fun kk l depth hp m hm => by
  obtain ⟨t, sensors⟩ := kk
  obtain ⟨hv, hw, hse, d0, d6⟩ := hp
  simp only at hv hw hse
  have hgoal : pre_sure l t.goal := pre_sure_of hv hw (TaskOK.rng hv).2.2.2
  have hkey := key_ok hv hw
  have hil := itoa_len (d := depth) ⟨d0, by omega⟩
  have hkl := key_len hv hw
  simp only [forall_eq, beq_iff_eq, beq_eq_false_iff_ne, ne_eq, sp_itoa, sp_key, decide_eq_true_eq, decide_eq_false_iff_not]
  refine ⟨hgoal, fun h => (within_sure h _).symm, fun h => ⟨fun e => ?_, fun e => ⟨⟨by omega, by omega⟩, ?_, hkey, ?_, fun g => ?_, fun _ => ?_⟩⟩⟩
  · rw [e, ← h]; rfl
  · simp; omega
  · simp; omega
  · exact (hm depth l d0 hw g).symm
  · obtain ⟨d, rfl⟩ : ∃ d : Nat, depth = (d : Int) + 1 := ⟨(depth - 1).toNat, by omega⟩
    have hops := (taskOK_of hv).len
    have hsl := set_len24 hv hse
    have hd : (d : Int) ≤ 6 := by omega
    have hp' : pre_within t sensors l ((d : Int) + 1) := ⟨hv, hw, hse, d0, d6⟩
    have eW : sp_scan ⟨t, sensors⟩ l ((d : Int) + 1) = within t sensors (d + 1) l := by unfold sp_scan; rw [show ((d : Int) + 1).toNat = d + 1 by omega]
    have eD : ∀ x : Bel, sp_scan ⟨t, sensors⟩ x d = within t sensors d x := fun x => by unfold sp_scan; rw [show ((d : Int)).toNat = d by omega]
    have ws := within_succ (sensors := sensors) h d
    intro _ _
    refine ⟨fun op mm => ∃ k : Nat, op = k ∧ k ≤ t.ops.length ∧ srInv ⟨t, sensors⟩ mm ∧ ∀ j : Nat, j < k → sp_sure l (gt t.ops (j : Int)).pre = true → within t sensors d (sp_bafter t l j) = false, fun op _ => (t.ops.length - op).toNat, ⟨0, rfl, by omega, hm, fun j hj => by omega⟩, ?_⟩
    rintro _ mm ⟨k, rfl, k1, k3, k2⟩
    unfold F_scan_L1 F_scan_J1
    simp only [forall_eq, decide_eq_true_eq, decide_eq_false_iff_not, nat_pred d hd, eD, eW]
    refine ⟨fun g => ?_, fun g => ?_⟩
    · have hk : k < t.ops.length := by omega
      have hin : inb t.ops (k : Int) := ⟨by omega, g⟩
      rw [w64 (n := (k : Int) + 1) (by omega)]
      refine ⟨hin, pre_sure_of hv hw ((taskOK_of hv).op hin).1, fun q => ⟨⟨hv, hin, hw⟩, k3, within_pre hp' (bafter_ok hv hw _), by unfold mu_scan; omega, fun m5 hm5 => ⟨fun q2 => ?_, fun q2 => ⟨⟨k + 1, by omega, by omega, hm5, fun j hj hs => ?_⟩, by omega⟩⟩⟩, fun q => ⟨⟨k + 1, by omega, by omega, k3, fun j hj hs => ?_⟩, by omega⟩⟩
      · rw [ws, ops_hit hin q q2]; rfl
      · rcases Nat.lt_succ_iff_lt_or_eq.1 hj with q' | rfl
        · exact k2 j q' hs
        · exact q2
      · rcases Nat.lt_succ_iff_lt_or_eq.1 hj with q' | rfl
        · exact k2 j q' hs
        · rw [q] at hs; cases hs
    · rw [ops_none fun j hj hs => k2 j (by omega) hs, Bool.false_or] at ws
      refine ⟨fun i mm => ∃ k : Nat, i = k ∧ k ≤ sensors.length ∧ srInv ⟨t, sensors⟩ mm ∧ ∀ j : Nat, j < k → (obsOk l (gt sensors (j : Int)) && (within t sensors d (sp_observed l (gt sensors (j : Int))).1 && within t sensors d (sp_observed l (gt sensors (j : Int))).2)) = false, fun i _ => (sensors.length - i).toNat, ⟨0, rfl, by omega, k3, fun j hj => by omega⟩, ?_⟩
      rintro _ mm2 ⟨i, rfl, m1, m3, m2⟩
      unfold F_scan_L2 F_scan_J2
      simp only [forall_eq, decide_eq_true_eq, decide_eq_false_iff_not, nat_pred d hd, eD, sp_split]
      refine ⟨fun g => ?_, fun g => ?_⟩
      · have hi : i < sensors.length := by omega
        have next : ∀ m9, srInv ⟨t, sensors⟩ m9 → (obsOk l (gt sensors (i : Int)) && (within t sensors d (sp_observed l (gt sensors (i : Int))).1 && within t sensors d (sp_observed l (gt sensors (i : Int))).2)) = false → (∃ k : Nat, IntKind.i64.wrap ((i : Int) + 1) = k ∧ k ≤ sensors.length ∧ srInv ⟨t, sensors⟩ m9 ∧ ∀ j : Nat, j < k → (obsOk l (gt sensors (j : Int)) && (within t sensors d (sp_observed l (gt sensors (j : Int))).1 && within t sensors d (sp_observed l (gt sensors (j : Int))).2)) = false) ∧ ((sensors.length : Int) - IntKind.i64.wrap ((i : Int) + 1)).toNat < ((sensors.length : Int) - i).toNat := fun m9 h9 q => by
          rw [w64 (by omega)]
          refine ⟨⟨i + 1, by omega, by omega, h9, fun j hj => ?_⟩, by omega⟩
          rcases Nat.lt_succ_iff_lt_or_eq.1 hj with q' | rfl
          · exact m2 j q'
          · exact q
        have ho := obs_len (ws := l) (f := gt sensors (i : Int))
        have hok := observed_ok hw (gt sensors (i : Int))
        refine ⟨⟨by omega, g⟩, obs_pre hv hw _, fun a => ⟨fun b => ⟨m3, within_pre hp' hok.1, by unfold mu_scan; omega, fun m9 h9 => ⟨fun c => ⟨within_pre hp' hok.2, by unfold mu_scan; omega, fun m10 h10 => ⟨fun e => ⟨h10, ?_⟩, fun e => next m10 h10 ?_⟩⟩, fun c => ⟨fun q => by simp at q, fun _ => next m9 h9 ?_⟩⟩⟩, fun b => ⟨fun q => by simp at q, fun _ => next mm2 m3 ?_⟩⟩, fun a => ⟨fun q => by simp at q, fun _ => next mm2 m3 ?_⟩⟩
        · rw [ws, sens_hit (gt_memN hi) (by rw [ho, decide_eq_true a, decide_eq_true b]; rfl) c e]
        · rw [e]; simp
        · rw [c]; simp
        · rw [ho, decide_eq_false b]; simp
        · rw [ho, decide_eq_false a]; simp
      · have hf := sens_none (ws := l) (d := d) (t := t) fun j hj => m2 j (by omega)
        rw [hf] at ws
        refine ⟨srInv_upd m3 ?_, ws.symm⟩
        rw [show ((d : Int) + 1).toNat = d + 1 by omega]
        exact ws
/-- the least depth -/
theorem leastW_some {t : Task} {sensors : List Int} {ws : Bel} {n d : Nat} : leastW t sensors ws n = some d ↔ within t sensors d ws = true ∧ d ≤ n ∧ ∀ j : Nat, j < d → within t sensors j ws = false := by
  unfold leastW
  rw [List.find?_range_eq_some]
  simp only [List.mem_range, Bool.not_eq_true']
  constructor
  · rintro ⟨a, b, c⟩; exact ⟨a, by omega, fun j hj => by simpa using c j hj⟩
  · rintro ⟨a, b, c⟩; exact ⟨a, by omega, fun j hj => by simpa using c j hj⟩
theorem leastW_none {t : Task} {sensors : List Int} {ws : Bel} {n : Nat} : leastW t sensors ws n = none ↔ ∀ j : Nat, j ≤ n → within t sensors j ws = false := by
  unfold leastW
  rw [List.find?_eq_none]
  simp only [List.mem_range, Bool.not_eq_true]
  exact ⟨fun h j hj => h j (by omega), fun h j hj => h j (by omega)⟩
theorem ok_sleast : ∀ (k : Srch) (worlds : List (List Int)) (most : Int), pre_sleast k worlds most → F_sleast k worlds most (fun r => r = sp_sleast k worlds most) := fun k l most hp m hm => by
  obtain ⟨hv, hw, hse, d0, d6⟩ := hp
  refine ⟨fun i mm => ∃ n : Nat, i = n ∧ (n : Int) ≤ most + 1 ∧ srInv k mm ∧ ∀ j : Nat, j < n → within k.t k.sensors j l = false, fun i _ => (most + 1 - i).toNat, ⟨0, rfl, by omega, hm, fun j hj => by omega⟩, ?_⟩
  rintro _ mm ⟨n, rfl, n1, n3, n2⟩
  unfold F_sleast_L1
  simp only [forall_eq, decide_eq_true_eq, decide_eq_false_iff_not]
  rw [w64 (n := most + 1) (by omega), w64 (n := (n : Int) + 1) (by omega)]
  have e : sp_scan k l n = within k.t k.sensors n l := by unfold sp_scan; rw [show ((n : Int)).toNat = n by omega]
  rw [e]
  refine ⟨fun g => ⟨n3, ⟨hv, hw, hse, by omega, by omega⟩, fun m4 h4 => ⟨fun q => ?_, fun q => ⟨⟨n + 1, by omega, by omega, h4, fun j hj => ?_⟩, by omega⟩⟩⟩, fun g => ⟨n3, ?_⟩⟩
  · unfold sp_sleast
    rw [leastW_some.2 ⟨q, by omega, n2⟩]
  · rcases Nat.lt_succ_iff_lt_or_eq.1 hj with q' | rfl
    · exact n2 j q'
    · exact q
  · unfold sp_sleast
    rw [leastW_none.2 fun j hj => n2 j (by omega)]
theorem ok_sput : ∀ (k : Srch) (tr : List TNode) (n_ : TNode), pre_sput k tr n_ → F_sput k tr n_ (fun r => r = sp_sput k tr n_) := fun k tr n hp m _ => by
  unfold pre_sput at hp
  simp only [forall_eq]
  refine ⟨⟨by simp [maxLen]; omega, by simp; omega⟩, ?_⟩
  unfold sp_sput
  rw [List.length_append, w64 (by simp; omega)]
  simp
end Go.Proofs.YtojoehfldbimpaaGreatDoor.Pl

/- Contingent plans: the tree plan of least depth. Plain Lean. No condition. -/
namespace Go.Proofs.YtojoehfldbimpaaGreatDoor.Pl
open Go Go.RowKit
theorem within_step {t : Task} {sensors : List Int} : ∀ (d : Nat) {ws : Bel}, within t sensors d ws = true → within t sensors (d + 1) ws = true
  | 0, ws, h => within_sure h 1
  | d + 1, ws, h => by
    by_cases hs : sp_sure ws t.goal = true
    · exact within_sure hs _
    · have hs' : sp_sure ws t.goal = false := by simpa using hs
      rw [within_succ hs', Bool.or_eq_true] at h
      rw [within_succ hs', Bool.or_eq_true]
      rcases h with h | h
      · rw [List.any_eq_true] at h
        obtain ⟨x, hx, hw⟩ := h
        exact .inl (List.any_eq_true.2 ⟨x, hx, within_step d hw⟩)
      · rw [List.any_eq_true] at h
        obtain ⟨f, hf, hw⟩ := h
        simp only [Bool.and_eq_true] at hw
        refine .inr (List.any_eq_true.2 ⟨f, hf, ?_⟩)
        simp only [Bool.and_eq_true]
        exact ⟨hw.1, within_step d hw.2.1, within_step d hw.2.2⟩
theorem within_mono {t : Task} {sensors : List Int} {d e : Nat} (hde : d ≤ e) {ws : Bel} (h : within t sensors d ws = true) : within t sensors e ws = true := by
  induction e with
  | zero => rw [show d = 0 by omega] at h; exact h
  | succ e ih =>
    by_cases q : d = e + 1
    · rw [← q]; exact h
    · exact within_step e (ih (by omega))
theorem treeT_least {t : Task} {sensors : List Int} {d e : Nat} (hde : d ≤ e) {ws : Bel} (h : within t sensors d ws = true) (out : List TNode) : treeT t sensors e ws out = treeT t sensors d ws out := by
  induction e with
  | zero => rw [show d = 0 by omega]
  | succ e ih =>
    by_cases q : d = e + 1
    · rw [q]
    · rw [← ih (by omega)]
      conv => lhs; unfold treeT
      rw [if_pos (within_mono (by omega) h)]
theorem treeT_len {t : Task} {sensors : List Int} : ∀ (d : Nat) (ws : Bel) (out : List TNode), (treeT t sensors d ws out).length + 1 ≤ out.length + 2 ^ (d + 1)
  | 0, ws, out => by simp [treeT]
  | d + 1, ws, out => by
    have hp : 2 ^ (d + 1 + 1) = 2 ^ (d + 1) + 2 ^ (d + 1) := by omega
    have h1 : 1 ≤ 2 ^ (d + 1) := Nat.one_le_two_pow
    unfold treeT
    split
    · have := treeT_len (t := t) (sensors := sensors) d ws out; omega
    · split
      · rename_i x _
        have := treeT_len (t := t) (sensors := sensors) d x.2 out
        rw [List.length_append]; simp only [List.length_singleton]; omega
      · split
        · rename_i f _
          have a := treeT_len (t := t) (sensors := sensors) d (sp_observed ws f).1 out
          have b := treeT_len (t := t) (sensors := sensors) d (sp_observed ws f).2 (treeT t sensors d (sp_observed ws f).1 out)
          rw [List.length_append]; simp only [List.length_singleton]; omega
        · omega
theorem find_ops {t : Task} {sensors : List Int} {ws : Bel} {d j : Nat} (hj : j < t.ops.length) (hs : sp_sure ws (gt t.ops (j : Int)).pre = true) (hw : within t sensors d (sp_bafter t ws j) = true) (hn : ∀ i : Nat, i < j → sp_sure ws (gt t.ops (i : Int)).pre = true → within t sensors d (sp_bafter t ws i) = false) :
    ((bsucc t ws).find? fun x => within t sensors d x.2) = some ((j : Int), sp_bafter t ws j) := by
  have hm : ((j : Int), sp_bafter t ws j) ∈ bsucc t ws := mem_bsucc.2 ⟨⟨by omega, by omega⟩, hs, rfl⟩
  obtain ⟨ys, bs, e⟩ := List.append_of_mem hm
  rw [List.find?_eq_some_iff_append]
  refine ⟨hw, ys, bs, e, fun a ha => ?_⟩
  have hso := bsucc_sorted t ws
  have ham : a ∈ bsucc t ws := by rw [e]; exact List.mem_append_left _ ha
  rw [e, List.map_append, List.pairwise_append] at hso
  have hlt := hso.2.2 a.1 (List.mem_map_of_mem ha) (j : Int) (by simp)
  obtain ⟨h1, h2, h3⟩ := mem_bsucc.1 ham
  have e1 : ((a.1.toNat : Nat) : Int) = a.1 := by have := h1.1; omega
  have := hn a.1.toNat (by have := h1.1; omega) (by rw [e1]; exact h2)
  rw [e1, ← h3] at this
  rw [this]; rfl
theorem find_ops_none {t : Task} {sensors : List Int} {ws : Bel} {d : Nat} (h : ∀ j : Nat, j < t.ops.length → sp_sure ws (gt t.ops (j : Int)).pre = true → within t sensors d (sp_bafter t ws j) = false) : ((bsucc t ws).find? fun x => within t sensors d x.2) = none := by
  rw [List.find?_eq_none]
  have := List.any_eq_false.1 (ops_none h)
  exact this
theorem find_sens {t : Task} {sensors : List Int} {ws : Bel} {d j : Nat} (hj : j < sensors.length) (hw : (obsOk ws (gt sensors (j : Int)) && (within t sensors d (sp_observed ws (gt sensors (j : Int))).1 && within t sensors d (sp_observed ws (gt sensors (j : Int))).2)) = true) (hn : ∀ i : Nat, i < j → (obsOk ws (gt sensors (i : Int)) && (within t sensors d (sp_observed ws (gt sensors (i : Int))).1 && within t sensors d (sp_observed ws (gt sensors (i : Int))).2)) = false) :
    (sensors.find? fun f => obsOk ws f && (within t sensors d (sp_observed ws f).1 && within t sensors d (sp_observed ws f).2)) = some (gt sensors (j : Int)) := by
  rw [List.find?_eq_some_iff_append]
  have e : sensors = sensors.take j ++ gt sensors (j : Int) :: sensors.drop (j + 1) := by
    have h1 := takeN_gt hj
    have h2 := List.take_append_drop (j + 1) sensors
    rw [h1, List.append_assoc] at h2
    exact h2.symm
  refine ⟨hw, _, _, e, fun a ha => ?_⟩
  obtain ⟨i, hi, rfl⟩ := mem_gt ha
  rw [List.length_take] at hi
  have e2 : gt (sensors.take j) (i : Int) = gt sensors (i : Int) := by
    rw [gt_of ⟨by omega, by rw [List.length_take]; omega⟩, gt_of ⟨by omega, by omega⟩]; simp
  rw [e2, hn i (by omega)]; rfl
theorem treeT_op {t : Task} {sensors : List Int} {ws : Bel} {d j : Nat} (h0 : within t sensors d ws = false) (hj : j < t.ops.length) (hs : sp_sure ws (gt t.ops (j : Int)).pre = true) (hw : within t sensors d (sp_bafter t ws j) = true) (hn : ∀ i : Nat, i < j → sp_sure ws (gt t.ops (i : Int)).pre = true → within t sensors d (sp_bafter t ws i) = false) (out : List TNode) :
    treeT t sensors (d + 1) ws out = treeT t sensors d (sp_bafter t ws j) out ++ [⟨2, j, 0, ((treeT t sensors d (sp_bafter t ws j) out).length : Int) - 1, 0⟩] := by
  conv => lhs; unfold treeT
  rw [if_neg (by rw [h0]; decide), find_ops hj hs hw hn]
theorem treeT_obs {t : Task} {sensors : List Int} {ws : Bel} {d j : Nat} (h0 : within t sensors d ws = false) (ho : ∀ j : Nat, j < t.ops.length → sp_sure ws (gt t.ops (j : Int)).pre = true → within t sensors d (sp_bafter t ws j) = false) (hj : j < sensors.length)
    (hw : (obsOk ws (gt sensors (j : Int)) && (within t sensors d (sp_observed ws (gt sensors (j : Int))).1 && within t sensors d (sp_observed ws (gt sensors (j : Int))).2)) = true) (hn : ∀ i : Nat, i < j → (obsOk ws (gt sensors (i : Int)) && (within t sensors d (sp_observed ws (gt sensors (i : Int))).1 && within t sensors d (sp_observed ws (gt sensors (i : Int))).2)) = false) (out : List TNode) :
    treeT t sensors (d + 1) ws out = treeT t sensors d (sp_observed ws (gt sensors (j : Int))).2 (treeT t sensors d (sp_observed ws (gt sensors (j : Int))).1 out) ++ [⟨3, 0, gt sensors (j : Int), ((treeT t sensors d (sp_observed ws (gt sensors (j : Int))).1 out).length : Int) - 1, ((treeT t sensors d (sp_observed ws (gt sensors (j : Int))).2 (treeT t sensors d (sp_observed ws (gt sensors (j : Int))).1 out)).length : Int) - 1⟩] := by
  conv => lhs; unfold treeT
  rw [if_neg (by rw [h0]; decide), find_ops_none ho, find_sens hj hw hn]
theorem pow_mono {a b : Nat} (h : a ≤ b) : 2 ^ (a + 1) ≤ 2 ^ (b + 1) := Nat.pow_le_pow_right (by decide) (by omega)
end Go.Proofs.YtojoehfldbimpaaGreatDoor.Pl

/- Contingent plans: the searcher builds the tree plan of least depth. Plain Lean. No condition. -/
namespace Go.Proofs.YtojoehfldbimpaaGreatDoor.Pl
open Go Go.RowKit
theorem sbuild_of {k : Srch} {tr : List TNode} {ws : Bel} {d : Nat} (hd : (d : Int) ≤ 6) (hp : pre_within k.t k.sensors ws d) (hsz : tr.length + 2 ^ (d + 1) ≤ 1000) (hw : within k.t k.sensors d ws = true) (hn : ∀ j : Nat, j < d → within k.t k.sensors j ws = false) : pre_sbuild k tr ws d := by
  refine ⟨⟨hp, ?_, ?_⟩, fun j hj => hn j (by omega)⟩
  · rw [show ((d : Int)).toNat = d by omega]; exact hsz
  · rw [show ((d : Int)).toNat = d by omega]; exact hw
theorem sbuild_eq (k : Srch) (tr : List TNode) (ws : Bel) (d : Nat) : sp_sbuild k tr ws d = (((treeT k.t k.sensors d ws tr).length : Int) - 1, treeT k.t k.sensors d ws tr) := by
  unfold sp_sbuild; rw [show ((d : Int)).toNat = d by omega]
/-- what the least depth says, when it is found -/
theorem sleast_ge {k : Srch} {ws : Bel} {d : Nat} (h : 0 ≤ sp_sleast k ws d) : ∃ e : Nat, sp_sleast k ws d = e ∧ e ≤ d ∧ within k.t k.sensors e ws = true ∧ ∀ j : Nat, j < e → within k.t k.sensors j ws = false := by
  unfold sp_sleast at h ⊢
  rw [show ((d : Int)).toNat = d by omega] at h ⊢
  cases hl : leastW k.t k.sensors ws d with
  | none => rw [hl] at h; simp at h
  | some e =>
    obtain ⟨a, b, c⟩ := leastW_some.1 hl
    exact ⟨e, rfl, b, a, c⟩
theorem sleast_lt {k : Srch} {ws : Bel} {d : Nat} (h : ¬ 0 ≤ sp_sleast k ws d) : within k.t k.sensors d ws = false := by
  unfold sp_sleast at h
  rw [show ((d : Int)).toNat = d by omega] at h
  cases hl : leastW k.t k.sensors ws d with
  | none => exact leastW_none.1 hl d (Nat.le_refl _)
  | some e => rw [hl] at h; simp at h
theorem ok_sbuild : ∀ (k : Srch) (tr : List TNode) (worlds : List (List Int)) (depth : Int), pre_sbuild k tr worlds depth → F_sbuild k tr worlds depth (fun r => r = sp_sbuild k tr worlds depth) := fun kk tr l depth ⟨⟨hp, hsz, hwm⟩, hlo⟩ m hm => by
  obtain ⟨t, sensors⟩ := kk
  obtain ⟨hv, hw, hse, d0, d6⟩ := hp
  simp only at hv hw hse hwm hlo
  simp only [forall_eq, beq_iff_eq, beq_eq_false_iff_ne, ne_eq]
  refine ⟨fun e => ?_, fun e => ?_⟩
  · subst e
    refine ⟨by unfold pre_sput; simp at hsz; omega, fun m2 _ => ?_⟩
    unfold sp_sput sp_sbuild treeT
    simp
  · obtain ⟨d, rfl⟩ : ∃ d : Nat, depth = (d : Int) + 1 := ⟨(depth - 1).toNat, by omega⟩
    have hops := (taskOK_of hv).len
    have hsl := set_len24 hv hse
    have hd : (d : Int) ≤ 6 := by omega
    have h0 := hlo d (by omega)
    rw [show ((d : Int) + 1).toNat = d + 1 by omega] at hsz hwm
    have hp2 : 2 ^ (d + 1 + 1) = 2 ^ (d + 1) + 2 ^ (d + 1) := by omega
    have h1 : 1 ≤ 2 ^ (d + 1) := Nat.one_le_two_pow
    have hpre : ∀ {x : Bel}, WsOK t x → pre_within t sensors x d := fun hx => ⟨hv, hx, hse, by omega, by omega⟩
    have hs0 : sp_sure l t.goal = false := by
      cases hs : sp_sure l t.goal with
      | false => rfl
      | true => rw [within_sure hs] at h0; cases h0
    have eT : sp_sbuild ⟨t, sensors⟩ tr l ((d : Int) + 1) = (((treeT t sensors (d + 1) l tr).length : Int) - 1, treeT t sensors (d + 1) l tr) := by
      unfold sp_sbuild; rw [show ((d : Int) + 1).toNat = d + 1 by omega]
    rw [eT]
    intro _ _
    refine ⟨fun op mm => ∃ k : Nat, op = k ∧ k ≤ t.ops.length ∧ srInv ⟨t, sensors⟩ mm ∧ ∀ j : Nat, j < k → sp_sure l (gt t.ops (j : Int)).pre = true → within t sensors d (sp_bafter t l j) = false, fun op _ => (t.ops.length - op).toNat, ⟨0, rfl, by omega, hm, fun j hj => by omega⟩, ?_⟩
    rintro _ mm ⟨k, rfl, k1, k3, k2⟩
    unfold F_sbuild_L1 F_sbuild_J1
    simp only [forall_eq, decide_eq_true_eq, decide_eq_false_iff_not, nat_pred d hd]
    refine ⟨fun g => ?_, fun g => ?_⟩
    · have hk : k < t.ops.length := by omega
      have hin : inb t.ops (k : Int) := ⟨by omega, g⟩
      have hbw := bafter_ok hv hw (k : Int)
      rw [w64 (n := (k : Int) + 1) (by omega)]
      refine ⟨hin, pre_sure_of hv hw ((taskOK_of hv).op hin).1, fun q => ⟨⟨hv, hin, hw⟩, k3, hpre hbw, fun m6 h6 => ⟨fun q2 => ?_, fun q2 => ⟨⟨k + 1, by omega, by omega, h6, fun j hj hs => ?_⟩, by omega⟩⟩⟩, fun q => ⟨⟨k + 1, by omega, by omega, k3, fun j hj hs => ?_⟩, by omega⟩⟩
      · obtain ⟨e, he, e1, e2, e3⟩ := sleast_ge q2
        simp only at e2 e3
        have hpow := pow_mono e1
        have eL : treeT t sensors e (sp_bafter t l k) tr = treeT t sensors d (sp_bafter t l k) tr := (treeT_least e1 e2 tr).symm
        have hlen := treeT_len (t := t) (sensors := sensors) d (sp_bafter t l k) tr
        rw [he, sbuild_eq]
        refine ⟨sbuild_of (by omega) ⟨hv, hbw, hse, by omega, by omega⟩ (by omega) e2 e3, by unfold mu_sbuild; omega, fun m7 _ => ⟨?_, fun m8 _ => ?_⟩⟩
        · unfold pre_sput; simp only; rw [eL]; omega
        · rw [treeT_op h0 hk q (within_mono e1 e2) k2]
          unfold sp_sput
          simp only [eL]
          simp
      · rcases Nat.lt_succ_iff_lt_or_eq.1 hj with q' | rfl
        · exact k2 j q' hs
        · exact sleast_lt q2
      · rcases Nat.lt_succ_iff_lt_or_eq.1 hj with q' | rfl
        · exact k2 j q' hs
        · rw [q] at hs; cases hs
    · have hno : ∀ j : Nat, j < t.ops.length → sp_sure l (gt t.ops (j : Int)).pre = true → within t sensors d (sp_bafter t l j) = false := fun j hj hs => k2 j (by omega) hs
      refine ⟨fun i mm => ∃ k : Nat, i = k ∧ k ≤ sensors.length ∧ srInv ⟨t, sensors⟩ mm ∧ ∀ j : Nat, j < k → (obsOk l (gt sensors (j : Int)) && (within t sensors d (sp_observed l (gt sensors (j : Int))).1 && within t sensors d (sp_observed l (gt sensors (j : Int))).2)) = false, fun i _ => (sensors.length - i).toNat, ⟨0, rfl, by omega, k3, fun j hj => by omega⟩, ?_⟩
      rintro _ mm2 ⟨i, rfl, m1, m3, m2⟩
      unfold F_sbuild_L2 F_sbuild_J3
      simp only [forall_eq, decide_eq_true_eq, decide_eq_false_iff_not, nat_pred d hd, sp_split, beq_iff_eq, beq_eq_false_iff_ne, ne_eq]
      refine ⟨fun g => ?_, fun g => ?_⟩
      · have hi : i < sensors.length := by omega
        have next : ∀ m9, srInv ⟨t, sensors⟩ m9 → (obsOk l (gt sensors (i : Int)) && (within t sensors d (sp_observed l (gt sensors (i : Int))).1 && within t sensors d (sp_observed l (gt sensors (i : Int))).2)) = false → F_sbuild_J2 mm2 m9 i (fun i mm => ∃ k : Nat, i = k ∧ k ≤ sensors.length ∧ srInv ⟨t, sensors⟩ mm ∧ ∀ j : Nat, j < k → (obsOk l (gt sensors (j : Int)) && (within t sensors d (sp_observed l (gt sensors (j : Int))).1 && within t sensors d (sp_observed l (gt sensors (j : Int))).2)) = false) (fun i _ => (sensors.length - i).toNat) := fun m9 h9 q => by
          unfold F_sbuild_J2
          rw [w64 (by omega)]
          refine ⟨⟨i + 1, by omega, by omega, h9, fun j hj => ?_⟩, by show ((sensors.length : Int) - ((i : Int) + 1)).toNat < ((sensors.length : Int) - i).toNat; omega⟩
          rcases Nat.lt_succ_iff_lt_or_eq.1 hj with q' | rfl
          · exact m2 j q'
          · exact q
        have ho := obs_len (ws := l) (f := gt sensors (i : Int))
        have hok := observed_ok hw (gt sensors (i : Int))
        have l1 := treeT_len (t := t) (sensors := sensors) d (sp_observed l (gt sensors (i : Int))).1 tr
        have l2 := treeT_len (t := t) (sensors := sensors) d (sp_observed l (gt sensors (i : Int))).2 (treeT t sensors d (sp_observed l (gt sensors (i : Int))).1 tr)
        refine ⟨⟨by omega, g⟩, obs_pre hv hw _, fun a => ⟨fun _ => next mm2 m3 ?_, fun z => by simp at z⟩, fun a => ⟨fun b => next mm2 m3 ?_, fun b => ⟨m3, hpre hok.1, fun m12 _ => ⟨hpre hok.2, fun m13 h13 => ⟨fun c => ?_, fun c => ?_⟩⟩⟩⟩⟩
        · rw [ho, decide_eq_false (by omega)]; simp
        · rw [ho, decide_eq_false (p := (0 : Int) < (((sp_observed l (gt sensors (i : Int))).2.length : Nat) : Int)) (by omega)]; simp
        · unfold F_sbuild_J4
          simp only [forall_eq, decide_eq_true_eq, decide_eq_false_iff_not]
          refine ⟨fun e => ?_, fun e => next m13 h13 ?_⟩
          · obtain ⟨x, hx, x1, x2, x3⟩ := sleast_ge c
            obtain ⟨y, hy, y1, y2, y3⟩ := sleast_ge e
            simp only at x2 x3 y2 y3
            have px := pow_mono x1
            have py := pow_mono y1
            have eX : treeT t sensors x (sp_observed l (gt sensors (i : Int))).1 tr = treeT t sensors d (sp_observed l (gt sensors (i : Int))).1 tr := (treeT_least x1 x2 tr).symm
            have eY := (treeT_least (sensors := sensors) (t := t) y1 y2 (treeT t sensors d (sp_observed l (gt sensors (i : Int))).1 tr)).symm
            rw [hx, hy, sbuild_eq]
            simp only [eX]
            rw [sbuild_eq]
            simp only [eY]
            refine ⟨h13, sbuild_of (by omega) ⟨hv, hok.1, hse, by omega, by omega⟩ (by omega) x2 x3, by unfold mu_sbuild; omega, fun m14 _ => ⟨sbuild_of (by omega) ⟨hv, hok.2, hse, by omega, by omega⟩ (by omega) y2 y3, by unfold mu_sbuild; omega, fun m15 _ => ⟨by unfold pre_sput; omega, fun m16 _ => ?_⟩⟩⟩
            rw [treeT_obs h0 hno hi (by rw [ho, decide_eq_true (by omega), decide_eq_true (by omega), within_mono x1 x2, within_mono y1 y2]; rfl) m2]
            unfold sp_sput
            simp
          · have := sleast_lt e
            simp only at this
            rw [this]; simp
        · unfold F_sbuild_J4
          refine ⟨fun z => by simp at z, fun _ => next m13 h13 ?_⟩
          have := sleast_lt c
          simp only at this
          rw [this]; simp
      · exfalso
        rw [within_succ hs0, ops_none hno, sens_none fun j hj => m2 j (by omega)] at hwm
        cases hwm
end Go.Proofs.YtojoehfldbimpaaGreatDoor.Pl

/- Contingent plans: the search that tells whether there are few states of knowledge; Plan. Plain Lean. No condition. -/
namespace Go.Proofs.YtojoehfldbimpaaGreatDoor.Pl
open Go Go.RowKit
def obsL (ws : Bel) (f : Int) : List (Int × Bel) := if obsOk ws f = true then [(-1, (sp_observed ws f).1), (-1, (sp_observed ws f).2)] else []
theorem csucc_def (t : Task) (sensors : List Int) (ws : Bel) : csucc t sensors ws = (allS t.ops.length).filterMap (opS t ws) ++ sensors.flatMap (obsL ws) := rfl
theorem drop_gtC {l : List Int} {j : Nat} (h : j < l.length) : l.drop j = gt l (j : Int) :: l.drop (j + 1) := by
  rw [List.drop_eq_getElem_cons h]
  congr 1
  rw [gt_of ⟨by omega, by omega⟩]; simp
/-- what holds of the queue -/
structure QC (t : Task) (l : List Entry) (m : List UInt8 → Int) : Prop where
  map : m = mapOf l
  len : l.length ≤ 2000
  ok : ∀ e ∈ l, WsOK t e.node
theorem QC.push {t : Task} {l : List Entry} {m : List UInt8 → Int} (h : QC t l m) {i : Int} {s : Int} {n : Bel} (hw : WsOK t n) (hl : l.length ≠ 2000) : QC t (l ++ [⟨n, i, s⟩]) (upd m (keyL n) 1) := by
  refine ⟨by rw [h.map]; exact mapOf_push l ⟨n, i, s⟩, by have := h.len; simp; omega, fun e' he' => ?_⟩
  rcases List.mem_append.1 he' with he' | he'
  · exact h.ok e' he'
  · rw [List.mem_singleton.1 he']; exact hw
theorem QC.room {t : Task} {l : List Entry} {m : List UInt8 → Int} (h : QC t l m) : Pl.room l.length 40 := ⟨Nat.le_trans h.len (by decide), Nat.le_trans (Nat.mul_le_mul_right 40 h.len) (by decide)⟩
theorem QC.has {t : Task} {l : List Entry} {m : List UInt8 → Int} (h : QC t l m) {n : Bel} : 0 < m (keyL n) ↔ n ∈ l.map (·.node) := by rw [h.map]; exact mapOf_pos
theorem expand_old {i s : Int} {n : Bel} {r : List (Int × Bel)} {q : List Entry} (h : n ∈ q.map (·.node)) : expand i ((s, n) :: r) q = expand i r q := by
  rw [expand, if_pos h]
theorem expand_full {i s : Int} {n : Bel} {r : List (Int × Bel)} {q : List Entry} (h : n ∉ q.map (·.node)) (hl : q.length = 2000) : expand i ((s, n) :: r) q = none := by
  rw [expand, if_neg h, if_pos hl]
theorem expand_new {i s : Int} {n : Bel} {r : List (Int × Bel)} {q : List Entry} (h : n ∉ q.map (·.node)) (hl : q.length ≠ 2000) : expand i ((s, n) :: r) q = expand i r (q ++ [⟨n, i, s⟩]) := by
  rw [expand, if_neg h, if_neg hl]
theorem ok_breadthC : ∀ (start2 : List (List Int)) (k : Srch), pre_breadthC start2 k → F_breadthC start2 k (fun r => r = sp_breadthC start2 k) := fun start kk hp => by
  obtain ⟨t, sensors⟩ := kk
  obtain ⟨hv, hw, hse⟩ := hp
  simp only at hv hw hse
  have hops := (taskOK_of hv).len
  have hsl := set_len24 hv hse
  refine ⟨key_ok hv hw, ?_⟩
  simp only [forall_eq, sp_key]
  refine ⟨fun x2 l m => ∃ i : Nat, x2 = i ∧ i ≤ l.length ∧ QC t l m ∧ bfs (csucc t sensors) (fun _ => false) (2001 - i) l i = search (csucc t sensors) (fun _ => false) start, fun x2 _ _ => (2001 - x2).toNat, ⟨0, rfl, Nat.zero_le _, ⟨mapOf_one ⟨start, -1, 0⟩, by simp, fun e he => by rw [List.mem_singleton.1 he]; exact hw⟩, rfl⟩, ?_⟩
  rintro _ l m ⟨i, rfl, i1, hq, hb⟩
  have hlen := hq.len
  have ef : 2001 - i = (2000 - i) + 1 := by omega
  unfold F_breadthC_L1
  simp only [forall_eq, decide_eq_true_eq, decide_eq_false_iff_not]
  refine ⟨fun h => ?_, fun h => ?_⟩
  · have hi : i < l.length := by omega
    have hg := entry_gt hi
    have hwn := hq.ok _ (gt_memN hi)
    rw [ef, bfs] at hb
    simp only [hg] at hb
    refine ⟨⟨by omega, h⟩, fun e => absurd e Bool.false_ne_true, fun _ _ _ _ _ => ?_⟩
    rw [if_neg Bool.false_ne_true, csucc_def] at hb
    refine ⟨fun t9 l4 m3 => ∃ j : Nat, t9 = j ∧ j ≤ t.ops.length ∧ QC t l4 m3 ∧ l.length ≤ l4.length ∧ expand (i : Int) (((allS t.ops.length).drop j).filterMap (opS t (gt l (i : Int)).node) ++ sensors.flatMap (obsL (gt l (i : Int)).node)) l4 = expand (i : Int) ((allS t.ops.length).filterMap (opS t (gt l (i : Int)).node) ++ sensors.flatMap (obsL (gt l (i : Int)).node)) l, fun t9 _ _ => (t.ops.length - t9).toNat, ⟨0, rfl, Nat.zero_le _, hq, Nat.le_refl _, rfl⟩, ?_⟩
    rintro _ l4 m3 ⟨j, rfl, j1, hq4, hl4, he⟩
    have hlen4 := hq4.len
    unfold F_breadthC_L3 F_breadthC_J1
    simp only [forall_eq, decide_eq_true_eq, decide_eq_false_iff_not, beq_iff_eq, beq_eq_false_iff_ne, ne_eq, sp_key]
    refine ⟨fun g => ?_, fun g => ?_⟩
    · have hj : j < t.ops.length := by omega
      have hin : inb t.ops (j : Int) := ⟨by omega, g⟩
      rw [allS_drop hj, List.filterMap_cons] at he
      rw [w64 (n := (j : Int) + 1) (by omega)]
      refine ⟨hin, pre_sure_of hv hwn ((taskOK_of hv).op hin).1, fun q => ?_, fun q => ?_⟩
      · have eo : opS t (gt l (i : Int)).node (j : Int) = some ((j : Int), sp_bafter t (gt l (i : Int)).node (j : Int)) := by rw [opS, if_pos q]
        rw [eo] at he
        simp only [List.cons_append] at he
        have hwb := bafter_ok hv hwn (j : Int)
        refine ⟨⟨hv, hin, hwn⟩, key_ok hv hwb, fun k => ?_, fun k => ?_⟩
        · rw [hq4.has] at k
          rw [expand_old k] at he
          exact ⟨⟨j + 1, by omega, by omega, hq4, hl4, he⟩, by omega⟩
        · rw [hq4.has] at k
          refine ⟨fun e => ?_, fun e => ?_⟩
          · rw [expand_full k (by omega)] at he
            rw [← he] at hb
            exact hb
          · have hne : ¬ l4.length = 2000 := by omega
            rw [expand_new k hne] at he
            have hps := hq4.push (i := (i : Int)) (s := (j : Int)) hwb hne
            exact ⟨hps.room, ⟨j + 1, by omega, by omega, hps, by rw [List.length_append]; omega, he⟩, by omega⟩
      · have eo : opS t (gt l (i : Int)).node (j : Int) = none := by rw [opS, if_neg (by rw [q]; decide)]
        rw [eo] at he
        exact ⟨⟨j + 1, by omega, by omega, hq4, hl4, he⟩, by omega⟩
    · have ed : (allS t.ops.length).drop j = [] := List.drop_eq_nil_of_le (by rw [allS_len]; omega)
      rw [ed, List.filterMap_nil, List.nil_append] at he
      rw [← he] at hb
      clear he
      refine ⟨fun t28 l8 m6 => ∃ j : Nat, t28 = j ∧ j ≤ sensors.length ∧ QC t l8 m6 ∧ l.length ≤ l8.length ∧ expand (i : Int) ((sensors.drop j).flatMap (obsL (gt l (i : Int)).node)) l8 = expand (i : Int) (sensors.flatMap (obsL (gt l (i : Int)).node)) l4, fun t28 _ _ => (sensors.length - t28).toNat, ⟨0, rfl, Nat.zero_le _, hq4, hl4, rfl⟩, ?_⟩
      rintro _ l8 m6 ⟨n, rfl, n1, hq8, hl8, he⟩
      have hlen8 := hq8.len
      unfold F_breadthC_L4 F_breadthC_J2
      simp only [forall_eq, decide_eq_true_eq, decide_eq_false_iff_not, beq_iff_eq, beq_eq_false_iff_ne, ne_eq, sp_key, sp_split]
      refine ⟨fun g => ?_, fun g => ?_⟩
      · have hn : n < sensors.length := by omega
        rw [drop_gtC hn, List.flatMap_cons] at he
        have ho := obs_len (ws := (gt l (i : Int)).node) (f := gt sensors (n : Int))
        have hok := observed_ok hwn (gt sensors (n : Int))
        rw [w64 (n := (n : Int) + 1) (by omega)]
        generalize hY : (sp_observed (gt l (i : Int)).node (gt sensors (n : Int))).1 = Y at ho hok ⊢
        generalize hN : (sp_observed (gt l (i : Int)).node (gt sensors (n : Int))).2 = N at ho hok ⊢
        have skip : obsOk (gt l (i : Int)).node (gt sensors (n : Int)) = false → (∃ j : Nat, (n : Int) + 1 = j ∧ j ≤ sensors.length ∧ QC t l8 m6 ∧ l.length ≤ l8.length ∧ expand (i : Int) ((sensors.drop j).flatMap (obsL (gt l (i : Int)).node)) l8 = expand (i : Int) (sensors.flatMap (obsL (gt l (i : Int)).node)) l4) ∧ ((sensors.length : Int) - ((n : Int) + 1)).toNat < ((sensors.length : Int) - n).toNat := fun q => by
          unfold obsL at he
          rw [if_neg (by rw [q]; decide), List.nil_append] at he
          exact ⟨⟨n + 1, by omega, by omega, hq8, hl8, he⟩, by omega⟩
        refine ⟨⟨by omega, g⟩, obs_pre hv hwn _, fun a => ⟨fun b => ?_, fun b => skip (by rw [ho, decide_eq_false b]; simp)⟩, fun a => skip (by rw [ho, decide_eq_false a]; simp)⟩
        have e1 : obsL (gt l (i : Int)).node (gt sensors (n : Int)) = [(-1, Y), (-1, N)] := by
          unfold obsL
          rw [if_pos (by rw [ho, decide_eq_true a, decide_eq_true b]; rfl), hY, hN]
        rw [e1, List.cons_append, List.cons_append, List.nil_append] at he
        refine ⟨key_ok hv hok.1, fun p => ⟨key_ok hv hok.2, fun r => ?_, fun r => ⟨fun e => ?_, fun e => ?_⟩⟩, fun p => ⟨fun e => ?_, fun e => ?_⟩⟩
        · rw [hq8.has] at p r
          rw [expand_old p, expand_old r] at he
          exact ⟨⟨n + 1, by omega, by omega, hq8, hl8, he⟩, by omega⟩
        · rw [hq8.has] at p r
          rw [expand_old p, expand_full r (by omega)] at he
          rw [← he] at hb
          exact hb
        · rw [hq8.has] at p r
          have hne : ¬ l8.length = 2000 := by omega
          rw [expand_old p, expand_new r hne] at he
          have hps := hq8.push (i := (i : Int)) (s := -1) hok.2 hne
          exact ⟨hps.room, ⟨n + 1, by omega, by omega, hps, by rw [List.length_append]; omega, he⟩, by omega⟩
        · rw [hq8.has] at p
          rw [expand_full p (by omega)] at he
          rw [← he] at hb
          exact hb
        · rw [hq8.has] at p
          have hne : ¬ l8.length = 2000 := by omega
          rw [expand_new p hne] at he
          have hps := hq8.push (i := (i : Int)) (s := -1) hok.1 hne
          have hl9 : l.length ≤ (l8 ++ [(⟨Y, (i : Int), -1⟩ : Entry)]).length := by rw [List.length_append]; omega
          refine ⟨hps.room, key_ok hv hok.2, fun r => ?_, fun r => ⟨fun e2 => ?_, fun e2 => ?_⟩⟩
          · rw [hps.has] at r
            rw [expand_old r] at he
            exact ⟨⟨n + 1, by omega, by omega, hps, hl9, he⟩, by omega⟩
          · rw [hps.has] at r
            rw [expand_full r (by omega)] at he
            rw [← he] at hb
            exact hb
          · rw [hps.has] at r
            have hne2 : ¬ (l8 ++ [(⟨Y, (i : Int), -1⟩ : Entry)]).length = 2000 := by omega
            rw [expand_new r hne2] at he
            have hps2 := hps.push (i := (i : Int)) (s := -1) hok.2 hne2
            exact ⟨hps2.room, ⟨n + 1, by omega, by omega, hps2, by rw [List.length_append]; omega, he⟩, by omega⟩
      · have ed2 : sensors.drop n = [] := List.drop_eq_nil_of_le (by omega)
        rw [ed2, List.flatMap_nil, expand] at he
        rw [← he] at hb
        rw [w64 (n := (i : Int) + 1) (by omega)]
        refine ⟨⟨i + 1, by omega, by omega, hq8, ?_⟩, by omega⟩
        rw [show 2001 - (i + 1) = 2000 - i by omega]
        exact hb
  · have hn : l[i]? = none := List.getElem?_eq_none (by omega)
    rw [ef, bfs] at hb
    simp only [hn] at hb
    exact hb
theorem ok_smallC : ∀ (start2 : List (List Int)) (k : Srch), pre_smallC start2 k → F_smallC start2 k (fun r => r = sp_smallC start2 k) := fun _ _ hp => ⟨hp, fun r hr => by rw [hr]; rfl⟩
theorem ok_cplan : ∀ (t : Task) (unknown : List Int) (sensors : List Int) (depth : Int), F_cplan t unknown sensors depth (fun r => r = sp_cplan t unknown sensors depth) := fun t u sensors depth => by
  unfold F_cplan F_cplan_J1
  simp only [forall_eq, beq_zero, Bool.not_eq_true', Bool.not_eq_false', decide_eq_true_eq, decide_eq_false_iff_not]
  unfold sp_cplan
  refine ⟨fun h => by rw [if_neg h], fun h => ?_⟩
  rw [if_pos h]
  obtain ⟨hu, hse⟩ := ccheck_ok h
  have hw := worlds_ok hu
  refine ⟨fun g => ⟨fun _ => by rw [if_pos (.inl g)], fun z => by simp at z⟩, fun g => ⟨fun g2 => by rw [if_pos (.inr g2)], fun g2 => ?_⟩⟩
  rw [if_neg (by omega)]
  refine ⟨hu, ⟨hu.1, hw, hse⟩, fun q => by rw [if_neg (by rw [q]; decide)], fun q => ?_⟩
  rw [if_pos q]
  have hpw : pre_within t sensors (sp_worlds t u) depth := ⟨hu.1, hw, hse, by omega, by omega⟩
  refine ⟨srInv_start _, hpw, fun m _ => ⟨fun s => ?_, fun s => ?_⟩⟩
  · unfold sp_sleast at s
    cases hl : leastW t sensors (sp_worlds t u) depth.toNat with
    | none => rfl
    | some d => simp only [hl] at s; omega
  · cases hl : leastW t sensors (sp_worlds t u) depth.toNat with
    | none => unfold sp_sleast at s; simp only [hl] at s; omega
    | some d =>
      obtain ⟨a, b, c⟩ := leastW_some.1 hl
      have es : sp_sleast ⟨t, sensors⟩ (sp_worlds t u) depth = d := by unfold sp_sleast; simp only [hl]
      have hpow := pow_mono (a := d) (b := 6) (by omega)
      rw [es, sbuild_eq]
      refine ⟨sbuild_of (by omega) ⟨hu.1, hw, hse, by omega, by omega⟩ (by simp only [List.length_nil]; omega) a c, fun m2 _ => ⟨fun z => ?_, fun z => ?_⟩⟩
      · simp only at z ⊢; rw [if_pos (by omega)]
      · simp only at z ⊢; rw [if_neg (by omega)]
end Go.Proofs.YtojoehfldbimpaaGreatDoor.Pl

/- Contingent plans: what is built is valid, reaches the goal, and is no deeper. Plain Lean. No condition. -/
namespace Go.Proofs.YtojoehfldbimpaaGreatDoor.Pl
open Go Go.RowKit
/-- all nodes are as they should be -/
def NodesOK (t : Task) (sensors : List Int) (l : List TNode) : Prop := ∀ (j : Nat) (n : TNode), l[j]? = some n → sp_nodeCode t sensors n j = 0
theorem NodesOK.push {t : Task} {sensors : List Int} {l : List TNode} (h : NodesOK t sensors l) {n : TNode} (hn : sp_nodeCode t sensors n l.length = 0) : NodesOK t sensors (l ++ [n]) := fun j m hj => by
  rcases Nat.lt_trichotomy j l.length with q | q | q
  · rw [List.getElem?_append_left q] at hj; exact h j m hj
  · subst q
    rw [List.getElem?_append_right (Nat.le_refl _)] at hj
    simp at hj; subst hj; exact hn
  · rw [List.getElem?_eq_none (by simp; omega)] at hj; cases hj
theorem gt_last {l X : List TNode} {n : TNode} : gt (l ++ [n] ++ X) (((l ++ [n]).length : Int) - 1) = n := by
  have e : (((l ++ [n]).length : Int) - 1) = ((l.length : Nat) : Int) := by simp
  rw [e]
  exact gt_nat (by rw [List.append_assoc, List.getElem?_append_right (Nat.le_refl _)]; simp)
theorem treeT_grow {t : Task} {sensors : List Int} (d : Nat) {ws : Bel} (out : List TNode) (hw : within t sensors d ws = true) : ∃ r, treeT t sensors d ws out = out ++ r ∧ r ≠ [] := by
  induction d generalizing ws out with
  | zero => exact ⟨[_], rfl, by simp⟩
  | succ d ih =>
    unfold treeT
    split
    · rename_i h; exact ih out h
    · rename_i h0
      have hs : sp_sure ws t.goal = false := by
        cases hs : sp_sure ws t.goal with
        | false => rfl
        | true => exact absurd (within_sure hs d) h0
      split
      · rename_i x hx
        obtain ⟨r, e, _⟩ := ih (ws := x.2) out (List.find?_some (p := fun x : Int × Bel => within t sensors d x.2) hx)
        exact ⟨r ++ [_], by rw [e, List.append_assoc], by simp⟩
      · rename_i hx
        split
        · rename_i f hf
          have hp := List.find?_some hf
          simp only [Bool.and_eq_true] at hp
          obtain ⟨r1, e1, _⟩ := ih (ws := (sp_observed ws f).1) out hp.2.1
          obtain ⟨r2, e2, _⟩ := ih (ws := (sp_observed ws f).2) (treeT t sensors d (sp_observed ws f).1 out) hp.2.2
          exact ⟨r1 ++ r2 ++ [_], by rw [e2, e1]; simp only [List.append_assoc]; rfl, by simp⟩
        · rename_i hf
          exfalso
          rw [within_succ hs, Bool.or_eq_true] at hw
          rcases hw with q | q
          · obtain ⟨x, hm, hp⟩ := List.any_eq_true.1 q
            exact (List.find?_eq_none.1 hx x hm) hp
          · obtain ⟨f, hm, hp⟩ := List.any_eq_true.1 q
            exact (List.find?_eq_none.1 hf f hm) hp
theorem mem_obs {ws : Bel} {f : Int} {s : List Int} (hs : s ∈ ws) : (f ∈ s → s ∈ (sp_observed ws f).1) ∧ (f ∉ s → s ∈ (sp_observed ws f).2) := by
  unfold sp_observed
  exact ⟨fun h => List.mem_filter.2 ⟨hs, by simpa using h⟩, fun h => List.mem_filter.2 ⟨hs, by simpa using h⟩⟩
theorem inb_last {l X : List TNode} (h : l ≠ []) : inb (l ++ X) ((l.length : Int) - 1) := by
  have : 0 < l.length := List.length_pos_iff.2 h
  exact ⟨by omega, by rw [List.length_append]; omega⟩
theorem depth_gt {t : Task} {l : List TNode} (hT : TreeOK t l) {i : Int} (hi : inb l i) : gt (depths l) i = nodeD (depths l) (gt l i) := by
  have := depth_at hT (inb_lt hi)
  rwa [show ((i.toNat : Nat) : Int) = i by have := hi.1; omega] at this
theorem treeT_good {t : Task} {sensors : List Int} (d : Nat) {ws : Bel} (out : List TNode) (hw : within t sensors d ws = true) (hn : NodesOK t sensors out) :
    NodesOK t sensors (treeT t sensors d ws out) ∧ ∀ X : List TNode, TreeOK t (treeT t sensors d ws out ++ X) →
      (∀ s ∈ ws, (sp_treeRun t (treeT t sensors d ws out ++ X) (((treeT t sensors d ws out).length : Int) - 1) s).2 = true) ∧ gt (depths (treeT t sensors d ws out ++ X)) (((treeT t sensors d ws out).length : Int) - 1) ≤ d := by
  induction d generalizing ws out with
  | zero =>
    refine ⟨hn.push rfl, fun X hT => ?_⟩
    unfold treeT at hT ⊢
    have hi := inb_last (l := out ++ [(⟨1, 0, 0, 0, 0⟩ : TNode)]) (X := X) (by simp)
    refine ⟨fun s hs => ?_, ?_⟩
    · rw [run_stop (by rw [gt_last])]
      simp only
      unfold sp_subset
      rw [List.all_eq_true]
      exact fun x hx => decide_eq_true (sure_iff.1 hw s hs x hx)
    · rw [depth_gt hT hi, gt_last]
      simp [nodeD]
  | succ d ih =>
    by_cases h0 : within t sensors d ws = true
    · have e : treeT t sensors (d + 1) ws out = treeT t sensors d ws out := by
        conv => lhs; unfold treeT
        rw [if_pos h0]
      rw [e]
      obtain ⟨a, b⟩ := ih out h0 hn
      exact ⟨a, fun X hT => ⟨(b X hT).1, by have := (b X hT).2; omega⟩⟩
    · have hs0 : sp_sure ws t.goal = false := by
        cases hs : sp_sure ws t.goal with
        | false => rfl
        | true => exact absurd (within_sure hs d) h0
      cases hx : (bsucc t ws).find? fun x => within t sensors d x.2 with
      | some x =>
        have e : treeT t sensors (d + 1) ws out = treeT t sensors d x.2 out ++ [⟨2, x.1, 0, ((treeT t sensors d x.2 out).length : Int) - 1, 0⟩] := by
          conv => lhs; unfold treeT
          rw [if_neg h0, hx]
        have hxw : within t sensors d x.2 = true := List.find?_some (p := fun x : Int × Bel => within t sensors d x.2) hx
        obtain ⟨m1, m2, m3⟩ := mem_bsucc.1 (List.mem_of_find?_eq_some hx)
        obtain ⟨r, hr, hr0⟩ := treeT_grow d out hxw
        obtain ⟨a, b⟩ := ih out hxw hn
        have hpos : 0 < (treeT t sensors d x.2 out).length := by rw [hr, List.length_append]; have := List.length_pos_iff.2 hr0; omega
        rw [e]
        generalize treeT t sensors d x.2 out = T at a b hpos
        refine ⟨a.push ?_, fun X hT => ?_⟩
        · unfold sp_nodeCode
          rw [if_neg (show ¬ (2 : Int) = 1 by decide), if_pos rfl, if_neg (by have := m1.1; have := m1.2; simp only; omega), if_pos]
          exact ⟨rfl, rfl, by simp only; omega, by simp only; omega⟩
        · have hi := inb_last (l := T ++ [(⟨2, x.1, 0, (T.length : Int) - 1, 0⟩ : TNode)]) (X := X) (by simp)
          have hg := gt_last (l := T) (X := X) (n := ⟨2, x.1, 0, (T.length : Int) - 1, 0⟩)
          have hlen : (((T ++ [(⟨2, x.1, 0, (T.length : Int) - 1, 0⟩ : TNode)]).length : Nat) : Int) = T.length + 1 := by simp
          have bX := b ([(⟨2, x.1, 0, (T.length : Int) - 1, 0⟩ : TNode)] ++ X) (by rw [← List.append_assoc]; exact hT)
          rw [← List.append_assoc] at bX
          generalize hI : (((T ++ [(⟨2, x.1, 0, (T.length : Int) - 1, 0⟩ : TNode)]).length : Nat) : Int) - 1 = I at hi hg ⊢
          have hI2 : I = T.length := by omega
          generalize T ++ [(⟨2, x.1, 0, (T.length : Int) - 1, 0⟩ : TNode)] ++ X = L at hT hi hg bX ⊢
          refine ⟨fun s hs => ?_, ?_⟩
          · have hap : sp_applies t s (gt L I).op = true := by
              rw [hg]
              unfold sp_applies sp_subset
              rw [List.all_eq_true]
              exact fun y hy => decide_eq_true (sure_iff.1 m2 s hs y hy)
            rw [run_act hT hi (by rw [hg]) (by rw [hg]; simp only; omega) hap, hg]
            exact bX.1 _ (by rw [m3]; exact mem_bafter.2 ⟨s, hs, rfl⟩)
          · rw [depth_gt hT hi, hg]
            unfold nodeD
            rw [if_pos rfl]
            have := bX.2
            simp only
            omega
      | none =>
        cases hf : sensors.find? fun f => obsOk ws f && (within t sensors d (sp_observed ws f).1 && within t sensors d (sp_observed ws f).2) with
        | some f =>
          have e : treeT t sensors (d + 1) ws out = treeT t sensors d (sp_observed ws f).2 (treeT t sensors d (sp_observed ws f).1 out) ++ [⟨3, 0, f, ((treeT t sensors d (sp_observed ws f).1 out).length : Int) - 1, ((treeT t sensors d (sp_observed ws f).2 (treeT t sensors d (sp_observed ws f).1 out)).length : Int) - 1⟩] := by
            conv => lhs; unfold treeT
            rw [if_neg h0, hx, hf]
          have hp := List.find?_some hf
          simp only [Bool.and_eq_true] at hp
          have hfm := List.mem_of_find?_eq_some hf
          obtain ⟨r1, hr1, hr10⟩ := treeT_grow d out hp.2.1
          obtain ⟨r2, hr2, hr20⟩ := treeT_grow d (treeT t sensors d (sp_observed ws f).1 out) hp.2.2
          obtain ⟨a1, b1⟩ := ih out hp.2.1 hn
          obtain ⟨a2, b2⟩ := ih (treeT t sensors d (sp_observed ws f).1 out) hp.2.2 a1
          have hpos : 0 < (treeT t sensors d (sp_observed ws f).1 out).length := by rw [hr1, List.length_append]; have := List.length_pos_iff.2 hr10; omega
          rw [e]
          generalize treeT t sensors d (sp_observed ws f).1 out = T1 at a1 b1 hpos a2 b2 hr2
          generalize treeT t sensors d (sp_observed ws f).2 T1 = T at a2 b2 hr2
          have hpos2 : T1.length < T.length := by rw [hr2, List.length_append]; have := List.length_pos_iff.2 hr20; omega
          refine ⟨a2.push ?_, fun X hT => ?_⟩
          · unfold sp_nodeCode
            rw [if_neg (show ¬ (3 : Int) = 1 by decide), if_neg (show ¬ (3 : Int) = 2 by decide), if_pos rfl, if_pos hfm, if_pos]
            exact ⟨rfl, by simp only; omega, by simp only; omega, by simp only; omega, by simp only; omega⟩
          · have hi := inb_last (l := T ++ [(⟨3, 0, f, (T1.length : Int) - 1, (T.length : Int) - 1⟩ : TNode)]) (X := X) (by simp)
            have hg := gt_last (l := T) (X := X) (n := ⟨3, 0, f, (T1.length : Int) - 1, (T.length : Int) - 1⟩)
            have bX2 := b2 ([(⟨3, 0, f, (T1.length : Int) - 1, (T.length : Int) - 1⟩ : TNode)] ++ X) (by rw [← List.append_assoc]; exact hT)
            rw [← List.append_assoc] at bX2
            have bX1 := b1 (r2 ++ [(⟨3, 0, f, (T1.length : Int) - 1, (T.length : Int) - 1⟩ : TNode)] ++ X) (by
              rw [← List.append_assoc, ← List.append_assoc, ← hr2]; exact hT)
            rw [← List.append_assoc, ← List.append_assoc, ← hr2] at bX1
            have hlen : (((T ++ [(⟨3, 0, f, (T1.length : Int) - 1, (T.length : Int) - 1⟩ : TNode)]).length : Nat) : Int) = T.length + 1 := by simp
            generalize hI : (((T ++ [(⟨3, 0, f, (T1.length : Int) - 1, (T.length : Int) - 1⟩ : TNode)]).length : Nat) : Int) - 1 = I at hi hg ⊢
            have hI2 : I = T.length := by omega
            generalize T ++ [(⟨3, 0, f, (T1.length : Int) - 1, (T.length : Int) - 1⟩ : TNode)] ++ X = L at hT hi hg bX1 bX2 ⊢
            refine ⟨fun s hs => ?_, ?_⟩
            · by_cases hfs : f ∈ s
              · rw [run_yes hT hi (by rw [hg]) (by rw [hg]; simp only; omega) (by rw [hg]; exact hfs), hg]
                exact bX1.1 s ((mem_obs hs).1 hfs)
              · rw [run_no hT hi (by rw [hg]) (by rw [hg]; simp only; omega) (by rw [hg]; exact hfs), hg]
                exact bX2.1 s ((mem_obs hs).2 hfs)
            · rw [depth_gt hT hi, hg]
              unfold nodeD
              rw [if_neg (show ¬ (3 : Int) = 2 by decide), if_pos rfl]
              have h1 := bX1.2
              have h2 := bX2.2
              simp only
              split <;> omega
        | none =>
          exfalso
          rw [within_succ hs0, Bool.or_eq_true] at hw
          rcases hw with q | q
          · obtain ⟨x, hm, hp⟩ := List.any_eq_true.1 q
            exact (List.find?_eq_none.1 hx x hm) hp
          · obtain ⟨f, hm, hp⟩ := List.any_eq_true.1 q
            exact (List.find?_eq_none.1 hf f hm) hp
end Go.Proofs.YtojoehfldbimpaaGreatDoor.Pl

/- The laws on contingent plans. Plain Lean. No condition. -/
namespace Go.Proofs.YtojoehfldbimpaaGreatDoor.Pl
open Go Go.RowKit
theorem able_worlds0 : sp_worlds sp_able [] = [[]] := by
  rw [worlds_possible able_val (by decide +kernel)]; rfl
theorem able_depth : sp_depth sp_able [] [⟨1, 0, 0, 0, 0⟩] = (0, ⟨0, 0⟩) := by decide +kernel
theorem able_cplan : sp_cplan sp_able [] [] 1 = ([⟨1, 0, 0, 0, 0⟩, ⟨2, 0, 0, 0, 0⟩], true, ⟨0, 0⟩) := by
  unfold sp_cplan
  rw [if_pos (by decide +kernel), if_neg (by decide), able_worlds0]
  decide +kernel
theorem ok_stopped : F_stopped (fun r => r = sp_stopped) := by
  unfold F_stopped
  simp only [forall_eq, able_depth, able_cplan]
  exact ⟨fun _ => ⟨fun _ => ⟨fun _ => ⟨fun _ => ⟨by simp [pre_trees], by decide⟩, fun h => absurd h (by decide)⟩, fun h => absurd h (by decide)⟩, fun h => absurd h (by decide)⟩, fun h => absurd h (by decide)⟩
/-- a tree plan that is found -/
theorem cplan_found {t : Task} {u sensors : List Int} {depth : Int} {l : List TNode} {f : Fault} (h : sp_cplan t u sensors depth = (l, true, f)) :
    f = ⟨0, 0⟩ ∧ sp_ccheck t u sensors = ⟨0, 0⟩ ∧ ∃ d : Nat, (d : Int) ≤ depth ∧ within t sensors d (sp_worlds t u) = true ∧ l = treeT t sensors d (sp_worlds t u) [] ∧ l.length ≤ 60 := by
  unfold sp_cplan at h
  by_cases a : sp_ccheck t u sensors = ⟨0, 0⟩
  · rw [if_pos a] at h
    by_cases b : depth < 0 ∨ 6 < depth
    · rw [if_pos b] at h; simp at h
    · rw [if_neg b] at h
      by_cases c : sp_smallC (sp_worlds t u) ⟨t, sensors⟩ = true
      · rw [if_pos c] at h
        cases hl : leastW t sensors (sp_worlds t u) depth.toNat with
        | none => rw [hl] at h; simp at h
        | some d =>
          rw [hl] at h
          simp only at h
          obtain ⟨w1, w2, w3⟩ := leastW_some.1 hl
          by_cases e : 60 < (treeT t sensors d (sp_worlds t u) []).length
          · rw [if_pos e] at h; simp at h
          · rw [if_neg e] at h
            simp only [Prod.mk.injEq, true_and] at h
            obtain ⟨rfl, rfl⟩ := h
            exact ⟨rfl, a, d, by omega, w1, rfl, by omega⟩
      · rw [if_neg c] at h; simp at h
  · rw [if_neg a] at h; simp at h
theorem cv_of {t : Task} {sensors : List Int} {l : List TNode} (h : sp_ccheck t [] sensors = ⟨0, 0⟩) (hp : 0 < l.length) (hl : l.length ≤ 60) (hn : NodesOK t sensors l) : sp_cvalidate t sensors l = ⟨0, 0⟩ := by
  rw [cv_all h (by omega)]
  refine ffirst_none fun j hj => nodeF_zero ?_
  have := gt_get (xs := l) (i := (j : Int)) ⟨by omega, by omega⟩
  exact hn j _ (by simpa using this)
/-- .. is valid, reaches the goal, and is no deeper -/
theorem found_good {t : Task} {u sensors : List Int} {d : Nat} (hc : sp_ccheck t u sensors = ⟨0, 0⟩) (hw : within t sensors d (sp_worlds t u) = true) (hl : (treeT t sensors d (sp_worlds t u) []).length ≤ 60) :
    sp_cvalidate t sensors (treeT t sensors d (sp_worlds t u) []) = ⟨0, 0⟩ ∧ (∀ s ∈ sp_worlds t u, (sp_crun t (treeT t sensors d (sp_worlds t u) []) s).2 = true) ∧ sp_deep (treeT t sensors d (sp_worlds t u) []) ≤ d := by
  obtain ⟨hu, hse⟩ := ccheck_ok hc
  have hv0 : sp_unknownFault t [] = ⟨0, 0⟩ := by
    unfold sp_unknownFault
    rw [if_pos hu.1]; simp [sp_isSet]
  obtain ⟨a, b⟩ := treeT_good d [] hw (fun j n hj => by simp at hj)
  obtain ⟨r, hr, hr0⟩ := treeT_grow d [] hw
  have hp : 0 < (treeT t sensors d (sp_worlds t u) []).length := by rw [hr]; simpa using List.length_pos_iff.2 hr0
  have hcv := cv_of (ccheck_of hv0 hse) hp hl a
  have hT := (cv_ok hcv).2.2.1
  have b' := b [] (by rw [List.append_nil]; exact hT)
  rw [List.append_nil] at b'
  exact ⟨hcv, fun s hs => by rw [crun_eq hT]; exact b'.1 s hs, b'.2⟩
end Go.Proofs.YtojoehfldbimpaaGreatDoor.Pl

/- Two more laws on contingent plans: the specified tree plan, and lines. Plain Lean. No condition. -/
namespace Go.Proofs.YtojoehfldbimpaaGreatDoor.Pl
open Go Go.RowKit
/-! ### without sensors -/
theorem way_works {t : Task} : ∀ {plan : List Int} {ws v : Bel}, Way (bsucc t) ws plan v → sp_sure v t.goal = true → ∀ s ∈ ws, sp_rworks t s plan = true
  | [], ws, v, h, g, s, hs => by
    subst h
    have := sure_iff.1 g s hs
    simp [sp_rworks, sp_ends, sp_subset]
    exact fun x hx => decide_eq_true (this x hx)
  | o :: r, ws, v, ⟨x, hx, w⟩, g, s, hs => by
    obtain ⟨_, h1, h2⟩ := mem_bsucc.1 hx
    simp only at h1 h2
    subst h2
    have ha : sp_applies t s o = true := by
      unfold sp_applies sp_subset
      rw [List.all_eq_true]
      exact fun y hy => decide_eq_true (sure_iff.1 h1 s hs y hy)
    have := way_works w g (sp_after t s o) (mem_bafter.2 ⟨s, hs, rfl⟩)
    simpa [sp_rworks, sp_ends, ha] using this
theorem way_in {t : Task} : ∀ {p : List Int} {u v : Bel}, Way (bsucc t) u p v → ∀ x ∈ p, inb t.ops x
  | [], _, _, _, x, hx => by cases hx
  | o :: p, _, _, ⟨y, h1, h2⟩, x, hx => by
    rcases List.mem_cons.1 hx with rfl | hx
    · exact (mem_bsucc.1 h1).1
    · exact way_in h2 x hx
theorem treeT_line {t : Task} (d : Nat) {ws : Bel} (out : List TNode) (hw : within t [] d ws = true) (hn : NodesOK t [] out) :
    ∃ p v, Way (bsucc t) ws p v ∧ sp_sure v t.goal = true ∧ ∀ X : List TNode, TreeOK t (treeT t [] d ws out ++ X) → ∀ s ∈ ws, sp_treeRun t (treeT t [] d ws out ++ X) (((treeT t [] d ws out).length : Int) - 1) s = (p, true) := by
  induction d generalizing ws out with
  | zero =>
    refine ⟨[], ws, rfl, hw, fun X hT s hs => ?_⟩
    unfold treeT
    rw [run_stop (by rw [gt_last])]
    congr 1
    unfold sp_subset
    rw [List.all_eq_true]
    exact fun x hx => decide_eq_true (sure_iff.1 hw s hs x hx)
  | succ d ih =>
    by_cases h0 : within t [] d ws = true
    · have e : treeT t [] (d + 1) ws out = treeT t [] d ws out := by
        conv => lhs; unfold treeT
        rw [if_pos h0]
      rw [e]
      exact ih out h0 hn
    · have hs0 : sp_sure ws t.goal = false := by
        cases hs : sp_sure ws t.goal with
        | false => rfl
        | true => exact absurd (within_sure hs d) h0
      cases hx : (bsucc t ws).find? fun x => within t [] d x.2 with
      | some x =>
        have e : treeT t [] (d + 1) ws out = treeT t [] d x.2 out ++ [⟨2, x.1, 0, ((treeT t [] d x.2 out).length : Int) - 1, 0⟩] := by
          conv => lhs; unfold treeT
          rw [if_neg h0, hx]
        have hxw : within t [] d x.2 = true := List.find?_some (p := fun x : Int × Bel => within t [] d x.2) hx
        have hxm := List.mem_of_find?_eq_some hx
        obtain ⟨m1, m2, m3⟩ := mem_bsucc.1 hxm
        obtain ⟨r, hr, hr0⟩ := treeT_grow d out hxw
        obtain ⟨p, v, b1, b2, b⟩ := ih out hxw hn
        have hpos : 0 < (treeT t [] d x.2 out).length := by rw [hr, List.length_append]; have := List.length_pos_iff.2 hr0; omega
        refine ⟨x.1 :: p, v, ⟨x.2, hxm, b1⟩, b2, ?_⟩
        rw [e]
        generalize treeT t [] d x.2 out = T at b hpos
        intro X hT s hs
        have hi := inb_last (l := T ++ [(⟨2, x.1, 0, (T.length : Int) - 1, 0⟩ : TNode)]) (X := X) (by simp)
        have hg := gt_last (l := T) (X := X) (n := ⟨2, x.1, 0, (T.length : Int) - 1, 0⟩)
        have hlen : (((T ++ [(⟨2, x.1, 0, (T.length : Int) - 1, 0⟩ : TNode)]).length : Nat) : Int) = T.length + 1 := by simp
        have bX := b ([(⟨2, x.1, 0, (T.length : Int) - 1, 0⟩ : TNode)] ++ X) (by rw [← List.append_assoc]; exact hT)
        rw [← List.append_assoc] at bX
        generalize hI : (((T ++ [(⟨2, x.1, 0, (T.length : Int) - 1, 0⟩ : TNode)]).length : Nat) : Int) - 1 = I at hi hg ⊢
        have hI2 : I = T.length := by omega
        generalize T ++ [(⟨2, x.1, 0, (T.length : Int) - 1, 0⟩ : TNode)] ++ X = L at hT hi hg bX ⊢
        have hap : sp_applies t s (gt L I).op = true := by
          rw [hg]
          unfold sp_applies sp_subset
          rw [List.all_eq_true]
          exact fun y hy => decide_eq_true (sure_iff.1 m2 s hs y hy)
        rw [run_act hT hi (by rw [hg]) (by rw [hg]; simp only; omega) hap, hg]
        simp only
        rw [bX _ (by rw [m3]; exact mem_bafter.2 ⟨s, hs, rfl⟩)]
      | none =>
        exfalso
        rw [within_succ hs0, Bool.or_eq_true] at hw
        rcases hw with q | q
        · obtain ⟨x, hm, hp⟩ := List.any_eq_true.1 q
          exact (List.find?_eq_none.1 hx x hm) hp
        · simp at q
theorem ok_lawContLines : ∀ (t : Task) (unknown : List Int) (depth : Int), F_lawContLines t unknown depth (fun r => r = sp_lawContLines t unknown depth) := fun t u depth => by
  unfold F_lawContLines F_lawContLines_J1 F_lawContLines_J2 F_lawContLines_J3
  simp only [forall_eq]
  rcases hr : sp_cplan t u [] depth with ⟨l, ok, f⟩
  refine ⟨fun _ => ⟨fun _ => rfl, fun q => by simp at q⟩, fun q => ⟨fun _ => rfl, fun q2 => ?_⟩⟩
  have ho : ok = true := by simpa using q2
  subst ho
  obtain ⟨rfl, hc, d, h1, h2, rfl, h3⟩ := cplan_found hr
  obtain ⟨hu, _⟩ := ccheck_ok hc
  obtain ⟨g1, g2, g3⟩ := found_good hc h2 h3
  have hT := (cv_ok g1).2.2.1
  have hun : sp_unknownFault t u = ⟨0, 0⟩ := by
    refine Classical.byContradiction fun a => ?_
    unfold sp_ccheck at hc; rw [if_neg a] at hc; exact a hc
  have ei : sp_initial t u = (sp_worlds t u, ⟨0, 0⟩) := by unfold sp_initial; rw [if_pos hun]
  rw [ei]
  have hm : t.init ∈ sp_worlds t u := (mem_worlds hu.1 hu.2.2).2 (init_poss hu.1)
  have hpos : 0 < (sp_worlds t u).length := List.length_pos_of_mem hm
  obtain ⟨p, v, b1, b2, b⟩ := treeT_line d [] h2 (fun j n hj => by simp at hj)
  have b' := b [] (by rw [List.append_nil]; exact hT)
  rw [List.append_nil] at b'
  have hin : inb (sp_worlds t u) (0 : Int) := ⟨by omega, by omega⟩
  have hg0 : gt (sp_worlds t u) 0 ∈ sp_worlds t u := gt_mem hin
  have hs0 := (worlds_ok hu).2 _ hg0
  have er : sp_cRun t [] (treeT t [] d (sp_worlds t u) []) (gt (sp_worlds t u) 0) = (p, true, ⟨0, 0⟩) := by
    unfold sp_cRun
    rw [if_pos g1, if_pos hs0, crun_eq hT, b' _ hg0]
  have hpl : p.length ≤ 60 := by
    have := runT_len (t := t) (l := treeT t [] d (sp_worlds t u) []) (treeT t [] d (sp_worlds t u) []).length (((treeT t [] d (sp_worlds t u) []).length : Int) - 1) (gt (sp_worlds t u) 0)
    have e2 : sp_crun t (treeT t [] d (sp_worlds t u) []) (gt (sp_worlds t u) 0) = (p, true) := by rw [crun_eq hT]; exact b' _ hg0
    unfold sp_crun at e2
    rw [e2] at this
    simp only at this
    omega
  have hst : sp_steps t.ops.length p = ⟨0, 0⟩ := by
    unfold sp_steps
    rw [if_neg (by omega), if_pos]
    rw [List.all_eq_true]
    exact fun x hx => decide_eq_true (way_in b1 x hx)
  have eb : sp_bsolves t u p = (true, ⟨0, 0⟩) := by
    unfold sp_bsolves
    rw [if_pos hun, if_pos hst]
    congr 1
    unfold sp_bsolves1
    rw [List.any_eq_not_all_not]
    simp only [Bool.not_not, List.all_eq_true]
    exact way_works b1 b2
  refine ⟨fun z => by simp at z, fun _ => ⟨fun z => ?_, fun _ => ⟨hin, ?_⟩⟩⟩
  · have : ((sp_worlds t u).length : Int) = 0 := by simpa using z
    omega
  · rw [er]
    simp only [eb]
    exact ⟨fun _ => ⟨fun _ => ⟨fun _ => ⟨fun _ => rfl, fun q => by simp at q⟩, fun q => by simp at q⟩, fun q => by simp at q⟩, fun q => by simp at q⟩
end Go.Proofs.YtojoehfldbimpaaGreatDoor.Pl

/- All plain facts. No condition. -/

/- The walks: from what each function asks to what it does; printed from the code. No condition. -/
namespace Go.Proofs.YtojoehfldbimpaaGreatDoor.Pl
open Go Go.RowKit
theorem w_index {h : FH} {w : World} (hs : Sub h w) (s_ : List Int) (as_ : Option Addr) (cs_ : Nat) (_q1 : RSl h as_ s_) (_q2 : s_.length ≤ cs_) (v : Int) (K : Int → Prop) (hF : F_index s_ v K) : Calls Tryz.prog 114 #[.slice as_ s_.length cs_, .int .i64 v] w fun e w' => ∃ r : Int, K r ∧ e = .returned (.int .i64 r) ∧ Below w.heap.size w w' := by
  refine enter (args := [.slice as_ s_.length cs_, .int .i64 v]) Tryz.func114 rfl Tryz.ntmps114 rfl hs ?_
  refine .seq ?_
  refine .region ?_
  refine .v (asg rfl) rfl rfl rfl ?_
  refine .nil ?_
  refine .seqN ?_
  refine .seq ?_
  refine .seq ?_
  refine .region ?_
  refine .v (mv rfl) rfl rfl rfl ?_
  refine .v (ln rfl tS22.is) rfl rfl rfl ?_
  refine .v (mv rfl) rfl rfl rfl ?_
  refine .nil ?_
  refine .seqN ?_
  refine .block ?_
  obtain ⟨I1, μ1, q50, q51⟩ := hF
  refine .loop' (σ := Int) (fun z => I1 z) (fun z => μ1 z) (fun z => [(0, .slice as_ s_.length cs_), (1, .int .i64 v), (7, .int .i64 ((s_.length : Nat) : Int)), (8, .int .i64 z)]) (fun _ => []) (fun _ => h) 0 q50 (.cons rfl (.cons rfl (.cons rfl (.cons rfl (.nil))))) rfl (FH.le_refl _) ?_
  rintro t8 q50
  have hF := q51 t8 q50
  show J _ _ _ _ _ [(0, .slice as_ s_.length cs_), (1, .int .i64 v), (7, .int .i64 ((s_.length : Nat) : Int)), (8, .int .i64 t8)] [] h
  refine .seq ?_
  refine .region ?_
  refine .v (bi rfl rfl rfl) rfl rfl rfl ?_
  refine .nil ?_
  refine .seqN ?_
  refine .seq ?_
  refine .cond rfl (fun q54 => ?_) (fun q54 => ?_)
  · replace hF := hF.1 q54
    refine .skip ?_
    refine .seqN ?_
    refine .seq ?_
    refine .block ?_
    refine .seq ?_
    refine .region ?_
    refine .v (mv rfl) rfl rfl rfl ?_
    refine .v (asg rfl) rfl rfl rfl ?_
    refine .nil ?_
    refine .seqN ?_
    refine .seq ?_
    refine .region ?_
    refine .v (mv rfl) rfl rfl rfl ?_
    refine .v (mv rfl) rfl rfl rfl ?_
    refine .v (mv rfl) rfl rfl rfl ?_
    obtain ⟨q59, hF⟩ := hF
    refine .v (ix rfl rfl tS22 (_q1.ne (by decide) (inb_pos q59)) q59) rfl rfl rfl ?_
    refine .v (ld1 (v := .int .i64 (gt s_ t8)) rfl tO3 (cellH (_q1.elemF q59 (by decide) 0 _ rfl))) rfl rfl rfl ?_
    refine .v (bi rfl rfl rfl) rfl rfl rfl ?_
    refine .nil ?_
    refine .seqN ?_
    refine .cond rfl (fun q60 => ?_) (fun q60 => ?_)
    · replace hF := hF.1 q60
      refine .seq ?_
      refine .region ?_
      refine .v (mv rfl) rfl rfl rfl ?_
      refine .v (asg rfl) rfl rfl rfl ?_
      refine .nil ?_
      refine .seqN ?_
      refine .ret ?_
      refine .blkR ?_
      refine .seqR ?_
      refine .seqR ?_
      refine .blkR ?_
      refine .seqR ?_
      refine .res1 rfl (rvT rfl) (fun w' S => ⟨t8, hF, rfl, S.below⟩)
    replace hF := hF.2 q60
    refine .skip ?_
    refine .blkN ?_
    refine .seqN ?_
    refine .region ?_
    refine .v (bi rfl rfl rfl) rfl rfl rfl ?_
    refine .v (mv rfl) rfl rfl rfl ?_
    refine .nil ?_
    exact .round (IntKind.i64.wrap (t8 + 1)) hF.1 hF.2 (.cons rfl (.cons rfl (.cons rfl (.cons rfl (.nil))))) rfl (FH.le_refl _)
  replace hF := hF.2 q54
  refine .exit ?_
  refine .seqX ?_
  refine .seqX ?_
  refine .blkX ?_
  refine .seqN ?_
  refine .seq ?_
  refine .region ?_
  refine .v (asg rfl) rfl rfl rfl ?_
  refine .nil ?_
  refine .seqN ?_
  refine .ret ?_
  refine .res1 rfl (rvT rfl) (fun w' S => ⟨(-1), hF, rfl, S.below⟩)

theorem c_index {h : FH} {w : World} (hs : Sub h w) (s_ : List Int) (as_ : Option Addr) (cs_ : Nat) (_q1 : RSl h as_ s_) (_q2 : s_.length ≤ cs_) (v : Int) (hp : pre_index s_ v) : Calls Tryz.prog 114 #[.slice as_ s_.length cs_, .int .i64 v] w fun e w' => e = .returned (.int .i64 (sp_index s_ v)) ∧ Below w.heap.size w w' :=
  (w_index hs s_ as_ cs_ _q1 _q2 v (fun r => r = sp_index s_ v) (ok_index s_ v hp)).mono fun _ _ ⟨_, hk, he, hb⟩ => ⟨by rw [he, hk], hb⟩

theorem w_contains {h : FH} {w : World} (hs : Sub h w) (s_ : List Int) (as_ : Option Addr) (cs_ : Nat) (_q1 : RSl h as_ s_) (_q2 : s_.length ≤ cs_) (v : Int) (K : Bool → Prop) (hF : F_contains s_ v K) : Calls Tryz.prog 101 #[.slice as_ s_.length cs_, .int .i64 v] w fun e w' => ∃ r : Bool, K r ∧ e = .returned (.bool r) ∧ Below w.heap.size w w' := by
  refine enter (args := [.slice as_ s_.length cs_, .int .i64 v]) Tryz.func101 rfl Tryz.ntmps101 rfl hs ?_
  refine .seq ?_
  refine .region ?_
  refine .v (asg rfl) rfl rfl rfl ?_
  refine .nil ?_
  refine .seqN ?_
  refine .seq ?_
  refine .region ?_
  refine .v (mv rfl) rfl rfl rfl ?_
  refine .v (mv rfl) rfl rfl rfl ?_
  obtain ⟨q3, hF⟩ := hF
  obtain ⟨r2, q4⟩ : ∃ y_ : Int, y_ = sp_index s_ v := ⟨_, rfl⟩
  replace hF := hF r2 q4
  refine .c (cl (v := .int .i64 r2) Tryz.call114 rfl rfl (fun w S => (by rw [q4]; exact c_index S.sub s_ as_ cs_ _q1 _q2 v q3))) rfl rfl rfl ?_
  refine .v (bi rfl rfl rfl) rfl rfl rfl ?_
  refine .v (asg rfl) rfl rfl rfl ?_
  refine .nil ?_
  refine .seqN ?_
  refine .ret ?_
  refine .res1 rfl (rvT rfl) (fun w' S => ⟨decide (0 ≤ r2), hF, rfl, S.below⟩)

theorem c_contains {h : FH} {w : World} (hs : Sub h w) (s_ : List Int) (as_ : Option Addr) (cs_ : Nat) (_q1 : RSl h as_ s_) (_q2 : s_.length ≤ cs_) (v : Int) (hp : pre_index s_ v) : Calls Tryz.prog 101 #[.slice as_ s_.length cs_, .int .i64 v] w fun e w' => e = .returned (.bool (sp_contains s_ v)) ∧ Below w.heap.size w w' :=
  (w_contains hs s_ as_ cs_ _q1 _q2 v (fun r => r = sp_contains s_ v) (ok_contains s_ v hp)).mono fun _ _ ⟨_, hk, he, hb⟩ => ⟨by rw [he, hk], hb⟩

theorem w_isNaN1 {h : FH} {w : World} (hs : Sub h w) (x : Int) (K : Bool → Prop) (hF : F_isNaN1 x K) : Calls Tryz.prog 122 #[.int .i64 x] w fun e w' => ∃ r : Bool, K r ∧ e = .returned (.bool r) ∧ Below w.heap.size w w' := by
  refine enter (args := [.int .i64 x]) Tryz.func122 rfl Tryz.ntmps122 rfl hs ?_
  refine .seq ?_
  refine .region ?_
  refine .v (asg rfl) rfl rfl rfl ?_
  refine .nil ?_
  refine .seqN ?_
  refine .seq ?_
  refine .region ?_
  refine .v (mv rfl) rfl rfl rfl ?_
  refine .v (mv rfl) rfl rfl rfl ?_
  refine .v (bi rfl rfl rfl) rfl rfl rfl ?_
  refine .v (asg rfl) rfl rfl rfl ?_
  refine .nil ?_
  refine .seqN ?_
  refine .ret ?_
  refine .res1 rfl (rvT rfl) (fun w' S => ⟨x != x, hF, rfl, S.below⟩)

theorem c_isNaN1 {h : FH} {w : World} (hs : Sub h w) (x : Int) : Calls Tryz.prog 122 #[.int .i64 x] w fun e w' => e = .returned (.bool (sp_isNaN1 x)) ∧ Below w.heap.size w w' :=
  (w_isNaN1 hs x (fun r => r = sp_isNaN1 x) (ok_isNaN1 x)).mono fun _ _ ⟨_, hk, he, hb⟩ => ⟨by rw [he, hk], hb⟩

theorem w_isNaN2 {h : FH} {w : World} (hs : Sub h w) (x : Int) (K : Bool → Prop) (hF : F_isNaN2 x K) : Calls Tryz.prog 117 #[.int .i64 x] w fun e w' => ∃ r : Bool, K r ∧ e = .returned (.bool r) ∧ Below w.heap.size w w' := by
  refine enter (args := [.int .i64 x]) Tryz.func117 rfl Tryz.ntmps117 rfl hs ?_
  refine .seq ?_
  refine .region ?_
  refine .v (asg rfl) rfl rfl rfl ?_
  refine .nil ?_
  refine .seqN ?_
  refine .seq ?_
  refine .region ?_
  refine .v (mv rfl) rfl rfl rfl ?_
  refine .v (mv rfl) rfl rfl rfl ?_
  refine .v (bi rfl rfl rfl) rfl rfl rfl ?_
  refine .v (asg rfl) rfl rfl rfl ?_
  refine .nil ?_
  refine .seqN ?_
  refine .ret ?_
  refine .res1 rfl (rvT rfl) (fun w' S => ⟨x != x, hF, rfl, S.below⟩)

theorem c_isNaN2 {h : FH} {w : World} (hs : Sub h w) (x : Int) : Calls Tryz.prog 117 #[.int .i64 x] w fun e w' => e = .returned (.bool (sp_isNaN1 x)) ∧ Below w.heap.size w w' :=
  (w_isNaN2 hs x (fun r => r = sp_isNaN1 x) (ok_isNaN2 x)).mono fun _ _ ⟨_, hk, he, hb⟩ => ⟨by rw [he, hk], hb⟩

theorem w_less {h : FH} {w : World} (hs : Sub h w) (x : Int) (y : Int) (K : Bool → Prop) (hF : F_less x y K) : Calls Tryz.prog 116 #[.int .i64 x, .int .i64 y] w fun e w' => ∃ r : Bool, K r ∧ e = .returned (.bool r) ∧ Below w.heap.size w w' := by
  refine enter (args := [.int .i64 x, .int .i64 y]) Tryz.func116 rfl Tryz.ntmps116 rfl hs ?_
  refine .seq ?_
  refine .region ?_
  refine .v (asg rfl) rfl rfl rfl ?_
  refine .nil ?_
  refine .seqN ?_
  refine .seq ?_
  refine .region ?_
  refine .v (mv rfl) rfl rfl rfl ?_
  obtain ⟨r2, q5⟩ : ∃ y_ : Bool, y_ = sp_isNaN1 x := ⟨_, rfl⟩
  replace hF := hF r2 q5
  refine .c (cl (v := .bool r2) Tryz.call122 rfl rfl (fun w S => (by rw [q5]; exact c_isNaN1 S.sub x ))) rfl rfl rfl ?_
  refine .v (mv rfl) rfl rfl rfl ?_
  rcases Bool.eq_false_or_eq_true (r2) with q6 | q6
  · replace hF := hF.1 q6
    refine .gv (mv rfl) rfl rfl rfl q6 rfl rfl ?_
    obtain ⟨r3, q7⟩ : ∃ y_ : Bool, y_ = sp_isNaN1 y := ⟨_, rfl⟩
    replace hF := hF r3 q7
    refine .gc (cl (v := .bool r3) Tryz.call122 rfl rfl (fun w S => (by rw [q7]; exact c_isNaN1 S.sub y ))) rfl rfl rfl q6 rfl rfl ?_
    refine .gv (nt rfl) rfl rfl rfl q6 rfl rfl ?_
    refine .v (pkT rfl q6 rfl) rfl rfl rfl ?_
    refine .v (mv rfl) rfl rfl rfl ?_
    rcases Bool.eq_false_or_eq_true (!r3) with q8 | q8
    · replace hF := hF.1 q8
      refine .gS rfl rfl rfl q8 rfl rfl ?_
      refine .gS rfl rfl rfl q8 rfl rfl ?_
      refine .gS rfl rfl rfl q8 rfl rfl ?_
      refine .v (pkT rfl q8 rfl) rfl rfl rfl ?_
      refine .v (asg rfl) rfl rfl rfl ?_
      refine .nil ?_
      refine .seqN ?_
      refine .ret ?_
      refine .res1 rfl (rvT rfl) (fun w' S => ⟨true, hF, rfl, S.below⟩)
    replace hF := hF.2 q8
    refine .gv (mv rfl) rfl rfl rfl q8 rfl rfl ?_
    refine .gv (mv rfl) rfl rfl rfl q8 rfl rfl ?_
    refine .gv (bi rfl rfl rfl) rfl rfl rfl q8 rfl rfl ?_
    refine .v (pkF rfl q8 rfl) rfl rfl rfl ?_
    refine .v (asg rfl) rfl rfl rfl ?_
    refine .nil ?_
    refine .seqN ?_
    refine .ret ?_
    refine .res1 rfl (rvT rfl) (fun w' S => ⟨decide (x < y), hF, rfl, S.below⟩)
  replace hF := hF.2 q6
  refine .gS rfl rfl rfl q6 rfl rfl ?_
  refine .gS rfl rfl rfl q6 rfl rfl ?_
  refine .gS rfl rfl rfl q6 rfl rfl ?_
  refine .v (pkF rfl q6 rfl) rfl rfl rfl ?_
  refine .v (mv rfl) rfl rfl rfl ?_
  refine .gv (mv rfl) rfl rfl rfl rfl rfl rfl ?_
  refine .gv (mv rfl) rfl rfl rfl rfl rfl rfl ?_
  refine .gv (bi rfl rfl rfl) rfl rfl rfl rfl rfl rfl ?_
  refine .v (pkF rfl rfl rfl) rfl rfl rfl ?_
  refine .v (asg rfl) rfl rfl rfl ?_
  refine .nil ?_
  refine .seqN ?_
  refine .ret ?_
  refine .res1 rfl (rvT rfl) (fun w' S => ⟨decide (x < y), hF, rfl, S.below⟩)

theorem c_less {h : FH} {w : World} (hs : Sub h w) (x : Int) (y : Int) : Calls Tryz.prog 116 #[.int .i64 x, .int .i64 y] w fun e w' => e = .returned (.bool (sp_less x y)) ∧ Below w.heap.size w w' :=
  (w_less hs x y (fun r => r = sp_less x y) (ok_less x y)).mono fun _ _ ⟨_, hk, he, hb⟩ => ⟨by rw [he, hk], hb⟩

set_option maxHeartbeats 8000000 in
theorem w_bsearch {h : FH} {w : World} (hs : Sub h w) (x : List Int) (ax : Option Addr) (cx : Nat) (_q1 : RSl h ax x) (_q2 : x.length ≤ cx) (target : Int) (K : (Int × Bool) → Prop) (hF : F_bsearch x target K) : Calls Tryz.prog 104 #[.slice ax x.length cx, .int .i64 target] w fun e w' => ∃ r : Int × Bool, K r ∧ e = .returned (.tuple #[.int .i64 r.1, .bool r.2]) ∧ Below w.heap.size w w' := by
  refine enter (args := [.slice ax x.length cx, .int .i64 target]) Tryz.func104 rfl Tryz.ntmps104 rfl hs ?_
  refine .seq ?_
  refine .region ?_
  refine .v (asg rfl) rfl rfl rfl ?_
  refine .v (asg rfl) rfl rfl rfl ?_
  refine .nil ?_
  refine .seqN ?_
  refine .seq ?_
  refine .region ?_
  refine .v (mv rfl) rfl rfl rfl ?_
  refine .v (ln rfl tS22.is) rfl rfl rfl ?_
  refine .v (asg rfl) rfl rfl rfl ?_
  refine .nil ?_
  refine .seqN ?_
  refine .seq ?_
  refine .region ?_
  refine .v (mv rfl) rfl rfl rfl ?_
  refine .v (asg rfl) rfl rfl rfl ?_
  refine .v (asg rfl) rfl rfl rfl ?_
  refine .nil ?_
  refine .seqN ?_
  refine .seq ?_
  refine .block ?_
  obtain ⟨I1, μ1, q55, q56⟩ := hF
  refine .loop' (σ := Int × Int) (fun z => I1 z.1 z.2) (fun z => μ1 z.1 z.2) (fun z => [(0, .slice ax x.length cx), (1, .int .i64 target), (6, .int .i64 ((x.length : Nat) : Int)), (7, .int .i64 z.1), (8, .int .i64 z.2)]) (fun _ => []) (fun _ => h) (0, ((x.length : Nat) : Int)) q55 (.cons rfl (.cons rfl (.cons rfl (.cons rfl (.cons rfl (.nil)))))) rfl (FH.le_refl _) ?_
  rintro ⟨i, j⟩ q55
  have hF := q56 i j q55
  show J _ _ _ _ _ [(0, .slice ax x.length cx), (1, .int .i64 target), (6, .int .i64 ((x.length : Nat) : Int)), (7, .int .i64 i), (8, .int .i64 j)] [] h
  refine .seq ?_
  refine .seq ?_
  refine .region ?_
  refine .v (mv rfl) rfl rfl rfl ?_
  refine .v (mv rfl) rfl rfl rfl ?_
  refine .v (bi rfl rfl rfl) rfl rfl rfl ?_
  refine .nil ?_
  refine .seqN ?_
  refine .cond rfl (fun q58 => ?_) (fun q58 => ?_)
  · replace hF := hF.1 q58
    refine .skip ?_
    refine .seqN ?_
    refine .block ?_
    refine .seq ?_
    refine .region ?_
    refine .v (mv rfl) rfl rfl rfl ?_
    refine .v (mv rfl) rfl rfl rfl ?_
    refine .v (bi rfl rfl rfl) rfl rfl rfl ?_
    refine .v (cv Tryz.underlying3 Tryz.underlying131 rfl) rfl rfl rfl ?_
    obtain ⟨x2, q59⟩ : ∃ y_ : Int, y_ = (Int.fdiv (IntKind.u64.wrap (IntKind.i64.wrap (i + j))) (2 ^ (min ((1 : Int)).toNat (IntKind.bits .u64)))) := ⟨_, rfl⟩
    replace hF := hF x2 q59
    refine .v (v := .int .u64 x2) (by rw [q59]; exact bsh rfl rfl (by decide) rfl) rfl rfl rfl ?_
    refine .v (cv Tryz.underlying131 Tryz.underlying3 rfl) rfl rfl rfl ?_
    refine .v (asg rfl) rfl rfl rfl ?_
    refine .nil ?_
    refine .seqN ?_
    refine .seq ?_
    refine .region ?_
    refine .v (mv rfl) rfl rfl rfl ?_
    refine .v (mv rfl) rfl rfl rfl ?_
    obtain ⟨q60, hF⟩ := hF
    refine .v (ix rfl rfl tS22 (_q1.ne (by decide) (inb_pos q60)) q60) rfl rfl rfl ?_
    refine .v (ld1 (v := .int .i64 (gt x (IntKind.i64.wrap (x2)))) rfl tO3 (cellH (_q1.elemF q60 (by decide) 0 _ rfl))) rfl rfl rfl ?_
    refine .v (mv rfl) rfl rfl rfl ?_
    obtain ⟨r2, q61⟩ : ∃ y_ : Bool, y_ = sp_less (gt x (IntKind.i64.wrap (x2))) target := ⟨_, rfl⟩
    replace hF := hF r2 q61
    refine .c (cl (v := .bool r2) Tryz.call116 rfl rfl (fun w S => (by rw [q61]; exact c_less S.sub (gt x (IntKind.i64.wrap (x2))) target ))) rfl rfl rfl ?_
    refine .nil ?_
    refine .seqN ?_
    refine .cond rfl (fun q62 => ?_) (fun q62 => ?_)
    · replace hF := hF.1 q62
      refine .region ?_
      refine .v (mv rfl) rfl rfl rfl ?_
      refine .v (bi rfl rfl rfl) rfl rfl rfl ?_
      refine .v (asg rfl) rfl rfl rfl ?_
      refine .nil ?_
      refine .blkN ?_
      exact .round (IntKind.i64.wrap ((IntKind.i64.wrap (x2)) + 1), j) hF.1 hF.2 (.cons rfl (.cons rfl (.cons rfl (.cons rfl (.cons rfl (.nil)))))) rfl (FH.le_refl _)
    replace hF := hF.2 q62
    refine .region ?_
    refine .v (mv rfl) rfl rfl rfl ?_
    refine .v (asg rfl) rfl rfl rfl ?_
    refine .nil ?_
    refine .blkN ?_
    exact .round (i, IntKind.i64.wrap (x2)) hF.1 hF.2 (.cons rfl (.cons rfl (.cons rfl (.cons rfl (.cons rfl (.nil)))))) rfl (FH.le_refl _)
  replace hF := hF.2 q58
  refine .exit ?_
  refine .seqX ?_
  refine .seqX ?_
  refine .blkX ?_
  refine .seqN ?_
  refine .seq ?_
  refine .region ?_
  refine .v (mv rfl) rfl rfl rfl ?_
  refine .v (mv rfl) rfl rfl rfl ?_
  refine .v (mv rfl) rfl rfl rfl ?_
  refine .v (bi rfl rfl rfl) rfl rfl rfl ?_
  refine .v (mv rfl) rfl rfl rfl ?_
  rcases Bool.eq_false_or_eq_true (decide (i < ((x.length : Nat) : Int))) with q69 | q69
  · replace hF := hF.1 q69
    refine .gv (mv rfl) rfl rfl rfl q69 rfl rfl ?_
    refine .gv (mv rfl) rfl rfl rfl q69 rfl rfl ?_
    obtain ⟨q70, hF⟩ := hF
    refine .gv (ix rfl rfl tS22 (_q1.ne (by decide) (inb_pos q70)) q70) rfl rfl rfl q69 rfl rfl ?_
    refine .gv (ld1 (v := .int .i64 (gt x i)) rfl tO3 (cellH (_q1.elemF q70 (by decide) 0 _ rfl))) rfl rfl rfl q69 rfl rfl ?_
    refine .gv (mv rfl) rfl rfl rfl q69 rfl rfl ?_
    refine .gv (bi rfl rfl rfl) rfl rfl rfl q69 rfl rfl ?_
    refine .gv (mv rfl) rfl rfl rfl q69 rfl rfl ?_
    rcases Bool.eq_false_or_eq_true ((gt x i) == target) with q71 | q71
    · replace hF := hF.1 q71
      refine .gS rfl rfl rfl q71 rfl rfl ?_
      refine .gS rfl rfl rfl q71 rfl rfl ?_
      refine .gS rfl rfl rfl q71 rfl rfl ?_
      refine .gS rfl rfl rfl q71 rfl rfl ?_
      refine .gS rfl rfl rfl q71 rfl rfl ?_
      refine .gS rfl rfl rfl q71 rfl rfl ?_
      refine .gU rfl rfl rfl rfl rfl ?_
      refine .gU rfl rfl rfl rfl rfl ?_
      refine .gS rfl rfl rfl q71 rfl rfl ?_
      refine .gv (pkT rfl q71 rfl) rfl rfl rfl q69 rfl rfl ?_
      refine .v (pkT rfl q69 rfl) rfl rfl rfl ?_
      refine .v (asg rfl) rfl rfl rfl ?_
      refine .v (asg rfl) rfl rfl rfl ?_
      refine .nil ?_
      refine .seqN ?_
      refine .ret ?_
      refine .res2 rfl (rvT rfl) (rvT rfl) (fun w' S => ⟨(i, true), hF, rfl, S.below⟩)
    replace hF := hF.2 q71
    refine .gv (mv rfl) rfl rfl rfl q71 rfl rfl ?_
    refine .gv (mv rfl) rfl rfl rfl q71 rfl rfl ?_
    refine .gv (ix rfl rfl tS22 (_q1.ne (by decide) (inb_pos q70)) q70) rfl rfl rfl q71 rfl rfl ?_
    refine .gv (ld1 (v := .int .i64 (gt x i)) rfl tO3 (cellH (_q1.elemF q70 (by decide) 0 _ rfl))) rfl rfl rfl q71 rfl rfl ?_
    obtain ⟨r3, q72⟩ : ∃ y_ : Bool, y_ = sp_isNaN1 (gt x i) := ⟨_, rfl⟩
    replace hF := hF r3 q72
    refine .gc (cl (v := .bool r3) Tryz.call117 rfl rfl (fun w S => (by rw [q72]; exact c_isNaN2 S.sub (gt x i) ))) rfl rfl rfl q71 rfl rfl ?_
    refine .gv (mv rfl) rfl rfl rfl q71 rfl rfl ?_
    rcases Bool.eq_false_or_eq_true (r3) with q73 | q73
    · replace hF := hF.1 q73
      refine .gv (mv rfl) rfl rfl rfl q73 rfl rfl ?_
      obtain ⟨r4, q74⟩ : ∃ y_ : Bool, y_ = sp_isNaN1 target := ⟨_, rfl⟩
      replace hF := hF r4 q74
      refine .gc (cl (v := .bool r4) Tryz.call117 rfl rfl (fun w S => (by rw [q74]; exact c_isNaN2 S.sub target ))) rfl rfl rfl q73 rfl rfl ?_
      refine .gv (pkT rfl q73 rfl) rfl rfl rfl q71 rfl rfl ?_
      refine .gv (pkF rfl q71 rfl) rfl rfl rfl q69 rfl rfl ?_
      refine .v (pkT rfl q69 rfl) rfl rfl rfl ?_
      refine .v (asg rfl) rfl rfl rfl ?_
      refine .v (asg rfl) rfl rfl rfl ?_
      refine .nil ?_
      refine .seqN ?_
      refine .ret ?_
      refine .res2 rfl (rvT rfl) (rvT rfl) (fun w' S => ⟨(i, r4), hF, rfl, S.below⟩)
    replace hF := hF.2 q73
    refine .gS rfl rfl rfl q73 rfl rfl ?_
    refine .gS rfl rfl rfl q73 rfl rfl ?_
    refine .gv (pkF rfl q73 rfl) rfl rfl rfl q71 rfl rfl ?_
    refine .gv (pkF rfl q71 rfl) rfl rfl rfl q69 rfl rfl ?_
    refine .v (pkT rfl q69 rfl) rfl rfl rfl ?_
    refine .v (asg rfl) rfl rfl rfl ?_
    refine .v (asg rfl) rfl rfl rfl ?_
    refine .nil ?_
    refine .seqN ?_
    refine .ret ?_
    refine .res2 rfl (rvT rfl) (rvT rfl) (fun w' S => ⟨(i, false), hF, rfl, S.below⟩)
  replace hF := hF.2 q69
  refine .gS rfl rfl rfl q69 rfl rfl ?_
  refine .gS rfl rfl rfl q69 rfl rfl ?_
  refine .gS rfl rfl rfl q69 rfl rfl ?_
  refine .gS rfl rfl rfl q69 rfl rfl ?_
  refine .gS rfl rfl rfl q69 rfl rfl ?_
  refine .gS rfl rfl rfl q69 rfl rfl ?_
  refine .gS rfl rfl rfl q69 rfl rfl ?_
  refine .gU rfl rfl rfl rfl rfl ?_
  refine .gU rfl rfl rfl rfl rfl ?_
  refine .gU rfl rfl rfl rfl rfl ?_
  refine .gU rfl rfl rfl rfl rfl ?_
  refine .gU rfl rfl rfl rfl rfl ?_
  refine .gU rfl rfl rfl rfl rfl ?_
  refine .gU rfl rfl rfl rfl rfl ?_
  refine .gU rfl rfl rfl rfl rfl ?_
  refine .gU rfl rfl rfl rfl rfl ?_
  refine .gS rfl rfl rfl q69 rfl rfl ?_
  refine .v (pkF rfl q69 rfl) rfl rfl rfl ?_
  refine .v (asg rfl) rfl rfl rfl ?_
  refine .v (asg rfl) rfl rfl rfl ?_
  refine .nil ?_
  refine .seqN ?_
  refine .ret ?_
  refine .res2 rfl (rvT rfl) (rvT rfl) (fun w' S => ⟨(i, false), hF, rfl, S.below⟩)

theorem c_bsearch {h : FH} {w : World} (hs : Sub h w) (x : List Int) (ax : Option Addr) (cx : Nat) (_q1 : RSl h ax x) (_q2 : x.length ≤ cx) (target : Int) (hp : pre_bsearch x target) : Calls Tryz.prog 104 #[.slice ax x.length cx, .int .i64 target] w fun e w' => e = .returned (.tuple #[.int .i64 (sp_bsearch x target).1, .bool (sp_bsearch x target).2]) ∧ Below w.heap.size w w' :=
  (w_bsearch hs x ax cx _q1 _q2 target (fun r => r = sp_bsearch x target) (ok_bsearch x target hp)).mono fun _ _ ⟨_, hk, he, hb⟩ => ⟨by rw [he, hk], hb⟩

theorem w_indexF {h : FH} {w : World} (hs : Sub h w) (s_ : List Int) (as_ : Option Addr) (cs_ : Nat) (_q1 : RSl h as_ s_) (_q2 : s_.length ≤ cs_) (pf : Int → Bool) (Df : Int → Prop) (ff : FuncId) (firstf capsf : Array Value) (hff : ∀ args w, (callFunc ff args).run Tryz.prog w = .ok (.enter ff args) w) (hpf : ∀ (x : Int) (w' : World), Df x → Sub h w' → Calls Tryz.prog ff (firstf.toList ++ [(.int .i64 x : Value)] ++ capsf.toList).toArray w' fun e w'' => e = .returned (.bool (pf x)) ∧ Below w'.heap.size w' w'') (K : Int → Prop) (hF : F_indexF s_ pf Df K) : Calls Tryz.prog 149 #[.slice as_ s_.length cs_, .func (.func ff) firstf capsf] w fun e w' => ∃ r : Int, K r ∧ e = .returned (.int .i64 r) ∧ Below w.heap.size w w' := by
  refine enter (args := [.slice as_ s_.length cs_, .func (.func ff) firstf capsf]) Tryz.func149 rfl Tryz.ntmps149 rfl hs ?_
  refine .seq ?_
  refine .region ?_
  refine .v (asg rfl) rfl rfl rfl ?_
  refine .nil ?_
  refine .seqN ?_
  refine .seq ?_
  refine .seq ?_
  refine .region ?_
  refine .v (mv rfl) rfl rfl rfl ?_
  refine .v (ln rfl tS22.is) rfl rfl rfl ?_
  refine .v (mv rfl) rfl rfl rfl ?_
  refine .nil ?_
  refine .seqN ?_
  refine .block ?_
  obtain ⟨I1, μ1, q80, q81⟩ := hF
  refine .loop' (σ := Int) (fun z => I1 z) (fun z => μ1 z) (fun z => [(0, .slice as_ s_.length cs_), (1, .func (.func ff) firstf capsf), (7, .int .i64 ((s_.length : Nat) : Int)), (8, .int .i64 z)]) (fun _ => []) (fun _ => h) 0 q80 (.cons rfl (.cons rfl (.cons rfl (.cons rfl (.nil))))) rfl (FH.le_refl _) ?_
  rintro t8 q80
  have hF := q81 t8 q80
  show J _ _ _ _ _ [(0, .slice as_ s_.length cs_), (1, .func (.func ff) firstf capsf), (7, .int .i64 ((s_.length : Nat) : Int)), (8, .int .i64 t8)] [] h
  refine .seq ?_
  refine .region ?_
  refine .v (bi rfl rfl rfl) rfl rfl rfl ?_
  refine .nil ?_
  refine .seqN ?_
  refine .seq ?_
  refine .cond rfl (fun q84 => ?_) (fun q84 => ?_)
  · replace hF := hF.1 q84
    refine .skip ?_
    refine .seqN ?_
    refine .seq ?_
    refine .block ?_
    refine .seq ?_
    refine .region ?_
    refine .v (mv rfl) rfl rfl rfl ?_
    refine .v (asg rfl) rfl rfl rfl ?_
    refine .nil ?_
    refine .seqN ?_
    refine .seq ?_
    refine .region ?_
    refine .v (mv rfl) rfl rfl rfl ?_
    refine .v (mv rfl) rfl rfl rfl ?_
    refine .v (mv rfl) rfl rfl rfl ?_
    obtain ⟨q93, hF⟩ := hF
    refine .v (ix rfl rfl tS22 (_q1.ne (by decide) (inb_pos q93)) q93) rfl rfl rfl ?_
    refine .v (ld1 (v := .int .i64 (gt s_ t8)) rfl tO3 (cellH (_q1.elemF q93 (by decide) 0 _ rfl))) rfl rfl rfl ?_
    obtain ⟨q94, hF⟩ := hF
    obtain ⟨r2, q95⟩ : ∃ y_ : Bool, y_ = pf (gt s_ t8) := ⟨_, rfl⟩
    replace hF := hF r2 q95
    refine .c (cl (v := .bool r2) hff rfl rfl (fun w S => (by rw [q95]; exact hpf (gt s_ t8) w q94 (S.sub.anti (FH.le_refl _))))) rfl rfl rfl ?_
    refine .nil ?_
    refine .seqN ?_
    refine .cond rfl (fun q96 => ?_) (fun q96 => ?_)
    · replace hF := hF.1 q96
      refine .seq ?_
      refine .region ?_
      refine .v (mv rfl) rfl rfl rfl ?_
      refine .v (asg rfl) rfl rfl rfl ?_
      refine .nil ?_
      refine .seqN ?_
      refine .ret ?_
      refine .blkR ?_
      refine .seqR ?_
      refine .seqR ?_
      refine .blkR ?_
      refine .seqR ?_
      refine .res1 rfl (rvT rfl) (fun w' S => ⟨t8, hF, rfl, S.below⟩)
    replace hF := hF.2 q96
    refine .skip ?_
    refine .blkN ?_
    refine .seqN ?_
    refine .region ?_
    refine .v (bi rfl rfl rfl) rfl rfl rfl ?_
    refine .v (mv rfl) rfl rfl rfl ?_
    refine .nil ?_
    exact .round (IntKind.i64.wrap (t8 + 1)) hF.1 hF.2 (.cons rfl (.cons rfl (.cons rfl (.cons rfl (.nil))))) rfl (FH.le_refl _)
  replace hF := hF.2 q84
  refine .exit ?_
  refine .seqX ?_
  refine .seqX ?_
  refine .blkX ?_
  refine .seqN ?_
  refine .seq ?_
  refine .region ?_
  refine .v (asg rfl) rfl rfl rfl ?_
  refine .nil ?_
  refine .seqN ?_
  refine .ret ?_
  refine .res1 rfl (rvT rfl) (fun w' S => ⟨(-1), hF, rfl, S.below⟩)

theorem c_indexF {h : FH} {w : World} (hs : Sub h w) (s_ : List Int) (as_ : Option Addr) (cs_ : Nat) (_q1 : RSl h as_ s_) (_q2 : s_.length ≤ cs_) (pf : Int → Bool) (Df : Int → Prop) (ff : FuncId) (firstf capsf : Array Value) (hff : ∀ args w, (callFunc ff args).run Tryz.prog w = .ok (.enter ff args) w) (hpf : ∀ (x : Int) (w' : World), Df x → Sub h w' → Calls Tryz.prog ff (firstf.toList ++ [(.int .i64 x : Value)] ++ capsf.toList).toArray w' fun e w'' => e = .returned (.bool (pf x)) ∧ Below w'.heap.size w' w'') (hp : pre_any s_ pf Df) : Calls Tryz.prog 149 #[.slice as_ s_.length cs_, .func (.func ff) firstf capsf] w fun e w' => e = .returned (.int .i64 (sp_indexF s_ pf Df)) ∧ Below w.heap.size w w' :=
  (w_indexF hs s_ as_ cs_ _q1 _q2 pf Df ff firstf capsf hff hpf (fun r => r = sp_indexF s_ pf Df) (ok_indexF s_ pf Df hp)).mono fun _ _ ⟨_, hk, he, hb⟩ => ⟨by rw [he, hk], hb⟩

theorem w_containsF {h : FH} {w : World} (hs : Sub h w) (s_ : List Int) (as_ : Option Addr) (cs_ : Nat) (_q1 : RSl h as_ s_) (_q2 : s_.length ≤ cs_) (pf : Int → Bool) (Df : Int → Prop) (ff : FuncId) (firstf capsf : Array Value) (hff : ∀ args w, (callFunc ff args).run Tryz.prog w = .ok (.enter ff args) w) (hpf : ∀ (x : Int) (w' : World), Df x → Sub h w' → Calls Tryz.prog ff (firstf.toList ++ [(.int .i64 x : Value)] ++ capsf.toList).toArray w' fun e w'' => e = .returned (.bool (pf x)) ∧ Below w'.heap.size w' w'') (K : Bool → Prop) (hF : F_containsF s_ pf Df K) : Calls Tryz.prog 124 #[.slice as_ s_.length cs_, .func (.func ff) firstf capsf] w fun e w' => ∃ r : Bool, K r ∧ e = .returned (.bool r) ∧ Below w.heap.size w w' := by
  refine enter (args := [.slice as_ s_.length cs_, .func (.func ff) firstf capsf]) Tryz.func124 rfl Tryz.ntmps124 rfl hs ?_
  refine .seq ?_
  refine .region ?_
  refine .v (asg rfl) rfl rfl rfl ?_
  refine .nil ?_
  refine .seqN ?_
  refine .seq ?_
  refine .region ?_
  refine .v (mv rfl) rfl rfl rfl ?_
  refine .v (mv rfl) rfl rfl rfl ?_
  obtain ⟨q3, hF⟩ := hF
  obtain ⟨r2, q4⟩ : ∃ y_ : Int, y_ = sp_indexF s_ pf Df := ⟨_, rfl⟩
  replace hF := hF r2 q4
  refine .c (cl (v := .int .i64 r2) Tryz.call149 rfl rfl (fun w S => (by rw [q4]; exact c_indexF S.sub s_ as_ cs_ _q1 _q2 pf Df ff firstf capsf hff hpf q3))) rfl rfl rfl ?_
  refine .v (bi rfl rfl rfl) rfl rfl rfl ?_
  refine .v (asg rfl) rfl rfl rfl ?_
  refine .nil ?_
  refine .seqN ?_
  refine .ret ?_
  refine .res1 rfl (rvT rfl) (fun w' S => ⟨decide (0 ≤ r2), hF, rfl, S.below⟩)

theorem c_containsF {h : FH} {w : World} (hs : Sub h w) (s_ : List Int) (as_ : Option Addr) (cs_ : Nat) (_q1 : RSl h as_ s_) (_q2 : s_.length ≤ cs_) (pf : Int → Bool) (Df : Int → Prop) (ff : FuncId) (firstf capsf : Array Value) (hff : ∀ args w, (callFunc ff args).run Tryz.prog w = .ok (.enter ff args) w) (hpf : ∀ (x : Int) (w' : World), Df x → Sub h w' → Calls Tryz.prog ff (firstf.toList ++ [(.int .i64 x : Value)] ++ capsf.toList).toArray w' fun e w'' => e = .returned (.bool (pf x)) ∧ Below w'.heap.size w' w'') (hp : pre_any s_ pf Df) : Calls Tryz.prog 124 #[.slice as_ s_.length cs_, .func (.func ff) firstf capsf] w fun e w' => e = .returned (.bool (sp_any s_ pf Df)) ∧ Below w.heap.size w w' :=
  (w_containsF hs s_ as_ cs_ _q1 _q2 pf Df ff firstf capsf hff hpf (fun r => r = sp_any s_ pf Df) (ok_containsF s_ pf Df hp)).mono fun _ _ ⟨_, hk, he, hb⟩ => ⟨by rw [he, hk], hb⟩

set_option maxHeartbeats 8000000 in
theorem w_isSet {h : FH} {w : World} (hs : Sub h w) (l : List Int) (al2 : Option Addr) (cl2 : Nat) (_q1 : RSl h al2 l) (_q2 : l.length ≤ cl2) (n_ : Int) (K : Bool → Prop) (hF : F_isSet l n_ K) : Calls Tryz.prog 61 #[.slice al2 l.length cl2, .int .i64 n_] w fun e w' => ∃ r : Bool, K r ∧ e = .returned (.bool r) ∧ Below w.heap.size w w' := by
  refine enter (args := [.slice al2 l.length cl2, .int .i64 n_]) Tryz.func61 rfl Tryz.ntmps61 rfl hs ?_
  refine .seq ?_
  refine .region ?_
  refine .v (asg rfl) rfl rfl rfl ?_
  refine .nil ?_
  refine .seqN ?_
  refine .seq ?_
  refine .seq ?_
  refine .region ?_
  refine .v (mv rfl) rfl rfl rfl ?_
  refine .v (ln rfl tS22.is) rfl rfl rfl ?_
  refine .v (mv rfl) rfl rfl rfl ?_
  refine .nil ?_
  refine .seqN ?_
  refine .block ?_
  obtain ⟨I1, μ1, q185, q186⟩ := hF
  refine .loop' (σ := Int) (fun z => I1 z) (fun z => μ1 z) (fun z => [(0, .slice al2 l.length cl2), (1, .int .i64 n_), (7, .slice al2 l.length cl2), (8, .int .i64 ((l.length : Nat) : Int)), (9, .int .i64 z)]) (fun _ => []) (fun _ => h) 0 q185 (.cons rfl (.cons rfl (.cons rfl (.cons rfl (.cons rfl (.nil)))))) rfl (FH.le_refl _) ?_
  rintro t9 q185
  have hF := q186 t9 q185
  show J _ _ _ _ _ [(0, .slice al2 l.length cl2), (1, .int .i64 n_), (7, .slice al2 l.length cl2), (8, .int .i64 ((l.length : Nat) : Int)), (9, .int .i64 t9)] [] h
  refine .seq ?_
  refine .region ?_
  refine .v (bi rfl rfl rfl) rfl rfl rfl ?_
  refine .nil ?_
  refine .seqN ?_
  refine .seq ?_
  refine .cond rfl (fun q189 => ?_) (fun q189 => ?_)
  · replace hF := hF.1 q189
    refine .skip ?_
    refine .seqN ?_
    refine .seq ?_
    refine .block ?_
    refine .seq ?_
    refine .region ?_
    refine .v (mv rfl) rfl rfl rfl ?_
    obtain ⟨q212, hF⟩ := hF
    refine .v (ix rfl rfl tS22 (_q1.ne (by decide) (inb_pos q212)) q212) rfl rfl rfl ?_
    refine .v (ld1 (v := .int .i64 (gt l t9)) rfl tO3 (cellH (_q1.elemF q212 (by decide) 0 _ rfl))) rfl rfl rfl ?_
    refine .v (asg rfl) rfl rfl rfl ?_
    refine .v (asg rfl) rfl rfl rfl ?_
    refine .nil ?_
    refine .seqN ?_
    refine .share (σ := Bool) (fun z => F_isSet_J1 K z t9 I1 μ1) (fun z => [(0, .slice al2 l.length cl2), (1, .int .i64 n_), (7, .slice al2 l.length cl2), (8, .int .i64 ((l.length : Nat) : Int)), (9, .int .i64 t9), (33, .bool z)]) (fun _ => []) (fun _ => h) ?_ (fun q217 => ?_)
    · rintro t33 hF
      show J _ _ _ _ _ [(0, .slice al2 l.length cl2), (1, .int .i64 n_), (7, .slice al2 l.length cl2), (8, .int .i64 ((l.length : Nat) : Int)), (9, .int .i64 t9), (33, .bool t33)] [] h
      refine .cond rfl (fun q218 => ?_) (fun q218 => ?_)
      · replace hF := hF.1 q218
        refine .seq ?_
        refine .region ?_
        refine .v (asg rfl) rfl rfl rfl ?_
        refine .nil ?_
        refine .seqN ?_
        refine .ret ?_
        refine .blkR ?_
        refine .seqR ?_
        refine .seqR ?_
        refine .blkR ?_
        refine .seqR ?_
        refine .res1 rfl (rvT rfl) (fun w' S => ⟨false, hF, rfl, S.below⟩)
      replace hF := hF.2 q218
      refine .skip ?_
      refine .blkN ?_
      refine .seqN ?_
      refine .region ?_
      refine .v (bi rfl rfl rfl) rfl rfl rfl ?_
      refine .v (mv rfl) rfl rfl rfl ?_
      refine .nil ?_
      exact .round (IntKind.i64.wrap (t9 + 1)) hF.1 hF.2 (.cons rfl (.cons rfl (.cons rfl (.cons rfl (.cons rfl (.nil)))))) rfl (FH.le_refl _)
    refine .region ?_
    refine .v (mv rfl) rfl rfl rfl ?_
    refine .v (bi rfl rfl rfl) rfl rfl rfl ?_
    refine .v (mv rfl) rfl rfl rfl ?_
    rcases Bool.eq_false_or_eq_true (decide ((gt l t9) < 0)) with q219 | q219
    · replace hF := hF.1 q219
      refine .gS rfl rfl rfl q219 rfl rfl ?_
      refine .gS rfl rfl rfl q219 rfl rfl ?_
      refine .gS rfl rfl rfl q219 rfl rfl ?_
      refine .v (pkT rfl q219 rfl) rfl rfl rfl ?_
      refine .v (mv rfl) rfl rfl rfl ?_
      refine .gS rfl rfl rfl rfl rfl rfl ?_
      refine .gS rfl rfl rfl rfl rfl rfl ?_
      refine .gS rfl rfl rfl rfl rfl rfl ?_
      refine .gU rfl rfl rfl rfl rfl ?_
      refine .gU rfl rfl rfl rfl rfl ?_
      refine .gU rfl rfl rfl rfl rfl ?_
      refine .gU rfl rfl rfl rfl rfl ?_
      refine .gU rfl rfl rfl rfl rfl ?_
      refine .gU rfl rfl rfl rfl rfl ?_
      refine .gU rfl rfl rfl rfl rfl ?_
      refine .gS rfl rfl rfl rfl rfl rfl ?_
      refine .v (pkT rfl rfl rfl) rfl rfl rfl ?_
      refine .nil ?_
      exact .use q217 true hF (.cons rfl (.cons rfl (.cons rfl (.cons rfl (.cons rfl (.cons rfl (.nil))))))) rfl (FH.le_refl _)
    replace hF := hF.2 q219
    refine .gv (mv rfl) rfl rfl rfl q219 rfl rfl ?_
    refine .gv (mv rfl) rfl rfl rfl q219 rfl rfl ?_
    refine .gv (bi rfl rfl rfl) rfl rfl rfl q219 rfl rfl ?_
    refine .v (pkF rfl q219 rfl) rfl rfl rfl ?_
    refine .v (mv rfl) rfl rfl rfl ?_
    rcases Bool.eq_false_or_eq_true (decide (n_ ≤ (gt l t9))) with q220 | q220
    · replace hF := hF.1 q220
      refine .gS rfl rfl rfl q220 rfl rfl ?_
      refine .gS rfl rfl rfl q220 rfl rfl ?_
      refine .gS rfl rfl rfl q220 rfl rfl ?_
      refine .gU rfl rfl rfl rfl rfl ?_
      refine .gU rfl rfl rfl rfl rfl ?_
      refine .gU rfl rfl rfl rfl rfl ?_
      refine .gU rfl rfl rfl rfl rfl ?_
      refine .gU rfl rfl rfl rfl rfl ?_
      refine .gU rfl rfl rfl rfl rfl ?_
      refine .gU rfl rfl rfl rfl rfl ?_
      refine .gS rfl rfl rfl q220 rfl rfl ?_
      refine .v (pkT rfl q220 rfl) rfl rfl rfl ?_
      refine .nil ?_
      exact .use q217 true hF (.cons rfl (.cons rfl (.cons rfl (.cons rfl (.cons rfl (.cons rfl (.nil))))))) rfl (FH.le_refl _)
    replace hF := hF.2 q220
    refine .gv (mv rfl) rfl rfl rfl q220 rfl rfl ?_
    refine .gv (bi rfl rfl rfl) rfl rfl rfl q220 rfl rfl ?_
    refine .gv (mv rfl) rfl rfl rfl q220 rfl rfl ?_
    rcases Bool.eq_false_or_eq_true (decide (0 < t9)) with q221 | q221
    · replace hF := hF.1 q221
      refine .gv (mv rfl) rfl rfl rfl q221 rfl rfl ?_
      refine .gv (mv rfl) rfl rfl rfl q221 rfl rfl ?_
      refine .gv (mv rfl) rfl rfl rfl q221 rfl rfl ?_
      refine .gv (bi rfl rfl rfl) rfl rfl rfl q221 rfl rfl ?_
      obtain ⟨q222, hF⟩ := hF
      refine .gv (ix rfl rfl tS22 (_q1.ne (by decide) (inb_pos q222)) q222) rfl rfl rfl q221 rfl rfl ?_
      refine .gv (ld1 (v := .int .i64 (gt l (IntKind.i64.wrap (t9 - 1)))) rfl tO3 (cellH (_q1.elemF q222 (by decide) 0 _ rfl))) rfl rfl rfl q221 rfl rfl ?_
      refine .gv (bi rfl rfl rfl) rfl rfl rfl q221 rfl rfl ?_
      refine .gv (pkT rfl q221 rfl) rfl rfl rfl q220 rfl rfl ?_
      refine .v (pkF rfl q220 rfl) rfl rfl rfl ?_
      refine .nil ?_
      exact .use q217 (decide ((gt l t9) ≤ (gt l (IntKind.i64.wrap (t9 - 1))))) hF (.cons rfl (.cons rfl (.cons rfl (.cons rfl (.cons rfl (.cons rfl (.nil))))))) rfl (FH.le_refl _)
    replace hF := hF.2 q221
    refine .gS rfl rfl rfl q221 rfl rfl ?_
    refine .gS rfl rfl rfl q221 rfl rfl ?_
    refine .gS rfl rfl rfl q221 rfl rfl ?_
    refine .gS rfl rfl rfl q221 rfl rfl ?_
    refine .gS rfl rfl rfl q221 rfl rfl ?_
    refine .gS rfl rfl rfl q221 rfl rfl ?_
    refine .gS rfl rfl rfl q221 rfl rfl ?_
    refine .gv (pkF rfl q221 rfl) rfl rfl rfl q220 rfl rfl ?_
    refine .v (pkF rfl q220 rfl) rfl rfl rfl ?_
    refine .nil ?_
    exact .use q217 false hF (.cons rfl (.cons rfl (.cons rfl (.cons rfl (.cons rfl (.cons rfl (.nil))))))) rfl (FH.le_refl _)
  replace hF := hF.2 q189
  refine .exit ?_
  refine .seqX ?_
  refine .seqX ?_
  refine .blkX ?_
  refine .seqN ?_
  refine .seq ?_
  refine .region ?_
  refine .v (asg rfl) rfl rfl rfl ?_
  refine .nil ?_
  refine .seqN ?_
  refine .ret ?_
  refine .res1 rfl (rvT rfl) (fun w' S => ⟨true, hF, rfl, S.below⟩)

theorem c_isSet {h : FH} {w : World} (hs : Sub h w) (l : List Int) (al2 : Option Addr) (cl2 : Nat) (_q1 : RSl h al2 l) (_q2 : l.length ≤ cl2) (n_ : Int) (hp : pre_isSet l n_) : Calls Tryz.prog 61 #[.slice al2 l.length cl2, .int .i64 n_] w fun e w' => e = .returned (.bool (sp_isSet l n_)) ∧ Below w.heap.size w w' :=
  (w_isSet hs l al2 cl2 _q1 _q2 n_ (fun r => r = sp_isSet l n_) (ok_isSet l n_ hp)).mono fun _ _ ⟨_, hk, he, hb⟩ => ⟨by rw [he, hk], hb⟩

theorem w_meets1 {h : FH} {w : World} (hs : Sub h w) (x : Int) (x2 : List Int) (ax2 : Option Addr) (cx2 : Nat) (_q1 : RSl h ax2 x2) (_q2 : x2.length ≤ cx2) (px2 : Addr) (_q3 : CellsAt h px2 [.slice ax2 x2.length cx2]) (K : Bool → Prop) (hF : F_meets1 x x2 K) : Calls Tryz.prog 125 #[.int .i64 x, .pointer (some px2)] w fun e w' => ∃ r : Bool, K r ∧ e = .returned (.bool r) ∧ Below w.heap.size w w' := by
  refine enter (args := [.int .i64 x, .pointer (some px2)]) Tryz.func125 rfl Tryz.ntmps125 rfl hs ?_
  refine .seq ?_
  refine .region ?_
  refine .v (asg rfl) rfl rfl rfl ?_
  refine .nil ?_
  refine .seqN ?_
  refine .seq ?_
  refine .region ?_
  refine .v (ld1 (v := .slice ax2 x2.length cx2) rfl tO22 (cellH (CellsAt.mono (FH.le_refl _) _q3 0 _ rfl))) rfl rfl rfl ?_
  refine .v (mv rfl) rfl rfl rfl ?_
  obtain ⟨q4, hF⟩ := hF
  obtain ⟨r2, q5⟩ : ∃ y_ : Int × Bool, y_ = sp_bsearch x2 x := ⟨_, rfl⟩
  replace hF := hF r2 q5
  refine .c (cl (v := .tuple #[.int .i64 r2.1, .bool r2.2]) Tryz.call104 rfl rfl (fun w S => (by rw [q5]; exact c_bsearch S.sub x2 ax2 cx2 _q1 _q2 x q4))) rfl rfl rfl ?_
  refine .v (mv rfl) rfl rfl rfl ?_
  refine .v (ext rfl rfl) rfl rfl rfl ?_
  refine .v (ext rfl rfl) rfl rfl rfl ?_
  refine .v (asg rfl) rfl rfl rfl ?_
  refine .v (asg rfl) rfl rfl rfl ?_
  refine .nil ?_
  refine .seqN ?_
  refine .seq ?_
  refine .region ?_
  refine .v (mv rfl) rfl rfl rfl ?_
  refine .v (asg rfl) rfl rfl rfl ?_
  refine .nil ?_
  refine .seqN ?_
  refine .ret ?_
  refine .res1 rfl (rvT rfl) (fun w' S => ⟨r2.2, hF, rfl, S.below⟩)

theorem c_meets1 {h : FH} {w : World} (hs : Sub h w) (x : Int) (x2 : List Int) (ax2 : Option Addr) (cx2 : Nat) (_q1 : RSl h ax2 x2) (_q2 : x2.length ≤ cx2) (px2 : Addr) (_q3 : CellsAt h px2 [.slice ax2 x2.length cx2]) (hp : pre_meets1 x x2) : Calls Tryz.prog 125 #[.int .i64 x, .pointer (some px2)] w fun e w' => e = .returned (.bool (sp_meets1 x x2)) ∧ Below w.heap.size w w' :=
  (w_meets1 hs x x2 ax2 cx2 _q1 _q2 px2 _q3 (fun r => r = sp_meets1 x x2) (ok_meets1 x x2 hp)).mono fun _ _ ⟨_, hk, he, hb⟩ => ⟨by rw [he, hk], hb⟩

theorem w_meets {h : FH} {w : World} (hs : Sub h w) (a : List Int) (aa : Option Addr) (ca : Nat) (_q1 : RSl h aa a) (_q2 : a.length ≤ ca) (b : List Int) (ab : Option Addr) (cb : Nat) (_q3 : RSl h ab b) (_q4 : b.length ≤ cb) (K : Bool → Prop) (hF : F_meets a b K) : Calls Tryz.prog 115 #[.slice aa a.length ca, .slice ab b.length cb] w fun e w' => ∃ r : Bool, K r ∧ e = .returned (.bool r) ∧ Below w.heap.size w w' := by
  refine enter (args := [.slice aa a.length ca, .slice ab b.length cb]) Tryz.func115 rfl Tryz.ntmps115 rfl hs ?_
  refine .seq ?_
  refine .region ?_
  refine bx (vs := [.slice ab b.length cb]) rfl rfl rfl (fun pb => ?_)
  refine .v (asg rfl) rfl rfl rfl ?_
  refine .nil ?_
  refine .seqN ?_
  refine .seq ?_
  refine .region ?_
  refine .v (mv rfl) rfl rfl rfl ?_
  refine .v (mkf (vf := []) (vc := [.pointer (some pb)]) rfl rfl) rfl rfl rfl ?_
  obtain ⟨q5, hF⟩ := hF
  obtain ⟨r2, q6⟩ : ∃ y_ : Bool, y_ = sp_any a (fun y_ : Int => sp_meets1 y_ b) (fun y_ : Int => pre_meets1 y_ b) := ⟨_, rfl⟩
  replace hF := hF r2 q6
  refine .c (cl (v := .bool r2) Tryz.call124 rfl rfl (fun w S => (by rw [q6]; obtain ⟨h_, hl_, hs_, hb_⟩ := lookB S (k := 0) rfl; exact c_containsF hs_ a aa ca (RSl.mono hl_ _q1) _q2 (fun y_ : Int => sp_meets1 y_ b) (fun y_ : Int => pre_meets1 y_ b) 125 #[] #[.pointer (some pb)] Tryz.call125 (fun x w' hD hs' => c_meets1 hs' x b ab cb (RSl.mono hl_ _q3) _q4 pb hb_ hD) q5))) rfl rfl rfl ?_
  refine .v (asg rfl) rfl rfl rfl ?_
  refine .nil ?_
  refine .seqN ?_
  refine .ret ?_
  refine .res1 rfl (rvT rfl) (fun w' S => ⟨r2, hF, rfl, S.below⟩)

theorem c_meets {h : FH} {w : World} (hs : Sub h w) (a : List Int) (aa : Option Addr) (ca : Nat) (_q1 : RSl h aa a) (_q2 : a.length ≤ ca) (b : List Int) (ab : Option Addr) (cb : Nat) (_q3 : RSl h ab b) (_q4 : b.length ≤ cb) (hp : pre_meets a b) : Calls Tryz.prog 115 #[.slice aa a.length ca, .slice ab b.length cb] w fun e w' => e = .returned (.bool (sp_meets a b)) ∧ Below w.heap.size w w' :=
  (w_meets hs a aa ca _q1 _q2 b ab cb _q3 _q4 (fun r => r = sp_meets a b) (ok_meets a b hp)).mono fun _ _ ⟨_, hk, he, hb⟩ => ⟨by rw [he, hk], hb⟩

set_option maxHeartbeats 8000000 in
theorem w_operator {h : FH} {w : World} (hs : Sub h w) (o : Operator) (ao : Option Addr) (co : Nat) (_q1 : RSl h ao o.pre) (_q2 : o.pre.length ≤ co) (ao2 : Option Addr) (co2 : Nat) (_q3 : RSl h ao2 o.add) (_q4 : o.add.length ≤ co2) (ao3 : Option Addr) (co3 : Nat) (_q5 : RSl h ao3 o.del) (_q6 : o.del.length ≤ co3) (facts : Int) (K : Int → Prop) (hF : F_operator o facts K) : Calls Tryz.prog 102 #[.agg #[.slice ao o.pre.length co, .slice ao2 o.add.length co2, .slice ao3 o.del.length co3, .int .i64 o.cost], .int .i64 facts] w fun e w' => ∃ r : Int, K r ∧ e = .returned (.int .i64 r) ∧ Below w.heap.size w w' := by
  refine enter (args := [.agg #[.slice ao o.pre.length co, .slice ao2 o.add.length co2, .slice ao3 o.del.length co3, .int .i64 o.cost], .int .i64 facts]) Tryz.func102 rfl Tryz.ntmps102 rfl hs ?_
  refine .seq ?_
  refine .region ?_
  refine bx (vs := [.slice ao o.pre.length co, .slice ao2 o.add.length co2, .slice ao3 o.del.length co3, .int .i64 o.cost]) rfl rfl rfl (fun po => ?_)
  refine .v (asg rfl) rfl rfl rfl ?_
  refine .nil ?_
  refine .seqN ?_
  refine .seq ?_
  refine .block ?_
  refine .share (σ := Bool) (fun z => F_operator_J1 o K z) (fun z => [(2, .pointer (some po)), (5, .bool z)]) (fun _ => [Box po [.slice ao o.pre.length co, .slice ao2 o.add.length co2, .slice ao3 o.del.length co3, .int .i64 o.cost]]) (fun _ => h) ?_ (fun q74 => ?_)
  · rintro t5 hF
    show J _ _ _ _ _ [(2, .pointer (some po)), (5, .bool t5)] [Box po [.slice ao o.pre.length co, .slice ao2 o.add.length co2, .slice ao3 o.del.length co3, .int .i64 o.cost]] h
    refine .cond rfl (fun q75 => ?_) (fun q75 => ?_)
    · replace hF := hF.1 q75
      refine .seq ?_
      refine .region ?_
      refine .v (asg rfl) rfl rfl rfl ?_
      refine .nil ?_
      refine .seqN ?_
      refine .ret ?_
      refine .blkR ?_
      refine .seqR ?_
      refine .res1 rfl (rvT rfl) (fun w' S => ⟨5, hF, rfl, S.below⟩)
    replace hF := hF.2 q75
    refine .share (σ := Bool) (fun z => F_operator_J2 K z) (fun z => [(32, .bool z)]) (fun _ => []) (fun _ => h) ?_ (fun q77 => ?_)
    · rintro t32 hF
      show J _ _ _ _ _ [(32, .bool t32)] [] h
      refine .cond rfl (fun q78 => ?_) (fun q78 => ?_)
      · replace hF := hF.1 q78
        refine .seq ?_
        refine .region ?_
        refine .v (asg rfl) rfl rfl rfl ?_
        refine .nil ?_
        refine .seqN ?_
        refine .ret ?_
        refine .blkR ?_
        refine .seqR ?_
        refine .res1 rfl (rvT rfl) (fun w' S => ⟨3, hF, rfl, S.below⟩)
      replace hF := hF.2 q78
      refine .skip ?_
      refine .blkN ?_
      refine .seqN ?_
      refine .seq ?_
      refine .region ?_
      refine .v (asg rfl) rfl rfl rfl ?_
      refine .nil ?_
      refine .seqN ?_
      refine .ret ?_
      refine .res1 rfl (rvT rfl) (fun w' S => ⟨0, hF, rfl, S.below⟩)
    refine .region ?_
    refine .v (fa rfl tF54_3) rfl rfl rfl ?_
    refine .v (ld1 rfl tO3 (cellB (off := 3) (k := 0) rfl rfl)) rfl rfl rfl ?_
    refine .v (bi rfl rfl rfl) rfl rfl rfl ?_
    refine .v (mv rfl) rfl rfl rfl ?_
    rcases Bool.eq_false_or_eq_true (decide (o.cost < 0)) with q79 | q79
    · replace hF := hF.1 q79
      refine .gS rfl rfl rfl q79 rfl rfl ?_
      refine .gS rfl rfl rfl q79 rfl rfl ?_
      refine .gS rfl rfl rfl q79 rfl rfl ?_
      refine .v (pkT rfl q79 rfl) rfl rfl rfl ?_
      refine .v (asg rfl) rfl rfl rfl ?_
      refine .nil ?_
      refine .sel0 [] (by decide) rfl ?_
      exact .use q77 true hF (.cons rfl (.nil)) rfl (FH.le_refl _)
    replace hF := hF.2 q79
    refine .gv (fa rfl tF54_3) rfl rfl rfl q79 rfl rfl ?_
    refine .gv (ld1 rfl tO3 (cellB (off := 3) (k := 0) rfl rfl)) rfl rfl rfl q79 rfl rfl ?_
    refine .gv (bi rfl rfl rfl) rfl rfl rfl q79 rfl rfl ?_
    refine .v (pkF rfl q79 rfl) rfl rfl rfl ?_
    refine .v (asg rfl) rfl rfl rfl ?_
    refine .nil ?_
    refine .sel0 [] (by decide) rfl ?_
    exact .use q77 (decide (100 < o.cost)) hF (.cons rfl (.nil)) rfl (FH.le_refl _)
  refine .region ?_
  refine .v (fa rfl tF54_0) rfl rfl rfl ?_
  refine .v (ld1 rfl tO22 (cellB (off := 0) (k := 0) rfl rfl)) rfl rfl rfl ?_
  refine .v (mv rfl) rfl rfl rfl ?_
  obtain ⟨q80, hF⟩ := hF
  obtain ⟨r2, q81⟩ : ∃ y_ : Bool, y_ = sp_isSet o.pre facts := ⟨_, rfl⟩
  replace hF := hF r2 q81
  refine .c (cl (v := .bool r2) Tryz.call61 rfl rfl (fun w S => (by rw [q81]; exact c_isSet S.sub o.pre ao co _q1 _q2 facts q80))) rfl rfl rfl ?_
  refine .v (nt rfl) rfl rfl rfl ?_
  refine .v (mv rfl) rfl rfl rfl ?_
  rcases Bool.eq_false_or_eq_true (!r2) with q82 | q82
  · replace hF := hF.1 q82
    refine .gS rfl rfl rfl q82 rfl rfl ?_
    refine .gS rfl rfl rfl q82 rfl rfl ?_
    refine .gS rfl rfl rfl q82 rfl rfl ?_
    refine .gS rfl rfl rfl q82 rfl rfl ?_
    refine .gS rfl rfl rfl q82 rfl rfl ?_
    refine .v (pkT rfl q82 rfl) rfl rfl rfl ?_
    refine .v (mv rfl) rfl rfl rfl ?_
    refine .gS rfl rfl rfl rfl rfl rfl ?_
    refine .gS rfl rfl rfl rfl rfl rfl ?_
    refine .gS rfl rfl rfl rfl rfl rfl ?_
    refine .gS rfl rfl rfl rfl rfl rfl ?_
    refine .gS rfl rfl rfl rfl rfl rfl ?_
    refine .v (pkT rfl rfl rfl) rfl rfl rfl ?_
    refine .v (mv rfl) rfl rfl rfl ?_
    refine .gS rfl rfl rfl rfl rfl rfl ?_
    refine .gS rfl rfl rfl rfl rfl rfl ?_
    refine .gS rfl rfl rfl rfl rfl rfl ?_
    refine .gS rfl rfl rfl rfl rfl rfl ?_
    refine .gS rfl rfl rfl rfl rfl rfl ?_
    refine .v (pkT rfl rfl rfl) rfl rfl rfl ?_
    refine .v (asg rfl) rfl rfl rfl ?_
    refine .nil ?_
    exact .use q74 true hF (.cons rfl (.cons rfl (.nil))) rfl (FH.le_refl _)
  replace hF := hF.2 q82
  refine .gv (fa rfl tF54_1) rfl rfl rfl q82 rfl rfl ?_
  refine .gv (ld1 rfl tO22 (cellB (off := 1) (k := 0) rfl rfl)) rfl rfl rfl q82 rfl rfl ?_
  refine .gv (mv rfl) rfl rfl rfl q82 rfl rfl ?_
  obtain ⟨q83, hF⟩ := hF
  obtain ⟨r3, q84⟩ : ∃ y_ : Bool, y_ = sp_isSet o.add facts := ⟨_, rfl⟩
  replace hF := hF r3 q84
  refine .gc (cl (v := .bool r3) Tryz.call61 rfl rfl (fun w S => (by rw [q84]; exact c_isSet S.sub o.add ao2 co2 _q3 _q4 facts q83))) rfl rfl rfl q82 rfl rfl ?_
  refine .gv (nt rfl) rfl rfl rfl q82 rfl rfl ?_
  refine .v (pkF rfl q82 rfl) rfl rfl rfl ?_
  refine .v (mv rfl) rfl rfl rfl ?_
  rcases Bool.eq_false_or_eq_true (!r3) with q85 | q85
  · replace hF := hF.1 q85
    refine .gS rfl rfl rfl q85 rfl rfl ?_
    refine .gS rfl rfl rfl q85 rfl rfl ?_
    refine .gS rfl rfl rfl q85 rfl rfl ?_
    refine .gS rfl rfl rfl q85 rfl rfl ?_
    refine .gS rfl rfl rfl q85 rfl rfl ?_
    refine .v (pkT rfl q85 rfl) rfl rfl rfl ?_
    refine .v (mv rfl) rfl rfl rfl ?_
    refine .gS rfl rfl rfl rfl rfl rfl ?_
    refine .gS rfl rfl rfl rfl rfl rfl ?_
    refine .gS rfl rfl rfl rfl rfl rfl ?_
    refine .gS rfl rfl rfl rfl rfl rfl ?_
    refine .gS rfl rfl rfl rfl rfl rfl ?_
    refine .v (pkT rfl rfl rfl) rfl rfl rfl ?_
    refine .v (asg rfl) rfl rfl rfl ?_
    refine .nil ?_
    exact .use q74 true hF (.cons rfl (.cons rfl (.nil))) rfl (FH.le_refl _)
  replace hF := hF.2 q85
  refine .gv (fa rfl tF54_2) rfl rfl rfl q85 rfl rfl ?_
  refine .gv (ld1 rfl tO22 (cellB (off := 2) (k := 0) rfl rfl)) rfl rfl rfl q85 rfl rfl ?_
  refine .gv (mv rfl) rfl rfl rfl q85 rfl rfl ?_
  obtain ⟨q86, hF⟩ := hF
  obtain ⟨r4, q87⟩ : ∃ y_ : Bool, y_ = sp_isSet o.del facts := ⟨_, rfl⟩
  replace hF := hF r4 q87
  refine .gc (cl (v := .bool r4) Tryz.call61 rfl rfl (fun w S => (by rw [q87]; exact c_isSet S.sub o.del ao3 co3 _q5 _q6 facts q86))) rfl rfl rfl q85 rfl rfl ?_
  refine .gv (nt rfl) rfl rfl rfl q85 rfl rfl ?_
  refine .v (pkF rfl q85 rfl) rfl rfl rfl ?_
  refine .v (mv rfl) rfl rfl rfl ?_
  rcases Bool.eq_false_or_eq_true (!r4) with q88 | q88
  · replace hF := hF.1 q88
    refine .gS rfl rfl rfl q88 rfl rfl ?_
    refine .gS rfl rfl rfl q88 rfl rfl ?_
    refine .gS rfl rfl rfl q88 rfl rfl ?_
    refine .gS rfl rfl rfl q88 rfl rfl ?_
    refine .gS rfl rfl rfl q88 rfl rfl ?_
    refine .v (pkT rfl q88 rfl) rfl rfl rfl ?_
    refine .v (asg rfl) rfl rfl rfl ?_
    refine .nil ?_
    exact .use q74 true hF (.cons rfl (.cons rfl (.nil))) rfl (FH.le_refl _)
  replace hF := hF.2 q88
  refine .gv (fa rfl tF54_1) rfl rfl rfl q88 rfl rfl ?_
  refine .gv (ld1 rfl tO22 (cellB (off := 1) (k := 0) rfl rfl)) rfl rfl rfl q88 rfl rfl ?_
  refine .gv (fa rfl tF54_2) rfl rfl rfl q88 rfl rfl ?_
  refine .gv (ld1 rfl tO22 (cellB (off := 2) (k := 0) rfl rfl)) rfl rfl rfl q88 rfl rfl ?_
  obtain ⟨q89, hF⟩ := hF
  obtain ⟨r5, q90⟩ : ∃ y_ : Bool, y_ = sp_meets o.add o.del := ⟨_, rfl⟩
  replace hF := hF r5 q90
  refine .gc (cl (v := .bool r5) Tryz.call115 rfl rfl (fun w S => (by rw [q90]; exact c_meets S.sub o.add ao2 co2 _q3 _q4 o.del ao3 co3 _q5 _q6 q89))) rfl rfl rfl q88 rfl rfl ?_
  refine .v (pkF rfl q88 rfl) rfl rfl rfl ?_
  refine .v (asg rfl) rfl rfl rfl ?_
  refine .nil ?_
  exact .use q74 r5 hF (.cons rfl (.cons rfl (.nil))) rfl (FH.le_refl _)

theorem c_operator {h : FH} {w : World} (hs : Sub h w) (o : Operator) (ao : Option Addr) (co : Nat) (_q1 : RSl h ao o.pre) (_q2 : o.pre.length ≤ co) (ao2 : Option Addr) (co2 : Nat) (_q3 : RSl h ao2 o.add) (_q4 : o.add.length ≤ co2) (ao3 : Option Addr) (co3 : Nat) (_q5 : RSl h ao3 o.del) (_q6 : o.del.length ≤ co3) (facts : Int) (hp : pre_operator o facts) : Calls Tryz.prog 102 #[.agg #[.slice ao o.pre.length co, .slice ao2 o.add.length co2, .slice ao3 o.del.length co3, .int .i64 o.cost], .int .i64 facts] w fun e w' => e = .returned (.int .i64 (sp_operator o facts)) ∧ Below w.heap.size w w' :=
  (w_operator hs o ao co _q1 _q2 ao2 co2 _q3 _q4 ao3 co3 _q5 _q6 facts (fun r => r = sp_operator o facts) (ok_operator o facts hp)).mono fun _ _ ⟨_, hk, he, hb⟩ => ⟨by rw [he, hk], hb⟩

set_option maxHeartbeats 8000000 in
theorem w_validate {h : FH} {w : World} (hs : Sub h w) (t : Task) (at_ : Option Addr) (ct : Nat) (_q1 : RSl h at_ t.init) (_q2 : t.init.length ≤ ct) (at_2 : Option Addr) (ct2 : Nat) (_q3 : RSl h at_2 t.goal) (_q4 : t.goal.length ≤ ct2) (at_3 : Option Addr) (ct3 : Nat) (_q5 : RSl h at_3 t.ops) (_q6 : t.ops.length ≤ ct3) (K : Fault → Prop) (hF : F_validate t K) : Calls Tryz.prog 79 #[.agg #[.int .i64 t.facts, .slice at_ t.init.length ct, .slice at_2 t.goal.length ct2, .slice at_3 t.ops.length ct3]] w fun e w' => ∃ r : Fault, K r ∧ e = .returned (.agg #[.int .i64 r.code, .int .i64 r.index]) ∧ Below w.heap.size w w' := by
  refine enter (args := [.agg #[.int .i64 t.facts, .slice at_ t.init.length ct, .slice at_2 t.goal.length ct2, .slice at_3 t.ops.length ct3]]) Tryz.func79 rfl Tryz.ntmps79 rfl hs ?_
  refine .seq ?_
  refine .region ?_
  refine bx (vs := [.int .i64 t.facts, .slice at_ t.init.length ct, .slice at_2 t.goal.length ct2, .slice at_3 t.ops.length ct3]) rfl rfl rfl (fun pt => ?_)
  refine al tZ27 rfl (fun pv => ?_)
  refine .nil ?_
  refine .seqN ?_
  refine .seq ?_
  refine .block ?_
  refine .share (σ := Bool) (fun z => F_validate_J1 t K z) (fun z => [(1, .pointer (some pt)), (2, .pointer (some pv)), (6, .bool z)]) (fun _ => [Box pt [.int .i64 t.facts, .slice at_ t.init.length ct, .slice at_2 t.goal.length ct2, .slice at_3 t.ops.length ct3], Box pv [.int .i64 0, .int .i64 0]]) (fun _ => h) ?_ (fun q30 => ?_)
  · rintro t6 hF
    show J _ _ _ _ _ [(1, .pointer (some pt)), (2, .pointer (some pv)), (6, .bool t6)] [Box pt [.int .i64 t.facts, .slice at_ t.init.length ct, .slice at_2 t.goal.length ct2, .slice at_3 t.ops.length ct3], Box pv [.int .i64 0, .int .i64 0]] h
    refine .cond rfl (fun q31 => ?_) (fun q31 => ?_)
    · replace hF := hF.1 q31
      refine .seq ?_
      refine .region ?_
      refine .v (bld (cs := #[.int .i64 3, .int .i64 (-1)]) (pv := [(0, .int .i64 3), (1, .int .i64 (-1))]) tB27 rfl rfl) rfl rfl rfl ?_
      refine st (p := pv) (off := 0) (k := 1) (vs := [.int .i64 3, .int .i64 (-1)]) rfl rfl rfl (fun w => (tA27 w).2) rfl rfl rfl rfl ?_
      refine .cast (A' := [Box pt [.int .i64 t.facts, .slice at_ t.init.length ct, .slice at_2 t.goal.length ct2, .slice at_3 t.ops.length ct3], Box pv [.int .i64 3, .int .i64 (-1)]]) rfl ?_
      refine .nil ?_
      refine .seqN ?_
      refine .ret ?_
      refine .blkR ?_
      refine .seqR ?_
      refine .res1 rfl (rvC rfl tA27 (k := 1) rfl rfl) (fun w' S => ⟨(⟨3, (-1)⟩ : Fault), hF, rfl, S.below⟩)
    replace hF := hF.2 q31
    refine .seq ?_
    refine .region ?_
    refine .v (fa rfl tF25_1) rfl rfl rfl ?_
    refine .v (ld1 rfl tO22 (cellB (off := 1) (k := 0) rfl rfl)) rfl rfl rfl ?_
    refine .v (fa rfl tF25_0) rfl rfl rfl ?_
    refine .v (ld1 rfl tO3 (cellB (off := 0) (k := 0) rfl rfl)) rfl rfl rfl ?_
    obtain ⟨q32, hF⟩ := hF
    obtain ⟨r2, q33⟩ : ∃ y_ : Bool, y_ = sp_isSet t.init t.facts := ⟨_, rfl⟩
    replace hF := hF r2 q33
    refine .c (cl (v := .bool r2) Tryz.call61 rfl rfl (fun w S => (by rw [q33]; exact c_isSet S.sub t.init at_ ct _q1 _q2 t.facts q32))) rfl rfl rfl ?_
    refine .v (nt rfl) rfl rfl rfl ?_
    refine .v (asg rfl) rfl rfl rfl ?_
    refine .nil ?_
    refine .seqN ?_
    refine .cond rfl (fun q34 => ?_) (fun q34 => ?_)
    · replace hF := hF.1 q34
      refine .seq ?_
      refine .region ?_
      refine .v (bld (cs := #[.int .i64 5, .int .i64 (-2)]) (pv := [(0, .int .i64 5), (1, .int .i64 (-2))]) tB27 rfl rfl) rfl rfl rfl ?_
      refine st (p := pv) (off := 0) (k := 1) (vs := [.int .i64 5, .int .i64 (-2)]) rfl rfl rfl (fun w => (tA27 w).2) rfl rfl rfl rfl ?_
      refine .cast (A' := [Box pt [.int .i64 t.facts, .slice at_ t.init.length ct, .slice at_2 t.goal.length ct2, .slice at_3 t.ops.length ct3], Box pv [.int .i64 5, .int .i64 (-2)]]) rfl ?_
      refine .nil ?_
      refine .seqN ?_
      refine .ret ?_
      refine .blkR ?_
      refine .seqR ?_
      refine .res1 rfl (rvC rfl tA27 (k := 1) rfl rfl) (fun w' S => ⟨(⟨5, (-2)⟩ : Fault), hF, rfl, S.below⟩)
    replace hF := hF.2 q34
    refine .seq ?_
    refine .region ?_
    refine .v (fa rfl tF25_2) rfl rfl rfl ?_
    refine .v (ld1 rfl tO22 (cellB (off := 2) (k := 0) rfl rfl)) rfl rfl rfl ?_
    refine .v (fa rfl tF25_0) rfl rfl rfl ?_
    refine .v (ld1 rfl tO3 (cellB (off := 0) (k := 0) rfl rfl)) rfl rfl rfl ?_
    obtain ⟨q35, hF⟩ := hF
    obtain ⟨r3, q36⟩ : ∃ y_ : Bool, y_ = sp_isSet t.goal t.facts := ⟨_, rfl⟩
    replace hF := hF r3 q36
    refine .c (cl (v := .bool r3) Tryz.call61 rfl rfl (fun w S => (by rw [q36]; exact c_isSet S.sub t.goal at_2 ct2 _q3 _q4 t.facts q35))) rfl rfl rfl ?_
    refine .v (nt rfl) rfl rfl rfl ?_
    refine .v (asg rfl) rfl rfl rfl ?_
    refine .nil ?_
    refine .seqN ?_
    refine .cond rfl (fun q37 => ?_) (fun q37 => ?_)
    · replace hF := hF.1 q37
      refine .seq ?_
      refine .region ?_
      refine .v (bld (cs := #[.int .i64 5, .int .i64 (-3)]) (pv := [(0, .int .i64 5), (1, .int .i64 (-3))]) tB27 rfl rfl) rfl rfl rfl ?_
      refine st (p := pv) (off := 0) (k := 1) (vs := [.int .i64 5, .int .i64 (-3)]) rfl rfl rfl (fun w => (tA27 w).2) rfl rfl rfl rfl ?_
      refine .cast (A' := [Box pt [.int .i64 t.facts, .slice at_ t.init.length ct, .slice at_2 t.goal.length ct2, .slice at_3 t.ops.length ct3], Box pv [.int .i64 5, .int .i64 (-3)]]) rfl ?_
      refine .nil ?_
      refine .seqN ?_
      refine .ret ?_
      refine .blkR ?_
      refine .seqR ?_
      refine .res1 rfl (rvC rfl tA27 (k := 1) rfl rfl) (fun w' S => ⟨(⟨5, (-3)⟩ : Fault), hF, rfl, S.below⟩)
    replace hF := hF.2 q37
    refine .seq ?_
    refine .region ?_
    refine .v (fa rfl tF25_3) rfl rfl rfl ?_
    refine .v (ld1 rfl tO23 (cellB (off := 3) (k := 0) rfl rfl)) rfl rfl rfl ?_
    refine .v (ln rfl tS23.is) rfl rfl rfl ?_
    refine .v (bi rfl rfl rfl) rfl rfl rfl ?_
    refine .v (asg rfl) rfl rfl rfl ?_
    refine .nil ?_
    refine .seqN ?_
    refine .cond rfl (fun q38 => ?_) (fun q38 => ?_)
    · replace hF := hF.1 q38
      refine .seq ?_
      refine .region ?_
      refine .v (bld (cs := #[.int .i64 2, .int .i64 (-1)]) (pv := [(0, .int .i64 2), (1, .int .i64 (-1))]) tB27 rfl rfl) rfl rfl rfl ?_
      refine st (p := pv) (off := 0) (k := 1) (vs := [.int .i64 2, .int .i64 (-1)]) rfl rfl rfl (fun w => (tA27 w).2) rfl rfl rfl rfl ?_
      refine .cast (A' := [Box pt [.int .i64 t.facts, .slice at_ t.init.length ct, .slice at_2 t.goal.length ct2, .slice at_3 t.ops.length ct3], Box pv [.int .i64 2, .int .i64 (-1)]]) rfl ?_
      refine .nil ?_
      refine .seqN ?_
      refine .ret ?_
      refine .blkR ?_
      refine .seqR ?_
      refine .res1 rfl (rvC rfl tA27 (k := 1) rfl rfl) (fun w' S => ⟨(⟨2, (-1)⟩ : Fault), hF, rfl, S.below⟩)
    replace hF := hF.2 q38
    refine .skip ?_
    refine .blkN ?_
    refine .seqN ?_
    refine .seq ?_
    refine .seq ?_
    refine .region ?_
    refine .v (fa rfl tF25_3) rfl rfl rfl ?_
    refine .v (ld1 rfl tO23 (cellB (off := 3) (k := 0) rfl rfl)) rfl rfl rfl ?_
    refine .v (ln rfl tS23.is) rfl rfl rfl ?_
    refine .v (mv rfl) rfl rfl rfl ?_
    refine .nil ?_
    refine .seqN ?_
    refine .block ?_
    obtain ⟨I1, μ1, q221, q222⟩ := hF
    refine .loop' (σ := Int) (fun z => I1 z) (fun z => μ1 z) (fun z => [(1, .pointer (some pt)), (2, .pointer (some pv)), (39, .slice at_3 t.ops.length ct3), (40, .int .i64 ((t.ops.length : Nat) : Int)), (41, .int .i64 z)]) (fun _ => [Box pt [.int .i64 t.facts, .slice at_ t.init.length ct, .slice at_2 t.goal.length ct2, .slice at_3 t.ops.length ct3], Box pv [.int .i64 0, .int .i64 0]]) (fun _ => h) 0 q221 (.cons rfl (.cons rfl (.cons rfl (.cons rfl (.cons rfl (.nil)))))) rfl (FH.le_refl _) ?_
    rintro t41 q221
    have hF := q222 t41 q221
    show J _ _ _ _ _ [(1, .pointer (some pt)), (2, .pointer (some pv)), (39, .slice at_3 t.ops.length ct3), (40, .int .i64 ((t.ops.length : Nat) : Int)), (41, .int .i64 t41)] [Box pt [.int .i64 t.facts, .slice at_ t.init.length ct, .slice at_2 t.goal.length ct2, .slice at_3 t.ops.length ct3], Box pv [.int .i64 0, .int .i64 0]] h
    refine .seq ?_
    refine .region ?_
    refine .v (bi rfl rfl rfl) rfl rfl rfl ?_
    refine .nil ?_
    refine .seqN ?_
    refine .seq ?_
    refine .cond rfl (fun q225 => ?_) (fun q225 => ?_)
    · replace hF := hF.1 q225
      refine .skip ?_
      refine .seqN ?_
      refine .seq ?_
      refine .block ?_
      refine .seq ?_
      refine .region ?_
      refine .v (mv rfl) rfl rfl rfl ?_
      obtain ⟨q248, hF⟩ := hF
      refine .v (ix rfl rfl tS23 (_q5.ne (by decide) (inb_pos q248)) q248) rfl rfl rfl ?_
      obtain ⟨_, ⟨a, c, a2, c2, a3, c3, rfl, ⟨q249, q250⟩, ⟨q251, q252⟩, q253, q254⟩, q255⟩ := _q5.elem q248
      refine .v (ldA (cs := [.slice a ((gt t.ops t41).pre.length) c, .slice a2 ((gt t.ops t41).add.length) c2, .slice a3 ((gt t.ops t41).del.length) c3, .int .i64 ((gt t.ops t41).cost)]) rfl tA54 rfl (cellsH (q255 (by decide)))) rfl rfl rfl ?_
      refine al tZ54 rfl (fun po => ?_)
      refine .v (asg rfl) rfl rfl rfl ?_
      refine st (p := po) (off := 0) (k := 0) (vs := [.slice a ((gt t.ops t41).pre.length) c, .slice a2 ((gt t.ops t41).add.length) c2, .slice a3 ((gt t.ops t41).del.length) c3, .int .i64 ((gt t.ops t41).cost)]) rfl rfl rfl (fun w => (tA54 w).2) rfl rfl rfl rfl ?_
      refine .cast (A' := [Box po [.slice a ((gt t.ops t41).pre.length) c, .slice a2 ((gt t.ops t41).add.length) c2, .slice a3 ((gt t.ops t41).del.length) c3, .int .i64 ((gt t.ops t41).cost)], Box pt [.int .i64 t.facts, .slice at_ t.init.length ct, .slice at_2 t.goal.length ct2, .slice at_3 t.ops.length ct3], Box pv [.int .i64 0, .int .i64 0]]) rfl ?_
      refine .nil ?_
      refine .seqN ?_
      refine .seq ?_
      refine .region ?_
      refine .v (ldA (cs := [.slice a ((gt t.ops t41).pre.length) c, .slice a2 ((gt t.ops t41).add.length) c2, .slice a3 ((gt t.ops t41).del.length) c3, .int .i64 ((gt t.ops t41).cost)]) rfl tA54 rfl (cellsB (off := 0) (k := 0) rfl (m := 4) rfl)) rfl rfl rfl ?_
      refine .v (fa rfl tF25_0) rfl rfl rfl ?_
      refine .v (ld1 rfl tO3 (cellB (off := 0) (k := 1) rfl rfl)) rfl rfl rfl ?_
      obtain ⟨q256, hF⟩ := hF
      obtain ⟨r4, q257⟩ : ∃ y_ : Int, y_ = sp_operator (gt t.ops t41) t.facts := ⟨_, rfl⟩
      replace hF := hF r4 q257
      refine .c (cl (v := .int .i64 r4) Tryz.call102 rfl rfl (fun w S => (by rw [q257]; exact c_operator S.sub (gt t.ops t41) a c q250 q249 a2 c2 q252 q251 a3 c3 q254 q253 t.facts q256))) rfl rfl rfl ?_
      refine .v (asg rfl) rfl rfl rfl ?_
      refine .nil ?_
      refine .seqN ?_
      refine .seq ?_
      refine .region ?_
      refine .v (mv rfl) rfl rfl rfl ?_
      refine .v (bi rfl rfl rfl) rfl rfl rfl ?_
      refine .nil ?_
      refine .seqN ?_
      refine .cond rfl (fun q258 => ?_) (fun q258 => ?_)
      · replace hF := hF.1 q258
        refine .seq ?_
        refine .region ?_
        refine .v (mv rfl) rfl rfl rfl ?_
        refine .v (mv rfl) rfl rfl rfl ?_
        refine .v (bld (cs := #[.int .i64 r4, .int .i64 t41]) (pv := [(0, .int .i64 r4), (1, .int .i64 t41)]) tB27 rfl rfl) rfl rfl rfl ?_
        refine st (p := pv) (off := 0) (k := 2) (vs := [.int .i64 r4, .int .i64 t41]) rfl rfl rfl (fun w => (tA27 w).2) rfl rfl rfl rfl ?_
        refine .cast (A' := [Box po [.slice a ((gt t.ops t41).pre.length) c, .slice a2 ((gt t.ops t41).add.length) c2, .slice a3 ((gt t.ops t41).del.length) c3, .int .i64 ((gt t.ops t41).cost)], Box pt [.int .i64 t.facts, .slice at_ t.init.length ct, .slice at_2 t.goal.length ct2, .slice at_3 t.ops.length ct3], Box pv [.int .i64 r4, .int .i64 t41]]) rfl ?_
        refine .nil ?_
        refine .seqN ?_
        refine .ret ?_
        refine .blkR ?_
        refine .seqR ?_
        refine .seqR ?_
        refine .blkR ?_
        refine .seqR ?_
        refine .res1 rfl (rvC rfl tA27 (k := 2) rfl rfl) (fun w' S => ⟨(⟨r4, t41⟩ : Fault), hF, rfl, S.below⟩)
      replace hF := hF.2 q258
      refine .skip ?_
      refine .blkN ?_
      refine .seqN ?_
      refine .region ?_
      refine .v (bi rfl rfl rfl) rfl rfl rfl ?_
      refine .v (mv rfl) rfl rfl rfl ?_
      refine .nil ?_
      refine .sel0 [1, 2] (by decide) rfl ?_
      exact .round (IntKind.i64.wrap (t41 + 1)) hF.1 hF.2 (.cons rfl (.cons rfl (.cons rfl (.cons rfl (.cons rfl (.nil)))))) rfl (FH.le_refl _)
    replace hF := hF.2 q225
    refine .exit ?_
    refine .seqX ?_
    refine .seqX ?_
    refine .blkX ?_
    refine .seqN ?_
    refine .seq ?_
    refine .region ?_
    refine .v (bld (cs := #[.int .i64 0, .int .i64 0]) (pv := []) tB27 rfl rfl) rfl rfl rfl ?_
    refine st (p := pv) (off := 0) (k := 1) (vs := [.int .i64 0, .int .i64 0]) rfl rfl rfl (fun w => (tA27 w).2) rfl rfl rfl rfl ?_
    refine .cast (A' := [Box pt [.int .i64 t.facts, .slice at_ t.init.length ct, .slice at_2 t.goal.length ct2, .slice at_3 t.ops.length ct3], Box pv [.int .i64 0, .int .i64 0]]) rfl ?_
    refine .nil ?_
    refine .seqN ?_
    refine .ret ?_
    refine .res1 rfl (rvC rfl tA27 (k := 1) rfl rfl) (fun w' S => ⟨(⟨0, 0⟩ : Fault), hF, rfl, S.below⟩)
  refine .region ?_
  refine .v (fa rfl tF25_0) rfl rfl rfl ?_
  refine .v (ld1 rfl tO3 (cellB (off := 0) (k := 1) rfl rfl)) rfl rfl rfl ?_
  refine .v (bi rfl rfl rfl) rfl rfl rfl ?_
  refine .v (mv rfl) rfl rfl rfl ?_
  rcases Bool.eq_false_or_eq_true (decide (t.facts < 0)) with q259 | q259
  · replace hF := hF.1 q259
    refine .gS rfl rfl rfl q259 rfl rfl ?_
    refine .gS rfl rfl rfl q259 rfl rfl ?_
    refine .gS rfl rfl rfl q259 rfl rfl ?_
    refine .v (pkT rfl q259 rfl) rfl rfl rfl ?_
    refine .v (asg rfl) rfl rfl rfl ?_
    refine .nil ?_
    refine .sel0 [1, 0] (by decide) rfl ?_
    exact .use q30 true hF (.cons rfl (.cons rfl (.cons rfl (.nil)))) rfl (FH.le_refl _)
  replace hF := hF.2 q259
  refine .gv (fa rfl tF25_0) rfl rfl rfl q259 rfl rfl ?_
  refine .gv (ld1 rfl tO3 (cellB (off := 0) (k := 1) rfl rfl)) rfl rfl rfl q259 rfl rfl ?_
  refine .gv (bi rfl rfl rfl) rfl rfl rfl q259 rfl rfl ?_
  refine .v (pkF rfl q259 rfl) rfl rfl rfl ?_
  refine .v (asg rfl) rfl rfl rfl ?_
  refine .nil ?_
  refine .sel0 [1, 0] (by decide) rfl ?_
  exact .use q30 (decide (24 < t.facts)) hF (.cons rfl (.cons rfl (.cons rfl (.nil)))) rfl (FH.le_refl _)

theorem c_validate {h : FH} {w : World} (hs : Sub h w) (t : Task) (at_ : Option Addr) (ct : Nat) (_q1 : RSl h at_ t.init) (_q2 : t.init.length ≤ ct) (at_2 : Option Addr) (ct2 : Nat) (_q3 : RSl h at_2 t.goal) (_q4 : t.goal.length ≤ ct2) (at_3 : Option Addr) (ct3 : Nat) (_q5 : RSl h at_3 t.ops) (_q6 : t.ops.length ≤ ct3) : Calls Tryz.prog 79 #[.agg #[.int .i64 t.facts, .slice at_ t.init.length ct, .slice at_2 t.goal.length ct2, .slice at_3 t.ops.length ct3]] w fun e w' => e = .returned (.agg #[.int .i64 (sp_validate t).code, .int .i64 (sp_validate t).index]) ∧ Below w.heap.size w w' :=
  (w_validate hs t at_ ct _q1 _q2 at_2 ct2 _q3 _q4 at_3 ct3 _q5 _q6 (fun r => r = sp_validate t) (ok_validate t)).mono fun _ _ ⟨_, hk, he, hb⟩ => ⟨by rw [he, hk], hb⟩

theorem w_steps {h : FH} {w : World} (hs : Sub h w) (operators : Int) (plan : List Int) (aplan : Option Addr) (cplan : Nat) (_q1 : RSl h aplan plan) (_q2 : plan.length ≤ cplan) (K : Fault → Prop) (hF : F_steps operators plan K) : Calls Tryz.prog 65 #[.int .i64 operators, .slice aplan plan.length cplan] w fun e w' => ∃ r : Fault, K r ∧ e = .returned (.agg #[.int .i64 r.code, .int .i64 r.index]) ∧ Below w.heap.size w w' := by
  refine enter (args := [.int .i64 operators, .slice aplan plan.length cplan]) Tryz.func65 rfl Tryz.ntmps65 rfl hs ?_
  refine .seq ?_
  refine .region ?_
  refine al tZ27 rfl (fun pv => ?_)
  refine .nil ?_
  refine .seqN ?_
  refine .seq ?_
  refine .seq ?_
  refine .region ?_
  refine .v (mv rfl) rfl rfl rfl ?_
  refine .v (ln rfl tS22.is) rfl rfl rfl ?_
  refine .v (bi rfl rfl rfl) rfl rfl rfl ?_
  refine .nil ?_
  refine .seqN ?_
  refine .cond rfl (fun q4 => ?_) (fun q4 => ?_)
  · replace hF := hF.1 q4
    refine .seq ?_
    refine .region ?_
    refine .v (bld (cs := #[.int .i64 2, .int .i64 (-5)]) (pv := [(0, .int .i64 2), (1, .int .i64 (-5))]) tB27 rfl rfl) rfl rfl rfl ?_
    refine st (p := pv) (off := 0) (k := 0) (vs := [.int .i64 2, .int .i64 (-5)]) rfl rfl rfl (fun w => (tA27 w).2) rfl rfl rfl rfl ?_
    refine .cast (A' := [Box pv [.int .i64 2, .int .i64 (-5)]]) rfl ?_
    refine .nil ?_
    refine .seqN ?_
    refine .ret ?_
    refine .seqR ?_
    refine .res1 rfl (rvC rfl tA27 (k := 0) rfl rfl) (fun w' S => ⟨(⟨2, (-5)⟩ : Fault), hF, rfl, S.below⟩)
  replace hF := hF.2 q4
  refine .skip ?_
  refine .seqN ?_
  refine .seq ?_
  refine .seq ?_
  refine .region ?_
  refine .v (mv rfl) rfl rfl rfl ?_
  refine .v (ln rfl tS22.is) rfl rfl rfl ?_
  refine .v (mv rfl) rfl rfl rfl ?_
  refine .nil ?_
  refine .seqN ?_
  refine .block ?_
  obtain ⟨I1, μ1, q97, q98⟩ := hF
  refine .loop' (σ := Int) (fun z => I1 z) (fun z => μ1 z) (fun z => [(0, .int .i64 operators), (4, .pointer (some pv)), (11, .slice aplan plan.length cplan), (12, .int .i64 ((plan.length : Nat) : Int)), (13, .int .i64 z)]) (fun _ => [Box pv [.int .i64 0, .int .i64 0]]) (fun _ => h) 0 q97 (.cons rfl (.cons rfl (.cons rfl (.cons rfl (.cons rfl (.nil)))))) rfl (FH.le_refl _) ?_
  rintro t13 q97
  have hF := q98 t13 q97
  show J _ _ _ _ _ [(0, .int .i64 operators), (4, .pointer (some pv)), (11, .slice aplan plan.length cplan), (12, .int .i64 ((plan.length : Nat) : Int)), (13, .int .i64 t13)] [Box pv [.int .i64 0, .int .i64 0]] h
  refine .seq ?_
  refine .region ?_
  refine .v (bi rfl rfl rfl) rfl rfl rfl ?_
  refine .nil ?_
  refine .seqN ?_
  refine .seq ?_
  refine .cond rfl (fun q101 => ?_) (fun q101 => ?_)
  · replace hF := hF.1 q101
    refine .skip ?_
    refine .seqN ?_
    refine .seq ?_
    refine .block ?_
    refine .seq ?_
    refine .region ?_
    obtain ⟨q112, hF⟩ := hF
    refine .v (ix rfl rfl tS22 (_q1.ne (by decide) (inb_pos q112)) q112) rfl rfl rfl ?_
    refine .v (ld1 (v := .int .i64 (gt plan t13)) rfl tO3 (cellH (_q1.elemF q112 (by decide) 0 _ rfl))) rfl rfl rfl ?_
    refine .v (asg rfl) rfl rfl rfl ?_
    refine .nil ?_
    refine .seqN ?_
    refine .share (σ := Bool) (fun z => F_steps_J1 K z t13 I1 μ1) (fun z => [(0, .int .i64 operators), (4, .pointer (some pv)), (11, .slice aplan plan.length cplan), (12, .int .i64 ((plan.length : Nat) : Int)), (13, .int .i64 t13), (23, .bool z)]) (fun _ => [Box pv [.int .i64 0, .int .i64 0]]) (fun _ => h) ?_ (fun q114 => ?_)
    · rintro t23 hF
      show J _ _ _ _ _ [(0, .int .i64 operators), (4, .pointer (some pv)), (11, .slice aplan plan.length cplan), (12, .int .i64 ((plan.length : Nat) : Int)), (13, .int .i64 t13), (23, .bool t23)] [Box pv [.int .i64 0, .int .i64 0]] h
      refine .cond rfl (fun q115 => ?_) (fun q115 => ?_)
      · replace hF := hF.1 q115
        refine .seq ?_
        refine .region ?_
        refine .v (bld (cs := #[.int .i64 3, .int .i64 (-6)]) (pv := [(0, .int .i64 3), (1, .int .i64 (-6))]) tB27 rfl rfl) rfl rfl rfl ?_
        refine st (p := pv) (off := 0) (k := 0) (vs := [.int .i64 3, .int .i64 (-6)]) rfl rfl rfl (fun w => (tA27 w).2) rfl rfl rfl rfl ?_
        refine .cast (A' := [Box pv [.int .i64 3, .int .i64 (-6)]]) rfl ?_
        refine .nil ?_
        refine .seqN ?_
        refine .ret ?_
        refine .blkR ?_
        refine .seqR ?_
        refine .seqR ?_
        refine .blkR ?_
        refine .seqR ?_
        refine .res1 rfl (rvC rfl tA27 (k := 0) rfl rfl) (fun w' S => ⟨(⟨3, (-6)⟩ : Fault), hF, rfl, S.below⟩)
      replace hF := hF.2 q115
      refine .skip ?_
      refine .blkN ?_
      refine .seqN ?_
      refine .region ?_
      refine .v (bi rfl rfl rfl) rfl rfl rfl ?_
      refine .v (mv rfl) rfl rfl rfl ?_
      refine .nil ?_
      exact .round (IntKind.i64.wrap (t13 + 1)) hF.1 hF.2 (.cons rfl (.cons rfl (.cons rfl (.cons rfl (.cons rfl (.nil)))))) rfl (FH.le_refl _)
    refine .region ?_
    refine .v (mv rfl) rfl rfl rfl ?_
    refine .v (bi rfl rfl rfl) rfl rfl rfl ?_
    refine .v (mv rfl) rfl rfl rfl ?_
    rcases Bool.eq_false_or_eq_true (decide ((gt plan t13) < 0)) with q116 | q116
    · replace hF := hF.1 q116
      refine .gS rfl rfl rfl q116 rfl rfl ?_
      refine .gS rfl rfl rfl q116 rfl rfl ?_
      refine .gS rfl rfl rfl q116 rfl rfl ?_
      refine .v (pkT rfl q116 rfl) rfl rfl rfl ?_
      refine .nil ?_
      exact .use q114 true hF (.cons rfl (.cons rfl (.cons rfl (.cons rfl (.cons rfl (.cons rfl (.nil))))))) rfl (FH.le_refl _)
    replace hF := hF.2 q116
    refine .gv (mv rfl) rfl rfl rfl q116 rfl rfl ?_
    refine .gv (mv rfl) rfl rfl rfl q116 rfl rfl ?_
    refine .gv (bi rfl rfl rfl) rfl rfl rfl q116 rfl rfl ?_
    refine .v (pkF rfl q116 rfl) rfl rfl rfl ?_
    refine .nil ?_
    exact .use q114 (decide (operators ≤ (gt plan t13))) hF (.cons rfl (.cons rfl (.cons rfl (.cons rfl (.cons rfl (.cons rfl (.nil))))))) rfl (FH.le_refl _)
  replace hF := hF.2 q101
  refine .exit ?_
  refine .seqX ?_
  refine .seqX ?_
  refine .blkX ?_
  refine .seqN ?_
  refine .seq ?_
  refine .region ?_
  refine .v (bld (cs := #[.int .i64 0, .int .i64 0]) (pv := []) tB27 rfl rfl) rfl rfl rfl ?_
  refine st (p := pv) (off := 0) (k := 0) (vs := [.int .i64 0, .int .i64 0]) rfl rfl rfl (fun w => (tA27 w).2) rfl rfl rfl rfl ?_
  refine .cast (A' := [Box pv [.int .i64 0, .int .i64 0]]) rfl ?_
  refine .nil ?_
  refine .seqN ?_
  refine .ret ?_
  refine .res1 rfl (rvC rfl tA27 (k := 0) rfl rfl) (fun w' S => ⟨(⟨0, 0⟩ : Fault), hF, rfl, S.below⟩)

theorem c_steps {h : FH} {w : World} (hs : Sub h w) (operators : Int) (plan : List Int) (aplan : Option Addr) (cplan : Nat) (_q1 : RSl h aplan plan) (_q2 : plan.length ≤ cplan) (hp : pre_steps operators plan) : Calls Tryz.prog 65 #[.int .i64 operators, .slice aplan plan.length cplan] w fun e w' => e = .returned (.agg #[.int .i64 (sp_steps operators plan).code, .int .i64 (sp_steps operators plan).index]) ∧ Below w.heap.size w w' :=
  (w_steps hs operators plan aplan cplan _q1 _q2 (fun r => r = sp_steps operators plan) (ok_steps operators plan hp)).mono fun _ _ ⟨_, hk, he, hb⟩ => ⟨by rw [he, hk], hb⟩

end Go.Proofs.YtojoehfldbimpaaGreatDoor.Pl

/- The walks: from what each function asks to what it does; printed from the code. No condition. -/
namespace Go.Proofs.YtojoehfldbimpaaGreatDoor.Pl
open Go Go.RowKit
theorem w_clone {h : FH} {w : World} (hs : Sub h w) (s_ : List Int) (as_ : Option Addr) (cs_ : Nat) (_q1 : RSl h as_ s_) (_q2 : s_.length ≤ cs_) (K : (List Int) → Prop) (hF : F_clone s_ K) : Calls Tryz.prog 112 #[.slice as_ s_.length cs_] w fun e w' => ∃ (r : List Int) (z : Option Addr × Nat) (h1 : FH), K r ∧ e = .returned (.slice z.1 r.length z.2) ∧ FH.le h h1 ∧ (RSl h1 z.1 r ∧ r.length ≤ z.2) ∧ SH (Kp.all w h) h1 w' [] := by
  refine enter (args := [.slice as_ s_.length cs_]) Tryz.func112 rfl Tryz.ntmps112 rfl hs ?_
  refine .seq ?_
  refine .region ?_
  refine .v (asg rfl) rfl rfl rfl ?_
  refine .nil ?_
  refine .seqN ?_
  refine .seq ?_
  refine .seq ?_
  refine .region ?_
  refine .v (mv rfl) rfl rfl rfl ?_
  refine .v (eqnil tS22.is rfl rfl) rfl rfl rfl ?_
  refine .nil ?_
  refine .seqN ?_
  refine .cond rfl (fun q4 => ?_) (fun _ => ?_)
  · replace hF := hF.1 (RSl.nil_of _q1 (by decide) q4)
    refine .seq ?_
    refine .region ?_
    refine .v (asg rfl) rfl rfl rfl ?_
    refine .nil ?_
    refine .seqN ?_
    refine .ret ?_
    refine .seqR ?_
    refine .res1 rfl (rvT rfl) (fun w' S => ⟨([] : List Int), (none, 0), h, hF, rfl, (FH.le_refl _), ⟨RSl.nil_, (Nat.le_refl 0)⟩, S.none⟩)
  replace hF := hF.2
  refine .skip ?_
  refine .seqN ?_
  refine .seq ?_
  refine .region ?_
  refine bs2 (cs := #[]) (pv := []) tS22 rfl rfl (by decide) (by decide) rfl rfl rfl (fun a _ => ?_)
  refine .cast (A' := [OwnSl 3 1 a (([] : List Int).length) 0 (flL ([] : List Int))]) rfl ?_
  refine .v (mv rfl) rfl rfl rfl ?_
  obtain ⟨q6, hF⟩ := hF
  have q7 : ([] : List Int).length + s_.length = ((([] : List Int) ++ s_)).length := len_app rfl rfl
  refine app (k := 0) (news := flL s_) (cs' := flL (([] : List Int) ++ s_)) (nm := ((([] : List Int) ++ s_)).length) tS22 rfl (by decide) rfl rfl rfl (by rw [flL_len]; rfl) (srcH (fun q => _q1.ne (by decide) q) (_q1.raw)) (flL_one _) (room_of q7 q6).1 (room_of q7 q6).2 q7 (flL_append _ _).symm rfl (fun a2 c => ?_)
  refine .cast (A' := [OwnSl 3 1 a2 ((([] : List Int) ++ s_).length) c (flL (([] : List Int) ++ s_))]) rfl ?_
  refine .v (asg rfl) rfl rfl rfl ?_
  refine .nil ?_
  refine .seqN ?_
  refine .freezeL (k := 0) rfl (fun h1 le1 q9 q8 => ?_)
  refine .cast (A' := [tru]) rfl ?_
  refine .ret ?_
  refine .res1 rfl (rvT rfl) (fun w' S => ⟨(([] : List Int) ++ s_), (a2, c), h1, hF, rfl, (le1), ⟨(RSl.of q8), (q9)⟩, S.none⟩)

theorem c_clone {h : FH} {w : World} (hs : Sub h w) (s_ : List Int) (as_ : Option Addr) (cs_ : Nat) (_q1 : RSl h as_ s_) (_q2 : s_.length ≤ cs_) (hp : pre_clone s_) : Calls Tryz.prog 112 #[.slice as_ s_.length cs_] w fun e w' => ∃ (z : Option Addr × Nat) (h1 : FH), e = .returned (.slice z.1 (sp_clone s_).length z.2) ∧ FH.le h h1 ∧ (RSl h1 z.1 (sp_clone s_) ∧ (sp_clone s_).length ≤ z.2) ∧ SH (Kp.all w h) h1 w' [] :=
  (w_clone hs s_ as_ cs_ _q1 _q2 (fun r => r = sp_clone s_) (ok_clone s_ hp)).mono fun _ _ ⟨r, z, h1, hk, he, hl, hf, hS⟩ => by subst hk; exact ⟨z, h1, he, hl, hf, hS⟩

theorem w_update {h : FH} {w : World} (hs : Sub h w) (s_ : List Int) (as_ : Option Addr) (cs_ : Nat) (_q1 : RSl h as_ s_) (_q2 : s_.length ≤ cs_) (add : List Int) (aadd : Option Addr) (cadd : Nat) (_q3 : RSl h aadd add) (_q4 : add.length ≤ cadd) (del : List Int) (adel : Option Addr) (cdel : Nat) (_q5 : RSl h adel del) (_q6 : del.length ≤ cdel) (K : (List Int) → Prop) (hF : F_update s_ add del K) : Calls Tryz.prog 83 #[.slice as_ s_.length cs_, .slice aadd add.length cadd, .slice adel del.length cdel] w fun e w' => ∃ (r : List Int) (z : Option Addr × Nat) (h1 : FH), K r ∧ e = .returned (.slice z.1 r.length z.2) ∧ FH.le h h1 ∧ True ∧ SH (Kp.all w h) h1 w' [OwnSl 3 1 z.1 r.length z.2 (flL r)] := by
  refine enter (args := [.slice as_ s_.length cs_, .slice aadd add.length cadd, .slice adel del.length cdel]) Tryz.func83 rfl Tryz.ntmps83 rfl hs ?_
  refine .seq ?_
  refine .region ?_
  refine .v (asg rfl) rfl rfl rfl ?_
  refine .nil ?_
  refine .seqN ?_
  refine .seq ?_
  refine .region ?_
  refine .v (asg rfl) rfl rfl rfl ?_
  refine .nil ?_
  refine .seqN ?_
  refine .seq ?_
  refine .seq ?_
  refine .region ?_
  refine .v (mv rfl) rfl rfl rfl ?_
  refine .v (ln rfl tS22.is) rfl rfl rfl ?_
  refine .v (mv rfl) rfl rfl rfl ?_
  refine .nil ?_
  refine .seqN ?_
  refine .block ?_
  refine .nilSl 3 1 ?_
  refine .cast (A' := [OwnSl 3 1 none (([] : List Int).length) 0 (flL ([] : List Int))]) rfl ?_
  obtain ⟨I1, μ1, q99, q100⟩ := hF
  refine .loop' (σ := Int × List Int × Option Addr × Nat) (fun z => I1 z.1 z.2.1) (fun z => μ1 z.1 z.2.1) (fun z => [(1, .slice aadd add.length cadd), (2, .slice adel del.length cdel), (7, .slice z.2.2.1 z.2.1.length z.2.2.2), (12, .slice as_ s_.length cs_), (13, .int .i64 ((s_.length : Nat) : Int)), (14, .int .i64 z.1)]) (fun z => [OwnSl 3 1 z.2.2.1 z.2.1.length z.2.2.2 (flL z.2.1)]) (fun _ => h) (0, ([] : List Int), none, 0) q99 (.cons rfl (.cons rfl (.cons rfl (.cons rfl (.cons rfl (.cons rfl (.nil))))))) rfl (FH.le_refl _) ?_
  rintro ⟨t14, out, aout, cout⟩ q99
  have hF := q100 t14 out q99
  show J _ _ _ _ _ [(1, .slice aadd add.length cadd), (2, .slice adel del.length cdel), (7, .slice aout out.length cout), (12, .slice as_ s_.length cs_), (13, .int .i64 ((s_.length : Nat) : Int)), (14, .int .i64 t14)] [OwnSl 3 1 aout out.length cout (flL out)] h
  refine .seq ?_
  refine .region ?_
  refine .v (bi rfl rfl rfl) rfl rfl rfl ?_
  refine .nil ?_
  refine .seqN ?_
  refine .seq ?_
  refine .cond rfl (fun q103 => ?_) (fun q103 => ?_)
  · replace hF := hF.1 q103
    refine .skip ?_
    refine .seqN ?_
    refine .share (σ := List Int × Option Addr × Nat) (fun z => F_update_J1 out t14 I1 μ1 z.1) (fun z => [(1, .slice aadd add.length cadd), (2, .slice adel del.length cdel), (7, .slice z.2.1 z.1.length z.2.2), (12, .slice as_ s_.length cs_), (13, .int .i64 ((s_.length : Nat) : Int)), (14, .int .i64 t14)]) (fun z => [OwnSl 3 1 z.2.1 z.1.length z.2.2 (flL z.1)]) (fun _ => h) ?_ (fun q111 => ?_)
    · rintro ⟨out3, aout3, cout3⟩ hF
      show J _ _ _ _ _ [(1, .slice aadd add.length cadd), (2, .slice adel del.length cdel), (7, .slice aout3 out3.length cout3), (12, .slice as_ s_.length cs_), (13, .int .i64 ((s_.length : Nat) : Int)), (14, .int .i64 t14)] [OwnSl 3 1 aout3 out3.length cout3 (flL out3)] h
      refine .region ?_
      refine .v (bi rfl rfl rfl) rfl rfl rfl ?_
      refine .v (mv rfl) rfl rfl rfl ?_
      refine .nil ?_
      exact .round (IntKind.i64.wrap (t14 + 1), out3, aout3, cout3) hF.1 hF.2 (.cons rfl (.cons rfl (.cons rfl (.cons rfl (.cons rfl (.cons rfl (.nil))))))) rfl (FH.le_refl _)
    refine .block ?_
    refine .seq ?_
    refine .region ?_
    obtain ⟨q112, hF⟩ := hF
    refine .v (ix rfl rfl tS22 (_q1.ne (by decide) (inb_pos q112)) q112) rfl rfl rfl ?_
    refine .v (ld1 (v := .int .i64 (gt s_ t14)) rfl tO3 (cellH (_q1.elemF q112 (by decide) 0 _ rfl))) rfl rfl rfl ?_
    refine .v (asg rfl) rfl rfl rfl ?_
    refine .nil ?_
    refine .seqN ?_
    refine .seq ?_
    refine .region ?_
    refine .v (mv rfl) rfl rfl rfl ?_
    refine .v (mv rfl) rfl rfl rfl ?_
    obtain ⟨q113, hF⟩ := hF
    obtain ⟨r2, q114⟩ : ∃ y_ : Int × Bool, y_ = sp_bsearch del (gt s_ t14) := ⟨_, rfl⟩
    replace hF := hF r2 q114
    refine .c (cl (v := .tuple #[.int .i64 r2.1, .bool r2.2]) Tryz.call104 rfl rfl (fun w S => (by rw [q114]; exact c_bsearch S.sub del adel cdel _q5 _q6 (gt s_ t14) q113))) rfl rfl rfl ?_
    refine .v (mv rfl) rfl rfl rfl ?_
    refine .v (ext rfl rfl) rfl rfl rfl ?_
    refine .v (ext rfl rfl) rfl rfl rfl ?_
    refine .v (asg rfl) rfl rfl rfl ?_
    refine .v (asg rfl) rfl rfl rfl ?_
    refine .nil ?_
    refine .seqN ?_
    refine .seq ?_
    refine .region ?_
    refine .v (mv rfl) rfl rfl rfl ?_
    refine .v (nt rfl) rfl rfl rfl ?_
    refine .nil ?_
    refine .seqN ?_
    refine .cond rfl (fun q115 => ?_) (fun q115 => ?_)
    · replace hF := hF.1 q115
      refine .region ?_
      refine .v (mv rfl) rfl rfl rfl ?_
      refine .v (mv rfl) rfl rfl rfl ?_
      refine bs2 (cs := #[.int .i64 (gt s_ t14)]) (pv := [(0, .int .i64 (gt s_ t14))]) tS22 rfl rfl (by decide) (by decide) rfl rfl rfl (fun a _ => ?_)
      refine .cast (A' := [OwnSl 3 1 a (([(gt s_ t14)] : List Int).length) 1 (flL ([(gt s_ t14)] : List Int)), OwnSl 3 1 aout out.length cout (flL out)]) rfl ?_
      obtain ⟨q117, hF⟩ := hF
      have q118 : out.length + ([(gt s_ t14)] : List Int).length = ((out ++ ([(gt s_ t14)] : List Int))).length := len_app rfl rfl
      refine app (k := 1) (news := flL ([(gt s_ t14)] : List Int)) (cs' := flL (out ++ ([(gt s_ t14)] : List Int))) (nm := ((out ++ ([(gt s_ t14)] : List Int))).length) tS22 rfl (by decide) rfl rfl rfl (by rw [flL_len]; rfl) (srcS (k := 0) rfl) (flL_one _) (room_of q118 q117).1 (room_of q118 q117).2 q118 (flL_append _ _).symm rfl (fun a2 c => ?_)
      refine .cast (A' := [OwnSl 3 1 a (([(gt s_ t14)] : List Int).length) 1 (flL ([(gt s_ t14)] : List Int)), OwnSl 3 1 a2 ((out ++ ([(gt s_ t14)] : List Int)).length) c (flL (out ++ ([(gt s_ t14)] : List Int)))]) rfl ?_
      refine .v (asg rfl) rfl rfl rfl ?_
      refine .nil ?_
      refine .blkN ?_
      refine .sel0 [1] (by decide) rfl ?_
      exact .use q111 ((out ++ ([(gt s_ t14)] : List Int)), a2, c) hF (.cons rfl (.cons rfl (.cons rfl (.cons rfl (.cons rfl (.cons rfl (.nil))))))) rfl (FH.le_refl _)
    replace hF := hF.2 q115
    refine .skip ?_
    refine .blkN ?_
    exact .use q111 (out, aout, cout) hF (.cons rfl (.cons rfl (.cons rfl (.cons rfl (.cons rfl (.cons rfl (.nil))))))) rfl (FH.le_refl _)
  replace hF := hF.2 q103
  refine .exit ?_
  refine .seqX ?_
  refine .seqX ?_
  refine .blkX ?_
  refine .seqN ?_
  refine .seq ?_
  refine .region ?_
  refine .v (mv rfl) rfl rfl rfl ?_
  refine .v (mv rfl) rfl rfl rfl ?_
  obtain ⟨q119, hF⟩ := hF
  have q120 : out.length + add.length = ((out ++ add)).length := len_app rfl rfl
  refine app (k := 0) (news := flL add) (cs' := flL (out ++ add)) (nm := ((out ++ add)).length) tS22 rfl (by decide) rfl rfl rfl (by rw [flL_len]; rfl) (srcH (fun q => _q3.ne (by decide) q) (_q3.raw)) (flL_one _) (room_of q120 q119).1 (room_of q120 q119).2 q120 (flL_append _ _).symm rfl (fun a3 c2 => ?_)
  refine .cast (A' := [OwnSl 3 1 a3 ((out ++ add).length) c2 (flL (out ++ add))]) rfl ?_
  refine .v (asg rfl) rfl rfl rfl ?_
  refine .nil ?_
  refine .seqN ?_
  refine .seq ?_
  refine .region ?_
  refine .v (mv rfl) rfl rfl rfl ?_
  obtain ⟨q121, hF⟩ := hF
  obtain ⟨r3, q122⟩ : ∃ y_ : List Int, y_ = sp_sort (out ++ add) := ⟨_, rfl⟩
  replace hF := hF r3 q122
  refine callX (k := 0) (v := .tuple #[]) (X' := OwnSl 3 1 a3 ((out ++ add).length) c2 (flL r3)) rfl Tryz.call105 rfl rfl (fun w g hx sg hd hs' => ?_) rfl ?_
  · rw [q122]; exact c_sort hs' (out ++ add) a3 c2 hx sg hd q121
  have q123 : r3.length = (out ++ add).length := by rw [q122]; exact (sort_len (out ++ add)).trans rfl
  refine .cast (A' := [OwnSl 3 1 a3 ((out ++ add).length) c2 (flL r3)]) rfl ?_
  refine .nil ?_
  refine .seqN ?_
  refine .seq ?_
  refine .region ?_
  refine .v (mv rfl) rfl rfl rfl ?_
  obtain ⟨q124, hF⟩ := hF
  obtain ⟨r4, q125⟩ : ∃ y_ : List Int, y_ = sp_compact r3 := ⟨_, rfl⟩
  replace hF := hF r4 q125
  refine callX (k := 0) (v := .slice a3 r4.length c2) (X' := OwnSl 3 1 a3 (r4.length) c2 (flL r4)) rfl Tryz.call106 rfl rfl (fun w g hx sg hd hs' => ?_) rfl ?_
  · rw [q125]; have hc_ := c_compact hs' r3 a3 c2 (own_n (q123).symm hx) sg hd q124; rw [q123] at hc_; exact hc_
  refine .cast (A' := [OwnSl 3 1 a3 r4.length c2 (flL r4)]) rfl ?_
  refine .v (asg rfl) rfl rfl rfl ?_
  refine .nil ?_
  refine .seqN ?_
  refine .ret ?_
  refine .res1 rfl (rvT rfl) (fun w' S => ⟨r4, (a3, c2), h, hF, rfl, (FH.le_refl _), trivial, S.pick (k := 0) rfl⟩)

theorem c_update {h : FH} {w : World} (hs : Sub h w) (s_ : List Int) (as_ : Option Addr) (cs_ : Nat) (_q1 : RSl h as_ s_) (_q2 : s_.length ≤ cs_) (add : List Int) (aadd : Option Addr) (cadd : Nat) (_q3 : RSl h aadd add) (_q4 : add.length ≤ cadd) (del : List Int) (adel : Option Addr) (cdel : Nat) (_q5 : RSl h adel del) (_q6 : del.length ≤ cdel) (hp : pre_update s_ add del) : Calls Tryz.prog 83 #[.slice as_ s_.length cs_, .slice aadd add.length cadd, .slice adel del.length cdel] w fun e w' => ∃ (z : Option Addr × Nat) (h0 h1 : FH), e = .returned (.slice z.1 (sp_update s_ add del).length z.2) ∧ (True) ∧ FH.le h h1 ∧ SH (Kp.all w h0) h1 w' [OwnSl 3 1 z.1 (sp_update s_ add del).length z.2 (flL (sp_update s_ add del))] :=
  (w_update hs s_ as_ cs_ _q1 _q2 add aadd cadd _q3 _q4 del adel cdel _q5 _q6 (fun r => r = sp_update s_ add del) (ok_update s_ add del hp)).mono fun _ _ ⟨r, z, h1, hk, he, hl, hψ, hS⟩ => by subst hk; exact ⟨z, h, h1, he, hψ, hl, hS⟩

set_option maxHeartbeats 8000000 in
theorem w_contains2 {h : FH} {w : World} (hs : Sub h w) (s_ : List Int) (as_ : Option Addr) (cs_ : Nat) (_q1 : RSl h as_ s_) (_q2 : s_.length ≤ cs_) (part : List Int) (apart : Option Addr) (cpart : Nat) (_q3 : RSl h apart part) (_q4 : part.length ≤ cpart) (K : Bool → Prop) (hF : F_contains2 s_ part K) : Calls Tryz.prog 88 #[.slice as_ s_.length cs_, .slice apart part.length cpart] w fun e w' => ∃ r : Bool, K r ∧ e = .returned (.bool r) ∧ Below w.heap.size w w' := by
  refine enter (args := [.slice as_ s_.length cs_, .slice apart part.length cpart]) Tryz.func88 rfl Tryz.ntmps88 rfl hs ?_
  refine .seq ?_
  refine .region ?_
  refine .v (asg rfl) rfl rfl rfl ?_
  refine .nil ?_
  refine .seqN ?_
  refine .seq ?_
  refine .region ?_
  refine .v (asg rfl) rfl rfl rfl ?_
  refine .nil ?_
  refine .seqN ?_
  refine .seq ?_
  refine .seq ?_
  refine .region ?_
  refine .v (mv rfl) rfl rfl rfl ?_
  refine .v (ln rfl tS22.is) rfl rfl rfl ?_
  refine .v (mv rfl) rfl rfl rfl ?_
  refine .nil ?_
  refine .seqN ?_
  refine .block ?_
  obtain ⟨I1, μ1, q1162, q1163⟩ := hF
  refine .loop' (σ := Int × Int) (fun z => I1 z.1 z.2) (fun z => μ1 z.1 z.2) (fun z => [(0, .slice as_ s_.length cs_), (5, .int .i64 z.1), (8, .slice apart part.length cpart), (9, .int .i64 ((part.length : Nat) : Int)), (10, .int .i64 z.2)]) (fun _ => []) (fun _ => h) (0, 0) q1162 (.cons rfl (.cons rfl (.cons rfl (.cons rfl (.cons rfl (.nil)))))) rfl (FH.le_refl _) ?_
  rintro ⟨i, t10⟩ q1162
  have hF := q1163 i t10 q1162
  show J _ _ _ _ _ [(0, .slice as_ s_.length cs_), (5, .int .i64 i), (8, .slice apart part.length cpart), (9, .int .i64 ((part.length : Nat) : Int)), (10, .int .i64 t10)] [] h
  refine .seq ?_
  refine .region ?_
  refine .v (bi rfl rfl rfl) rfl rfl rfl ?_
  refine .nil ?_
  refine .seqN ?_
  refine .seq ?_
  refine .cond rfl (fun q1166 => ?_) (fun q1166 => ?_)
  · replace hF := hF.1 q1166
    refine .skip ?_
    refine .seqN ?_
    refine .seq ?_
    refine .block ?_
    refine .seq ?_
    refine .region ?_
    obtain ⟨q1319, hF⟩ := hF
    refine .v (ix rfl rfl tS22 (_q3.ne (by decide) (inb_pos q1319)) q1319) rfl rfl rfl ?_
    refine .v (ld1 (v := .int .i64 (gt part t10)) rfl tO3 (cellH (_q3.elemF q1319 (by decide) 0 _ rfl))) rfl rfl rfl ?_
    refine .v (asg rfl) rfl rfl rfl ?_
    refine .nil ?_
    refine .seqN ?_
    refine .seq ?_
    refine .block ?_
    obtain ⟨I2, μ2, q1380, q1381⟩ := hF
    refine .loop' (σ := Int) (fun z => I2 z) (fun z => μ2 z) (fun z => [(0, .slice as_ s_.length cs_), (5, .int .i64 z), (7, .int .i64 (gt part t10)), (8, .slice apart part.length cpart), (9, .int .i64 ((part.length : Nat) : Int)), (10, .int .i64 t10)]) (fun _ => []) (fun _ => h) i q1380 (.cons rfl (.cons rfl (.cons rfl (.cons rfl (.cons rfl (.cons rfl (.nil))))))) rfl (FH.le_refl _) ?_
    rintro i3 q1380
    have hF := q1381 i3 q1380
    show J _ _ _ _ _ [(0, .slice as_ s_.length cs_), (5, .int .i64 i3), (7, .int .i64 (gt part t10)), (8, .slice apart part.length cpart), (9, .int .i64 ((part.length : Nat) : Int)), (10, .int .i64 t10)] [] h
    refine .seq ?_
    refine .share (σ := Bool) (fun z => F_contains2_J1 s_ part K z i I2 μ2 t10 i3 I1 μ1) (fun z => [(0, .slice as_ s_.length cs_), (5, .int .i64 i3), (7, .int .i64 (gt part t10)), (8, .slice apart part.length cpart), (9, .int .i64 ((part.length : Nat) : Int)), (10, .int .i64 t10), (25, .bool z)]) (fun _ => []) (fun _ => h) ?_ (fun q1384 => ?_)
    · rintro t25 hF
      show J _ _ _ _ _ [(0, .slice as_ s_.length cs_), (5, .int .i64 i3), (7, .int .i64 (gt part t10)), (8, .slice apart part.length cpart), (9, .int .i64 ((part.length : Nat) : Int)), (10, .int .i64 t10), (25, .bool t25)] [] h
      refine .cond rfl (fun q1386 => ?_) (fun q1386 => ?_)
      · replace hF := hF.1 q1386
        refine .skip ?_
        refine .seqN ?_
        refine .block ?_
        refine .region ?_
        refine .v (mv rfl) rfl rfl rfl ?_
        refine .v (bi rfl rfl rfl) rfl rfl rfl ?_
        refine .v (asg rfl) rfl rfl rfl ?_
        refine .nil ?_
        refine .blkN ?_
        exact .round (IntKind.i64.wrap (i3 + 1)) hF.1 hF.2 (.cons rfl (.cons rfl (.cons rfl (.cons rfl (.cons rfl (.cons rfl (.nil))))))) rfl (FH.le_refl _)
      replace hF := hF.2 q1386
      refine .exit ?_
      refine .seqX ?_
      refine .seqX ?_
      refine .blkX ?_
      refine .seqN ?_
      refine .share (σ := Bool) (fun z => F_contains2_J2 K i z t10 i3 I1 μ1) (fun z => [(0, .slice as_ s_.length cs_), (5, .int .i64 i3), (8, .slice apart part.length cpart), (9, .int .i64 ((part.length : Nat) : Int)), (10, .int .i64 t10), (39, .bool z)]) (fun _ => []) (fun _ => h) ?_ (fun q1389 => ?_)
      · rintro t39 hF
        show J _ _ _ _ _ [(0, .slice as_ s_.length cs_), (5, .int .i64 i3), (8, .slice apart part.length cpart), (9, .int .i64 ((part.length : Nat) : Int)), (10, .int .i64 t10), (39, .bool t39)] [] h
        refine .cond rfl (fun q1390 => ?_) (fun q1390 => ?_)
        · replace hF := hF.1 q1390
          refine .seq ?_
          refine .region ?_
          refine .v (asg rfl) rfl rfl rfl ?_
          refine .nil ?_
          refine .seqN ?_
          refine .ret ?_
          refine .blkR ?_
          refine .seqR ?_
          refine .seqR ?_
          refine .blkR ?_
          refine .seqR ?_
          refine .res1 rfl (rvT rfl) (fun w' S => ⟨false, hF, rfl, S.below⟩)
        replace hF := hF.2 q1390
        refine .skip ?_
        refine .blkN ?_
        refine .seqN ?_
        refine .region ?_
        refine .v (bi rfl rfl rfl) rfl rfl rfl ?_
        refine .v (mv rfl) rfl rfl rfl ?_
        refine .nil ?_
        exact .round (i3, IntKind.i64.wrap (t10 + 1)) hF.1 hF.2 (.cons rfl (.cons rfl (.cons rfl (.cons rfl (.cons rfl (.nil)))))) rfl (FH.le_refl _)
      refine .region ?_
      refine .v (mv rfl) rfl rfl rfl ?_
      refine .v (mv rfl) rfl rfl rfl ?_
      refine .v (ln rfl tS22.is) rfl rfl rfl ?_
      refine .v (bi rfl rfl rfl) rfl rfl rfl ?_
      refine .v (mv rfl) rfl rfl rfl ?_
      rcases Bool.eq_false_or_eq_true (i3 == ((s_.length : Nat) : Int)) with q1391 | q1391
      · replace hF := hF.1 q1391
        refine .gS rfl rfl rfl q1391 rfl rfl ?_
        refine .gS rfl rfl rfl q1391 rfl rfl ?_
        refine .gS rfl rfl rfl q1391 rfl rfl ?_
        refine .gS rfl rfl rfl q1391 rfl rfl ?_
        refine .gS rfl rfl rfl q1391 rfl rfl ?_
        refine .gS rfl rfl rfl q1391 rfl rfl ?_
        refine .v (pkT rfl q1391 rfl) rfl rfl rfl ?_
        refine .nil ?_
        exact .use q1389 true hF (.cons rfl (.cons rfl (.cons rfl (.cons rfl (.cons rfl (.cons rfl (.nil))))))) rfl (FH.le_refl _)
      replace hF := hF.2 q1391
      refine .gv (mv rfl) rfl rfl rfl q1391 rfl rfl ?_
      refine .gv (mv rfl) rfl rfl rfl q1391 rfl rfl ?_
      obtain ⟨q1392, hF⟩ := hF
      refine .gv (ix rfl rfl tS22 (_q1.ne (by decide) (inb_pos q1392)) q1392) rfl rfl rfl q1391 rfl rfl ?_
      refine .gv (ld1 (v := .int .i64 (gt s_ i3)) rfl tO3 (cellH (_q1.elemF q1392 (by decide) 0 _ rfl))) rfl rfl rfl q1391 rfl rfl ?_
      refine .gv (mv rfl) rfl rfl rfl q1391 rfl rfl ?_
      refine .gv (bi rfl rfl rfl) rfl rfl rfl q1391 rfl rfl ?_
      refine .v (pkF rfl q1391 rfl) rfl rfl rfl ?_
      refine .nil ?_
      exact .use q1389 ((gt s_ i3) != (gt part t10)) hF (.cons rfl (.cons rfl (.cons rfl (.cons rfl (.cons rfl (.cons rfl (.nil))))))) rfl (FH.le_refl _)
    refine .region ?_
    refine .v (mv rfl) rfl rfl rfl ?_
    refine .v (mv rfl) rfl rfl rfl ?_
    refine .v (ln rfl tS22.is) rfl rfl rfl ?_
    refine .v (bi rfl rfl rfl) rfl rfl rfl ?_
    refine .v (mv rfl) rfl rfl rfl ?_
    rcases Bool.eq_false_or_eq_true (decide (i3 < ((s_.length : Nat) : Int))) with q1393 | q1393
    · replace hF := hF.1 q1393
      refine .gv (mv rfl) rfl rfl rfl q1393 rfl rfl ?_
      refine .gv (mv rfl) rfl rfl rfl q1393 rfl rfl ?_
      obtain ⟨q1394, hF⟩ := hF
      refine .gv (ix rfl rfl tS22 (_q1.ne (by decide) (inb_pos q1394)) q1394) rfl rfl rfl q1393 rfl rfl ?_
      refine .gv (ld1 (v := .int .i64 (gt s_ i3)) rfl tO3 (cellH (_q1.elemF q1394 (by decide) 0 _ rfl))) rfl rfl rfl q1393 rfl rfl ?_
      refine .gv (mv rfl) rfl rfl rfl q1393 rfl rfl ?_
      refine .gv (bi rfl rfl rfl) rfl rfl rfl q1393 rfl rfl ?_
      refine .v (pkT rfl q1393 rfl) rfl rfl rfl ?_
      refine .nil ?_
      exact .use q1384 (decide ((gt s_ i3) < (gt part t10))) hF (.cons rfl (.cons rfl (.cons rfl (.cons rfl (.cons rfl (.cons rfl (.cons rfl (.nil)))))))) rfl (FH.le_refl _)
    replace hF := hF.2 q1393
    refine .gS rfl rfl rfl q1393 rfl rfl ?_
    refine .gS rfl rfl rfl q1393 rfl rfl ?_
    refine .gS rfl rfl rfl q1393 rfl rfl ?_
    refine .gS rfl rfl rfl q1393 rfl rfl ?_
    refine .gS rfl rfl rfl q1393 rfl rfl ?_
    refine .gS rfl rfl rfl q1393 rfl rfl ?_
    refine .v (pkF rfl q1393 rfl) rfl rfl rfl ?_
    refine .nil ?_
    exact .use q1384 false hF (.cons rfl (.cons rfl (.cons rfl (.cons rfl (.cons rfl (.cons rfl (.cons rfl (.nil)))))))) rfl (FH.le_refl _)
  replace hF := hF.2 q1166
  refine .exit ?_
  refine .seqX ?_
  refine .seqX ?_
  refine .blkX ?_
  refine .seqN ?_
  refine .seq ?_
  refine .region ?_
  refine .v (asg rfl) rfl rfl rfl ?_
  refine .nil ?_
  refine .seqN ?_
  refine .ret ?_
  refine .res1 rfl (rvT rfl) (fun w' S => ⟨true, hF, rfl, S.below⟩)

theorem c_contains2 {h : FH} {w : World} (hs : Sub h w) (s_ : List Int) (as_ : Option Addr) (cs_ : Nat) (_q1 : RSl h as_ s_) (_q2 : s_.length ≤ cs_) (part : List Int) (apart : Option Addr) (cpart : Nat) (_q3 : RSl h apart part) (_q4 : part.length ≤ cpart) (hp : pre_contains2 s_ part) : Calls Tryz.prog 88 #[.slice as_ s_.length cs_, .slice apart part.length cpart] w fun e w' => e = .returned (.bool (sp_contains2 s_ part)) ∧ Below w.heap.size w w' :=
  (w_contains2 hs s_ as_ cs_ _q1 _q2 part apart cpart _q3 _q4 (fun r => r = sp_contains2 s_ part) (ok_contains2 s_ part hp)).mono fun _ _ ⟨_, hk, he, hb⟩ => ⟨by rw [he, hk], hb⟩

theorem w_can {h : FH} {w : World} (hs : Sub h w) (t : Task) (at_ : Option Addr) (ct : Nat) (_q1 : RSl h at_ t.init) (_q2 : t.init.length ≤ ct) (at_2 : Option Addr) (ct2 : Nat) (_q3 : RSl h at_2 t.goal) (_q4 : t.goal.length ≤ ct2) (at_3 : Option Addr) (ct3 : Nat) (_q5 : RSl h at_3 t.ops) (_q6 : t.ops.length ≤ ct3) (s_ : List Int) (as_ : Option Addr) (cs_ : Nat) (_q7 : RSl h as_ s_) (_q8 : s_.length ≤ cs_) (op : Int) (K : Bool → Prop) (hF : F_can t s_ op K) : Calls Tryz.prog 100 #[.agg #[.int .i64 t.facts, .slice at_ t.init.length ct, .slice at_2 t.goal.length ct2, .slice at_3 t.ops.length ct3], .slice as_ s_.length cs_, .int .i64 op] w fun e w' => ∃ r : Bool, K r ∧ e = .returned (.bool r) ∧ Below w.heap.size w w' := by
  refine enter (args := [.agg #[.int .i64 t.facts, .slice at_ t.init.length ct, .slice at_2 t.goal.length ct2, .slice at_3 t.ops.length ct3], .slice as_ s_.length cs_, .int .i64 op]) Tryz.func100 rfl Tryz.ntmps100 rfl hs ?_
  refine .seq ?_
  refine .region ?_
  refine bx (vs := [.int .i64 t.facts, .slice at_ t.init.length ct, .slice at_2 t.goal.length ct2, .slice at_3 t.ops.length ct3]) rfl rfl rfl (fun pt => ?_)
  refine .v (asg rfl) rfl rfl rfl ?_
  refine .nil ?_
  refine .seqN ?_
  refine .seq ?_
  refine .region ?_
  refine .v (mv rfl) rfl rfl rfl ?_
  refine .v (fa rfl tF25_3) rfl rfl rfl ?_
  refine .v (ld1 rfl tO23 (cellB (off := 3) (k := 0) rfl rfl)) rfl rfl rfl ?_
  refine .v (mv rfl) rfl rfl rfl ?_
  obtain ⟨q9, hF⟩ := hF
  refine .v (ix rfl rfl tS23 (_q5.ne (by decide) (inb_pos q9)) q9) rfl rfl rfl ?_
  refine .v (fa rfl tF54_0) rfl rfl rfl ?_
  obtain ⟨_, ⟨a, c, a2, c2, a3, c3, rfl, ⟨q10, q11⟩, ⟨q12, q13⟩, q14, q15⟩, q16⟩ := _q5.elem q9
  refine .v (ld1 (v := .slice a ((gt t.ops op).pre.length) c) rfl tO22 (cellH (q16 (by decide) 0 _ rfl))) rfl rfl rfl ?_
  obtain ⟨q17, hF⟩ := hF
  obtain ⟨r2, q18⟩ : ∃ y_ : Bool, y_ = sp_contains2 s_ ((gt t.ops op).pre) := ⟨_, rfl⟩
  replace hF := hF r2 q18
  refine .c (cl (v := .bool r2) Tryz.call88 rfl rfl (fun w S => (by rw [q18]; exact c_contains2 S.sub s_ as_ cs_ _q7 _q8 ((gt t.ops op).pre) a c q11 q10 q17))) rfl rfl rfl ?_
  refine .v (asg rfl) rfl rfl rfl ?_
  refine .nil ?_
  refine .seqN ?_
  refine .ret ?_
  refine .res1 rfl (rvT rfl) (fun w' S => ⟨r2, hF, rfl, S.below⟩)

theorem c_can {h : FH} {w : World} (hs : Sub h w) (t : Task) (at_ : Option Addr) (ct : Nat) (_q1 : RSl h at_ t.init) (_q2 : t.init.length ≤ ct) (at_2 : Option Addr) (ct2 : Nat) (_q3 : RSl h at_2 t.goal) (_q4 : t.goal.length ≤ ct2) (at_3 : Option Addr) (ct3 : Nat) (_q5 : RSl h at_3 t.ops) (_q6 : t.ops.length ≤ ct3) (s_ : List Int) (as_ : Option Addr) (cs_ : Nat) (_q7 : RSl h as_ s_) (_q8 : s_.length ≤ cs_) (op : Int) (hp : pre_can t s_ op) : Calls Tryz.prog 100 #[.agg #[.int .i64 t.facts, .slice at_ t.init.length ct, .slice at_2 t.goal.length ct2, .slice at_3 t.ops.length ct3], .slice as_ s_.length cs_, .int .i64 op] w fun e w' => e = .returned (.bool (sp_applies t s_ op)) ∧ Below w.heap.size w w' :=
  (w_can hs t at_ ct _q1 _q2 at_2 ct2 _q3 _q4 at_3 ct3 _q5 _q6 s_ as_ cs_ _q7 _q8 op (fun r => r = sp_applies t s_ op) (ok_can t s_ op hp)).mono fun _ _ ⟨_, hk, he, hb⟩ => ⟨by rw [he, hk], hb⟩

theorem w_next {h : FH} {w : World} (hs : Sub h w) (t : Task) (at_ : Option Addr) (ct : Nat) (_q1 : RSl h at_ t.init) (_q2 : t.init.length ≤ ct) (at_2 : Option Addr) (ct2 : Nat) (_q3 : RSl h at_2 t.goal) (_q4 : t.goal.length ≤ ct2) (at_3 : Option Addr) (ct3 : Nat) (_q5 : RSl h at_3 t.ops) (_q6 : t.ops.length ≤ ct3) (s_ : List Int) (as_ : Option Addr) (cs_ : Nat) (_q7 : RSl h as_ s_) (_q8 : s_.length ≤ cs_) (op : Int) (K : (List Int) → Prop) (hF : F_next t s_ op K) : Calls Tryz.prog 93 #[.agg #[.int .i64 t.facts, .slice at_ t.init.length ct, .slice at_2 t.goal.length ct2, .slice at_3 t.ops.length ct3], .slice as_ s_.length cs_, .int .i64 op] w fun e w' => ∃ (r : List Int) (z : Option Addr × Nat) (h1 : FH), K r ∧ e = .returned (.slice z.1 r.length z.2) ∧ FH.le h h1 ∧ (RSl h1 z.1 r ∧ r.length ≤ z.2) ∧ SH (Kp.all w h) h1 w' [] := by
  refine enter (args := [.agg #[.int .i64 t.facts, .slice at_ t.init.length ct, .slice at_2 t.goal.length ct2, .slice at_3 t.ops.length ct3], .slice as_ s_.length cs_, .int .i64 op]) Tryz.func93 rfl Tryz.ntmps93 rfl hs ?_
  refine .seq ?_
  refine .region ?_
  refine bx (vs := [.int .i64 t.facts, .slice at_ t.init.length ct, .slice at_2 t.goal.length ct2, .slice at_3 t.ops.length ct3]) rfl rfl rfl (fun pt => ?_)
  refine .v (asg rfl) rfl rfl rfl ?_
  refine .nil ?_
  refine .seqN ?_
  refine .seq ?_
  refine .region ?_
  refine .v (fa rfl tF25_3) rfl rfl rfl ?_
  refine .v (ld1 rfl tO23 (cellB (off := 3) (k := 0) rfl rfl)) rfl rfl rfl ?_
  refine .v (mv rfl) rfl rfl rfl ?_
  obtain ⟨q9, hF⟩ := hF
  refine .v (ix rfl rfl tS23 (_q5.ne (by decide) (inb_pos q9)) q9) rfl rfl rfl ?_
  obtain ⟨_, ⟨a, c, a2, c2, a3, c3, rfl, ⟨q10, q11⟩, ⟨q12, q13⟩, q14, q15⟩, q16⟩ := _q5.elem q9
  refine .v (ldA (cs := [.slice a ((gt t.ops op).pre.length) c, .slice a2 ((gt t.ops op).add.length) c2, .slice a3 ((gt t.ops op).del.length) c3, .int .i64 ((gt t.ops op).cost)]) rfl tA54 rfl (cellsH (q16 (by decide)))) rfl rfl rfl ?_
  refine al tZ54 rfl (fun po => ?_)
  refine st (p := po) (off := 0) (k := 0) (vs := [.slice a ((gt t.ops op).pre.length) c, .slice a2 ((gt t.ops op).add.length) c2, .slice a3 ((gt t.ops op).del.length) c3, .int .i64 ((gt t.ops op).cost)]) rfl rfl rfl (fun w => (tA54 w).2) rfl rfl rfl rfl ?_
  refine .cast (A' := [Box po [.slice a ((gt t.ops op).pre.length) c, .slice a2 ((gt t.ops op).add.length) c2, .slice a3 ((gt t.ops op).del.length) c3, .int .i64 ((gt t.ops op).cost)], Box pt [.int .i64 t.facts, .slice at_ t.init.length ct, .slice at_2 t.goal.length ct2, .slice at_3 t.ops.length ct3]]) rfl ?_
  refine .nil ?_
  refine .seqN ?_
  refine .seq ?_
  refine .region ?_
  refine .v (mv rfl) rfl rfl rfl ?_
  refine .v (fa rfl tF54_1) rfl rfl rfl ?_
  refine .v (ld1 rfl tO22 (cellB (off := 1) (k := 0) rfl rfl)) rfl rfl rfl ?_
  refine .v (fa rfl tF54_2) rfl rfl rfl ?_
  refine .v (ld1 rfl tO22 (cellB (off := 2) (k := 0) rfl rfl)) rfl rfl rfl ?_
  obtain ⟨q17, hF⟩ := hF
  obtain ⟨r2, q18⟩ : ∃ y_ : List Int, y_ = sp_update s_ ((gt t.ops op).add) ((gt t.ops op).del) := ⟨_, rfl⟩
  replace hF := hF r2 q18
  refine clO (α := Option Addr × Nat) (V := fun z => .slice z.1 r2.length z.2) (Ψ := fun z => True) (B := fun z => [OwnSl 3 1 z.1 r2.length z.2 (flL r2)]) Tryz.call83 rfl rfl (fun w S => (by rw [q18]; exact c_update S.sub s_ as_ cs_ _q7 _q8 ((gt t.ops op).add) a2 c2 q13 q12 ((gt t.ops op).del) a3 c3 q15 q14 q17)) rfl (fun z _ => ?_)
  obtain ⟨a4, c4⟩ := z
  refine .cast (A' := [OwnSl 3 1 a4 r2.length c4 (flL r2), Box po [.slice a ((gt t.ops op).pre.length) c, .slice a2 ((gt t.ops op).add.length) c2, .slice a3 ((gt t.ops op).del.length) c3, .int .i64 ((gt t.ops op).cost)], Box pt [.int .i64 t.facts, .slice at_ t.init.length ct, .slice at_2 t.goal.length ct2, .slice at_3 t.ops.length ct3]]) rfl ?_
  refine .v (asg rfl) rfl rfl rfl ?_
  refine .nil ?_
  refine .seqN ?_
  refine .freezeL (k := 0) rfl (fun h1 le1 q20 q19 => ?_)
  refine .cast (A' := [tru, Box po [.slice a ((gt t.ops op).pre.length) c, .slice a2 ((gt t.ops op).add.length) c2, .slice a3 ((gt t.ops op).del.length) c3, .int .i64 ((gt t.ops op).cost)], Box pt [.int .i64 t.facts, .slice at_ t.init.length ct, .slice at_2 t.goal.length ct2, .slice at_3 t.ops.length ct3]]) rfl ?_
  refine .ret ?_
  refine .res1 rfl (rvT rfl) (fun w' S => ⟨r2, (a4, c4), h1, hF, rfl, (le1), ⟨(RSl.of q19), (q20)⟩, S.none⟩)

theorem c_next {h : FH} {w : World} (hs : Sub h w) (t : Task) (at_ : Option Addr) (ct : Nat) (_q1 : RSl h at_ t.init) (_q2 : t.init.length ≤ ct) (at_2 : Option Addr) (ct2 : Nat) (_q3 : RSl h at_2 t.goal) (_q4 : t.goal.length ≤ ct2) (at_3 : Option Addr) (ct3 : Nat) (_q5 : RSl h at_3 t.ops) (_q6 : t.ops.length ≤ ct3) (s_ : List Int) (as_ : Option Addr) (cs_ : Nat) (_q7 : RSl h as_ s_) (_q8 : s_.length ≤ cs_) (op : Int) (hp : pre_next t s_ op) : Calls Tryz.prog 93 #[.agg #[.int .i64 t.facts, .slice at_ t.init.length ct, .slice at_2 t.goal.length ct2, .slice at_3 t.ops.length ct3], .slice as_ s_.length cs_, .int .i64 op] w fun e w' => ∃ (z : Option Addr × Nat) (h1 : FH), e = .returned (.slice z.1 (sp_after t s_ op).length z.2) ∧ FH.le h h1 ∧ (RSl h1 z.1 (sp_after t s_ op) ∧ (sp_after t s_ op).length ≤ z.2) ∧ SH (Kp.all w h) h1 w' [] :=
  (w_next hs t at_ ct _q1 _q2 at_2 ct2 _q3 _q4 at_3 ct3 _q5 _q6 s_ as_ cs_ _q7 _q8 op (fun r => r = sp_after t s_ op) (ok_next t s_ op hp)).mono fun _ _ ⟨r, z, h1, hk, he, hl, hf, hS⟩ => by subst hk; exact ⟨z, h1, he, hl, hf, hS⟩

theorem w_srun {h : FH} {w : World} (hs : Sub h w) (t : Task) (at_ : Option Addr) (ct : Nat) (_q1 : RSl h at_ t.init) (_q2 : t.init.length ≤ ct) (at_2 : Option Addr) (ct2 : Nat) (_q3 : RSl h at_2 t.goal) (_q4 : t.goal.length ≤ ct2) (at_3 : Option Addr) (ct3 : Nat) (_q5 : RSl h at_3 t.ops) (_q6 : t.ops.length ≤ ct3) (s_ : List Int) (as_ : Option Addr) (cs_ : Nat) (_q7 : RSl h as_ s_) (_q8 : s_.length ≤ cs_) (plan : List Int) (aplan : Option Addr) (cplan : Nat) (_q9 : RSl h aplan plan) (_q10 : plan.length ≤ cplan) (K : (List (List Int)) → Prop) (hF : F_srun t s_ plan K) : Calls Tryz.prog 95 #[.agg #[.int .i64 t.facts, .slice at_ t.init.length ct, .slice at_2 t.goal.length ct2, .slice at_3 t.ops.length ct3], .slice as_ s_.length cs_, .slice aplan plan.length cplan] w fun e w' => ∃ (r : List (List Int)) (z : Option Addr × Nat) (h1 : FH), K r ∧ e = .returned (.slice z.1 r.length z.2) ∧ FH.le h h1 ∧ (RSl h1 z.1 r ∧ r.length ≤ z.2) ∧ SH (Kp.all w h) h1 w' [] := by
  refine enter (args := [.agg #[.int .i64 t.facts, .slice at_ t.init.length ct, .slice at_2 t.goal.length ct2, .slice at_3 t.ops.length ct3], .slice as_ s_.length cs_, .slice aplan plan.length cplan]) Tryz.func95 rfl Tryz.ntmps95 rfl hs ?_
  refine .seq ?_
  refine .region ?_
  refine bx (vs := [.int .i64 t.facts, .slice at_ t.init.length ct, .slice at_2 t.goal.length ct2, .slice at_3 t.ops.length ct3]) rfl rfl rfl (fun pt => ?_)
  refine .v (asg rfl) rfl rfl rfl ?_
  refine .nil ?_
  refine .seqN ?_
  refine .seq ?_
  refine .region ?_
  refine .v (mv rfl) rfl rfl rfl ?_
  obtain ⟨q11, hF⟩ := hF
  obtain ⟨r2, q12⟩ : ∃ y_ : List Int, y_ = sp_clone s_ := ⟨_, rfl⟩
  replace hF := hF r2 q12
  refine clR (α := Option Addr × Nat) (Φ := fun h1 z => RSl h1 z.1 r2 ∧ r2.length ≤ z.2) (V := fun z => .slice z.1 r2.length z.2) Tryz.call112 rfl rfl (fun w S => (by rw [q12]; exact c_clone S.sub s_ as_ cs_ _q7 _q8 q11)) rfl (fun z h1 le1 hz => ?_)
  obtain ⟨a, c⟩ := z
  obtain ⟨q13, q14⟩ := hz
  refine bs2 (cs := #[.slice a r2.length c]) (pv := [(0, .slice a r2.length c)]) tS35 rfl rfl (by decide) (by decide) rfl rfl rfl (fun a2 _ => ?_)
  refine .cast (A' := [OwnSl 22 1 a2 (([r2] : List (List Int)).length) 1 [.slice a r2.length c], Box pt [.int .i64 t.facts, .slice at_ t.init.length ct, .slice at_2 t.goal.length ct2, .slice at_3 t.ops.length ct3]]) rfl ?_
  refine .v (asg rfl) rfl rfl rfl ?_
  refine .nil ?_
  refine .seqN ?_
  refine .seq ?_
  refine .seq ?_
  refine .region ?_
  refine .v (mv rfl) rfl rfl rfl ?_
  refine .v (ln rfl tS22.is) rfl rfl rfl ?_
  refine .v (mv rfl) rfl rfl rfl ?_
  refine .nil ?_
  refine .seqN ?_
  refine .block ?_
  refine .sel0 [1, 0] (by decide) rfl ?_
  obtain ⟨I1, μ1, q260, q261⟩ := hF
  refine .loop' (σ := List Int × Int × List (List Int) × Option Addr × Nat × Option Addr × Nat × List Value × FH) (fun z => I1 z.1 z.2.1 z.2.2.1 ∧ RSl z.2.2.2.2.2.2.2.2 z.2.2.2.1 z.1 ∧ z.1.length ≤ z.2.2.2.2.1 ∧ RepL z.2.2.2.2.2.2.2.2 z.2.2.1 z.2.2.2.2.2.2.2.1 ∧ FH.le h1 z.2.2.2.2.2.2.2.2) (fun z => μ1 z.1 z.2.1 z.2.2.1) (fun z => [(1, .slice z.2.2.2.1 z.1.length z.2.2.2.2.1), (3, .pointer (some pt)), (7, .slice z.2.2.2.2.2.1 z.2.2.1.length z.2.2.2.2.2.2.1), (13, .slice aplan plan.length cplan), (14, .int .i64 ((plan.length : Nat) : Int)), (15, .int .i64 z.2.1)]) (fun z => [Box pt [.int .i64 t.facts, .slice at_ t.init.length ct, .slice at_2 t.goal.length ct2, .slice at_3 t.ops.length ct3], OwnSl 22 1 z.2.2.2.2.2.1 z.2.2.1.length z.2.2.2.2.2.2.1 z.2.2.2.2.2.2.2.1]) (fun z => z.2.2.2.2.2.2.2.2) (s_, 0, ([r2] : List (List Int)), as_, cs_, a2, 1, [.slice a r2.length c], h1) ⟨q260, (_q7.mono (le1)), _q8, (show RepL h1 ([r2] : List (List Int)) [.slice a r2.length c] from ⟨[.slice a r2.length c], _, rfl, ⟨a, c, rfl, q14, q13⟩, rfl⟩), (FH.le_refl _)⟩ (.cons rfl (.cons rfl (.cons rfl (.cons rfl (.cons rfl (.cons rfl (.nil))))))) rfl (FH.le_refl _) ?_
  rintro ⟨s_2, t15, out, as2, cs, aout, cout, csout, h20⟩ ⟨q260, q210, q211, q212, q213⟩
  have hF := q261 s_2 t15 out q260
  show J _ _ _ _ _ [(1, .slice as2 s_2.length cs), (3, .pointer (some pt)), (7, .slice aout out.length cout), (13, .slice aplan plan.length cplan), (14, .int .i64 ((plan.length : Nat) : Int)), (15, .int .i64 t15)] [Box pt [.int .i64 t.facts, .slice at_ t.init.length ct, .slice at_2 t.goal.length ct2, .slice at_3 t.ops.length ct3], OwnSl 22 1 aout out.length cout csout] h20
  refine .seq ?_
  refine .region ?_
  refine .v (bi rfl rfl rfl) rfl rfl rfl ?_
  refine .nil ?_
  refine .seqN ?_
  refine .seq ?_
  refine .cond rfl (fun q264 => ?_) (fun q264 => ?_)
  · replace hF := hF.1 q264
    refine .skip ?_
    refine .seqN ?_
    refine .seq ?_
    refine .block ?_
    refine .seq ?_
    refine .region ?_
    obtain ⟨q291, hF⟩ := hF
    refine .v (ix rfl rfl tS22 (_q9.ne (by decide) (inb_pos q291)) q291) rfl rfl rfl ?_
    refine .v (ld1 (v := .int .i64 (gt plan t15)) rfl tO3 (cellH ((_q9.mono (FH.le_trans (le1) (q213))).elemF q291 (by decide) 0 _ rfl))) rfl rfl rfl ?_
    refine .v (asg rfl) rfl rfl rfl ?_
    refine .nil ?_
    refine .seqN ?_
    refine .seq ?_
    refine .seq ?_
    refine .region ?_
    refine .v (ldA (cs := [.int .i64 t.facts, .slice at_ t.init.length ct, .slice at_2 t.goal.length ct2, .slice at_3 t.ops.length ct3]) rfl tA25 rfl (cellsB (off := 0) (k := 0) rfl (m := 4) rfl)) rfl rfl rfl ?_
    refine .v (mv rfl) rfl rfl rfl ?_
    refine .v (mv rfl) rfl rfl rfl ?_
    obtain ⟨q292, hF⟩ := hF
    obtain ⟨r3, q293⟩ : ∃ y_ : Bool, y_ = sp_applies t s_2 (gt plan t15) := ⟨_, rfl⟩
    replace hF := hF r3 q293
    refine .c (cl (v := .bool r3) Tryz.call100 rfl rfl (fun w S => (by rw [q293]; exact c_can S.sub t at_ ct (_q1.mono (FH.le_trans (le1) (q213))) _q2 at_2 ct2 (_q3.mono (FH.le_trans (le1) (q213))) _q4 at_3 ct3 (_q5.mono (FH.le_trans (le1) (q213))) _q6 s_2 as2 cs q210 q211 (gt plan t15) q292))) rfl rfl rfl ?_
    refine .v (nt rfl) rfl rfl rfl ?_
    refine .nil ?_
    refine .seqN ?_
    refine .cond rfl (fun q295 => ?_) (fun q295 => ?_)
    · replace hF := hF.1 q295
      refine .exit ?_
      refine .seqX ?_
      refine .blkY rfl ?_
      refine .seqX ?_
      refine .seqX ?_
      refine .blkX ?_
      refine .seqN ?_
      refine .seq ?_
      refine .region ?_
      refine .v (mv rfl) rfl rfl rfl ?_
      refine .v (asg rfl) rfl rfl rfl ?_
      refine .nil ?_
      refine .seqN ?_
      refine .freezeL (k := 1) rfl (fun h27 le27 q297 q296 => ?_)
      refine .cast (A' := [Box pt [.int .i64 t.facts, .slice at_ t.init.length ct, .slice at_2 t.goal.length ct2, .slice at_3 t.ops.length ct3], tru]) rfl ?_
      refine .ret ?_
      refine .res1 rfl (rvT rfl) (fun w' S => ⟨out, (aout, cout), h27, hF, rfl, (FH.le_trans (FH.le_trans (le1) (q213)) (le27)), ⟨(show RSl h27 aout out from ⟨_, q212.mono (le27), q296⟩), (q297)⟩, S.none⟩)
    replace hF := hF.2 q295
    refine .skip ?_
    refine .seqN ?_
    refine .seq ?_
    refine .region ?_
    refine .v (ldA (cs := [.int .i64 t.facts, .slice at_ t.init.length ct, .slice at_2 t.goal.length ct2, .slice at_3 t.ops.length ct3]) rfl tA25 rfl (cellsB (off := 0) (k := 0) rfl (m := 4) rfl)) rfl rfl rfl ?_
    refine .v (mv rfl) rfl rfl rfl ?_
    refine .v (mv rfl) rfl rfl rfl ?_
    obtain ⟨q298, hF⟩ := hF
    obtain ⟨r4, q299⟩ : ∃ y_ : List Int, y_ = sp_after t s_2 (gt plan t15) := ⟨_, rfl⟩
    replace hF := hF r4 q299
    refine clR (α := Option Addr × Nat) (Φ := fun h1 z => RSl h1 z.1 r4 ∧ r4.length ≤ z.2) (V := fun z => .slice z.1 r4.length z.2) Tryz.call93 rfl rfl (fun w S => (by rw [q299]; exact c_next S.sub t at_ ct (_q1.mono (FH.le_trans (le1) (q213))) _q2 at_2 ct2 (_q3.mono (FH.le_trans (le1) (q213))) _q4 at_3 ct3 (_q5.mono (FH.le_trans (le1) (q213))) _q6 s_2 as2 cs q210 q211 (gt plan t15) q298)) rfl (fun z h28 le28 hz => ?_)
    obtain ⟨a3, c2⟩ := z
    obtain ⟨q300, q301⟩ := hz
    refine .v (asg rfl) rfl rfl rfl ?_
    refine .nil ?_
    refine .seqN ?_
    refine .region ?_
    refine .v (mv rfl) rfl rfl rfl ?_
    refine .v (mv rfl) rfl rfl rfl ?_
    refine bs2 (cs := #[.slice a3 r4.length c2]) (pv := [(0, .slice a3 r4.length c2)]) tS35 rfl rfl (by decide) (by decide) rfl rfl rfl (fun a4 _ => ?_)
    refine .cast (A' := [OwnSl 22 1 a4 (([r4] : List (List Int)).length) 1 [.slice a3 r4.length c2], Box pt [.int .i64 t.facts, .slice at_ t.init.length ct, .slice at_2 t.goal.length ct2, .slice at_3 t.ops.length ct3], OwnSl 22 1 aout out.length cout csout]) rfl ?_
    obtain ⟨q303, hF⟩ := hF
    have q304 : out.length + ([r4] : List (List Int)).length = ((out ++ ([r4] : List (List Int)))).length := len_app rfl rfl
    have q305 := RepL.append (RepL.mono (le28) q212) (show RepL h28 ([r4] : List (List Int)) [.slice a3 r4.length c2] from ⟨[.slice a3 r4.length c2], _, rfl, ⟨a3, c2, rfl, q301, q300⟩, rfl⟩)
    refine app (k := 2) (news := [.slice a3 r4.length c2]) (cs' := (csout ++ [.slice a3 r4.length c2])) (nm := ((out ++ ([r4] : List (List Int)))).length) tS35 rfl (by decide) rfl rfl rfl (RepL.len (show RepL h28 ([r4] : List (List Int)) [.slice a3 r4.length c2] from ⟨[.slice a3 r4.length c2], _, rfl, ⟨a3, c2, rfl, q301, q300⟩, rfl⟩)) (srcS (k := 0) rfl) (RepL.one (show RepL h28 ([r4] : List (List Int)) [.slice a3 r4.length c2] from ⟨[.slice a3 r4.length c2], _, rfl, ⟨a3, c2, rfl, q301, q300⟩, rfl⟩)) (room_of q304 q303).1 (room_of q304 q303).2 q304 rfl rfl (fun a5 c3 => ?_)
    refine .cast (A' := [OwnSl 22 1 a4 (([r4] : List (List Int)).length) 1 [.slice a3 r4.length c2], Box pt [.int .i64 t.facts, .slice at_ t.init.length ct, .slice at_2 t.goal.length ct2, .slice at_3 t.ops.length ct3], OwnSl 22 1 a5 ((out ++ ([r4] : List (List Int))).length) c3 (csout ++ [.slice a3 r4.length c2])]) rfl ?_
    refine .v (asg rfl) rfl rfl rfl ?_
    refine .nil ?_
    refine .blkN ?_
    refine .seqN ?_
    refine .region ?_
    refine .v (bi rfl rfl rfl) rfl rfl rfl ?_
    refine .v (mv rfl) rfl rfl rfl ?_
    refine .nil ?_
    refine .sel0 [1, 2] (by decide) rfl ?_
    exact .round (r4, IntKind.i64.wrap (t15 + 1), (out ++ ([r4] : List (List Int))), a3, c2, a5, c3, (csout ++ [.slice a3 r4.length c2]), h28) ⟨hF.1, q300, q301, q305, (FH.le_trans (q213) (le28))⟩ hF.2 (.cons rfl (.cons rfl (.cons rfl (.cons rfl (.cons rfl (.cons rfl (.nil))))))) rfl (FH.le_refl _)
  replace hF := hF.2 q264
  refine .exit ?_
  refine .seqX ?_
  refine .seqX ?_
  refine .blkX ?_
  refine .seqN ?_
  refine .seq ?_
  refine .region ?_
  refine .v (mv rfl) rfl rfl rfl ?_
  refine .v (asg rfl) rfl rfl rfl ?_
  refine .nil ?_
  refine .seqN ?_
  refine .freezeL (k := 1) rfl (fun h29 le29 q307 q306 => ?_)
  refine .cast (A' := [Box pt [.int .i64 t.facts, .slice at_ t.init.length ct, .slice at_2 t.goal.length ct2, .slice at_3 t.ops.length ct3], tru]) rfl ?_
  refine .ret ?_
  refine .res1 rfl (rvT rfl) (fun w' S => ⟨out, (aout, cout), h29, hF, rfl, (FH.le_trans (FH.le_trans (le1) (q213)) (le29)), ⟨(show RSl h29 aout out from ⟨_, q212.mono (le29), q306⟩), (q307)⟩, S.none⟩)

theorem c_srun {h : FH} {w : World} (hs : Sub h w) (t : Task) (at_ : Option Addr) (ct : Nat) (_q1 : RSl h at_ t.init) (_q2 : t.init.length ≤ ct) (at_2 : Option Addr) (ct2 : Nat) (_q3 : RSl h at_2 t.goal) (_q4 : t.goal.length ≤ ct2) (at_3 : Option Addr) (ct3 : Nat) (_q5 : RSl h at_3 t.ops) (_q6 : t.ops.length ≤ ct3) (s_ : List Int) (as_ : Option Addr) (cs_ : Nat) (_q7 : RSl h as_ s_) (_q8 : s_.length ≤ cs_) (plan : List Int) (aplan : Option Addr) (cplan : Nat) (_q9 : RSl h aplan plan) (_q10 : plan.length ≤ cplan) (hp : pre_srun t s_ plan) : Calls Tryz.prog 95 #[.agg #[.int .i64 t.facts, .slice at_ t.init.length ct, .slice at_2 t.goal.length ct2, .slice at_3 t.ops.length ct3], .slice as_ s_.length cs_, .slice aplan plan.length cplan] w fun e w' => ∃ (z : Option Addr × Nat) (h1 : FH), e = .returned (.slice z.1 (sp_srun t s_ plan).length z.2) ∧ FH.le h h1 ∧ (RSl h1 z.1 (sp_srun t s_ plan) ∧ (sp_srun t s_ plan).length ≤ z.2) ∧ SH (Kp.all w h) h1 w' [] :=
  (w_srun hs t at_ ct _q1 _q2 at_2 ct2 _q3 _q4 at_3 ct3 _q5 _q6 s_ as_ cs_ _q7 _q8 plan aplan cplan _q9 _q10 (fun r => r = sp_srun t s_ plan) (ok_srun t s_ plan hp)).mono fun _ _ ⟨r, z, h1, hk, he, hl, hf, hS⟩ => by subst hk; exact ⟨z, h1, he, hl, hf, hS⟩

theorem w_works {h : FH} {w : World} (hs : Sub h w) (t : Task) (at_ : Option Addr) (ct : Nat) (_q1 : RSl h at_ t.init) (_q2 : t.init.length ≤ ct) (at_2 : Option Addr) (ct2 : Nat) (_q3 : RSl h at_2 t.goal) (_q4 : t.goal.length ≤ ct2) (at_3 : Option Addr) (ct3 : Nat) (_q5 : RSl h at_3 t.ops) (_q6 : t.ops.length ≤ ct3) (s_ : List Int) (as_ : Option Addr) (cs_ : Nat) (_q7 : RSl h as_ s_) (_q8 : s_.length ≤ cs_) (plan : List Int) (aplan : Option Addr) (cplan : Nat) (_q9 : RSl h aplan plan) (_q10 : plan.length ≤ cplan) (K : Bool → Prop) (hF : F_works t s_ plan K) : Calls Tryz.prog 68 #[.agg #[.int .i64 t.facts, .slice at_ t.init.length ct, .slice at_2 t.goal.length ct2, .slice at_3 t.ops.length ct3], .slice as_ s_.length cs_, .slice aplan plan.length cplan] w fun e w' => ∃ r : Bool, K r ∧ e = .returned (.bool r) ∧ Below w.heap.size w w' := by
  refine enter (args := [.agg #[.int .i64 t.facts, .slice at_ t.init.length ct, .slice at_2 t.goal.length ct2, .slice at_3 t.ops.length ct3], .slice as_ s_.length cs_, .slice aplan plan.length cplan]) Tryz.func68 rfl Tryz.ntmps68 rfl hs ?_
  refine .seq ?_
  refine .region ?_
  refine bx (vs := [.int .i64 t.facts, .slice at_ t.init.length ct, .slice at_2 t.goal.length ct2, .slice at_3 t.ops.length ct3]) rfl rfl rfl (fun pt => ?_)
  refine .v (asg rfl) rfl rfl rfl ?_
  refine .nil ?_
  refine .seqN ?_
  refine .seq ?_
  refine .region ?_
  refine .v (ldA (cs := [.int .i64 t.facts, .slice at_ t.init.length ct, .slice at_2 t.goal.length ct2, .slice at_3 t.ops.length ct3]) rfl tA25 rfl (cellsB (off := 0) (k := 0) rfl (m := 4) rfl)) rfl rfl rfl ?_
  refine .v (mv rfl) rfl rfl rfl ?_
  refine .v (mv rfl) rfl rfl rfl ?_
  obtain ⟨q11, hF⟩ := hF
  obtain ⟨r2, q12⟩ : ∃ y_ : List (List Int), y_ = sp_srun t s_ plan := ⟨_, rfl⟩
  replace hF := hF r2 q12
  refine clR (α := Option Addr × Nat) (Φ := fun h1 z => RSl h1 z.1 r2 ∧ r2.length ≤ z.2) (V := fun z => .slice z.1 r2.length z.2) Tryz.call95 rfl rfl (fun w S => (by rw [q12]; exact c_srun S.sub t at_ ct _q1 _q2 at_2 ct2 _q3 _q4 at_3 ct3 _q5 _q6 s_ as_ cs_ _q7 _q8 plan aplan cplan _q9 _q10 q11)) rfl (fun z h1 le1 hz => ?_)
  obtain ⟨a, c⟩ := z
  obtain ⟨q13, q14⟩ := hz
  refine .v (asg rfl) rfl rfl rfl ?_
  refine .nil ?_
  refine .seqN ?_
  refine .seq ?_
  refine .open_ (by kernel_rfl) (by kernel_rfl) ?_
  refine .v (mv rfl) rfl rfl rfl ?_
  refine .v (ln rfl tS35.is) rfl rfl rfl ?_
  refine .v (mv rfl) rfl rfl rfl ?_
  refine .v (ln rfl tS22.is) rfl rfl rfl ?_
  refine .v (bi rfl rfl rfl) rfl rfl rfl ?_
  obtain ⟨x, q23⟩ : ∃ y_ : Bool, y_ = (((r2.length : Nat) : Int) == (IntKind.i64.wrap (((plan.length : Nat) : Int) + 1))) := ⟨_, rfl⟩
  replace hF := hF x q23
  refine .v (v := .bool x) (by rw [q23]; exact bi rfl rfl rfl) rfl rfl rfl ?_
  refine .v (mv rfl) rfl rfl rfl ?_
  rcases Bool.eq_false_or_eq_true (x) with q24 | q24
  · replace hF := hF.1 q24
    refine .gv (mv rfl) rfl rfl rfl q24 rfl rfl ?_
    refine .gv (mv rfl) rfl rfl rfl q24 rfl rfl ?_
    refine .gv (ln rfl tS22.is) rfl rfl rfl q24 rfl rfl ?_
    obtain ⟨q25, hF⟩ := hF
    refine .gv (ix rfl rfl tS35 (q13.ne (by decide) (inb_pos q25)) q25) rfl rfl rfl q24 rfl rfl ?_
    obtain ⟨_, ⟨a2, c2, rfl, q26, q27⟩, q28⟩ := q13.elem q25
    refine .gv (ld1 (v := .slice a2 ((gt r2 ((plan.length : Nat) : Int)).length) c2) rfl tO22 (cellH (q28 (by decide) 0 _ rfl))) rfl rfl rfl q24 rfl rfl ?_
    refine .gv (fa rfl tF25_2) rfl rfl rfl q24 rfl rfl ?_
    refine .gv (ld1 rfl tO22 (cellB (off := 2) (k := 0) rfl rfl)) rfl rfl rfl q24 rfl rfl ?_
    obtain ⟨q29, hF⟩ := hF
    obtain ⟨r3, q30⟩ : ∃ y_ : Bool, y_ = sp_contains2 (gt r2 ((plan.length : Nat) : Int)) t.goal := ⟨_, rfl⟩
    replace hF := hF r3 q30
    refine .gc (cl (v := .bool r3) Tryz.call88 rfl rfl (fun w S => (by rw [q30]; exact c_contains2 S.sub (gt r2 ((plan.length : Nat) : Int)) a2 c2 q27 q26 t.goal at_2 ct2 (_q3.mono (le1)) _q4 q29))) rfl rfl rfl q24 rfl rfl ?_
    refine .v (pkT rfl q24 rfl) rfl rfl rfl ?_
    refine .v (asg rfl) rfl rfl rfl ?_
    refine .fin ?_
    refine .seqN ?_
    refine .ret ?_
    refine .res1 rfl (rvT rfl) (fun w' S => ⟨r3, hF, rfl, S.below⟩)
  replace hF := hF.2 q24
  refine .gS rfl rfl rfl q24 rfl rfl ?_
  refine .gS rfl rfl rfl q24 rfl rfl ?_
  refine .gS rfl rfl rfl q24 rfl rfl ?_
  refine .gS rfl rfl rfl q24 rfl rfl ?_
  refine .gS rfl rfl rfl q24 rfl rfl ?_
  refine .gS rfl rfl rfl q24 rfl rfl ?_
  refine .gS rfl rfl rfl q24 rfl rfl ?_
  refine .gS rfl rfl rfl q24 rfl rfl ?_
  refine .v (pkF rfl q24 rfl) rfl rfl rfl ?_
  refine .v (asg rfl) rfl rfl rfl ?_
  refine .fin ?_
  refine .seqN ?_
  refine .ret ?_
  refine .res1 rfl (rvT rfl) (fun w' S => ⟨false, hF, rfl, S.below⟩)

theorem c_works {h : FH} {w : World} (hs : Sub h w) (t : Task) (at_ : Option Addr) (ct : Nat) (_q1 : RSl h at_ t.init) (_q2 : t.init.length ≤ ct) (at_2 : Option Addr) (ct2 : Nat) (_q3 : RSl h at_2 t.goal) (_q4 : t.goal.length ≤ ct2) (at_3 : Option Addr) (ct3 : Nat) (_q5 : RSl h at_3 t.ops) (_q6 : t.ops.length ≤ ct3) (s_ : List Int) (as_ : Option Addr) (cs_ : Nat) (_q7 : RSl h as_ s_) (_q8 : s_.length ≤ cs_) (plan : List Int) (aplan : Option Addr) (cplan : Nat) (_q9 : RSl h aplan plan) (_q10 : plan.length ≤ cplan) (hp : pre_works t s_ plan) : Calls Tryz.prog 68 #[.agg #[.int .i64 t.facts, .slice at_ t.init.length ct, .slice at_2 t.goal.length ct2, .slice at_3 t.ops.length ct3], .slice as_ s_.length cs_, .slice aplan plan.length cplan] w fun e w' => e = .returned (.bool (sp_rworks t s_ plan)) ∧ Below w.heap.size w w' :=
  (w_works hs t at_ ct _q1 _q2 at_2 ct2 _q3 _q4 at_3 ct3 _q5 _q6 s_ as_ cs_ _q7 _q8 plan aplan cplan _q9 _q10 (fun r => r = sp_rworks t s_ plan) (ok_works t s_ plan hp)).mono fun _ _ ⟨_, hk, he, hb⟩ => ⟨by rw [he, hk], hb⟩

theorem w_compare {h : FH} {w : World} (hs : Sub h w) (x : Int) (y : Int) (K : Int → Prop) (hF : F_compare x y K) : Calls Tryz.prog 111 #[.int .i64 x, .int .i64 y] w fun e w' => ∃ r : Int, K r ∧ e = .returned (.int .i64 r) ∧ Below w.heap.size w w' := by
  refine enter (args := [.int .i64 x, .int .i64 y]) Tryz.func111 rfl Tryz.ntmps111 rfl hs ?_
  refine .seq ?_
  refine .region ?_
  refine .v (asg rfl) rfl rfl rfl ?_
  refine .nil ?_
  refine .seqN ?_
  refine .seq ?_
  refine .region ?_
  refine .v (mv rfl) rfl rfl rfl ?_
  obtain ⟨r2, q1⟩ : ∃ y_ : Bool, y_ = sp_isNaN1 x := ⟨_, rfl⟩
  replace hF := hF r2 q1
  refine .c (cl (v := .bool r2) Tryz.call122 rfl rfl (fun w S => (by rw [q1]; exact c_isNaN1 S.sub x ))) rfl rfl rfl ?_
  refine .v (asg rfl) rfl rfl rfl ?_
  refine .nil ?_
  refine .seqN ?_
  refine .seq ?_
  refine .region ?_
  refine .v (mv rfl) rfl rfl rfl ?_
  obtain ⟨r3, q2⟩ : ∃ y_ : Bool, y_ = sp_isNaN1 y := ⟨_, rfl⟩
  replace hF := hF r3 q2
  refine .c (cl (v := .bool r3) Tryz.call122 rfl rfl (fun w S => (by rw [q2]; exact c_isNaN1 S.sub y ))) rfl rfl rfl ?_
  refine .v (asg rfl) rfl rfl rfl ?_
  refine .nil ?_
  refine .seqN ?_
  refine .seq ?_
  refine .seq ?_
  refine .region ?_
  refine .v (mv rfl) rfl rfl rfl ?_
  refine .nil ?_
  refine .seqN ?_
  refine .cond rfl (fun q6 => ?_) (fun q6 => ?_)
  · replace hF := hF.1 q6
    refine .seq ?_
    refine .seq ?_
    refine .region ?_
    refine .v (mv rfl) rfl rfl rfl ?_
    refine .nil ?_
    refine .seqN ?_
    refine .cond rfl (fun q8 => ?_) (fun q8 => ?_)
    · replace hF := hF.1 q8
      refine .seq ?_
      refine .region ?_
      refine .v (asg rfl) rfl rfl rfl ?_
      refine .nil ?_
      refine .seqN ?_
      refine .ret ?_
      refine .seqR ?_
      refine .seqR ?_
      refine .res1 rfl (rvT rfl) (fun w' S => ⟨0, hF, rfl, S.below⟩)
    replace hF := hF.2 q8
    refine .skip ?_
    refine .seqN ?_
    refine .seq ?_
    refine .region ?_
    refine .v (asg rfl) rfl rfl rfl ?_
    refine .nil ?_
    refine .seqN ?_
    refine .ret ?_
    refine .seqR ?_
    refine .res1 rfl (rvT rfl) (fun w' S => ⟨(-1), hF, rfl, S.below⟩)
  replace hF := hF.2 q6
  refine .skip ?_
  refine .seqN ?_
  refine .seq ?_
  refine .seq ?_
  refine .region ?_
  refine .v (mv rfl) rfl rfl rfl ?_
  refine .nil ?_
  refine .seqN ?_
  refine .cond rfl (fun q10 => ?_) (fun q10 => ?_)
  · replace hF := hF.1 q10
    refine .seq ?_
    refine .region ?_
    refine .v (asg rfl) rfl rfl rfl ?_
    refine .nil ?_
    refine .seqN ?_
    refine .ret ?_
    refine .seqR ?_
    refine .res1 rfl (rvT rfl) (fun w' S => ⟨1, hF, rfl, S.below⟩)
  replace hF := hF.2 q10
  refine .skip ?_
  refine .seqN ?_
  refine .seq ?_
  refine .seq ?_
  refine .region ?_
  refine .v (mv rfl) rfl rfl rfl ?_
  refine .v (mv rfl) rfl rfl rfl ?_
  refine .v (bi rfl rfl rfl) rfl rfl rfl ?_
  refine .nil ?_
  refine .seqN ?_
  refine .cond rfl (fun q12 => ?_) (fun q12 => ?_)
  · replace hF := hF.1 q12
    refine .seq ?_
    refine .region ?_
    refine .v (asg rfl) rfl rfl rfl ?_
    refine .nil ?_
    refine .seqN ?_
    refine .ret ?_
    refine .seqR ?_
    refine .res1 rfl (rvT rfl) (fun w' S => ⟨(-1), hF, rfl, S.below⟩)
  replace hF := hF.2 q12
  refine .skip ?_
  refine .seqN ?_
  refine .seq ?_
  refine .seq ?_
  refine .region ?_
  refine .v (mv rfl) rfl rfl rfl ?_
  refine .v (mv rfl) rfl rfl rfl ?_
  refine .v (bi rfl rfl rfl) rfl rfl rfl ?_
  refine .nil ?_
  refine .seqN ?_
  refine .cond rfl (fun q14 => ?_) (fun q14 => ?_)
  · replace hF := hF.1 q14
    refine .seq ?_
    refine .region ?_
    refine .v (asg rfl) rfl rfl rfl ?_
    refine .nil ?_
    refine .seqN ?_
    refine .ret ?_
    refine .seqR ?_
    refine .res1 rfl (rvT rfl) (fun w' S => ⟨1, hF, rfl, S.below⟩)
  replace hF := hF.2 q14
  refine .skip ?_
  refine .seqN ?_
  refine .seq ?_
  refine .region ?_
  refine .v (asg rfl) rfl rfl rfl ?_
  refine .nil ?_
  refine .seqN ?_
  refine .ret ?_
  refine .res1 rfl (rvT rfl) (fun w' S => ⟨0, hF, rfl, S.below⟩)

theorem c_compare {h : FH} {w : World} (hs : Sub h w) (x : Int) (y : Int) : Calls Tryz.prog 111 #[.int .i64 x, .int .i64 y] w fun e w' => e = .returned (.int .i64 (sp_compare x y)) ∧ Below w.heap.size w w' :=
  (w_compare hs x y (fun r => r = sp_compare x y) (ok_compare x y)).mono fun _ _ ⟨_, hk, he, hb⟩ => ⟨by rw [he, hk], hb⟩

end Go.Proofs.YtojoehfldbimpaaGreatDoor.Pl

/- The library's contract on strconv.AppendInt at base 10, laid at this program. No condition. -/
namespace Go.Proofs
open Go.Shelf
def YtojoehfldbimpaaGreatDoor.lays176_ren : Go.Shelf.Ren := ⟨fun | 176 => 85 | 249 => 110 | 288 => 121 | 283 => 144 | 284 => 145 | 285 => 146 | 286 => 147 | 129 => 135 | 317 => 158 | 318 => 159 | 319 => 160 | 320 => 161 | 337 => 164 | 338 => 165 | n => n, fun | 37 => 110 | 2 => 2 | 3 => 3 | 53 => 137 | 4 => 4 | 9 => 9 | 171 => 155 | 0 => 0 | 173 => 157 | 212 => 171 | 51 => 148 | 5 => 5 | 20 => 20 | 213 => 172 | 46 => 131 | 232 => 177 | 233 => 178 | n => n, fun | 17 => 0 | 18 => 1 | 19 => 2 | n => n⟩
theorem YtojoehfldbimpaaGreatDoor.lays176 : Go.Proofs.LaysM.n176 Tryz.prog YtojoehfldbimpaaGreatDoor.lays176_ren := {
  mixed := by kernel_rfl
  f129 := Tryz.func135.trans (congrArg some (by kernel_rfl))
  f176 := Tryz.func85.trans (congrArg some (by kernel_rfl))
  f249 := Tryz.func110.trans (congrArg some (by kernel_rfl))
  f283 := Tryz.func144.trans (congrArg some (by kernel_rfl))
  f284 := Tryz.func145.trans (congrArg some (by kernel_rfl))
  f285 := Tryz.func146.trans (congrArg some (by kernel_rfl))
  f286 := Tryz.func147.trans (congrArg some (by kernel_rfl))
  f288 := Tryz.func121.trans (congrArg some (by kernel_rfl))
  f317 := Tryz.func158.trans (congrArg some (by kernel_rfl))
  f318 := Tryz.func159.trans (congrArg some (by kernel_rfl))
  f319 := Tryz.func160.trans (congrArg some (by kernel_rfl))
  f320 := Tryz.func161.trans (congrArg some (by kernel_rfl))
  f337 := Tryz.func164.trans (congrArg some (by kernel_rfl))
  f338 := Tryz.func165.trans (congrArg some (by kernel_rfl))
  t0 := Tryz.underlying0
  a0 := Tryz.isAgg0
  z0 := Tryz.sizeOf0
  v0 := Tryz.zeroValue0
  t2 := Tryz.underlying2
  a2 := Tryz.isAgg2
  z2 := Tryz.sizeOf2
  v2 := Tryz.zeroValue2
  t3 := Tryz.underlying3
  a3 := Tryz.isAgg3
  z3 := Tryz.sizeOf3
  v3 := Tryz.zeroValue3
  t4 := Tryz.underlying4
  a4 := Tryz.isAgg4
  z4 := Tryz.sizeOf4
  v4 := Tryz.zeroValue4
  t5 := Tryz.underlying5
  a5 := Tryz.isAgg5
  z5 := Tryz.sizeOf5
  v5 := Tryz.zeroValue5
  t9 := Tryz.underlying9
  a9 := Tryz.isAgg9
  z9 := Tryz.sizeOf9
  v9 := Tryz.zeroValue9
  t20 := Tryz.underlying20
  a20 := Tryz.isAgg20
  z20 := Tryz.sizeOf20
  v20 := Tryz.zeroValue20
  t37 := Tryz.underlying110
  a37 := Tryz.isAgg110
  z37 := Tryz.sizeOf110
  v37 := Tryz.zeroValue110
  t46 := Tryz.underlying131
  a46 := Tryz.isAgg131
  z46 := Tryz.sizeOf131
  v46 := Tryz.zeroValue131
  t51 := Tryz.underlying148
  a51 := Tryz.isAgg148
  z51 := Tryz.sizeOf148
  v51 := Tryz.zeroValue148
  t53 := Tryz.underlying137
  a53 := Tryz.isAgg137
  z53 := Tryz.sizeOf137
  v53 := Tryz.zeroValue137
  t171 := Tryz.underlying155
  a171 := Tryz.isAgg155
  z171 := Tryz.sizeOf155
  v171 := Tryz.zeroValue155
  t173 := Tryz.underlying157
  a173 := Tryz.isAgg157
  z173 := Tryz.sizeOf157
  v173 := Tryz.zeroValue157
  t212 := Tryz.underlying171
  a212 := Tryz.isAgg171
  z212 := Tryz.sizeOf171
  v212 := Tryz.zeroValue171
  t213 := Tryz.underlying172
  a213 := Tryz.isAgg172
  z213 := Tryz.sizeOf172
  t232 := Tryz.underlying177
  a232 := Tryz.isAgg177
  z232 := Tryz.sizeOf177
  v232 := Tryz.zeroValue177
  t233 := Tryz.underlying178
  a233 := Tryz.isAgg178
  z233 := Tryz.sizeOf178
  v233 := Tryz.zeroValue178
  g17 := by kernel_rfl
  g18 := by kernel_rfl
  g19 := by kernel_rfl
  i0 := by kernel_rfl
  i2 := by kernel_rfl
  i3 := by kernel_rfl
  i4 := by kernel_rfl
  i5 := by kernel_rfl
  i9 := by kernel_rfl
  i20 := by kernel_rfl
  i37 := by kernel_rfl
  i46 := by kernel_rfl
  i51 := by kernel_rfl
  i53 := by kernel_rfl
  i171 := by kernel_rfl
  i173 := by kernel_rfl
  i212 := by kernel_rfl
  i232 := by kernel_rfl
  i233 := by kernel_rfl
  m17 := by kernel_rfl
  m18 := by kernel_rfl
  m19 := by kernel_rfl }
end Go.Proofs

/- The walks: from what each function asks to what it does; printed from the code. No condition. -/
namespace Go.Proofs.YtojoehfldbimpaaGreatDoor.Pl
open Go Go.RowKit
theorem w_key {h : FH} {w : World} (hs : Sub h w) (ht : TabH Tryz.prog h) (l : List (List Int)) (al2 : Option Addr) (cl2 : Nat) (_q1 : RSl h al2 l) (_q2 : l.length ≤ cl2) (K : (List UInt8) → Prop) (hF : F_key l K) : Calls Tryz.prog 49 #[.slice al2 l.length cl2] w fun e w' => ∃ r : List UInt8, K r ∧ e = .returned (strV r) ∧ Below w.heap.size w w' := by
  refine enter (args := [.slice al2 l.length cl2]) Tryz.func49 rfl Tryz.ntmps49 rfl hs ?_
  refine .seq ?_
  refine .region ?_
  refine .v (asg rfl) rfl rfl rfl ?_
  refine .nil ?_
  refine .seqN ?_
  refine .seq ?_
  refine .region ?_
  refine .v (asg rfl) rfl rfl rfl ?_
  refine .nil ?_
  refine .seqN ?_
  refine .seq ?_
  refine .seq ?_
  refine .region ?_
  refine .v (mv rfl) rfl rfl rfl ?_
  refine .v (ln rfl tS35.is) rfl rfl rfl ?_
  refine .v (mv rfl) rfl rfl rfl ?_
  refine .nil ?_
  refine .seqN ?_
  refine .block ?_
  refine .nilSl 5 1 ?_
  refine .cast (A' := [OwnSl 5 1 none (([] : List UInt8).length) 0 (flL ([] : List UInt8))]) rfl ?_
  obtain ⟨I1, μ1, q2075, q2076⟩ := hF
  refine .loop' (σ := Int × List UInt8 × Option Addr × Nat) (fun z => I1 z.1 z.2.1) (fun z => μ1 z.1 z.2.1) (fun z => [(3, .slice z.2.2.1 z.2.1.length z.2.2.2), (8, .slice al2 l.length cl2), (9, .int .i64 ((l.length : Nat) : Int)), (10, .int .i64 z.1)]) (fun z => [OwnSl 5 1 z.2.2.1 z.2.1.length z.2.2.2 (flL z.2.1)]) (fun _ => h) (0, ([] : List UInt8), none, 0) q2075 (.cons rfl (.cons rfl (.cons rfl (.cons rfl (.nil))))) rfl (FH.le_refl _) ?_
  rintro ⟨t10, b, ab, cb⟩ q2075
  have hF := q2076 t10 b q2075
  show J _ _ _ _ _ [(3, .slice ab b.length cb), (8, .slice al2 l.length cl2), (9, .int .i64 ((l.length : Nat) : Int)), (10, .int .i64 t10)] [OwnSl 5 1 ab b.length cb (flL b)] h
  refine .seq ?_
  refine .region ?_
  refine .v (bi rfl rfl rfl) rfl rfl rfl ?_
  refine .nil ?_
  refine .seqN ?_
  refine .seq ?_
  refine .cond rfl (fun q2079 => ?_) (fun q2079 => ?_)
  · replace hF := hF.1 q2079
    refine .skip ?_
    refine .seqN ?_
    refine .seq ?_
    refine .block ?_
    refine .seq ?_
    refine .region ?_
    obtain ⟨q2354, hF⟩ := hF
    refine .v (ix rfl rfl tS35 (_q1.ne (by decide) (inb_pos q2354)) q2354) rfl rfl rfl ?_
    obtain ⟨_, ⟨a, c, rfl, q2355, q2356⟩, q2357⟩ := _q1.elem q2354
    refine .v (ld1 (v := .slice a ((gt l t10).length) c) rfl tO22 (cellH (q2357 (by decide) 0 _ rfl))) rfl rfl rfl ?_
    refine .v (asg rfl) rfl rfl rfl ?_
    refine .nil ?_
    refine .seqN ?_
    refine .seq ?_
    refine .seq ?_
    refine .region ?_
    refine .v (mv rfl) rfl rfl rfl ?_
    refine .v (ln rfl tS22.is) rfl rfl rfl ?_
    refine .v (mv rfl) rfl rfl rfl ?_
    refine .nil ?_
    refine .seqN ?_
    refine .block ?_
    obtain ⟨I2, μ2, q2465, q2466⟩ := hF
    refine .loop' (σ := Int × List UInt8 × Option Addr × Nat) (fun z => I2 z.1 z.2.1) (fun z => μ2 z.1 z.2.1) (fun z => [(3, .slice z.2.2.1 z.2.1.length z.2.2.2), (8, .slice al2 l.length cl2), (9, .int .i64 ((l.length : Nat) : Int)), (10, .int .i64 t10), (14, .slice a ((gt l t10).length) c), (15, .int .i64 (((gt l t10).length : Nat) : Int)), (16, .int .i64 z.1)]) (fun z => [OwnSl 5 1 z.2.2.1 z.2.1.length z.2.2.2 (flL z.2.1)]) (fun _ => h) (0, b, ab, cb) q2465 (.cons rfl (.cons rfl (.cons rfl (.cons rfl (.cons rfl (.cons rfl (.cons rfl (.nil)))))))) rfl (FH.le_refl _) ?_
    rintro ⟨t16, b3, ab3, cb3⟩ q2465
    have hF := q2466 t16 b3 q2465
    show J _ _ _ _ _ [(3, .slice ab3 b3.length cb3), (8, .slice al2 l.length cl2), (9, .int .i64 ((l.length : Nat) : Int)), (10, .int .i64 t10), (14, .slice a ((gt l t10).length) c), (15, .int .i64 (((gt l t10).length : Nat) : Int)), (16, .int .i64 t16)] [OwnSl 5 1 ab3 b3.length cb3 (flL b3)] h
    refine .seq ?_
    refine .region ?_
    refine .v (bi rfl rfl rfl) rfl rfl rfl ?_
    refine .nil ?_
    refine .seqN ?_
    refine .seq ?_
    refine .cond rfl (fun q2469 => ?_) (fun q2469 => ?_)
    · replace hF := hF.1 q2469
      refine .skip ?_
      refine .seqN ?_
      refine .seq ?_
      refine .block ?_
      refine .seq ?_
      refine .region ?_
      obtain ⟨q2482, hF⟩ := hF
      refine .v (ix rfl rfl tS22 (q2356.ne (by decide) (inb_pos q2482)) q2482) rfl rfl rfl ?_
      refine .v (ld1 (v := .int .i64 (gt (gt l t10) t16)) rfl tO3 (cellH (q2356.elemF q2482 (by decide) 0 _ rfl))) rfl rfl rfl ?_
      refine .v (asg rfl) rfl rfl rfl ?_
      refine .nil ?_
      refine .seqN ?_
      refine .region ?_
      refine .v (mv rfl) rfl rfl rfl ?_
      refine .v (mv rfl) rfl rfl rfl ?_
      obtain ⟨q2483, hF⟩ := hF
      obtain ⟨q2484, hF⟩ := hF
      refine ai2 (bs := b3) YtojoehfldbimpaaGreatDoor.lays176 hs ht Tryz.call85 rfl rfl rfl rfl rfl q2483 q2484 rfl (fun a2 c2 => ?_)
      refine .cast (A' := [OwnSl 5 1 a2 ((b3 ++ Lib.itoa (gt (gt l t10) t16)).length) c2 (flL (b3 ++ Lib.itoa (gt (gt l t10) t16)))]) rfl ?_
      refine bs2 (cs := #[.int .u8 44]) (pv := [(0, .int .u8 44)]) tS110 rfl rfl (by decide) (by decide) rfl rfl rfl (fun a3 _ => ?_)
      refine .cast (A' := [OwnSl 5 1 a3 (([44] : List UInt8).length) 1 (flL ([44] : List UInt8)), OwnSl 5 1 a2 ((b3 ++ Lib.itoa (gt (gt l t10) t16)).length) c2 (flL (b3 ++ Lib.itoa (gt (gt l t10) t16)))]) rfl ?_
      obtain ⟨q2486, hF⟩ := hF
      have q2487 : (b3 ++ Lib.itoa (gt (gt l t10) t16)).length + ([44] : List UInt8).length = (((b3 ++ Lib.itoa (gt (gt l t10) t16)) ++ ([44] : List UInt8))).length := len_app rfl rfl
      refine app (k := 1) (news := flL ([44] : List UInt8)) (cs' := flL ((b3 ++ Lib.itoa (gt (gt l t10) t16)) ++ ([44] : List UInt8))) (nm := (((b3 ++ Lib.itoa (gt (gt l t10) t16)) ++ ([44] : List UInt8))).length) tS110 rfl (by decide) rfl rfl rfl (by rw [flL_len]; rfl) (srcS (k := 0) rfl) (flL_one _) (room_of q2487 q2486).1 (room_of q2487 q2486).2 q2487 (flL_append _ _).symm rfl (fun a4 c3 => ?_)
      refine .cast (A' := [OwnSl 5 1 a3 (([44] : List UInt8).length) 1 (flL ([44] : List UInt8)), OwnSl 5 1 a4 (((b3 ++ Lib.itoa (gt (gt l t10) t16)) ++ ([44] : List UInt8)).length) c3 (flL ((b3 ++ Lib.itoa (gt (gt l t10) t16)) ++ ([44] : List UInt8)))]) rfl ?_
      refine .v (asg rfl) rfl rfl rfl ?_
      refine .nil ?_
      refine .blkN ?_
      refine .seqN ?_
      refine .region ?_
      refine .v (bi rfl rfl rfl) rfl rfl rfl ?_
      refine .v (mv rfl) rfl rfl rfl ?_
      refine .nil ?_
      refine .sel0 [1] (by decide) rfl ?_
      exact .round (IntKind.i64.wrap (t16 + 1), ((b3 ++ Lib.itoa (gt (gt l t10) t16)) ++ ([44] : List UInt8)), a4, c3) hF.1 hF.2 (.cons rfl (.cons rfl (.cons rfl (.cons rfl (.cons rfl (.cons rfl (.cons rfl (.nil)))))))) rfl (FH.le_refl _)
    replace hF := hF.2 q2469
    refine .exit ?_
    refine .seqX ?_
    refine .seqX ?_
    refine .blkX ?_
    refine .seqN ?_
    refine .region ?_
    refine .v (mv rfl) rfl rfl rfl ?_
    refine bs2 (cs := #[.int .u8 59]) (pv := [(0, .int .u8 59)]) tS110 rfl rfl (by decide) (by decide) rfl rfl rfl (fun a5 _ => ?_)
    refine .cast (A' := [OwnSl 5 1 a5 (([59] : List UInt8).length) 1 (flL ([59] : List UInt8)), OwnSl 5 1 ab3 b3.length cb3 (flL b3)]) rfl ?_
    obtain ⟨q2489, hF⟩ := hF
    have q2490 : b3.length + ([59] : List UInt8).length = ((b3 ++ ([59] : List UInt8))).length := len_app rfl rfl
    refine app (k := 1) (news := flL ([59] : List UInt8)) (cs' := flL (b3 ++ ([59] : List UInt8))) (nm := ((b3 ++ ([59] : List UInt8))).length) tS110 rfl (by decide) rfl rfl rfl (by rw [flL_len]; rfl) (srcS (k := 0) rfl) (flL_one _) (room_of q2490 q2489).1 (room_of q2490 q2489).2 q2490 (flL_append _ _).symm rfl (fun a6 c4 => ?_)
    refine .cast (A' := [OwnSl 5 1 a5 (([59] : List UInt8).length) 1 (flL ([59] : List UInt8)), OwnSl 5 1 a6 ((b3 ++ ([59] : List UInt8)).length) c4 (flL (b3 ++ ([59] : List UInt8)))]) rfl ?_
    refine .v (asg rfl) rfl rfl rfl ?_
    refine .nil ?_
    refine .blkN ?_
    refine .seqN ?_
    refine .region ?_
    refine .v (bi rfl rfl rfl) rfl rfl rfl ?_
    refine .v (mv rfl) rfl rfl rfl ?_
    refine .nil ?_
    refine .sel0 [1] (by decide) rfl ?_
    exact .round (IntKind.i64.wrap (t10 + 1), (b3 ++ ([59] : List UInt8)), a6, c4) hF.1 hF.2 (.cons rfl (.cons rfl (.cons rfl (.cons rfl (.nil))))) rfl (FH.le_refl _)
  replace hF := hF.2 q2079
  refine .exit ?_
  refine .seqX ?_
  refine .seqX ?_
  refine .blkX ?_
  refine .seqN ?_
  refine .seq ?_
  refine .region ?_
  refine .v (mv rfl) rfl rfl rfl ?_
  refine .v (cvO (k := 0) Tryz.underlying110 Tryz.underlying5 Tryz.underlying9 rfl rfl) rfl rfl rfl ?_
  refine .v (asg rfl) rfl rfl rfl ?_
  refine .nil ?_
  refine .seqN ?_
  refine .ret ?_
  refine .res1 rfl (rvT rfl) (fun w' S => ⟨b, hF, rfl, S.below⟩)

theorem c_key {h : FH} {w : World} (hs : Sub h w) (ht : TabH Tryz.prog h) (l : List (List Int)) (al2 : Option Addr) (cl2 : Nat) (_q1 : RSl h al2 l) (_q2 : l.length ≤ cl2) (hp : pre_key l) : Calls Tryz.prog 49 #[.slice al2 l.length cl2] w fun e w' => e = .returned (strV (sp_key l)) ∧ Below w.heap.size w w' :=
  (w_key hs ht l al2 cl2 _q1 _q2 (fun r => r = sp_key l) (ok_key l hp)).mono fun _ _ ⟨_, hk, he, hb⟩ => ⟨by rw [he, hk], hb⟩

set_option maxHeartbeats 8000000 in
theorem w_scompare {h : FH} {w : World} (hs : Sub h w) (s1 : List Int) (as1 : Option Addr) (cs1 : Nat) (_q1 : RSl h as1 s1) (_q2 : s1.length ≤ cs1) (s2 : List Int) (as2 : Option Addr) (cs2 : Nat) (_q3 : RSl h as2 s2) (_q4 : s2.length ≤ cs2) (K : Int → Prop) (hF : F_scompare s1 s2 K) : Calls Tryz.prog 92 #[.slice as1 s1.length cs1, .slice as2 s2.length cs2] w fun e w' => ∃ r : Int, K r ∧ e = .returned (.int .i64 r) ∧ Below w.heap.size w w' := by
  refine enter (args := [.slice as1 s1.length cs1, .slice as2 s2.length cs2]) Tryz.func92 rfl Tryz.ntmps92 rfl hs ?_
  refine .seq ?_
  refine .region ?_
  refine .v (asg rfl) rfl rfl rfl ?_
  refine .nil ?_
  refine .seqN ?_
  refine .seq ?_
  refine .seq ?_
  refine .region ?_
  refine .v (mv rfl) rfl rfl rfl ?_
  refine .v (ln rfl tS22.is) rfl rfl rfl ?_
  refine .v (mv rfl) rfl rfl rfl ?_
  refine .nil ?_
  refine .seqN ?_
  refine .block ?_
  obtain ⟨I1, μ1, q112, q113⟩ := hF
  refine .loop' (σ := Int) (fun z => I1 z) (fun z => μ1 z) (fun z => [(0, .slice as1 s1.length cs1), (1, .slice as2 s2.length cs2), (9, .slice as1 s1.length cs1), (10, .int .i64 ((s1.length : Nat) : Int)), (11, .int .i64 z)]) (fun _ => []) (fun _ => h) 0 q112 (.cons rfl (.cons rfl (.cons rfl (.cons rfl (.cons rfl (.nil)))))) rfl (FH.le_refl _) ?_
  rintro t11 q112
  have hF := q113 t11 q112
  show J _ _ _ _ _ [(0, .slice as1 s1.length cs1), (1, .slice as2 s2.length cs2), (9, .slice as1 s1.length cs1), (10, .int .i64 ((s1.length : Nat) : Int)), (11, .int .i64 t11)] [] h
  refine .seq ?_
  refine .region ?_
  refine .v (bi rfl rfl rfl) rfl rfl rfl ?_
  refine .nil ?_
  refine .seqN ?_
  refine .seq ?_
  refine .cond rfl (fun q116 => ?_) (fun q116 => ?_)
  · replace hF := hF.1 q116
    refine .skip ?_
    refine .seqN ?_
    refine .seq ?_
    refine .block ?_
    refine .seq ?_
    refine .region ?_
    refine .v (mv rfl) rfl rfl rfl ?_
    obtain ⟨q129, hF⟩ := hF
    refine .v (ix rfl rfl tS22 (_q1.ne (by decide) (inb_pos q129)) q129) rfl rfl rfl ?_
    refine .v (ld1 (v := .int .i64 (gt s1 t11)) rfl tO3 (cellH (_q1.elemF q129 (by decide) 0 _ rfl))) rfl rfl rfl ?_
    refine .v (asg rfl) rfl rfl rfl ?_
    refine .v (asg rfl) rfl rfl rfl ?_
    refine .nil ?_
    refine .seqN ?_
    refine .seq ?_
    refine .seq ?_
    refine .region ?_
    refine .v (mv rfl) rfl rfl rfl ?_
    refine .v (mv rfl) rfl rfl rfl ?_
    refine .v (ln rfl tS22.is) rfl rfl rfl ?_
    refine .v (bi rfl rfl rfl) rfl rfl rfl ?_
    refine .nil ?_
    refine .seqN ?_
    refine .cond rfl (fun q131 => ?_) (fun q131 => ?_)
    · replace hF := hF.1 q131
      refine .seq ?_
      refine .region ?_
      refine .v (asg rfl) rfl rfl rfl ?_
      refine .nil ?_
      refine .seqN ?_
      refine .ret ?_
      refine .seqR ?_
      refine .blkR ?_
      refine .seqR ?_
      refine .seqR ?_
      refine .blkR ?_
      refine .seqR ?_
      refine .res1 rfl (rvT rfl) (fun w' S => ⟨1, hF, rfl, S.below⟩)
    replace hF := hF.2 q131
    refine .skip ?_
    refine .seqN ?_
    refine .seq ?_
    refine .region ?_
    refine .v (mv rfl) rfl rfl rfl ?_
    refine .v (mv rfl) rfl rfl rfl ?_
    obtain ⟨q132, hF⟩ := hF
    refine .v (ix rfl rfl tS22 (_q3.ne (by decide) (inb_pos q132)) q132) rfl rfl rfl ?_
    refine .v (ld1 (v := .int .i64 (gt s2 t11)) rfl tO3 (cellH (_q3.elemF q132 (by decide) 0 _ rfl))) rfl rfl rfl ?_
    refine .v (asg rfl) rfl rfl rfl ?_
    refine .nil ?_
    refine .seqN ?_
    refine .seq ?_
    refine .region ?_
    refine .v (mv rfl) rfl rfl rfl ?_
    refine .v (mv rfl) rfl rfl rfl ?_
    obtain ⟨r2, q133⟩ : ∃ y_ : Int, y_ = sp_compare (gt s1 t11) (gt s2 t11) := ⟨_, rfl⟩
    replace hF := hF r2 q133
    refine .c (cl (v := .int .i64 r2) Tryz.call111 rfl rfl (fun w S => (by rw [q133]; exact c_compare S.sub (gt s1 t11) (gt s2 t11) ))) rfl rfl rfl ?_
    refine .v (asg rfl) rfl rfl rfl ?_
    refine .nil ?_
    refine .seqN ?_
    refine .seq ?_
    refine .region ?_
    refine .v (mv rfl) rfl rfl rfl ?_
    refine .v (bi rfl rfl rfl) rfl rfl rfl ?_
    refine .nil ?_
    refine .seqN ?_
    refine .cond rfl (fun q134 => ?_) (fun q134 => ?_)
    · replace hF := hF.1 q134
      refine .seq ?_
      refine .region ?_
      refine .v (mv rfl) rfl rfl rfl ?_
      refine .v (asg rfl) rfl rfl rfl ?_
      refine .nil ?_
      refine .seqN ?_
      refine .ret ?_
      refine .blkR ?_
      refine .seqR ?_
      refine .seqR ?_
      refine .blkR ?_
      refine .seqR ?_
      refine .res1 rfl (rvT rfl) (fun w' S => ⟨r2, hF, rfl, S.below⟩)
    replace hF := hF.2 q134
    refine .skip ?_
    refine .blkN ?_
    refine .seqN ?_
    refine .region ?_
    refine .v (bi rfl rfl rfl) rfl rfl rfl ?_
    refine .v (mv rfl) rfl rfl rfl ?_
    refine .nil ?_
    exact .round (IntKind.i64.wrap (t11 + 1)) hF.1 hF.2 (.cons rfl (.cons rfl (.cons rfl (.cons rfl (.cons rfl (.nil)))))) rfl (FH.le_refl _)
  replace hF := hF.2 q116
  refine .exit ?_
  refine .seqX ?_
  refine .seqX ?_
  refine .blkX ?_
  refine .seqN ?_
  refine .seq ?_
  refine .seq ?_
  refine .region ?_
  refine .v (mv rfl) rfl rfl rfl ?_
  refine .v (ln rfl tS22.is) rfl rfl rfl ?_
  refine .v (mv rfl) rfl rfl rfl ?_
  refine .v (ln rfl tS22.is) rfl rfl rfl ?_
  refine .v (bi rfl rfl rfl) rfl rfl rfl ?_
  refine .nil ?_
  refine .seqN ?_
  refine .cond rfl (fun q136 => ?_) (fun q136 => ?_)
  · replace hF := hF.1 q136
    refine .seq ?_
    refine .region ?_
    refine .v (asg rfl) rfl rfl rfl ?_
    refine .nil ?_
    refine .seqN ?_
    refine .ret ?_
    refine .seqR ?_
    refine .res1 rfl (rvT rfl) (fun w' S => ⟨(-1), hF, rfl, S.below⟩)
  replace hF := hF.2 q136
  refine .skip ?_
  refine .seqN ?_
  refine .seq ?_
  refine .region ?_
  refine .v (asg rfl) rfl rfl rfl ?_
  refine .nil ?_
  refine .seqN ?_
  refine .ret ?_
  refine .res1 rfl (rvT rfl) (fun w' S => ⟨0, hF, rfl, S.below⟩)

theorem c_scompare {h : FH} {w : World} (hs : Sub h w) (s1 : List Int) (as1 : Option Addr) (cs1 : Nat) (_q1 : RSl h as1 s1) (_q2 : s1.length ≤ cs1) (s2 : List Int) (as2 : Option Addr) (cs2 : Nat) (_q3 : RSl h as2 s2) (_q4 : s2.length ≤ cs2) (hp : pre_scompare s1 s2) : Calls Tryz.prog 92 #[.slice as1 s1.length cs1, .slice as2 s2.length cs2] w fun e w' => e = .returned (.int .i64 (sp_scompare s1 s2)) ∧ Below w.heap.size w w' :=
  (w_scompare hs s1 as1 cs1 _q1 _q2 s2 as2 cs2 _q3 _q4 (fun r => r = sp_scompare s1 s2) (ok_scompare s1 s2 hp)).mono fun _ _ ⟨_, hk, he, hb⟩ => ⟨by rw [he, hk], hb⟩

theorem w_sequal {h : FH} {w : World} (hs : Sub h w) (s1 : List Int) (as1 : Option Addr) (cs1 : Nat) (_q1 : RSl h as1 s1) (_q2 : s1.length ≤ cs1) (s2 : List Int) (as2 : Option Addr) (cs2 : Nat) (_q3 : RSl h as2 s2) (_q4 : s2.length ≤ cs2) (K : Bool → Prop) (hF : F_sequal s1 s2 K) : Calls Tryz.prog 109 #[.slice as1 s1.length cs1, .slice as2 s2.length cs2] w fun e w' => ∃ r : Bool, K r ∧ e = .returned (.bool r) ∧ Below w.heap.size w w' := by
  refine enter (args := [.slice as1 s1.length cs1, .slice as2 s2.length cs2]) Tryz.func109 rfl Tryz.ntmps109 rfl hs ?_
  refine .seq ?_
  refine .region ?_
  refine .v (asg rfl) rfl rfl rfl ?_
  refine .nil ?_
  refine .seqN ?_
  refine .seq ?_
  refine .seq ?_
  refine .region ?_
  refine .v (mv rfl) rfl rfl rfl ?_
  refine .v (ln rfl tS22.is) rfl rfl rfl ?_
  refine .v (mv rfl) rfl rfl rfl ?_
  refine .v (ln rfl tS22.is) rfl rfl rfl ?_
  refine .v (bi rfl rfl rfl) rfl rfl rfl ?_
  refine .nil ?_
  refine .seqN ?_
  refine .cond rfl (fun q6 => ?_) (fun q6 => ?_)
  · replace hF := hF.1 q6
    refine .seq ?_
    refine .region ?_
    refine .v (asg rfl) rfl rfl rfl ?_
    refine .nil ?_
    refine .seqN ?_
    refine .ret ?_
    refine .seqR ?_
    refine .res1 rfl (rvT rfl) (fun w' S => ⟨false, hF, rfl, S.below⟩)
  replace hF := hF.2 q6
  refine .skip ?_
  refine .seqN ?_
  refine .seq ?_
  refine .seq ?_
  refine .region ?_
  refine .v (mv rfl) rfl rfl rfl ?_
  refine .v (ln rfl tS22.is) rfl rfl rfl ?_
  refine .v (mv rfl) rfl rfl rfl ?_
  refine .nil ?_
  refine .seqN ?_
  refine .block ?_
  obtain ⟨I1, μ1, q69, q70⟩ := hF
  refine .loop' (σ := Int) (fun z => I1 z) (fun z => μ1 z) (fun z => [(0, .slice as1 s1.length cs1), (1, .slice as2 s2.length cs2), (12, .int .i64 ((s1.length : Nat) : Int)), (13, .int .i64 z)]) (fun _ => []) (fun _ => h) 0 q69 (.cons rfl (.cons rfl (.cons rfl (.cons rfl (.nil))))) rfl (FH.le_refl _) ?_
  rintro t13 q69
  have hF := q70 t13 q69
  show J _ _ _ _ _ [(0, .slice as1 s1.length cs1), (1, .slice as2 s2.length cs2), (12, .int .i64 ((s1.length : Nat) : Int)), (13, .int .i64 t13)] [] h
  refine .seq ?_
  refine .region ?_
  refine .v (bi rfl rfl rfl) rfl rfl rfl ?_
  refine .nil ?_
  refine .seqN ?_
  refine .seq ?_
  refine .cond rfl (fun q73 => ?_) (fun q73 => ?_)
  · replace hF := hF.1 q73
    refine .skip ?_
    refine .seqN ?_
    refine .seq ?_
    refine .block ?_
    refine .seq ?_
    refine .region ?_
    refine .v (mv rfl) rfl rfl rfl ?_
    refine .v (asg rfl) rfl rfl rfl ?_
    refine .nil ?_
    refine .seqN ?_
    refine .seq ?_
    refine .open_ (by kernel_rfl) (by kernel_rfl) ?_
    refine .v (mv rfl) rfl rfl rfl ?_
    refine .v (mv rfl) rfl rfl rfl ?_
    obtain ⟨q80, hF⟩ := hF
    refine .v (ix rfl rfl tS22 (_q1.ne (by decide) (inb_pos q80)) q80) rfl rfl rfl ?_
    refine .v (ld1 (v := .int .i64 (gt s1 t13)) rfl tO3 (cellH (_q1.elemF q80 (by decide) 0 _ rfl))) rfl rfl rfl ?_
    refine .v (mv rfl) rfl rfl rfl ?_
    refine .v (mv rfl) rfl rfl rfl ?_
    obtain ⟨q81, hF⟩ := hF
    refine .v (ix rfl rfl tS22 (_q3.ne (by decide) (inb_pos q81)) q81) rfl rfl rfl ?_
    refine .v (ld1 (v := .int .i64 (gt s2 t13)) rfl tO3 (cellH (_q3.elemF q81 (by decide) 0 _ rfl))) rfl rfl rfl ?_
    refine .v (bi rfl rfl rfl) rfl rfl rfl ?_
    refine .fin ?_
    refine .seqN ?_
    refine .cond rfl (fun q82 => ?_) (fun q82 => ?_)
    · replace hF := hF.1 q82
      refine .seq ?_
      refine .region ?_
      refine .v (asg rfl) rfl rfl rfl ?_
      refine .nil ?_
      refine .seqN ?_
      refine .ret ?_
      refine .blkR ?_
      refine .seqR ?_
      refine .seqR ?_
      refine .blkR ?_
      refine .seqR ?_
      refine .res1 rfl (rvT rfl) (fun w' S => ⟨false, hF, rfl, S.below⟩)
    replace hF := hF.2 q82
    refine .skip ?_
    refine .blkN ?_
    refine .seqN ?_
    refine .region ?_
    refine .v (bi rfl rfl rfl) rfl rfl rfl ?_
    refine .v (mv rfl) rfl rfl rfl ?_
    refine .nil ?_
    exact .round (IntKind.i64.wrap (t13 + 1)) hF.1 hF.2 (.cons rfl (.cons rfl (.cons rfl (.cons rfl (.nil))))) rfl (FH.le_refl _)
  replace hF := hF.2 q73
  refine .exit ?_
  refine .seqX ?_
  refine .seqX ?_
  refine .blkX ?_
  refine .seqN ?_
  refine .seq ?_
  refine .region ?_
  refine .v (asg rfl) rfl rfl rfl ?_
  refine .nil ?_
  refine .seqN ?_
  refine .ret ?_
  refine .res1 rfl (rvT rfl) (fun w' S => ⟨true, hF, rfl, S.below⟩)

theorem c_sequal {h : FH} {w : World} (hs : Sub h w) (s1 : List Int) (as1 : Option Addr) (cs1 : Nat) (_q1 : RSl h as1 s1) (_q2 : s1.length ≤ cs1) (s2 : List Int) (as2 : Option Addr) (cs2 : Nat) (_q3 : RSl h as2 s2) (_q4 : s2.length ≤ cs2) (hp : pre_sequal s1 s2) : Calls Tryz.prog 109 #[.slice as1 s1.length cs1, .slice as2 s2.length cs2] w fun e w' => e = .returned (.bool (sp_sequal s1 s2)) ∧ Below w.heap.size w w' :=
  (w_sequal hs s1 as1 cs1 _q1 _q2 s2 as2 cs2 _q3 _q4 (fun r => r = sp_sequal s1 s2) (ok_sequal s1 s2 hp)).mono fun _ _ ⟨_, hk, he, hb⟩ => ⟨by rw [he, hk], hb⟩

theorem w_indexR {h : FH} {w : World} (hs : Sub h w) (s_ : List (List Int)) (as_ : Option Addr) (cs_ : Nat) (_q1 : RSl h as_ s_) (_q2 : s_.length ≤ cs_) (pf : (List Int) → Bool) (Df : (List Int) → Prop) (ff : FuncId) (firstf capsf : Array Value) (hff : ∀ args w, (callFunc ff args).run Tryz.prog w = .ok (.enter ff args) w) (hpf : ∀ (x : List Int) (a : Option Addr) (c : Nat), RSl h a x → x.length ≤ c → ∀ (w' : World), Df x → Sub h w' → Calls Tryz.prog ff (firstf.toList ++ [(.slice a x.length c : Value)] ++ capsf.toList).toArray w' fun e w'' => e = .returned (.bool (pf x)) ∧ Below w'.heap.size w' w'') (K : Int → Prop) (hF : F_indexR s_ pf Df K) : Calls Tryz.prog 94 #[.slice as_ s_.length cs_, .func (.func ff) firstf capsf] w fun e w' => ∃ r : Int, K r ∧ e = .returned (.int .i64 r) ∧ Below w.heap.size w w' := by
  refine enter (args := [.slice as_ s_.length cs_, .func (.func ff) firstf capsf]) Tryz.func94 rfl Tryz.ntmps94 rfl hs ?_
  refine .seq ?_
  refine .region ?_
  refine .v (asg rfl) rfl rfl rfl ?_
  refine .nil ?_
  refine .seqN ?_
  refine .seq ?_
  refine .seq ?_
  refine .region ?_
  refine .v (mv rfl) rfl rfl rfl ?_
  refine .v (ln rfl tS35.is) rfl rfl rfl ?_
  refine .v (mv rfl) rfl rfl rfl ?_
  refine .nil ?_
  refine .seqN ?_
  refine .block ?_
  obtain ⟨I1, μ1, q125, q126⟩ := hF
  refine .loop' (σ := Int) (fun z => I1 z) (fun z => μ1 z) (fun z => [(0, .slice as_ s_.length cs_), (1, .func (.func ff) firstf capsf), (7, .int .i64 ((s_.length : Nat) : Int)), (8, .int .i64 z)]) (fun _ => []) (fun _ => h) 0 q125 (.cons rfl (.cons rfl (.cons rfl (.cons rfl (.nil))))) rfl (FH.le_refl _) ?_
  rintro t8 q125
  have hF := q126 t8 q125
  show J _ _ _ _ _ [(0, .slice as_ s_.length cs_), (1, .func (.func ff) firstf capsf), (7, .int .i64 ((s_.length : Nat) : Int)), (8, .int .i64 t8)] [] h
  refine .seq ?_
  refine .region ?_
  refine .v (bi rfl rfl rfl) rfl rfl rfl ?_
  refine .nil ?_
  refine .seqN ?_
  refine .seq ?_
  refine .cond rfl (fun q129 => ?_) (fun q129 => ?_)
  · replace hF := hF.1 q129
    refine .skip ?_
    refine .seqN ?_
    refine .seq ?_
    refine .block ?_
    refine .seq ?_
    refine .region ?_
    refine .v (mv rfl) rfl rfl rfl ?_
    refine .v (asg rfl) rfl rfl rfl ?_
    refine .nil ?_
    refine .seqN ?_
    refine .seq ?_
    refine .region ?_
    refine .v (mv rfl) rfl rfl rfl ?_
    refine .v (mv rfl) rfl rfl rfl ?_
    refine .v (mv rfl) rfl rfl rfl ?_
    obtain ⟨q144, hF⟩ := hF
    refine .v (ix rfl rfl tS35 (_q1.ne (by decide) (inb_pos q144)) q144) rfl rfl rfl ?_
    obtain ⟨_, ⟨a, c, rfl, q145, q146⟩, q147⟩ := _q1.elem q144
    refine .v (ld1 (v := .slice a ((gt s_ t8).length) c) rfl tO22 (cellH (q147 (by decide) 0 _ rfl))) rfl rfl rfl ?_
    obtain ⟨q148, hF⟩ := hF
    obtain ⟨r2, q149⟩ : ∃ y_ : Bool, y_ = pf (gt s_ t8) := ⟨_, rfl⟩
    replace hF := hF r2 q149
    refine .c (cl (v := .bool r2) hff rfl rfl (fun w S => (by rw [q149]; exact hpf (gt s_ t8) a c q146 q145 w q148 (S.sub.anti (FH.le_refl _))))) rfl rfl rfl ?_
    refine .nil ?_
    refine .seqN ?_
    refine .cond rfl (fun q150 => ?_) (fun q150 => ?_)
    · replace hF := hF.1 q150
      refine .seq ?_
      refine .region ?_
      refine .v (mv rfl) rfl rfl rfl ?_
      refine .v (asg rfl) rfl rfl rfl ?_
      refine .nil ?_
      refine .seqN ?_
      refine .ret ?_
      refine .blkR ?_
      refine .seqR ?_
      refine .seqR ?_
      refine .blkR ?_
      refine .seqR ?_
      refine .res1 rfl (rvT rfl) (fun w' S => ⟨t8, hF, rfl, S.below⟩)
    replace hF := hF.2 q150
    refine .skip ?_
    refine .blkN ?_
    refine .seqN ?_
    refine .region ?_
    refine .v (bi rfl rfl rfl) rfl rfl rfl ?_
    refine .v (mv rfl) rfl rfl rfl ?_
    refine .nil ?_
    exact .round (IntKind.i64.wrap (t8 + 1)) hF.1 hF.2 (.cons rfl (.cons rfl (.cons rfl (.cons rfl (.nil))))) rfl (FH.le_refl _)
  replace hF := hF.2 q129
  refine .exit ?_
  refine .seqX ?_
  refine .seqX ?_
  refine .blkX ?_
  refine .seqN ?_
  refine .seq ?_
  refine .region ?_
  refine .v (asg rfl) rfl rfl rfl ?_
  refine .nil ?_
  refine .seqN ?_
  refine .ret ?_
  refine .res1 rfl (rvT rfl) (fun w' S => ⟨(-1), hF, rfl, S.below⟩)

theorem c_indexR {h : FH} {w : World} (hs : Sub h w) (s_ : List (List Int)) (as_ : Option Addr) (cs_ : Nat) (_q1 : RSl h as_ s_) (_q2 : s_.length ≤ cs_) (pf : (List Int) → Bool) (Df : (List Int) → Prop) (ff : FuncId) (firstf capsf : Array Value) (hff : ∀ args w, (callFunc ff args).run Tryz.prog w = .ok (.enter ff args) w) (hpf : ∀ (x : List Int) (a : Option Addr) (c : Nat), RSl h a x → x.length ≤ c → ∀ (w' : World), Df x → Sub h w' → Calls Tryz.prog ff (firstf.toList ++ [(.slice a x.length c : Value)] ++ capsf.toList).toArray w' fun e w'' => e = .returned (.bool (pf x)) ∧ Below w'.heap.size w' w'') (hp : pre_any s_ pf Df) : Calls Tryz.prog 94 #[.slice as_ s_.length cs_, .func (.func ff) firstf capsf] w fun e w' => e = .returned (.int .i64 (sp_indexF s_ pf Df)) ∧ Below w.heap.size w w' :=
  (w_indexR hs s_ as_ cs_ _q1 _q2 pf Df ff firstf capsf hff hpf (fun r => r = sp_indexF s_ pf Df) (ok_indexR s_ pf Df hp)).mono fun _ _ ⟨_, hk, he, hb⟩ => ⟨by rw [he, hk], hb⟩

theorem w_containsR {h : FH} {w : World} (hs : Sub h w) (s_ : List (List Int)) (as_ : Option Addr) (cs_ : Nat) (_q1 : RSl h as_ s_) (_q2 : s_.length ≤ cs_) (pf : (List Int) → Bool) (Df : (List Int) → Prop) (ff : FuncId) (firstf capsf : Array Value) (hff : ∀ args w, (callFunc ff args).run Tryz.prog w = .ok (.enter ff args) w) (hpf : ∀ (x : List Int) (a : Option Addr) (c : Nat), RSl h a x → x.length ≤ c → ∀ (w' : World), Df x → Sub h w' → Calls Tryz.prog ff (firstf.toList ++ [(.slice a x.length c : Value)] ++ capsf.toList).toArray w' fun e w'' => e = .returned (.bool (pf x)) ∧ Below w'.heap.size w' w'') (K : Bool → Prop) (hF : F_containsR s_ pf Df K) : Calls Tryz.prog 66 #[.slice as_ s_.length cs_, .func (.func ff) firstf capsf] w fun e w' => ∃ r : Bool, K r ∧ e = .returned (.bool r) ∧ Below w.heap.size w w' := by
  refine enter (args := [.slice as_ s_.length cs_, .func (.func ff) firstf capsf]) Tryz.func66 rfl Tryz.ntmps66 rfl hs ?_
  refine .seq ?_
  refine .region ?_
  refine .v (asg rfl) rfl rfl rfl ?_
  refine .nil ?_
  refine .seqN ?_
  refine .seq ?_
  refine .region ?_
  refine .v (mv rfl) rfl rfl rfl ?_
  refine .v (mv rfl) rfl rfl rfl ?_
  obtain ⟨q3, hF⟩ := hF
  obtain ⟨r2, q4⟩ : ∃ y_ : Int, y_ = sp_indexF s_ pf Df := ⟨_, rfl⟩
  replace hF := hF r2 q4
  refine .c (cl (v := .int .i64 r2) Tryz.call94 rfl rfl (fun w S => (by rw [q4]; exact c_indexR S.sub s_ as_ cs_ _q1 _q2 pf Df ff firstf capsf hff hpf q3))) rfl rfl rfl ?_
  refine .v (bi rfl rfl rfl) rfl rfl rfl ?_
  refine .v (asg rfl) rfl rfl rfl ?_
  refine .nil ?_
  refine .seqN ?_
  refine .ret ?_
  refine .res1 rfl (rvT rfl) (fun w' S => ⟨decide (0 ≤ r2), hF, rfl, S.below⟩)

theorem c_containsR {h : FH} {w : World} (hs : Sub h w) (s_ : List (List Int)) (as_ : Option Addr) (cs_ : Nat) (_q1 : RSl h as_ s_) (_q2 : s_.length ≤ cs_) (pf : (List Int) → Bool) (Df : (List Int) → Prop) (ff : FuncId) (firstf capsf : Array Value) (hff : ∀ args w, (callFunc ff args).run Tryz.prog w = .ok (.enter ff args) w) (hpf : ∀ (x : List Int) (a : Option Addr) (c : Nat), RSl h a x → x.length ≤ c → ∀ (w' : World), Df x → Sub h w' → Calls Tryz.prog ff (firstf.toList ++ [(.slice a x.length c : Value)] ++ capsf.toList).toArray w' fun e w'' => e = .returned (.bool (pf x)) ∧ Below w'.heap.size w' w'') (hp : pre_any s_ pf Df) : Calls Tryz.prog 66 #[.slice as_ s_.length cs_, .func (.func ff) firstf capsf] w fun e w' => e = .returned (.bool (sp_any s_ pf Df)) ∧ Below w.heap.size w w' :=
  (w_containsR hs s_ as_ cs_ _q1 _q2 pf Df ff firstf capsf hff hpf (fun r => r = sp_any s_ pf Df) (ok_containsR s_ pf Df hp)).mono fun _ _ ⟨_, hk, he, hb⟩ => ⟨by rw [he, hk], hb⟩

theorem w_reverse {h : FH} {w : World} (hs : Sub h w) (s_ : List Int) (as_ : Option Addr) (cs_ : Nat) {gX : FH} (ownX : OwnSl 3 1 as_ s_.length cs_ (flL s_) gX) (subX : Sub gX w) (disX : Disj h gX) (K : (List Int) → Prop) (hF : F_reverse s_ K) : Calls Tryz.prog 86 #[.slice as_ s_.length cs_] w fun e w' => ∃ r : List Int, K r ∧ e = .returned (.tuple #[]) ∧ SH (Kp.ex w h gX) h w' [OwnSl 3 1 as_ s_.length cs_ (flL r)] := by
  refine enterX (X := OwnSl 3 1 as_ s_.length cs_ (flL s_)) (args := [.slice as_ s_.length cs_]) Tryz.func86 rfl Tryz.ntmps86 rfl hs subX disX ownX ?_
  refine .seq ?_
  refine .region ?_
  refine .v (mv rfl) rfl rfl rfl ?_
  refine .v (ln rfl tS22.is) rfl rfl rfl ?_
  refine .v (bi rfl rfl rfl) rfl rfl rfl ?_
  refine .v (asg rfl) rfl rfl rfl ?_
  refine .v (asg rfl) rfl rfl rfl ?_
  refine .nil ?_
  refine .seqN ?_
  refine .block ?_
  obtain ⟨I1, μ1, q52, q53⟩ := hF
  refine .loop' (σ := Int × Int × List Int) (fun z => I1 z.1 z.2.1 z.2.2 ∧ z.2.2.length = s_.length) (fun z => μ1 z.1 z.2.1 z.2.2) (fun z => [(0, .slice as_ s_.length cs_), (2, .int .i64 z.1), (3, .int .i64 z.2.1)]) (fun z => [OwnSl 3 1 as_ s_.length cs_ (flL z.2.2)]) (fun _ => h) (0, IntKind.i64.wrap (((s_.length : Nat) : Int) - 1), s_) ⟨q52, rfl⟩ (.cons rfl (.cons rfl (.cons rfl (.nil)))) rfl (FH.le_refl _) ?_
  rintro ⟨i, j, s_2⟩ ⟨q52, q27⟩
  have hF := q53 i j s_2 q52
  show J _ _ _ _ _ [(0, .slice as_ s_.length cs_), (2, .int .i64 i), (3, .int .i64 j)] [OwnSl 3 1 as_ s_.length cs_ (flL s_2)] h
  refine .seq ?_
  refine .seq ?_
  refine .region ?_
  refine .v (mv rfl) rfl rfl rfl ?_
  refine .v (mv rfl) rfl rfl rfl ?_
  refine .v (bi rfl rfl rfl) rfl rfl rfl ?_
  refine .nil ?_
  refine .seqN ?_
  refine .cond rfl (fun q55 => ?_) (fun q55 => ?_)
  · replace hF := hF.1 q55
    refine .skip ?_
    refine .seqN ?_
    refine .seq ?_
    refine .block ?_
    obtain ⟨q70, hF⟩ := hF
    obtain ⟨q71, hF⟩ := hF
    refine .openA (s0 := [(0, .slice as_ s_.length cs_), (2, .int .i64 i), (3, .int .i64 j)]) [0, 1, 2, 3, 4, 5, 6, 7, 8, 9, 10, 11, 12] [(0, .slice as_ s_.length cs_), (1, .int .i64 i), (2, .slice as_ s_.length cs_), (3, .int .i64 j), (4, .slice as_ s_.length cs_), (5, .int .i64 j), (6, .pointer (some (ead as_ (j.toNat * 1)))), (7, .int .i64 (gt s_2 j)), (8, .slice as_ s_.length cs_), (9, .int .i64 i), (10, .pointer (some (ead as_ (i.toNat * 1)))), (11, .int .i64 (gt s_2 i)), (12, .pointer (some (ead as_ (i.toNat * 1))))] (by kernel_rfl) (.cons rfl (.cons rfl (.cons rfl (.nil)))) [0, 2, 3] [] rfl (by kernel_rfl) ?_
    refine .step [13] 13 rfl (by kernel_rfl) (by kernel_rfl) (.v [] rfl rfl rfl rfl rfl rfl (fun _ => mv rfl) (.v [] rfl rfl rfl rfl rfl rfl (fun _ => mv rfl) (.v [] rfl rfl rfl rfl rfl rfl (fun _ => mv rfl) (.v [] rfl rfl rfl rfl rfl rfl (fun _ => mv rfl) (.v [] rfl rfl rfl rfl rfl rfl (fun _ => mv rfl) (.v [] rfl rfl rfl rfl rfl rfl (fun _ => mv rfl) (.v [(18, .slice as_ s_.length cs_), (19, .int .i64 j)] rfl rfl rfl rfl rfl rfl (fun _ => ixS rfl rfl tS22 (k := 0) rfl (inb_n q70 q27)) (.v [(20, .pointer (some (ead as_ (j.toNat * 1))))] rfl rfl rfl rfl rfl rfl (fun _ => ld1 (v := .int .i64 (gt s_2 j)) rfl tO3 (cellS (k := 0) rfl (flL_get q70 (j := 0) rfl))) (.v [] rfl rfl rfl rfl rfl rfl (fun _ => mv rfl) (.v [] rfl rfl rfl rfl rfl rfl (fun _ => mv rfl) (.v [(22, .slice as_ s_.length cs_), (23, .int .i64 i)] rfl rfl rfl rfl rfl rfl (fun _ => ixS rfl rfl tS22 (k := 0) rfl (inb_n q71 q27)) (.v [(24, .pointer (some (ead as_ (i.toNat * 1))))] rfl rfl rfl rfl rfl rfl (fun _ => ld1 (v := .int .i64 (gt s_2 i)) rfl tO3 (cellS (k := 0) rfl (flL_get q71 (j := 0) rfl))) (.v [(14, .slice as_ s_.length cs_), (15, .int .i64 i), (14, .slice as_ s_.length cs_), (15, .int .i64 i), (18, .slice as_ s_.length cs_), (19, .int .i64 j), (20, .pointer (some (ead as_ (j.toNat * 1)))), (21, .int .i64 (gt s_2 j)), (25, .int .i64 (gt s_2 i))] rfl rfl rfl rfl rfl rfl (fun _ => ixS rfl rfl tS22 (k := 0) rfl (inb_n q71 q27)) (.nil)))))))))))))) (.cons [(26, .pointer (some (ead as_ (i.toNat * 1)))), (21, .int .i64 (gt s_2 j)), (14, .slice as_ s_.length cs_), (15, .int .i64 i), (18, .slice as_ s_.length cs_), (19, .int .i64 j), (20, .pointer (some (ead as_ (j.toNat * 1)))), (21, .int .i64 (gt s_2 j)), (25, .int .i64 (gt s_2 i))] rfl rfl (fun sL hL => ?_) (.nil))
    obtain ⟨d, q72⟩ : ∃ y_ : List Int, y_ = (s_2.set (i).toNat (gt s_2 j)) := ⟨_, rfl⟩
    replace hF := hF d q72
    refine stS (k := 0) (cs' := flL d) rfl (fun _ => rfl) rfl rfl (fun w => (tO3 w).2) rfl rfl rfl (by rw [← q27]; exact inb_pos q71) (fl_room q71) (by rw [q72]; exact flL_set q71 (gt s_2 j)) ?_
    have q73 : d.length = s_.length := by rw [q72]; exact List.length_set.trans q27
    refine .cast (A' := [OwnSl 3 1 as_ s_.length cs_ (flL d)]) rfl ?_
    refine .nil ?_
    obtain ⟨q74, hF⟩ := hF
    refine .jaN (M := [12, 7, 0, 1, 4, 5, 6, 11, 10, 8, 9]) (C' := [2, 3, 14]) (pre := [(14, .pointer (some (ead as_ (j.toNat * 1))))]) [0, 2, 3] hL rfl rfl rfl rfl rfl (by kernel_rfl) ?_
    refine .step [15] 15 rfl (by kernel_rfl) (by kernel_rfl) (.v [] rfl rfl rfl rfl rfl rfl (fun _ => mv rfl) (.v [] rfl rfl rfl rfl rfl rfl (fun _ => mv rfl) (.v [(16, .slice as_ s_.length cs_), (17, .int .i64 j), (14, .slice as_ s_.length cs_), (15, .int .i64 i), (16, .slice as_ s_.length cs_), (17, .int .i64 j), (18, .slice as_ s_.length cs_), (19, .int .i64 j), (20, .pointer (some (ead as_ (j.toNat * 1)))), (21, .int .i64 (gt s_2 j)), (22, .slice as_ s_.length cs_), (23, .int .i64 i), (24, .pointer (some (ead as_ (i.toNat * 1)))), (25, .int .i64 (gt s_2 i)), (26, .pointer (some (ead as_ (i.toNat * 1))))] rfl rfl rfl rfl rfl rfl (fun _ => ixS rfl rfl tS22 (k := 0) rfl (inb_n q74 q73)) (.nil)))) (.cons [(27, .pointer (some (ead as_ (j.toNat * 1)))), (25, .int .i64 (gt s_2 i)), (14, .slice as_ s_.length cs_), (15, .int .i64 i), (16, .slice as_ s_.length cs_), (17, .int .i64 j), (18, .slice as_ s_.length cs_), (19, .int .i64 j), (20, .pointer (some (ead as_ (j.toNat * 1)))), (21, .int .i64 (gt s_2 j)), (22, .slice as_ s_.length cs_), (23, .int .i64 i), (24, .pointer (some (ead as_ (i.toNat * 1)))), (25, .int .i64 (gt s_2 i)), (26, .pointer (some (ead as_ (i.toNat * 1))))] rfl rfl (fun sL hL => ?_) (.nil))
    obtain ⟨d2, q75⟩ : ∃ y_ : List Int, y_ = (d.set (j).toNat (gt s_2 i)) := ⟨_, rfl⟩
    replace hF := hF d2 q75
    refine stS (k := 0) (cs' := flL d2) rfl (fun _ => rfl) rfl rfl (fun w => (tO3 w).2) rfl rfl rfl (by rw [← q73]; exact inb_pos q74) (fl_room q74) (by rw [q75]; exact flL_set q74 (gt s_2 i)) ?_
    have q76 : d2.length = s_.length := by rw [q75]; exact List.length_set.trans q73
    refine .cast (A' := [OwnSl 3 1 as_ s_.length cs_ (flL d2)]) rfl ?_
    refine .nil ?_
    refine .jaN (M := [14, 2, 3]) (C' := []) (pre := []) [0, 2, 3] hL rfl rfl rfl rfl rfl (by kernel_rfl) ?_
    refine .last [(14, .slice as_ s_.length cs_), (15, .int .i64 i), (16, .slice as_ s_.length cs_), (17, .int .i64 j), (18, .slice as_ s_.length cs_), (19, .int .i64 j), (20, .pointer (some (ead as_ (j.toNat * 1)))), (21, .int .i64 (gt s_2 j)), (22, .slice as_ s_.length cs_), (23, .int .i64 i), (24, .pointer (some (ead as_ (i.toNat * 1)))), (25, .int .i64 (gt s_2 i)), (26, .pointer (some (ead as_ (i.toNat * 1)))), (27, .pointer (some (ead as_ (j.toNat * 1))))] rfl (by kernel_rfl) (.nil) rfl ?_
    refine .blkN ?_
    refine .seqN ?_
    refine .region ?_
    refine .v (mv rfl) rfl rfl rfl ?_
    refine .v (bi rfl rfl rfl) rfl rfl rfl ?_
    refine .v (mv rfl) rfl rfl rfl ?_
    refine .v (bi rfl rfl rfl) rfl rfl rfl ?_
    refine .v (asg rfl) rfl rfl rfl ?_
    refine .v (asg rfl) rfl rfl rfl ?_
    refine .nil ?_
    exact .round (IntKind.i64.wrap (i + 1), IntKind.i64.wrap (j - 1), d2) ⟨hF.1, q76⟩ hF.2 (.cons rfl (.cons rfl (.cons rfl (.nil)))) rfl (FH.le_refl _)
  replace hF := hF.2 q55
  refine .exit ?_
  refine .seqX ?_
  refine .seqX ?_
  refine .blkX ?_
  refine .res0 (.inr rfl) rfl (fun w' S => ⟨s_2, hF, rfl, S.pick (k := 0) rfl⟩)

theorem c_reverse {h : FH} {w : World} (hs : Sub h w) (s_ : List Int) (as_ : Option Addr) (cs_ : Nat) {gX : FH} (ownX : OwnSl 3 1 as_ s_.length cs_ (flL s_) gX) (subX : Sub gX w) (disX : Disj h gX) (hp : pre_reverse s_) : Calls Tryz.prog 86 #[.slice as_ s_.length cs_] w fun e w' => e = .returned (.tuple #[]) ∧ SH (Kp.ex w h gX) h w' [OwnSl 3 1 as_ s_.length cs_ (flL (sp_reverse s_))] :=
  (w_reverse hs s_ as_ cs_ ownX subX disX (fun r => r = sp_reverse s_) (ok_reverse s_ hp)).mono fun _ _ ⟨r, hk, he, hS⟩ => ⟨he, by rw [← hk]; exact hS⟩

theorem w_unknownFault {h : FH} {w : World} (hs : Sub h w) (t : Task) (at_ : Option Addr) (ct : Nat) (_q1 : RSl h at_ t.init) (_q2 : t.init.length ≤ ct) (at_2 : Option Addr) (ct2 : Nat) (_q3 : RSl h at_2 t.goal) (_q4 : t.goal.length ≤ ct2) (at_3 : Option Addr) (ct3 : Nat) (_q5 : RSl h at_3 t.ops) (_q6 : t.ops.length ≤ ct3) (unknown : List Int) (aunknown : Option Addr) (cunknown : Nat) (_q7 : RSl h aunknown unknown) (_q8 : unknown.length ≤ cunknown) (K : Fault → Prop) (hF : F_unknownFault t unknown K) : Calls Tryz.prog 45 #[.agg #[.int .i64 t.facts, .slice at_ t.init.length ct, .slice at_2 t.goal.length ct2, .slice at_3 t.ops.length ct3], .slice aunknown unknown.length cunknown] w fun e w' => ∃ r : Fault, K r ∧ e = .returned (.agg #[.int .i64 r.code, .int .i64 r.index]) ∧ Below w.heap.size w w' := by
  refine enter (args := [.agg #[.int .i64 t.facts, .slice at_ t.init.length ct, .slice at_2 t.goal.length ct2, .slice at_3 t.ops.length ct3], .slice aunknown unknown.length cunknown]) Tryz.func45 rfl Tryz.ntmps45 rfl hs ?_
  refine .seq ?_
  refine .region ?_
  refine bx (vs := [.int .i64 t.facts, .slice at_ t.init.length ct, .slice at_2 t.goal.length ct2, .slice at_3 t.ops.length ct3]) rfl rfl rfl (fun pt => ?_)
  refine al tZ27 rfl (fun pv => ?_)
  refine .nil ?_
  refine .seqN ?_
  refine .seq ?_
  refine .seq ?_
  refine .region ?_
  refine .v (ldA (cs := [.int .i64 t.facts, .slice at_ t.init.length ct, .slice at_2 t.goal.length ct2, .slice at_3 t.ops.length ct3]) rfl tA25 rfl (cellsB (off := 0) (k := 1) rfl (m := 4) rfl)) rfl rfl rfl ?_
  obtain ⟨r2, q9⟩ : ∃ y_ : Fault, y_ = sp_validate t := ⟨_, rfl⟩
  replace hF := hF r2 q9
  refine .c (cl (v := .agg #[.int .i64 r2.code, .int .i64 r2.index]) Tryz.call79 rfl rfl (fun w S => (by rw [q9]; exact c_validate S.sub t at_ ct _q1 _q2 at_2 ct2 _q3 _q4 at_3 ct3 _q5 _q6 ))) rfl rfl rfl ?_
  refine al tZ27 rfl (fun pf => ?_)
  refine st (p := pf) (off := 0) (k := 0) (vs := [.int .i64 r2.code, .int .i64 r2.index]) rfl rfl rfl (fun w => (tA27 w).2) rfl rfl rfl rfl ?_
  refine .cast (A' := [Box pf [.int .i64 r2.code, .int .i64 r2.index], Box pv [.int .i64 0, .int .i64 0], Box pt [.int .i64 t.facts, .slice at_ t.init.length ct, .slice at_2 t.goal.length ct2, .slice at_3 t.ops.length ct3]]) rfl ?_
  refine .nil ?_
  refine .seqN ?_
  refine .seq ?_
  refine .region ?_
  refine .v (ldA (cs := [.int .i64 r2.code, .int .i64 r2.index]) rfl tA27 rfl (cellsB (off := 0) (k := 0) rfl (m := 2) rfl)) rfl rfl rfl ?_
  refine .v (bld (cs := #[.int .i64 0, .int .i64 0]) (pv := []) tB27 rfl rfl) rfl rfl rfl ?_
  refine .v (ne2 tE27 rfl rfl) rfl rfl rfl ?_
  refine .nil ?_
  refine .seqN ?_
  refine .cond rfl (fun q11 => ?_) (fun q11 => ?_)
  · replace hF := hF.1 q11
    refine .seq ?_
    refine .region ?_
    refine .v (ldA (cs := [.int .i64 r2.code, .int .i64 r2.index]) rfl tA27 rfl (cellsB (off := 0) (k := 0) rfl (m := 2) rfl)) rfl rfl rfl ?_
    refine st (p := pv) (off := 0) (k := 1) (vs := [.int .i64 r2.code, .int .i64 r2.index]) rfl rfl rfl (fun w => (tA27 w).2) rfl rfl rfl rfl ?_
    refine .cast (A' := [Box pf [.int .i64 r2.code, .int .i64 r2.index], Box pv [.int .i64 r2.code, .int .i64 r2.index], Box pt [.int .i64 t.facts, .slice at_ t.init.length ct, .slice at_2 t.goal.length ct2, .slice at_3 t.ops.length ct3]]) rfl ?_
    refine .nil ?_
    refine .seqN ?_
    refine .ret ?_
    refine .seqR ?_
    refine .res1 rfl (rvC rfl tA27 (k := 1) rfl rfl) (fun w' S => ⟨r2, hF, rfl, S.below⟩)
  replace hF := hF.2 q11
  refine .skip ?_
  refine .seqN ?_
  refine .seq ?_
  refine .block ?_
  refine .seq ?_
  refine .region ?_
  refine .v (mv rfl) rfl rfl rfl ?_
  refine .v (ln rfl tS22.is) rfl rfl rfl ?_
  refine .v (bi rfl rfl rfl) rfl rfl rfl ?_
  refine .v (asg rfl) rfl rfl rfl ?_
  refine .nil ?_
  refine .seqN ?_
  refine .cond rfl (fun q20 => ?_) (fun q20 => ?_)
  · replace hF := hF.1 q20
    refine .seq ?_
    refine .region ?_
    refine .v (bld (cs := #[.int .i64 2, .int .i64 (-8)]) (pv := [(0, .int .i64 2), (1, .int .i64 (-8))]) tB27 rfl rfl) rfl rfl rfl ?_
    refine st (p := pv) (off := 0) (k := 1) (vs := [.int .i64 2, .int .i64 (-8)]) rfl rfl rfl (fun w => (tA27 w).2) rfl rfl rfl rfl ?_
    refine .cast (A' := [Box pf [.int .i64 r2.code, .int .i64 r2.index], Box pv [.int .i64 2, .int .i64 (-8)], Box pt [.int .i64 t.facts, .slice at_ t.init.length ct, .slice at_2 t.goal.length ct2, .slice at_3 t.ops.length ct3]]) rfl ?_
    refine .nil ?_
    refine .seqN ?_
    refine .ret ?_
    refine .blkR ?_
    refine .seqR ?_
    refine .res1 rfl (rvC rfl tA27 (k := 1) rfl rfl) (fun w' S => ⟨(⟨2, (-8)⟩ : Fault), hF, rfl, S.below⟩)
  replace hF := hF.2 q20
  refine .seq ?_
  refine .region ?_
  refine .v (mv rfl) rfl rfl rfl ?_
  refine .v (fa rfl tF25_0) rfl rfl rfl ?_
  refine .v (ld1 rfl tO3 (cellB (off := 0) (k := 2) rfl rfl)) rfl rfl rfl ?_
  obtain ⟨q21, hF⟩ := hF
  obtain ⟨r3, q22⟩ : ∃ y_ : Bool, y_ = sp_isSet unknown t.facts := ⟨_, rfl⟩
  replace hF := hF r3 q22
  refine .c (cl (v := .bool r3) Tryz.call61 rfl rfl (fun w S => (by rw [q22]; exact c_isSet S.sub unknown aunknown cunknown _q7 _q8 t.facts q21))) rfl rfl rfl ?_
  refine .v (nt rfl) rfl rfl rfl ?_
  refine .v (asg rfl) rfl rfl rfl ?_
  refine .nil ?_
  refine .seqN ?_
  refine .cond rfl (fun q23 => ?_) (fun q23 => ?_)
  · replace hF := hF.1 q23
    refine .seq ?_
    refine .region ?_
    refine .v (bld (cs := #[.int .i64 5, .int .i64 (-8)]) (pv := [(0, .int .i64 5), (1, .int .i64 (-8))]) tB27 rfl rfl) rfl rfl rfl ?_
    refine st (p := pv) (off := 0) (k := 1) (vs := [.int .i64 5, .int .i64 (-8)]) rfl rfl rfl (fun w => (tA27 w).2) rfl rfl rfl rfl ?_
    refine .cast (A' := [Box pf [.int .i64 r2.code, .int .i64 r2.index], Box pv [.int .i64 5, .int .i64 (-8)], Box pt [.int .i64 t.facts, .slice at_ t.init.length ct, .slice at_2 t.goal.length ct2, .slice at_3 t.ops.length ct3]]) rfl ?_
    refine .nil ?_
    refine .seqN ?_
    refine .ret ?_
    refine .blkR ?_
    refine .seqR ?_
    refine .res1 rfl (rvC rfl tA27 (k := 1) rfl rfl) (fun w' S => ⟨(⟨5, (-8)⟩ : Fault), hF, rfl, S.below⟩)
  replace hF := hF.2 q23
  refine .skip ?_
  refine .blkN ?_
  refine .seqN ?_
  refine .seq ?_
  refine .region ?_
  refine .v (bld (cs := #[.int .i64 0, .int .i64 0]) (pv := []) tB27 rfl rfl) rfl rfl rfl ?_
  refine st (p := pv) (off := 0) (k := 1) (vs := [.int .i64 0, .int .i64 0]) rfl rfl rfl (fun w => (tA27 w).2) rfl rfl rfl rfl ?_
  refine .cast (A' := [Box pf [.int .i64 r2.code, .int .i64 r2.index], Box pv [.int .i64 0, .int .i64 0], Box pt [.int .i64 t.facts, .slice at_ t.init.length ct, .slice at_2 t.goal.length ct2, .slice at_3 t.ops.length ct3]]) rfl ?_
  refine .nil ?_
  refine .seqN ?_
  refine .ret ?_
  refine .res1 rfl (rvC rfl tA27 (k := 1) rfl rfl) (fun w' S => ⟨(⟨0, 0⟩ : Fault), hF, rfl, S.below⟩)

theorem c_unknownFault {h : FH} {w : World} (hs : Sub h w) (t : Task) (at_ : Option Addr) (ct : Nat) (_q1 : RSl h at_ t.init) (_q2 : t.init.length ≤ ct) (at_2 : Option Addr) (ct2 : Nat) (_q3 : RSl h at_2 t.goal) (_q4 : t.goal.length ≤ ct2) (at_3 : Option Addr) (ct3 : Nat) (_q5 : RSl h at_3 t.ops) (_q6 : t.ops.length ≤ ct3) (unknown : List Int) (aunknown : Option Addr) (cunknown : Nat) (_q7 : RSl h aunknown unknown) (_q8 : unknown.length ≤ cunknown) : Calls Tryz.prog 45 #[.agg #[.int .i64 t.facts, .slice at_ t.init.length ct, .slice at_2 t.goal.length ct2, .slice at_3 t.ops.length ct3], .slice aunknown unknown.length cunknown] w fun e w' => e = .returned (.agg #[.int .i64 (sp_unknownFault t unknown).code, .int .i64 (sp_unknownFault t unknown).index]) ∧ Below w.heap.size w w' :=
  (w_unknownFault hs t at_ ct _q1 _q2 at_2 ct2 _q3 _q4 at_3 ct3 _q5 _q6 unknown aunknown cunknown _q7 _q8 (fun r => r = sp_unknownFault t unknown) (ok_unknownFault t unknown)).mono fun _ _ ⟨_, hk, he, hb⟩ => ⟨by rw [he, hk], hb⟩

theorem w_sure1 {h : FH} {w : World} (hs : Sub h w) (s_ : List Int) (as_ : Option Addr) (cs_ : Nat) (_q1 : RSl h as_ s_) (_q2 : s_.length ≤ cs_) (x : List Int) (ax : Option Addr) (cx : Nat) (_q3 : RSl h ax x) (_q4 : x.length ≤ cx) (px : Addr) (_q5 : CellsAt h px [.slice ax x.length cx]) (K : Bool → Prop) (hF : F_sure1 s_ x K) : Calls Tryz.prog 87 #[.slice as_ s_.length cs_, .pointer (some px)] w fun e w' => ∃ r : Bool, K r ∧ e = .returned (.bool r) ∧ Below w.heap.size w w' := by
  refine enter (args := [.slice as_ s_.length cs_, .pointer (some px)]) Tryz.func87 rfl Tryz.ntmps87 rfl hs ?_
  refine .seq ?_
  refine .region ?_
  refine .v (asg rfl) rfl rfl rfl ?_
  refine .nil ?_
  refine .seqN ?_
  refine .seq ?_
  refine .region ?_
  refine .v (mv rfl) rfl rfl rfl ?_
  refine .v (ld1 (v := .slice ax x.length cx) rfl tO22 (cellH (CellsAt.mono (FH.le_refl _) _q5 0 _ rfl))) rfl rfl rfl ?_
  obtain ⟨q6, hF⟩ := hF
  obtain ⟨r2, q7⟩ : ∃ y_ : Bool, y_ = sp_contains2 s_ x := ⟨_, rfl⟩
  replace hF := hF r2 q7
  refine .c (cl (v := .bool r2) Tryz.call88 rfl rfl (fun w S => (by rw [q7]; exact c_contains2 S.sub s_ as_ cs_ _q1 _q2 x ax cx _q3 _q4 q6))) rfl rfl rfl ?_
  refine .v (nt rfl) rfl rfl rfl ?_
  refine .v (asg rfl) rfl rfl rfl ?_
  refine .nil ?_
  refine .seqN ?_
  refine .ret ?_
  refine .res1 rfl (rvT rfl) (fun w' S => ⟨!r2, hF, rfl, S.below⟩)

theorem c_sure1 {h : FH} {w : World} (hs : Sub h w) (s_ : List Int) (as_ : Option Addr) (cs_ : Nat) (_q1 : RSl h as_ s_) (_q2 : s_.length ≤ cs_) (x : List Int) (ax : Option Addr) (cx : Nat) (_q3 : RSl h ax x) (_q4 : x.length ≤ cx) (px : Addr) (_q5 : CellsAt h px [.slice ax x.length cx]) (hp : pre_sure1 s_ x) : Calls Tryz.prog 87 #[.slice as_ s_.length cs_, .pointer (some px)] w fun e w' => e = .returned (.bool (sp_sure1 s_ x)) ∧ Below w.heap.size w w' :=
  (w_sure1 hs s_ as_ cs_ _q1 _q2 x ax cx _q3 _q4 px _q5 (fun r => r = sp_sure1 s_ x) (ok_sure1 s_ x hp)).mono fun _ _ ⟨_, hk, he, hb⟩ => ⟨by rw [he, hk], hb⟩

theorem w_sure {h : FH} {w : World} (hs : Sub h w) (worlds : List (List Int)) (aworlds : Option Addr) (cworlds : Nat) (_q1 : RSl h aworlds worlds) (_q2 : worlds.length ≤ cworlds) (facts : List Int) (afacts : Option Addr) (cfacts : Nat) (_q3 : RSl h afacts facts) (_q4 : facts.length ≤ cfacts) (K : Bool → Prop) (hF : F_sure worlds facts K) : Calls Tryz.prog 52 #[.slice aworlds worlds.length cworlds, .slice afacts facts.length cfacts] w fun e w' => ∃ r : Bool, K r ∧ e = .returned (.bool r) ∧ Below w.heap.size w w' := by
  refine enter (args := [.slice aworlds worlds.length cworlds, .slice afacts facts.length cfacts]) Tryz.func52 rfl Tryz.ntmps52 rfl hs ?_
  refine .seq ?_
  refine .region ?_
  refine bx (vs := [.slice afacts facts.length cfacts]) rfl rfl rfl (fun pfacts => ?_)
  refine .v (asg rfl) rfl rfl rfl ?_
  refine .nil ?_
  refine .seqN ?_
  refine .seq ?_
  refine .region ?_
  refine .v (mv rfl) rfl rfl rfl ?_
  refine .v (mkf (vf := []) (vc := [.pointer (some pfacts)]) rfl rfl) rfl rfl rfl ?_
  obtain ⟨q5, hF⟩ := hF
  obtain ⟨r2, q6⟩ : ∃ y_ : Bool, y_ = sp_any worlds (fun y_ : List Int => sp_sure1 y_ facts) (fun y_ : List Int => pre_sure1 y_ facts) := ⟨_, rfl⟩
  replace hF := hF r2 q6
  refine .c (cl (v := .bool r2) Tryz.call66 rfl rfl (fun w S => (by rw [q6]; obtain ⟨h_, hl_, hs_, hb_⟩ := lookB S (k := 0) rfl; exact c_containsR hs_ worlds aworlds cworlds (RSl.mono hl_ _q1) _q2 (fun y_ : List Int => sp_sure1 y_ facts) (fun y_ : List Int => pre_sure1 y_ facts) 87 #[] #[.pointer (some pfacts)] Tryz.call87 (fun x a_ c_ r_ l_ w' hD hs' => c_sure1 hs' x a_ c_ r_ l_ facts afacts cfacts (RSl.mono hl_ _q3) _q4 pfacts hb_ hD) q5))) rfl rfl rfl ?_
  refine .v (nt rfl) rfl rfl rfl ?_
  refine .v (asg rfl) rfl rfl rfl ?_
  refine .nil ?_
  refine .seqN ?_
  refine .ret ?_
  refine .res1 rfl (rvT rfl) (fun w' S => ⟨!r2, hF, rfl, S.below⟩)

theorem c_sure {h : FH} {w : World} (hs : Sub h w) (worlds : List (List Int)) (aworlds : Option Addr) (cworlds : Nat) (_q1 : RSl h aworlds worlds) (_q2 : worlds.length ≤ cworlds) (facts : List Int) (afacts : Option Addr) (cfacts : Nat) (_q3 : RSl h afacts facts) (_q4 : facts.length ≤ cfacts) (hp : pre_sure worlds facts) : Calls Tryz.prog 52 #[.slice aworlds worlds.length cworlds, .slice afacts facts.length cfacts] w fun e w' => e = .returned (.bool (sp_sure worlds facts)) ∧ Below w.heap.size w w' :=
  (w_sure hs worlds aworlds cworlds _q1 _q2 facts afacts cfacts _q3 _q4 (fun r => r = sp_sure worlds facts) (ok_sure worlds facts hp)).mono fun _ _ ⟨_, hk, he, hb⟩ => ⟨by rw [he, hk], hb⟩

end Go.Proofs.YtojoehfldbimpaaGreatDoor.Pl

