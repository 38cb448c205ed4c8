import Derived.Test.YtojoehfldbimpaaGreatDoorM2
import Derived.Test.YtojoehfldbimpaaGreatDoorM1
import Derived.Ground.NamesProg
import Derived.Test.YtojoehfldbimpaaGreatDoorChecked
import Derived.Shelf.SlSortCmp.NoneTotal
import Derived.Ground.SlsfProg
namespace Go.Proofs.YtojoehfldbimpaaGreatDoor.Pl
open Go Go.RowKit
theorem DPre.all {l : List TNode} {d : List Int} (h : DPre l d l.length) : d = depths l := by
 refine List.ext_getElem (by rw [h.1, depths_len]) fun j h1 h2 => ?_
 have h3 : j < l.length := by rw [← h.1]; exact h1
 have := h.2.1 j h3
 rw [gt_of ⟨by omega, by omega⟩, gt_of ⟨by omega, by omega⟩] at this
 simpa using this
theorem ok_treeDepth : ∀ (l : List TNode), pre_treeDepth l → F_treeDepth l (fun r => r = sp_treeDepth l) := fun l ⟨t, hT⟩ => by
 have hl := hT.len
 have hp := hT.pos
 have hD := depths_len l
 refine ⟨⟨by omega, by simp; omega, by simp [maxLen]; omega⟩, fun again d => (again = false → d = depths l) ∧ (d = depths l ∨ d = List.replicate l.length 0), fun again d => if again = true then (if d = depths l then 1 else 2) else 0, ⟨fun q => by simp at q, .inr (by simp)⟩, ?_⟩
 rintro again d ⟨i1, i2⟩
 unfold F_treeDepth_L1
 refine ⟨fun ha => ?_, fun ha => ?_⟩
 ·refine ⟨fun ag i d3 => ∃ k : Nat, i = k ∧ k ≤ l.length ∧ ((d = depths l ∧ d3 = depths l ∧ ag = false) ∨ (d ≠ depths l ∧ DPre l d3 k)), fun _ i _ => (l.length - i).toNat, ⟨0, rfl, by omega, ?_⟩, ?_⟩
  ·by_cases e : d = depths l
   ·exact .inl ⟨e, e, rfl⟩
   ·refine .inr ⟨e, ?_⟩
    rw [i2.resolve_left e]; exact DPre.start l
  rintro ag _ d3 ⟨k, rfl, k1, k2⟩
  unfold F_treeDepth_L2
  simp only [decide_eq_true_eq, decide_eq_false_iff_not, bne_iff_ne, ne_eq, bne_eq_false_iff_eq]
  refine ⟨fun h => ?_, fun h => ?_⟩
  ·have hk : k < l.length := by omega
   have hlen : d3.length = l.length := by
    rcases k2 with ⟨_, e, _⟩ | ⟨_, e⟩
    ·rw [e, hD]
    ·exact e.1
   have use : ∀ x : Int, 0 ≤ x → x < k → gt d3 x = gt (depths l) x ∧ 0 ≤ gt (depths l) x ∧ gt (depths l) x ≤ 60 := fun x h0 h1 => by
    have e2 := depth_rng hT x.toNat (by omega)
    rw [show ((x.toNat : Nat) : Int) = x by omega] at e2
    refine ⟨?_, e2.1, by omega⟩
    rcases k2 with ⟨_, e, _⟩ | ⟨_, e⟩
    ·rw [e]
    ·have e1 := e.2.1 x.toNat (by omega)
     rwa [show ((x.toNat : Nat) : Int) = x by omega] at e1
   have hat := depth_at hT hk
   have j4 : ∀ v : Int, v = gt (depths l) (k : Int) → F_treeDepth_J4 v k d3 (fun ag i d3 => ∃ k : Nat, i = k ∧ k ≤ l.length ∧ ((d = depths l ∧ d3 = depths l ∧ ag = false) ∨ (d ≠ depths l ∧ DPre l d3 k))) (fun _ i _ => (l.length - i).toNat) ag := fun v hv => by
    unfold F_treeDepth_J4 F_treeDepth_J1
    simp only [forall_eq, bne_iff_ne, ne_eq, bne_eq_false_iff_eq]
    rw [w64 (n := (k : Int) + 1) (by omega), show ((k : Int)).toNat = k by omega]
    refine ⟨⟨by omega, by omega⟩, fun q => ⟨⟨k + 1, by omega, by omega, ?_⟩, by omega⟩, fun q => ⟨⟨k + 1, by omega, by omega, ?_⟩, by omega⟩⟩
    ·rcases k2 with ⟨_, e, _⟩ | ⟨e0, e⟩
     ·rw [e] at q; exact absurd hv q
     ·exact .inr ⟨e0, e.set hk hv⟩
    ·rcases k2 with ⟨e0, e, e1⟩ | ⟨e0, e⟩
     ·exact .inl ⟨e0, e, e1⟩
     ·refine .inr ⟨e0, e.same hk ?_⟩
      rw [← hv, q]; exact e.2.2 k (by omega) hk
   unfold F_treeDepth_J2 F_treeDepth_J3
   simp only [beq_iff_eq, beq_eq_false_iff_ne, ne_eq, decide_eq_true_eq, decide_eq_false_iff_not]
   refine ⟨⟨by omega, h⟩, fun q => ?_, fun q => ⟨fun q3 => by omega, fun q3 => ⟨fun q' => by simp at q', fun _ => j4 _ ?_⟩⟩⟩
   ·rcases node_of hT hk with a | ⟨a, _, a1, a2⟩ | ⟨a, a1, a2, a3, a4⟩
    ·exact absurd a q
    ·obtain ⟨u1, u2, u3⟩ := use _ a1 a2
     refine ⟨⟨a1, by omega⟩, fun q3 => by omega, fun q3 => ⟨fun q' => by simp at q', fun _ => j4 _ ?_⟩⟩
     rw [hat, u1, w64 (by omega)]
     unfold nodeD; rw [if_pos a]; omega
    ·obtain ⟨u1, u2, u3⟩ := use _ a1 a2
     obtain ⟨v1, v2, v3⟩ := use _ a3 a4
     have n2 : ¬ (gt l (k : Int)).kind = 2 := by omega
     rw [u1, v1, w64 (n := gt (depths l) (gt l (k : Int)).yes + 1) (by omega), w64 (n := gt (depths l) (gt l (k : Int)).no + 1) (by omega)]
     refine ⟨⟨a1, by omega⟩, fun _ => ⟨⟨a3, by omega⟩, fun q' => ⟨⟨a3, by omega⟩, j4 _ ?_⟩, fun q' => j4 _ ?_⟩, fun q3 => by omega⟩
     ·rw [hat]; unfold nodeD; rw [if_neg n2, if_pos a, if_pos (by omega)]; omega
     ·rw [hat]; unfold nodeD; rw [if_neg n2, if_pos a, if_neg (by omega)]; omega
   ·rw [hat]; unfold nodeD; rw [if_neg (by omega), if_neg (by omega)]
  ·have e : k = l.length := by omega
   subst e
   have hd3 : d3 = depths l := by
    rcases k2 with ⟨_, e, _⟩ | ⟨_, e⟩
    ·exact e
    ·exact e.all
   refine ⟨⟨fun _ => hd3, .inl hd3⟩, ?_⟩
   rw [if_pos ha, if_pos hd3]
   rcases k2 with ⟨e, _, e2⟩ | ⟨e, _⟩
   ·rw [e2, if_neg (by decide), if_pos e]; omega
   ·rw [if_neg e]; split <;> omega
 ·have e := i1 ha
  subst e
  rw [w64 (n := (l.length : Int) - 1) (by omega)]
  exact ⟨⟨by omega, by omega⟩, rfl⟩
theorem runT_fuel {t : Task} {l : List TNode} (hT : TreeOK t l) : ∀ (k m : Nat) (i : Int) (s : List Int), inb l i → i < k → i < m → runT t l k i s = runT t l m i s := fun k => by
 induction k using Nat.strongRecOn with
 | _ k ih =>
  intro m i s hi hk hm
  obtain ⟨k', rfl⟩ : ∃ k', k = k' + 1 := ⟨k - 1, by have := hi.1; omega⟩
  obtain ⟨m', rfl⟩ : ∃ m', m = m' + 1 := ⟨m - 1, by have := hi.1; omega⟩
  have hn := node_of hT (k := i.toNat) (inb_lt hi)
  rw [show ((i.toNat : Nat) : Int) = i by have := hi.1; omega] at hn
  have sub : ∀ x : Int, 0 ≤ x → x < i → ∀ s, runT t l k' x s = runT t l m' x s := fun x h0 h1 s => ih k' (by omega) m' x s ⟨h0, by have := hi.2; omega⟩ (by omega) (by omega)
  unfold runT
  rcases hn with q | ⟨q, _, a1, a2⟩ | ⟨q, a1, a2, a3, a4⟩
  ·rw [if_pos q, if_pos q]
  ·have n1 : ¬ (gt l i).kind = 1 := by omega
   have n3 : ¬ (gt l i).kind = 3 := by omega
   rw [if_neg n1, if_neg n3, if_neg n1, if_neg n3, sub _ a1 a2]
  ·have n1 : ¬ (gt l i).kind = 1 := by omega
   rw [if_neg n1, if_pos q, if_neg n1, if_pos q, sub _ a1 a2, sub _ a3 a4]
theorem after_len24 {t : Task} (hv : sp_validate t = ⟨0, 0⟩) (s : List Int) (op : Int) : (sp_after t s op).length ≤ 24 := by
 have h1 := List.length_filter_le (fun p => decide (p ∈ (gt t.ops op).add ∨ (p ∈ s ∧ p ∉ (gt t.ops op).del))) (allS t.facts.toNat)
 have h2 := (taskOK_of hv).facts
 have h3 : (allS t.facts.toNat).length = t.facts.toNat := by simp [allS]
 unfold sp_after; omega
theorem runT_len {t : Task} {l : List TNode} : ∀ (k : Nat) (i : Int) (s : List Int), (runT t l k i s).1.length ≤ k
 | 0, _, _ => by simp [runT]
 | k + 1, i, s => by
  unfold runT
  split
  ·simp
  ·split
   ·split
    ·have := runT_len (t := t) (l := l) k (gt l i).yes s; omega
    ·have := runT_len (t := t) (l := l) k (gt l i).no s; omega
   ·split
    ·have := runT_len (t := t) (l := l) k (gt l i).yes (sp_after t s (gt l i).op)
     simp; omega
    ·simp
theorem goal_pre {t : Task} (hv : sp_validate t = ⟨0, 0⟩) {s : List Int} (hs : s.length ≤ 1000) : pre_subset t.goal s := ⟨by have := set_len24 hv (TaskOK.rng hv).2.2.2; omega, hs⟩
theorem treeRun_eq {t : Task} {l : List TNode} (hT : TreeOK t l) {i x : Int} (hi : inb l i) (h0 : 0 ≤ x) (h1 : x < i) (s : List Int) : runT t l i.toNat x s = sp_treeRun t l x s :=
 runT_fuel hT _ _ x s ⟨h0, by have := hi.2; omega⟩ (by have := hi.1; omega) (by omega)
theorem ok_treeRun : ∀ (t : Task) (l : List TNode) (i : Int) (s_ : List Int), pre_treeRun t l i s_ → F_treeRun t l i s_ (fun r => r = sp_treeRun t l i s_) := fun t l i s ⟨hv, hT, hi, hs⟩ => by
 have hn := node_of hT (k := i.toNat) (inb_lt hi)
 rw [show ((i.toNat : Nat) : Int) = i by have := hi.1; omega] at hn
 have hl := hT.len
 have h2 := hi.2
 have h1 := hi.1
 unfold F_treeRun
 simp only [forall_eq, beq_iff_eq, beq_eq_false_iff_ne, ne_eq, Bool.not_eq_true', Bool.not_eq_false']
 refine ⟨hi, fun q => ⟨goal_pre hv hs, ?_⟩, fun q => ⟨fun q3 => ⟨hs, fun g => ?_, fun g => ?_⟩, fun q3 => ?_⟩⟩
 ·unfold sp_treeRun runT; rw [if_pos q]
 ·rcases hn with a | ⟨a, _⟩ | ⟨_, a1, a2, a3, a4⟩
  ·omega
  ·omega
  ·refine ⟨⟨hv, hT, ⟨a1, by omega⟩, hs⟩, by unfold mu_treeRun; omega, ?_⟩
   rw [← treeRun_eq hT hi a1 a2]
   conv => rhs; unfold sp_treeRun runT
   rw [if_neg q, if_pos q3, if_pos (by simpa [sp_has] using g)]
 ·rcases hn with a | ⟨a, _⟩ | ⟨_, a1, a2, a3, a4⟩
  ·omega
  ·omega
  ·refine ⟨⟨hv, hT, ⟨a3, by omega⟩, hs⟩, by unfold mu_treeRun; omega, ?_⟩
   rw [← treeRun_eq hT hi a3 a4]
   conv => rhs; unfold sp_treeRun runT
   rw [if_neg q, if_pos q3, if_neg (by simpa [sp_has] using g)]
 ·rcases hn with a | ⟨_, ho, a1, a2⟩ | ⟨a, _⟩
  ·omega
  ·refine ⟨⟨hv, ho, hs⟩, fun g => ?_, fun g => ?_⟩
   ·unfold sp_treeRun runT
    rw [if_neg q, if_neg q3, if_neg (by rw [g]; decide)]
   ·have hal := after_len24 hv s (gt l i).op
    refine ⟨⟨hv, ho, hs⟩, ⟨hv, hT, ⟨a1, by omega⟩, by omega⟩, by unfold mu_treeRun; omega, ?_, ?_⟩
    ·have := runT_len (t := t) (l := l) ((gt l i).yes.toNat + 1) (gt l i).yes (sp_after t s (gt l i).op)
     unfold sp_treeRun
     refine ⟨by simp [maxLen]; omega, by simp; omega⟩
    ·rw [← treeRun_eq hT hi a1 a2]
     conv => rhs; unfold sp_treeRun runT
     rw [if_neg q, if_neg q3, if_pos g]
     rfl
  ·omega
end Go.Proofs.YtojoehfldbimpaaGreatDoor.Pl

namespace Go.Proofs.YtojoehfldbimpaaGreatDoor.Pl
open Go Go.RowKit
theorem run_stop {t : Task} {l : List TNode} {i : Int} {s : List Int} (q : (gt l i).kind = 1) : sp_treeRun t l i s = ([], sp_subset t.goal s) := by
 unfold sp_treeRun runT; rw [if_pos q]
theorem run_yes {t : Task} {l : List TNode} (hT : TreeOK t l) {i : Int} (hi : inb l i) {s : List Int} (q : (gt l i).kind = 3) (h0 : 0 ≤ (gt l i).yes ∧ (gt l i).yes < i) (hf : (gt l i).fact ∈ s) : sp_treeRun t l i s = sp_treeRun t l (gt l i).yes s := by
 rw [← treeRun_eq hT hi h0.1 h0.2]
 conv => lhs; unfold sp_treeRun runT
 rw [if_neg (by omega), if_pos q, if_pos hf]
theorem run_no {t : Task} {l : List TNode} (hT : TreeOK t l) {i : Int} (hi : inb l i) {s : List Int} (q : (gt l i).kind = 3) (h0 : 0 ≤ (gt l i).no ∧ (gt l i).no < i) (hf : (gt l i).fact ∉ s) : sp_treeRun t l i s = sp_treeRun t l (gt l i).no s := by
 rw [← treeRun_eq hT hi h0.1 h0.2]
 conv => lhs; unfold sp_treeRun runT
 rw [if_neg (by omega), if_pos q, if_neg hf]
theorem run_act {t : Task} {l : List TNode} (hT : TreeOK t l) {i : Int} (hi : inb l i) {s : List Int} (q : (gt l i).kind = 2) (h0 : 0 ≤ (gt l i).yes ∧ (gt l i).yes < i) (ha : sp_applies t s (gt l i).op = true) :
  sp_treeRun t l i s = ((gt l i).op :: (sp_treeRun t l (gt l i).yes (sp_after t s (gt l i).op)).1, (sp_treeRun t l (gt l i).yes (sp_after t s (gt l i).op)).2) := by
 rw [← treeRun_eq hT hi h0.1 h0.2]
 conv => lhs; unfold sp_treeRun runT
 rw [if_neg (by omega), if_neg (by omega), if_pos ha]
theorem run_bad {t : Task} {l : List TNode} {i : Int} {s : List Int} (q : (gt l i).kind = 2) (ha : sp_applies t s (gt l i).op = false) : sp_treeRun t l i s = ([], false) := by
 unfold sp_treeRun runT
 rw [if_neg (by omega), if_neg (by omega), if_neg (by rw [ha]; decide)]
def nodeM (kind yes no : Int) : Nat := if kind = 1 then 0 else if kind = 2 then yes.toNat + 1 else max yes.toNat no.toNat + 1
theorem nodeM_le {t : Task} {l : List TNode} (hT : TreeOK t l) {i : Int} (hi : inb l i) : nodeM (gt l i).kind (gt l i).yes (gt l i).no ≤ i.toNat := by
 have hn := node_of hT (k := i.toNat) (inb_lt hi)
 rw [show ((i.toNat : Nat) : Int) = i by have := hi.1; omega] at hn
 unfold nodeM
 rcases hn with q | ⟨q, _, a1, a2⟩ | ⟨q, a1, a2, a3, a4⟩
 ·rw [if_pos q]; omega
 ·rw [if_neg (by omega), if_pos q]; omega
 ·rw [if_neg (by omega), if_neg (by omega)]; omega
theorem can_pre {t : Task} (hv : sp_validate t = ⟨0, 0⟩) {s : List Int} (hs : sp_isSet s t.facts = true) {op : Int} (ho : inb t.ops op) : pre_next t s op := ⟨hv, ho, hs⟩
theorem set_pair {l : List Int} {n : Int} (h : sp_isSet l n = true) : l.Pairwise (· < ·) := (of_decide_eq_true h).1
theorem crun_eq {t : Task} {l : List TNode} (hT : TreeOK t l) (s : List Int) : sp_crun t l s = sp_treeRun t l ((l.length : Int) - 1) s := by
 have := hT.pos
 unfold sp_crun sp_treeRun
 rw [show ((l.length : Int) - 1).toNat + 1 = l.length by omega]
theorem ok_crun : ∀ (t : Task) (tree : List TNode) (s_ : List Int), pre_crun t tree s_ → F_crun t tree s_ (fun r => r = sp_crun t tree s_) := fun t l s ⟨hv, hT, hs⟩ => by
 have hl := hT.len
 have hp := hT.pos
 unfold F_crun
 rw [w64 (n := (l.length : Int) - 1) (by omega), crun_eq hT]
 refine ⟨⟨by omega, by omega⟩, fun s2 out x x2 x3 x4 x5 => ∃ i : Int, inb l i ∧ (x = (gt l i).kind ∧ x2 = (gt l i).op ∧ x3 = (gt l i).fact ∧ x4 = (gt l i).yes ∧ x5 = (gt l i).no) ∧ sp_isSet s2 t.facts = true ∧ (out.length : Int) + i ≤ 60 ∧ sp_treeRun t l ((l.length : Int) - 1) s = (out ++ (sp_treeRun t l i s2).1, (sp_treeRun t l i s2).2), fun _ _ x _ _ x4 x5 => nodeM x x4 x5,
  ⟨(l.length : Int) - 1, ⟨by omega, by omega⟩, ⟨rfl, rfl, rfl, rfl, rfl⟩, hs, by simp; omega, by simp⟩, ?_⟩
 rintro s2 out x x2 x3 x4 x5 ⟨i, hi, ⟨rfl, rfl, rfl, rfl, rfl⟩, h1, h2, h3⟩
 have hn := node_of hT (k := i.toNat) (inb_lt hi)
 rw [show ((i.toNat : Nat) : Int) = i by have := hi.1; omega] at hn
 have hsl := set_len24 hv h1
 have hi2 := hi.2
 have hi1 := hi.1
 rw [h3]
 unfold F_crun_L1 F_crun_J2 F_crun_J1
 simp only [forall_eq, beq_iff_eq, beq_eq_false_iff_ne, bne_iff_ne, ne_eq, bne_eq_false_iff_eq, Bool.not_eq_true', Bool.not_eq_false']
 refine ⟨fun k1 => ⟨fun k2 => ?_, fun k2 => ⟨fun q => by simp at q, fun _ => ⟨fun q => absurd q k2, fun _ => ⟨by unfold pre_index; omega, fun g => ?_, fun g => ?_⟩⟩⟩⟩, fun k1 => ⟨⟨by omega, by have := set_len24 hv (TaskOK.rng hv).2.2.2; omega, set_pair h1, set_pair (TaskOK.rng hv).2.2.2⟩, ?_⟩⟩
 ·rcases hn with a | ⟨_, ho, a1, a2⟩ | ⟨a, _⟩
  ·omega
  ·refine ⟨can_pre hv h1 ho, fun g => ?_, fun g => ⟨fun _ => ⟨⟨?_, ?_⟩, can_pre hv h1 ho, ⟨a1, by omega⟩, ⟨(gt l i).yes, ⟨a1, by omega⟩, ⟨rfl, rfl, rfl, rfl, rfl⟩, after_set (TaskOK.rng hv).1 _ _, by simp; omega, ?_⟩, ?_⟩, fun q => absurd k2 q⟩⟩
   ·rw [run_bad k2 g]; simp
   ·simp [maxLen]; omega
   ·simp; omega
   ·rw [run_act hT hi k2 ⟨a1, a2⟩ g]; simp
   ·have := nodeM_le hT (i := (gt l i).yes) ⟨a1, by omega⟩
    unfold nodeM at this ⊢
    rw [if_neg (c := (gt l i).kind = 1) k1, if_pos (c := (gt l i).kind = 2) k2]
    omega
  ·omega
 ·rcases hn with a | ⟨a, _⟩ | ⟨k3, a1, a2, a3, a4⟩
  ·exact absurd a k1
  ·exact absurd a k2
  ·refine ⟨⟨a1, by omega⟩, ⟨(gt l i).yes, ⟨a1, by omega⟩, ⟨rfl, rfl, rfl, rfl, rfl⟩, h1, by omega, ?_⟩, ?_⟩
   ·rw [run_yes hT hi k3 ⟨a1, a2⟩ (by simpa [sp_contains] using g)]
   ·have := nodeM_le hT (i := (gt l i).yes) ⟨a1, by omega⟩
    unfold nodeM at this ⊢
    rw [if_neg (c := (gt l i).kind = 1) k1, if_neg (c := (gt l i).kind = 2) k2]
    omega
 ·rcases hn with a | ⟨a, _⟩ | ⟨k3, a1, a2, a3, a4⟩
  ·exact absurd a k1
  ·exact absurd a k2
  ·refine ⟨⟨a3, by omega⟩, ⟨(gt l i).no, ⟨a3, by omega⟩, ⟨rfl, rfl, rfl, rfl, rfl⟩, h1, by omega, ?_⟩, ?_⟩
   ·rw [run_no hT hi k3 ⟨a3, a4⟩ (by simpa [sp_contains] using g)]
   ·have := nodeM_le hT (i := (gt l i).no) ⟨a3, by omega⟩
    unfold nodeM at this ⊢
    rw [if_neg (c := (gt l i).kind = 1) k1, if_neg (c := (gt l i).kind = 2) k2]
    omega
 ·rw [run_stop k1]; simp [sp_contains2]
theorem ok_cRun : ∀ (t : Task) (sensors : List Int) (tree : List TNode) (s_ : List Int), F_cRun t sensors tree s_ (fun r => r = sp_cRun t sensors tree s_) := fun t sensors tree s => by
 unfold F_cRun
 simp only [forall_eq, beq_zero, Bool.not_eq_true', Bool.not_eq_false', decide_eq_true_eq, decide_eq_false_iff_not]
 unfold sp_cRun
 refine ⟨fun h => by rw [if_neg h], fun h => ?_⟩
 have hc := cv_ok h
 rw [if_pos h]
 refine ⟨set_range hc.1, fun g => by rw [if_neg (by rw [g]; decide)], fun g => ⟨⟨hc.1, hc.2.2.1, g⟩, by rw [if_pos g]⟩⟩
end Go.Proofs.YtojoehfldbimpaaGreatDoor.Pl

namespace Go.Proofs.YtojoehfldbimpaaGreatDoor.Pl
open Go Go.RowKit
theorem within_sure {t : Task} {sensors : List Int} {ws : Bel} (h : sp_sure ws t.goal = true) : ∀ d : Nat, within t sensors d ws = true
 | 0 => h
 | d + 1 => by unfold within; rw [h]; rfl
theorem within_succ {t : Task} {sensors : List Int} {ws : Bel} (h : sp_sure ws t.goal = false) (d : Nat) : within t sensors (d + 1) ws = (((bsucc t ws).any fun x => within t sensors d x.2) || sensors.any fun f => obsOk ws f && (within t sensors d (sp_observed ws f).1 && within t sensors d (sp_observed ws f).2)) := by
 conv => lhs; unfold within
 rw [h, Bool.false_or]
theorem ops_hit {t : Task} {sensors : List Int} {ws : Bel} {d : Nat} {o : Int} (ho : inb t.ops o) (hs : sp_sure ws (gt t.ops o).pre = true) (hw : within t sensors d (sp_bafter t ws o) = true) : ((bsucc t ws).any fun x => within t sensors d x.2) = true := by
 rw [List.any_eq_true]
 exact ⟨(o, sp_bafter t ws o), mem_bsucc.2 ⟨ho, hs, rfl⟩, hw⟩
theorem ops_none {t : Task} {sensors : List Int} {ws : Bel} {d : Nat} (h : ∀ j : Nat, j < t.ops.length → sp_sure ws (gt t.ops (j : Int)).pre = true → within t sensors d (sp_bafter t ws j) = false) : ((bsucc t ws).any fun x => within t sensors d x.2) = false := by
 rw [List.any_eq_false]
 intro x hx
 obtain ⟨h1, h2, h3⟩ := mem_bsucc.1 hx
 have e : ((x.1.toNat : Nat) : Int) = x.1 := by have := h1.1; omega
 have := h x.1.toNat (inb_lt h1) (by rw [e]; exact h2)
 rw [e, ← h3] at this
 rw [this]; decide
theorem obs_len {ws : Bel} {f : Int} : obsOk ws f = (decide (0 < (((sp_observed ws f).1.length : Nat) : Int)) && decide (0 < (((sp_observed ws f).2.length : Nat) : Int))) := by
 unfold obsOk
 cases h1 : (sp_observed ws f).1 <;> cases h2 : (sp_observed ws f).2 <;> simp
 all_goals omega
theorem sens_hit {t : Task} {sensors : List Int} {ws : Bel} {d : Nat} {f : Int} (hf : f ∈ sensors) (ho : obsOk ws f = true) (h1 : within t sensors d (sp_observed ws f).1 = true) (h2 : within t sensors d (sp_observed ws f).2 = true) : (sensors.any fun f => obsOk ws f && (within t sensors d (sp_observed ws f).1 && within t sensors d (sp_observed ws f).2)) = true := by
 rw [List.any_eq_true]
 exact ⟨f, hf, by rw [ho, h1, h2]; rfl⟩
theorem sens_none {t : Task} {sensors : List Int} {ws : Bel} {d : Nat} (h : ∀ j : Nat, j < sensors.length → (obsOk ws (gt sensors (j : Int)) && (within t sensors d (sp_observed ws (gt sensors (j : Int))).1 && within t sensors d (sp_observed ws (gt sensors (j : Int))).2)) = false) : (sensors.any fun f => obsOk ws f && (within t sensors d (sp_observed ws f).1 && within t sensors d (sp_observed ws f).2)) = false := by
 rw [List.any_eq_false]
 intro f hf
 obtain ⟨j, hj, rfl⟩ := mem_gt hf
 rw [h j hj]; decide
theorem obs_pre {t : Task} (hv : sp_validate t = ⟨0, 0⟩) {ws : Bel} (hw : WsOK t ws) (f : Int) : pre_observed ws f := ⟨by have := hw.1; omega, fun s hs => by have := set_len24 hv (hw.2 s hs); omega⟩
theorem within_pre {t : Task} {sensors : List Int} {ws : Bel} {d : Nat} (h : pre_within t sensors ws ((d : Int) + 1)) {x : Bel} (hx : WsOK t x) : pre_within t sensors x d := ⟨h.1, hx, h.2.2.1, by omega, by have := h.2.2.2.2; omega⟩
theorem nat_pred (d : Nat) (h : (d : Int) ≤ 6) : IntKind.i64.wrap ((d : Int) + 1 - 1) = d := by rw [w64 (by omega)]; omega
end Go.Proofs.YtojoehfldbimpaaGreatDoor.Pl

namespace Go.Proofs.YtojoehfldbimpaaGreatDoor.Pl
open Go Go.RowKit
theorem key_split {d e : Int} {a b : Bel} (h : (Lib.itoa d ++ [58]) ++ keyL a = (Lib.itoa e ++ [58]) ++ keyL b) : d = e ∧ a = b := by
 rw [List.append_assoc, List.append_assoc] at h
 obtain ⟨h1, h2⟩ := split_at (itoa_ne d (.inr (by decide))) (itoa_ne e (.inr (by decide))) h
 exact ⟨itoa_inj h1, keyL_inj h2⟩
theorem srInv_start (k : Srch) : srInv k (fun _ => 0) := fun _ _ _ _ h => absurd h (Int.lt_irrefl 0)
theorem srInv_upd {k : Srch} {m : List UInt8 → Int} (h : srInv k m) {d : Int} {ws : Bel} (hw : within k.t k.sensors d.toNat ws = false) : srInv k (upd m ((Lib.itoa d ++ [58]) ++ keyL ws) 1) := fun d' ws' h0 hk hm => by
 by_cases e : (Lib.itoa d' ++ [58]) ++ keyL ws' = (Lib.itoa d ++ [58]) ++ keyL ws
 ·obtain ⟨rfl, rfl⟩ := key_split e
  exact hw
 ·rw [upd_ne e] at hm
  exact h d' ws' h0 hk hm
theorem itoa_len {d : Int} (h : 0 ≤ d ∧ d ≤ 100) : (Lib.itoa d).length ≤ 21 := Lib.itoa_length_le d (by omega) (by omega)
theorem key_len {t : Task} (hv : sp_validate t = ⟨0, 0⟩) {ws : Bel} (hw : WsOK t ws) : (keyL ws).length ≤ 22001 * 16 := by
 have h1 := keyL_len (key_ok hv hw).2
 have h2 := hw.1
 omega
theorem ok_scan : ∀ (k : Srch) (worlds : List (List Int)) (depth : Int), pre_scan k worlds depth → F_scan k worlds depth (fun r => r = sp_scan k worlds depth) := fun kk l depth hp m hm => by
 obtain ⟨t, sensors⟩ := kk
 obtain ⟨hv, hw, hse, d0, d6⟩ := hp
 simp only at hv hw hse
 have hgoal : pre_sure l t.goal := pre_sure_of hv hw (TaskOK.rng hv).2.2.2
 have hkey := key_ok hv hw
 have hil := itoa_len (d := depth) ⟨d0, by omega⟩
 have hkl := key_len hv hw
 simp only [forall_eq, beq_iff_eq, beq_eq_false_iff_ne, ne_eq, sp_itoa, sp_key, decide_eq_true_eq, decide_eq_false_iff_not]
 refine ⟨hgoal, fun h => (within_sure h _).symm, fun h => ⟨fun e => ?_, fun e => ⟨⟨by omega, by omega⟩, ?_, hkey, ?_, fun g => ?_, fun _ => ?_⟩⟩⟩
 ·rw [e, ← h]; rfl
 ·simp; omega
 ·simp; omega
 ·exact (hm depth l d0 hw g).symm
 ·obtain ⟨d, rfl⟩ : ∃ d : Nat, depth = (d : Int) + 1 := ⟨(depth - 1).toNat, by omega⟩
  have hops := (taskOK_of hv).len
  have hsl := set_len24 hv hse
  have hd : (d : Int) ≤ 6 := by omega
  have hp' : pre_within t sensors l ((d : Int) + 1) := ⟨hv, hw, hse, d0, d6⟩
  have eW : sp_scan ⟨t, sensors⟩ l ((d : Int) + 1) = within t sensors (d + 1) l := by unfold sp_scan; rw [show ((d : Int) + 1).toNat = d + 1 by omega]
  have eD : ∀ x : Bel, sp_scan ⟨t, sensors⟩ x d = within t sensors d x := fun x => by unfold sp_scan; rw [show ((d : Int)).toNat = d by omega]
  have ws := within_succ (sensors := sensors) h d
  intro _ _
  refine ⟨fun op mm => ∃ k : Nat, op = k ∧ k ≤ t.ops.length ∧ srInv ⟨t, sensors⟩ mm ∧ ∀ j : Nat, j < k → sp_sure l (gt t.ops (j : Int)).pre = true → within t sensors d (sp_bafter t l j) = false, fun op _ => (t.ops.length - op).toNat, ⟨0, rfl, by omega, hm, fun j hj => by omega⟩, ?_⟩
  rintro _ mm ⟨k, rfl, k1, k3, k2⟩
  unfold F_scan_L1 F_scan_J1
  simp only [forall_eq, decide_eq_true_eq, decide_eq_false_iff_not, nat_pred d hd, eD, eW]
  refine ⟨fun g => ?_, fun g => ?_⟩
  ·have hk : k < t.ops.length := by omega
   have hin : inb t.ops (k : Int) := ⟨by omega, g⟩
   rw [w64 (n := (k : Int) + 1) (by omega)]
   refine ⟨hin, pre_sure_of hv hw ((taskOK_of hv).op hin).1, fun q => ⟨⟨hv, hin, hw⟩, k3, within_pre hp' (bafter_ok hv hw _), by unfold mu_scan; omega, fun m5 hm5 => ⟨fun q2 => ?_, fun q2 => ⟨⟨k + 1, by omega, by omega, hm5, fun j hj hs => ?_⟩, by omega⟩⟩⟩, fun q => ⟨⟨k + 1, by omega, by omega, k3, fun j hj hs => ?_⟩, by omega⟩⟩
   ·rw [ws, ops_hit hin q q2]; rfl
   ·rcases Nat.lt_succ_iff_lt_or_eq.1 hj with q' | rfl
    ·exact k2 j q' hs
    ·exact q2
   ·rcases Nat.lt_succ_iff_lt_or_eq.1 hj with q' | rfl
    ·exact k2 j q' hs
    ·rw [q] at hs; cases hs
  ·rw [ops_none fun j hj hs => k2 j (by omega) hs, Bool.false_or] at ws
   refine ⟨fun i mm => ∃ k : Nat, i = k ∧ k ≤ sensors.length ∧ srInv ⟨t, sensors⟩ mm ∧ ∀ j : Nat, j < k → (obsOk l (gt sensors (j : Int)) && (within t sensors d (sp_observed l (gt sensors (j : Int))).1 && within t sensors d (sp_observed l (gt sensors (j : Int))).2)) = false, fun i _ => (sensors.length - i).toNat, ⟨0, rfl, by omega, k3, fun j hj => by omega⟩, ?_⟩
   rintro _ mm2 ⟨i, rfl, m1, m3, m2⟩
   unfold F_scan_L2 F_scan_J2
   simp only [forall_eq, decide_eq_true_eq, decide_eq_false_iff_not, nat_pred d hd, eD, sp_split]
   refine ⟨fun g => ?_, fun g => ?_⟩
   ·have hi : i < sensors.length := by omega
    have next : ∀ m9, srInv ⟨t, sensors⟩ m9 → (obsOk l (gt sensors (i : Int)) && (within t sensors d (sp_observed l (gt sensors (i : Int))).1 && within t sensors d (sp_observed l (gt sensors (i : Int))).2)) = false → (∃ k : Nat, IntKind.i64.wrap ((i : Int) + 1) = k ∧ k ≤ sensors.length ∧ srInv ⟨t, sensors⟩ m9 ∧ ∀ j : Nat, j < k → (obsOk l (gt sensors (j : Int)) && (within t sensors d (sp_observed l (gt sensors (j : Int))).1 && within t sensors d (sp_observed l (gt sensors (j : Int))).2)) = false) ∧ ((sensors.length : Int) - IntKind.i64.wrap ((i : Int) + 1)).toNat < ((sensors.length : Int) - i).toNat := fun m9 h9 q => by
     rw [w64 (by omega)]
     refine ⟨⟨i + 1, by omega, by omega, h9, fun j hj => ?_⟩, by omega⟩
     rcases Nat.lt_succ_iff_lt_or_eq.1 hj with q' | rfl
     ·exact m2 j q'
     ·exact q
    have ho := obs_len (ws := l) (f := gt sensors (i : Int))
    have hok := observed_ok hw (gt sensors (i : Int))
    refine ⟨⟨by omega, g⟩, obs_pre hv hw _, fun a => ⟨fun b => ⟨m3, within_pre hp' hok.1, by unfold mu_scan; omega, fun m9 h9 => ⟨fun c => ⟨within_pre hp' hok.2, by unfold mu_scan; omega, fun m10 h10 => ⟨fun e => ⟨h10, ?_⟩, fun e => next m10 h10 ?_⟩⟩, fun c => ⟨fun q => by simp at q, fun _ => next m9 h9 ?_⟩⟩⟩, fun b => ⟨fun q => by simp at q, fun _ => next mm2 m3 ?_⟩⟩, fun a => ⟨fun q => by simp at q, fun _ => next mm2 m3 ?_⟩⟩
    ·rw [ws, sens_hit (gt_memN hi) (by rw [ho, decide_eq_true a, decide_eq_true b]; rfl) c e]
    ·rw [e]; simp
    ·rw [c]; simp
    ·rw [ho, decide_eq_false b]; simp
    ·rw [ho, decide_eq_false a]; simp
   ·have hf := sens_none (ws := l) (d := d) (t := t) fun j hj => m2 j (by omega)
    rw [hf] at ws
    refine ⟨srInv_upd m3 ?_, ws.symm⟩
    rw [show ((d : Int) + 1).toNat = d + 1 by omega]
    exact ws
theorem leastW_some {t : Task} {sensors : List Int} {ws : Bel} {n d : Nat} : leastW t sensors ws n = some d ↔ within t sensors d ws = true ∧ d ≤ n ∧ ∀ j : Nat, j < d → within t sensors j ws = false := by
 unfold leastW
 rw [List.find?_range_eq_some]
 simp only [List.mem_range, Bool.not_eq_true']
 constructor
 ·rintro ⟨a, b, c⟩; exact ⟨a, by omega, fun j hj => by simpa using c j hj⟩
 ·rintro ⟨a, b, c⟩; exact ⟨a, by omega, fun j hj => by simpa using c j hj⟩
theorem leastW_none {t : Task} {sensors : List Int} {ws : Bel} {n : Nat} : leastW t sensors ws n = none ↔ ∀ j : Nat, j ≤ n → within t sensors j ws = false := by
 unfold leastW
 rw [List.find?_eq_none]
 simp only [List.mem_range, Bool.not_eq_true]
 exact ⟨fun h j hj => h j (by omega), fun h j hj => h j (by omega)⟩
theorem ok_sleast : ∀ (k : Srch) (worlds : List (List Int)) (most : Int), pre_sleast k worlds most → F_sleast k worlds most (fun r => r = sp_sleast k worlds most) := fun k l most hp m hm => by
 obtain ⟨hv, hw, hse, d0, d6⟩ := hp
 refine ⟨fun i mm => ∃ n : Nat, i = n ∧ (n : Int) ≤ most + 1 ∧ srInv k mm ∧ ∀ j : Nat, j < n → within k.t k.sensors j l = false, fun i _ => (most + 1 - i).toNat, ⟨0, rfl, by omega, hm, fun j hj => by omega⟩, ?_⟩
 rintro _ mm ⟨n, rfl, n1, n3, n2⟩
 unfold F_sleast_L1
 simp only [forall_eq, decide_eq_true_eq, decide_eq_false_iff_not]
 rw [w64 (n := most + 1) (by omega), w64 (n := (n : Int) + 1) (by omega)]
 have e : sp_scan k l n = within k.t k.sensors n l := by unfold sp_scan; rw [show ((n : Int)).toNat = n by omega]
 rw [e]
 refine ⟨fun g => ⟨n3, ⟨hv, hw, hse, by omega, by omega⟩, fun m4 h4 => ⟨fun q => ?_, fun q => ⟨⟨n + 1, by omega, by omega, h4, fun j hj => ?_⟩, by omega⟩⟩⟩, fun g => ⟨n3, ?_⟩⟩
 ·unfold sp_sleast
  rw [leastW_some.2 ⟨q, by omega, n2⟩]
 ·rcases Nat.lt_succ_iff_lt_or_eq.1 hj with q' | rfl
  ·exact n2 j q'
  ·exact q
 ·unfold sp_sleast
  rw [leastW_none.2 fun j hj => n2 j (by omega)]
theorem ok_sput : ∀ (k : Srch) (tr : List TNode) (n_ : TNode), pre_sput k tr n_ → F_sput k tr n_ (fun r => r = sp_sput k tr n_) := fun k tr n hp m _ => by
 unfold pre_sput at hp
 simp only [forall_eq]
 refine ⟨⟨by simp [maxLen]; omega, by simp; omega⟩, ?_⟩
 unfold sp_sput
 rw [List.length_append, w64 (by simp; omega)]
 simp
end Go.Proofs.YtojoehfldbimpaaGreatDoor.Pl

namespace Go.Proofs.YtojoehfldbimpaaGreatDoor.Pl
open Go Go.RowKit
theorem within_step {t : Task} {sensors : List Int} : ∀ (d : Nat) {ws : Bel}, within t sensors d ws = true → within t sensors (d + 1) ws = true
 | 0, ws, h => within_sure h 1
 | d + 1, ws, h => by
  by_cases hs : sp_sure ws t.goal = true
  ·exact within_sure hs _
  ·have hs' : sp_sure ws t.goal = false := by simpa using hs
   rw [within_succ hs', Bool.or_eq_true] at h
   rw [within_succ hs', Bool.or_eq_true]
   rcases h with h | h
   ·rw [List.any_eq_true] at h
    obtain ⟨x, hx, hw⟩ := h
    exact .inl (List.any_eq_true.2 ⟨x, hx, within_step d hw⟩)
   ·rw [List.any_eq_true] at h
    obtain ⟨f, hf, hw⟩ := h
    simp only [Bool.and_eq_true] at hw
    refine .inr (List.any_eq_true.2 ⟨f, hf, ?_⟩)
    simp only [Bool.and_eq_true]
    exact ⟨hw.1, within_step d hw.2.1, within_step d hw.2.2⟩
theorem within_mono {t : Task} {sensors : List Int} {d e : Nat} (hde : d ≤ e) {ws : Bel} (h : within t sensors d ws = true) : within t sensors e ws = true := by
 induction e with
 | zero => rw [show d = 0 by omega] at h; exact h
 | succ e ih =>
  by_cases q : d = e + 1
  ·rw [← q]; exact h
  ·exact within_step e (ih (by omega))
theorem treeT_least {t : Task} {sensors : List Int} {d e : Nat} (hde : d ≤ e) {ws : Bel} (h : within t sensors d ws = true) (out : List TNode) : treeT t sensors e ws out = treeT t sensors d ws out := by
 induction e with
 | zero => rw [show d = 0 by omega]
 | succ e ih =>
  by_cases q : d = e + 1
  ·rw [q]
  ·rw [← ih (by omega)]
   conv => lhs; unfold treeT
   rw [if_pos (within_mono (by omega) h)]
theorem treeT_len {t : Task} {sensors : List Int} : ∀ (d : Nat) (ws : Bel) (out : List TNode), (treeT t sensors d ws out).length + 1 ≤ out.length + 2 ^ (d + 1)
 | 0, ws, out => by simp [treeT]
 | d + 1, ws, out => by
  have hp : 2 ^ (d + 1 + 1) = 2 ^ (d + 1) + 2 ^ (d + 1) := by omega
  have h1 : 1 ≤ 2 ^ (d + 1) := Nat.one_le_two_pow
  unfold treeT
  split
  ·have := treeT_len (t := t) (sensors := sensors) d ws out; omega
  ·split
   ·rename_i x _
    have := treeT_len (t := t) (sensors := sensors) d x.2 out
    rw [List.length_append]; simp only [List.length_singleton]; omega
   ·split
    ·rename_i f _
     have a := treeT_len (t := t) (sensors := sensors) d (sp_observed ws f).1 out
     have b := treeT_len (t := t) (sensors := sensors) d (sp_observed ws f).2 (treeT t sensors d (sp_observed ws f).1 out)
     rw [List.length_append]; simp only [List.length_singleton]; omega
    ·omega
theorem find_ops {t : Task} {sensors : List Int} {ws : Bel} {d j : Nat} (hj : j < t.ops.length) (hs : sp_sure ws (gt t.ops (j : Int)).pre = true) (hw : within t sensors d (sp_bafter t ws j) = true) (hn : ∀ i : Nat, i < j → sp_sure ws (gt t.ops (i : Int)).pre = true → within t sensors d (sp_bafter t ws i) = false) :
  ((bsucc t ws).find? fun x => within t sensors d x.2) = some ((j : Int), sp_bafter t ws j) := by
 have hm : ((j : Int), sp_bafter t ws j) ∈ bsucc t ws := mem_bsucc.2 ⟨⟨by omega, by omega⟩, hs, rfl⟩
 obtain ⟨ys, bs, e⟩ := List.append_of_mem hm
 rw [List.find?_eq_some_iff_append]
 refine ⟨hw, ys, bs, e, fun a ha => ?_⟩
 have hso := bsucc_sorted t ws
 have ham : a ∈ bsucc t ws := by rw [e]; exact List.mem_append_left _ ha
 rw [e, List.map_append, List.pairwise_append] at hso
 have hlt := hso.2.2 a.1 (List.mem_map_of_mem ha) (j : Int) (by simp)
 obtain ⟨h1, h2, h3⟩ := mem_bsucc.1 ham
 have e1 : ((a.1.toNat : Nat) : Int) = a.1 := by have := h1.1; omega
 have := hn a.1.toNat (by have := h1.1; omega) (by rw [e1]; exact h2)
 rw [e1, ← h3] at this
 rw [this]; rfl
theorem find_ops_none {t : Task} {sensors : List Int} {ws : Bel} {d : Nat} (h : ∀ j : Nat, j < t.ops.length → sp_sure ws (gt t.ops (j : Int)).pre = true → within t sensors d (sp_bafter t ws j) = false) : ((bsucc t ws).find? fun x => within t sensors d x.2) = none := by
 rw [List.find?_eq_none]
 have := List.any_eq_false.1 (ops_none h)
 exact this
theorem find_sens {t : Task} {sensors : List Int} {ws : Bel} {d j : Nat} (hj : j < sensors.length) (hw : (obsOk ws (gt sensors (j : Int)) && (within t sensors d (sp_observed ws (gt sensors (j : Int))).1 && within t sensors d (sp_observed ws (gt sensors (j : Int))).2)) = true) (hn : ∀ i : Nat, i < j → (obsOk ws (gt sensors (i : Int)) && (within t sensors d (sp_observed ws (gt sensors (i : Int))).1 && within t sensors d (sp_observed ws (gt sensors (i : Int))).2)) = false) :
  (sensors.find? fun f => obsOk ws f && (within t sensors d (sp_observed ws f).1 && within t sensors d (sp_observed ws f).2)) = some (gt sensors (j : Int)) := by
 rw [List.find?_eq_some_iff_append]
 have e : sensors = sensors.take j ++ gt sensors (j : Int) :: sensors.drop (j + 1) := by
  have h1 := takeN_gt hj
  have h2 := List.take_append_drop (j + 1) sensors
  rw [h1, List.append_assoc] at h2
  exact h2.symm
 refine ⟨hw, _, _, e, fun a ha => ?_⟩
 obtain ⟨i, hi, rfl⟩ := mem_gt ha
 rw [List.length_take] at hi
 have e2 : gt (sensors.take j) (i : Int) = gt sensors (i : Int) := by
  rw [gt_of ⟨by omega, by rw [List.length_take]; omega⟩, gt_of ⟨by omega, by omega⟩]; simp
 rw [e2, hn i (by omega)]; rfl
theorem treeT_op {t : Task} {sensors : List Int} {ws : Bel} {d j : Nat} (h0 : within t sensors d ws = false) (hj : j < t.ops.length) (hs : sp_sure ws (gt t.ops (j : Int)).pre = true) (hw : within t sensors d (sp_bafter t ws j) = true) (hn : ∀ i : Nat, i < j → sp_sure ws (gt t.ops (i : Int)).pre = true → within t sensors d (sp_bafter t ws i) = false) (out : List TNode) :
  treeT t sensors (d + 1) ws out = treeT t sensors d (sp_bafter t ws j) out ++ [⟨2, j, 0, ((treeT t sensors d (sp_bafter t ws j) out).length : Int) - 1, 0⟩] := by
 conv => lhs; unfold treeT
 rw [if_neg (by rw [h0]; decide), find_ops hj hs hw hn]
theorem treeT_obs {t : Task} {sensors : List Int} {ws : Bel} {d j : Nat} (h0 : within t sensors d ws = false) (ho : ∀ j : Nat, j < t.ops.length → sp_sure ws (gt t.ops (j : Int)).pre = true → within t sensors d (sp_bafter t ws j) = false) (hj : j < sensors.length)
  (hw : (obsOk ws (gt sensors (j : Int)) && (within t sensors d (sp_observed ws (gt sensors (j : Int))).1 && within t sensors d (sp_observed ws (gt sensors (j : Int))).2)) = true) (hn : ∀ i : Nat, i < j → (obsOk ws (gt sensors (i : Int)) && (within t sensors d (sp_observed ws (gt sensors (i : Int))).1 && within t sensors d (sp_observed ws (gt sensors (i : Int))).2)) = false) (out : List TNode) :
  treeT t sensors (d + 1) ws out = treeT t sensors d (sp_observed ws (gt sensors (j : Int))).2 (treeT t sensors d (sp_observed ws (gt sensors (j : Int))).1 out) ++ [⟨3, 0, gt sensors (j : Int), ((treeT t sensors d (sp_observed ws (gt sensors (j : Int))).1 out).length : Int) - 1, ((treeT t sensors d (sp_observed ws (gt sensors (j : Int))).2 (treeT t sensors d (sp_observed ws (gt sensors (j : Int))).1 out)).length : Int) - 1⟩] := by
 conv => lhs; unfold treeT
 rw [if_neg (by rw [h0]; decide), find_ops_none ho, find_sens hj hw hn]
theorem pow_mono {a b : Nat} (h : a ≤ b) : 2 ^ (a + 1) ≤ 2 ^ (b + 1) := Nat.pow_le_pow_right (by decide) (by omega)
end Go.Proofs.YtojoehfldbimpaaGreatDoor.Pl

namespace Go.Proofs.YtojoehfldbimpaaGreatDoor.Pl
open Go Go.RowKit
theorem sbuild_of {k : Srch} {tr : List TNode} {ws : Bel} {d : Nat} (hd : (d : Int) ≤ 6) (hp : pre_within k.t k.sensors ws d) (hsz : tr.length + 2 ^ (d + 1) ≤ 1000) (hw : within k.t k.sensors d ws = true) (hn : ∀ j : Nat, j < d → within k.t k.sensors j ws = false) : pre_sbuild k tr ws d := by
 refine ⟨⟨hp, ?_, ?_⟩, fun j hj => hn j (by omega)⟩
 ·rw [show ((d : Int)).toNat = d by omega]; exact hsz
 ·rw [show ((d : Int)).toNat = d by omega]; exact hw
theorem sbuild_eq (k : Srch) (tr : List TNode) (ws : Bel) (d : Nat) : sp_sbuild k tr ws d = (((treeT k.t k.sensors d ws tr).length : Int) - 1, treeT k.t k.sensors d ws tr) := by
 unfold sp_sbuild; rw [show ((d : Int)).toNat = d by omega]
theorem sleast_ge {k : Srch} {ws : Bel} {d : Nat} (h : 0 ≤ sp_sleast k ws d) : ∃ e : Nat, sp_sleast k ws d = e ∧ e ≤ d ∧ within k.t k.sensors e ws = true ∧ ∀ j : Nat, j < e → within k.t k.sensors j ws = false := by
 unfold sp_sleast at h ⊢
 rw [show ((d : Int)).toNat = d by omega] at h ⊢
 cases hl : leastW k.t k.sensors ws d with
 | none => rw [hl] at h; simp at h
 | some e =>
  obtain ⟨a, b, c⟩ := leastW_some.1 hl
  exact ⟨e, rfl, b, a, c⟩
theorem sleast_lt {k : Srch} {ws : Bel} {d : Nat} (h : ¬ 0 ≤ sp_sleast k ws d) : within k.t k.sensors d ws = false := by
 unfold sp_sleast at h
 rw [show ((d : Int)).toNat = d by omega] at h
 cases hl : leastW k.t k.sensors ws d with
 | none => exact leastW_none.1 hl d (Nat.le_refl _)
 | some e => rw [hl] at h; simp at h
theorem ok_sbuild : ∀ (k : Srch) (tr : List TNode) (worlds : List (List Int)) (depth : Int), pre_sbuild k tr worlds depth → F_sbuild k tr worlds depth (fun r => r = sp_sbuild k tr worlds depth) := fun kk tr l depth ⟨⟨hp, hsz, hwm⟩, hlo⟩ m hm => by
 obtain ⟨t, sensors⟩ := kk
 obtain ⟨hv, hw, hse, d0, d6⟩ := hp
 simp only at hv hw hse hwm hlo
 simp only [forall_eq, beq_iff_eq, beq_eq_false_iff_ne, ne_eq]
 refine ⟨fun e => ?_, fun e => ?_⟩
 ·subst e
  refine ⟨by unfold pre_sput; simp at hsz; omega, fun m2 _ => ?_⟩
  unfold sp_sput sp_sbuild treeT
  simp
 ·obtain ⟨d, rfl⟩ : ∃ d : Nat, depth = (d : Int) + 1 := ⟨(depth - 1).toNat, by omega⟩
  have hops := (taskOK_of hv).len
  have hsl := set_len24 hv hse
  have hd : (d : Int) ≤ 6 := by omega
  have h0 := hlo d (by omega)
  rw [show ((d : Int) + 1).toNat = d + 1 by omega] at hsz hwm
  have hp2 : 2 ^ (d + 1 + 1) = 2 ^ (d + 1) + 2 ^ (d + 1) := by omega
  have h1 : 1 ≤ 2 ^ (d + 1) := Nat.one_le_two_pow
  have hpre : ∀ {x : Bel}, WsOK t x → pre_within t sensors x d := fun hx => ⟨hv, hx, hse, by omega, by omega⟩
  have hs0 : sp_sure l t.goal = false := by
   cases hs : sp_sure l t.goal with
   | false => rfl
   | true => rw [within_sure hs] at h0; cases h0
  have eT : sp_sbuild ⟨t, sensors⟩ tr l ((d : Int) + 1) = (((treeT t sensors (d + 1) l tr).length : Int) - 1, treeT t sensors (d + 1) l tr) := by
   unfold sp_sbuild; rw [show ((d : Int) + 1).toNat = d + 1 by omega]
  rw [eT]
  intro _ _
  refine ⟨fun op mm => ∃ k : Nat, op = k ∧ k ≤ t.ops.length ∧ srInv ⟨t, sensors⟩ mm ∧ ∀ j : Nat, j < k → sp_sure l (gt t.ops (j : Int)).pre = true → within t sensors d (sp_bafter t l j) = false, fun op _ => (t.ops.length - op).toNat, ⟨0, rfl, by omega, hm, fun j hj => by omega⟩, ?_⟩
  rintro _ mm ⟨k, rfl, k1, k3, k2⟩
  unfold F_sbuild_L1 F_sbuild_J1
  simp only [forall_eq, decide_eq_true_eq, decide_eq_false_iff_not, nat_pred d hd]
  refine ⟨fun g => ?_, fun g => ?_⟩
  ·have hk : k < t.ops.length := by omega
   have hin : inb t.ops (k : Int) := ⟨by omega, g⟩
   have hbw := bafter_ok hv hw (k : Int)
   rw [w64 (n := (k : Int) + 1) (by omega)]
   refine ⟨hin, pre_sure_of hv hw ((taskOK_of hv).op hin).1, fun q => ⟨⟨hv, hin, hw⟩, k3, hpre hbw, fun m6 h6 => ⟨fun q2 => ?_, fun q2 => ⟨⟨k + 1, by omega, by omega, h6, fun j hj hs => ?_⟩, by omega⟩⟩⟩, fun q => ⟨⟨k + 1, by omega, by omega, k3, fun j hj hs => ?_⟩, by omega⟩⟩
   ·obtain ⟨e, he, e1, e2, e3⟩ := sleast_ge q2
    simp only at e2 e3
    have hpow := pow_mono e1
    have eL : treeT t sensors e (sp_bafter t l k) tr = treeT t sensors d (sp_bafter t l k) tr := (treeT_least e1 e2 tr).symm
    have hlen := treeT_len (t := t) (sensors := sensors) d (sp_bafter t l k) tr
    rw [he, sbuild_eq]
    refine ⟨sbuild_of (by omega) ⟨hv, hbw, hse, by omega, by omega⟩ (by omega) e2 e3, by unfold mu_sbuild; omega, fun m7 _ => ⟨?_, fun m8 _ => ?_⟩⟩
    ·unfold pre_sput; simp only; rw [eL]; omega
    ·rw [treeT_op h0 hk q (within_mono e1 e2) k2]
     unfold sp_sput
     simp only [eL]
     simp
   ·rcases Nat.lt_succ_iff_lt_or_eq.1 hj with q' | rfl
    ·exact k2 j q' hs
    ·exact sleast_lt q2
   ·rcases Nat.lt_succ_iff_lt_or_eq.1 hj with q' | rfl
    ·exact k2 j q' hs
    ·rw [q] at hs; cases hs
  ·have hno : ∀ j : Nat, j < t.ops.length → sp_sure l (gt t.ops (j : Int)).pre = true → within t sensors d (sp_bafter t l j) = false := fun j hj hs => k2 j (by omega) hs
   refine ⟨fun i mm => ∃ k : Nat, i = k ∧ k ≤ sensors.length ∧ srInv ⟨t, sensors⟩ mm ∧ ∀ j : Nat, j < k → (obsOk l (gt sensors (j : Int)) && (within t sensors d (sp_observed l (gt sensors (j : Int))).1 && within t sensors d (sp_observed l (gt sensors (j : Int))).2)) = false, fun i _ => (sensors.length - i).toNat, ⟨0, rfl, by omega, k3, fun j hj => by omega⟩, ?_⟩
   rintro _ mm2 ⟨i, rfl, m1, m3, m2⟩
   unfold F_sbuild_L2 F_sbuild_J3
   simp only [forall_eq, decide_eq_true_eq, decide_eq_false_iff_not, nat_pred d hd, sp_split, beq_iff_eq, beq_eq_false_iff_ne, ne_eq]
   refine ⟨fun g => ?_, fun g => ?_⟩
   ·have hi : i < sensors.length := by omega
    have next : ∀ m9, srInv ⟨t, sensors⟩ m9 → (obsOk l (gt sensors (i : Int)) && (within t sensors d (sp_observed l (gt sensors (i : Int))).1 && within t sensors d (sp_observed l (gt sensors (i : Int))).2)) = false → F_sbuild_J2 mm2 m9 i (fun i mm => ∃ k : Nat, i = k ∧ k ≤ sensors.length ∧ srInv ⟨t, sensors⟩ mm ∧ ∀ j : Nat, j < k → (obsOk l (gt sensors (j : Int)) && (within t sensors d (sp_observed l (gt sensors (j : Int))).1 && within t sensors d (sp_observed l (gt sensors (j : Int))).2)) = false) (fun i _ => (sensors.length - i).toNat) := fun m9 h9 q => by
     unfold F_sbuild_J2
     rw [w64 (by omega)]
     refine ⟨⟨i + 1, by omega, by omega, h9, fun j hj => ?_⟩, by show ((sensors.length : Int) - ((i : Int) + 1)).toNat < ((sensors.length : Int) - i).toNat; omega⟩
     rcases Nat.lt_succ_iff_lt_or_eq.1 hj with q' | rfl
     ·exact m2 j q'
     ·exact q
    have ho := obs_len (ws := l) (f := gt sensors (i : Int))
    have hok := observed_ok hw (gt sensors (i : Int))
    have l1 := treeT_len (t := t) (sensors := sensors) d (sp_observed l (gt sensors (i : Int))).1 tr
    have l2 := treeT_len (t := t) (sensors := sensors) d (sp_observed l (gt sensors (i : Int))).2 (treeT t sensors d (sp_observed l (gt sensors (i : Int))).1 tr)
    refine ⟨⟨by omega, g⟩, obs_pre hv hw _, fun a => ⟨fun _ => next mm2 m3 ?_, fun z => by simp at z⟩, fun a => ⟨fun b => next mm2 m3 ?_, fun b => ⟨m3, hpre hok.1, fun m12 _ => ⟨hpre hok.2, fun m13 h13 => ⟨fun c => ?_, fun c => ?_⟩⟩⟩⟩⟩
    ·rw [ho, decide_eq_false (by omega)]; simp
    ·rw [ho, decide_eq_false (p := (0 : Int) < (((sp_observed l (gt sensors (i : Int))).2.length : Nat) : Int)) (by omega)]; simp
    ·unfold F_sbuild_J4
     simp only [forall_eq, decide_eq_true_eq, decide_eq_false_iff_not]
     refine ⟨fun e => ?_, fun e => next m13 h13 ?_⟩
     ·obtain ⟨x, hx, x1, x2, x3⟩ := sleast_ge c
      obtain ⟨y, hy, y1, y2, y3⟩ := sleast_ge e
      simp only at x2 x3 y2 y3
      have px := pow_mono x1
      have py := pow_mono y1
      have eX : treeT t sensors x (sp_observed l (gt sensors (i : Int))).1 tr = treeT t sensors d (sp_observed l (gt sensors (i : Int))).1 tr := (treeT_least x1 x2 tr).symm
      have eY := (treeT_least (sensors := sensors) (t := t) y1 y2 (treeT t sensors d (sp_observed l (gt sensors (i : Int))).1 tr)).symm
      rw [hx, hy, sbuild_eq]
      simp only [eX]
      rw [sbuild_eq]
      simp only [eY]
      refine ⟨h13, sbuild_of (by omega) ⟨hv, hok.1, hse, by omega, by omega⟩ (by omega) x2 x3, by unfold mu_sbuild; omega, fun m14 _ => ⟨sbuild_of (by omega) ⟨hv, hok.2, hse, by omega, by omega⟩ (by omega) y2 y3, by unfold mu_sbuild; omega, fun m15 _ => ⟨by unfold pre_sput; omega, fun m16 _ => ?_⟩⟩⟩
      rw [treeT_obs h0 hno hi (by rw [ho, decide_eq_true (by omega), decide_eq_true (by omega), within_mono x1 x2, within_mono y1 y2]; rfl) m2]
      unfold sp_sput
      simp
     ·have := sleast_lt e
      simp only at this
      rw [this]; simp
    ·unfold F_sbuild_J4
     refine ⟨fun z => by simp at z, fun _ => next m13 h13 ?_⟩
     have := sleast_lt c
     simp only at this
     rw [this]; simp
   ·exfalso
    rw [within_succ hs0, ops_none hno, sens_none fun j hj => m2 j (by omega)] at hwm
    cases hwm
end Go.Proofs.YtojoehfldbimpaaGreatDoor.Pl

namespace Go.Proofs.YtojoehfldbimpaaGreatDoor.Pl
open Go Go.RowKit
def obsL (ws : Bel) (f : Int) : List (Int × Bel) := if obsOk ws f = true then [(-1, (sp_observed ws f).1), (-1, (sp_observed ws f).2)] else []
theorem csucc_def (t : Task) (sensors : List Int) (ws : Bel) : csucc t sensors ws = (allS t.ops.length).filterMap (opS t ws) ++ sensors.flatMap (obsL ws) := rfl
theorem drop_gtC {l : List Int} {j : Nat} (h : j < l.length) : l.drop j = gt l (j : Int) :: l.drop (j + 1) := by
 rw [List.drop_eq_getElem_cons h]
 congr 1
 rw [gt_of ⟨by omega, by omega⟩]; simp
structure QC (t : Task) (l : List Entry) (m : List UInt8 → Int) : Prop where
 map : m = mapOf l
 len : l.length ≤ 2000
 ok : ∀ e ∈ l, WsOK t e.node
theorem QC.push {t : Task} {l : List Entry} {m : List UInt8 → Int} (h : QC t l m) {i : Int} {s : Int} {n : Bel} (hw : WsOK t n) (hl : l.length ≠ 2000) : QC t (l ++ [⟨n, i, s⟩]) (upd m (keyL n) 1) := by
 refine ⟨by rw [h.map]; exact mapOf_push l ⟨n, i, s⟩, by have := h.len; simp; omega, fun e' he' => ?_⟩
 rcases List.mem_append.1 he' with he' | he'
 ·exact h.ok e' he'
 ·rw [List.mem_singleton.1 he']; exact hw
theorem QC.room {t : Task} {l : List Entry} {m : List UInt8 → Int} (h : QC t l m) : Pl.room l.length 40 := ⟨Nat.le_trans h.len (by decide), Nat.le_trans (Nat.mul_le_mul_right 40 h.len) (by decide)⟩
theorem QC.has {t : Task} {l : List Entry} {m : List UInt8 → Int} (h : QC t l m) {n : Bel} : 0 < m (keyL n) ↔ n ∈ l.map (·.node) := by rw [h.map]; exact mapOf_pos
theorem expand_old {i s : Int} {n : Bel} {r : List (Int × Bel)} {q : List Entry} (h : n ∈ q.map (·.node)) : expand i ((s, n) :: r) q = expand i r q := by
 rw [expand, if_pos h]
theorem expand_full {i s : Int} {n : Bel} {r : List (Int × Bel)} {q : List Entry} (h : n ∉ q.map (·.node)) (hl : q.length = 2000) : expand i ((s, n) :: r) q = none := by
 rw [expand, if_neg h, if_pos hl]
theorem expand_new {i s : Int} {n : Bel} {r : List (Int × Bel)} {q : List Entry} (h : n ∉ q.map (·.node)) (hl : q.length ≠ 2000) : expand i ((s, n) :: r) q = expand i r (q ++ [⟨n, i, s⟩]) := by
 rw [expand, if_neg h, if_neg hl]
theorem ok_breadthC : ∀ (start2 : List (List Int)) (k : Srch), pre_breadthC start2 k → F_breadthC start2 k (fun r => r = sp_breadthC start2 k) := fun start kk hp => by
 obtain ⟨t, sensors⟩ := kk
 obtain ⟨hv, hw, hse⟩ := hp
 simp only at hv hw hse
 have hops := (taskOK_of hv).len
 have hsl := set_len24 hv hse
 refine ⟨key_ok hv hw, ?_⟩
 simp only [forall_eq, sp_key]
 refine ⟨fun x2 l m => ∃ i : Nat, x2 = i ∧ i ≤ l.length ∧ QC t l m ∧ bfs (csucc t sensors) (fun _ => false) (2001 - i) l i = search (csucc t sensors) (fun _ => false) start, fun x2 _ _ => (2001 - x2).toNat, ⟨0, rfl, Nat.zero_le _, ⟨mapOf_one ⟨start, -1, 0⟩, by simp, fun e he => by rw [List.mem_singleton.1 he]; exact hw⟩, rfl⟩, ?_⟩
 rintro _ l m ⟨i, rfl, i1, hq, hb⟩
 have hlen := hq.len
 have ef : 2001 - i = (2000 - i) + 1 := by omega
 unfold F_breadthC_L1
 simp only [forall_eq, decide_eq_true_eq, decide_eq_false_iff_not]
 refine ⟨fun h => ?_, fun h => ?_⟩
 ·have hi : i < l.length := by omega
  have hg := entry_gt hi
  have hwn := hq.ok _ (gt_memN hi)
  rw [ef, bfs] at hb
  simp only [hg] at hb
  refine ⟨⟨by omega, h⟩, fun e => absurd e Bool.false_ne_true, fun _ _ _ _ _ => ?_⟩
  rw [if_neg Bool.false_ne_true, csucc_def] at hb
  refine ⟨fun t9 l4 m3 => ∃ j : Nat, t9 = j ∧ j ≤ t.ops.length ∧ QC t l4 m3 ∧ l.length ≤ l4.length ∧ expand (i : Int) (((allS t.ops.length).drop j).filterMap (opS t (gt l (i : Int)).node) ++ sensors.flatMap (obsL (gt l (i : Int)).node)) l4 = expand (i : Int) ((allS t.ops.length).filterMap (opS t (gt l (i : Int)).node) ++ sensors.flatMap (obsL (gt l (i : Int)).node)) l, fun t9 _ _ => (t.ops.length - t9).toNat, ⟨0, rfl, Nat.zero_le _, hq, Nat.le_refl _, rfl⟩, ?_⟩
  rintro _ l4 m3 ⟨j, rfl, j1, hq4, hl4, he⟩
  have hlen4 := hq4.len
  unfold F_breadthC_L3 F_breadthC_J1
  simp only [forall_eq, decide_eq_true_eq, decide_eq_false_iff_not, beq_iff_eq, beq_eq_false_iff_ne, ne_eq, sp_key]
  refine ⟨fun g => ?_, fun g => ?_⟩
  ·have hj : j < t.ops.length := by omega
   have hin : inb t.ops (j : Int) := ⟨by omega, g⟩
   rw [allS_drop hj, List.filterMap_cons] at he
   rw [w64 (n := (j : Int) + 1) (by omega)]
   refine ⟨hin, pre_sure_of hv hwn ((taskOK_of hv).op hin).1, fun q => ?_, fun q => ?_⟩
   ·have eo : opS t (gt l (i : Int)).node (j : Int) = some ((j : Int), sp_bafter t (gt l (i : Int)).node (j : Int)) := by rw [opS, if_pos q]
    rw [eo] at he
    simp only [List.cons_append] at he
    have hwb := bafter_ok hv hwn (j : Int)
    refine ⟨⟨hv, hin, hwn⟩, key_ok hv hwb, fun k => ?_, fun k => ?_⟩
    ·rw [hq4.has] at k
     rw [expand_old k] at he
     exact ⟨⟨j + 1, by omega, by omega, hq4, hl4, he⟩, by omega⟩
    ·rw [hq4.has] at k
     refine ⟨fun e => ?_, fun e => ?_⟩
     ·rw [expand_full k (by omega)] at he
      rw [← he] at hb
      exact hb
     ·have hne : ¬ l4.length = 2000 := by omega
      rw [expand_new k hne] at he
      have hps := hq4.push (i := (i : Int)) (s := (j : Int)) hwb hne
      exact ⟨hps.room, ⟨j + 1, by omega, by omega, hps, by rw [List.length_append]; omega, he⟩, by omega⟩
   ·have eo : opS t (gt l (i : Int)).node (j : Int) = none := by rw [opS, if_neg (by rw [q]; decide)]
    rw [eo] at he
    exact ⟨⟨j + 1, by omega, by omega, hq4, hl4, he⟩, by omega⟩
  ·have ed : (allS t.ops.length).drop j = [] := List.drop_eq_nil_of_le (by rw [allS_len]; omega)
   rw [ed, List.filterMap_nil, List.nil_append] at he
   rw [← he] at hb
   clear he
   refine ⟨fun t28 l8 m6 => ∃ j : Nat, t28 = j ∧ j ≤ sensors.length ∧ QC t l8 m6 ∧ l.length ≤ l8.length ∧ expand (i : Int) ((sensors.drop j).flatMap (obsL (gt l (i : Int)).node)) l8 = expand (i : Int) (sensors.flatMap (obsL (gt l (i : Int)).node)) l4, fun t28 _ _ => (sensors.length - t28).toNat, ⟨0, rfl, Nat.zero_le _, hq4, hl4, rfl⟩, ?_⟩
   rintro _ l8 m6 ⟨n, rfl, n1, hq8, hl8, he⟩
   have hlen8 := hq8.len
   unfold F_breadthC_L4 F_breadthC_J2
   simp only [forall_eq, decide_eq_true_eq, decide_eq_false_iff_not, beq_iff_eq, beq_eq_false_iff_ne, ne_eq, sp_key, sp_split]
   refine ⟨fun g => ?_, fun g => ?_⟩
   ·have hn : n < sensors.length := by omega
    rw [drop_gtC hn, List.flatMap_cons] at he
    have ho := obs_len (ws := (gt l (i : Int)).node) (f := gt sensors (n : Int))
    have hok := observed_ok hwn (gt sensors (n : Int))
    rw [w64 (n := (n : Int) + 1) (by omega)]
    generalize hY : (sp_observed (gt l (i : Int)).node (gt sensors (n : Int))).1 = Y at ho hok ⊢
    generalize hN : (sp_observed (gt l (i : Int)).node (gt sensors (n : Int))).2 = N at ho hok ⊢
    have skip : obsOk (gt l (i : Int)).node (gt sensors (n : Int)) = false → (∃ j : Nat, (n : Int) + 1 = j ∧ j ≤ sensors.length ∧ QC t l8 m6 ∧ l.length ≤ l8.length ∧ expand (i : Int) ((sensors.drop j).flatMap (obsL (gt l (i : Int)).node)) l8 = expand (i : Int) (sensors.flatMap (obsL (gt l (i : Int)).node)) l4) ∧ ((sensors.length : Int) - ((n : Int) + 1)).toNat < ((sensors.length : Int) - n).toNat := fun q => by
     unfold obsL at he
     rw [if_neg (by rw [q]; decide), List.nil_append] at he
     exact ⟨⟨n + 1, by omega, by omega, hq8, hl8, he⟩, by omega⟩
    refine ⟨⟨by omega, g⟩, obs_pre hv hwn _, fun a => ⟨fun b => ?_, fun b => skip (by rw [ho, decide_eq_false b]; simp)⟩, fun a => skip (by rw [ho, decide_eq_false a]; simp)⟩
    have e1 : obsL (gt l (i : Int)).node (gt sensors (n : Int)) = [(-1, Y), (-1, N)] := by
     unfold obsL
     rw [if_pos (by rw [ho, decide_eq_true a, decide_eq_true b]; rfl), hY, hN]
    rw [e1, List.cons_append, List.cons_append, List.nil_append] at he
    refine ⟨key_ok hv hok.1, fun p => ⟨key_ok hv hok.2, fun r => ?_, fun r => ⟨fun e => ?_, fun e => ?_⟩⟩, fun p => ⟨fun e => ?_, fun e => ?_⟩⟩
    ·rw [hq8.has] at p r
     rw [expand_old p, expand_old r] at he
     exact ⟨⟨n + 1, by omega, by omega, hq8, hl8, he⟩, by omega⟩
    ·rw [hq8.has] at p r
     rw [expand_old p, expand_full r (by omega)] at he
     rw [← he] at hb
     exact hb
    ·rw [hq8.has] at p r
     have hne : ¬ l8.length = 2000 := by omega
     rw [expand_old p, expand_new r hne] at he
     have hps := hq8.push (i := (i : Int)) (s := -1) hok.2 hne
     exact ⟨hps.room, ⟨n + 1, by omega, by omega, hps, by rw [List.length_append]; omega, he⟩, by omega⟩
    ·rw [hq8.has] at p
     rw [expand_full p (by omega)] at he
     rw [← he] at hb
     exact hb
    ·rw [hq8.has] at p
     have hne : ¬ l8.length = 2000 := by omega
     rw [expand_new p hne] at he
     have hps := hq8.push (i := (i : Int)) (s := -1) hok.1 hne
     have hl9 : l.length ≤ (l8 ++ [(⟨Y, (i : Int), -1⟩ : Entry)]).length := by rw [List.length_append]; omega
     refine ⟨hps.room, key_ok hv hok.2, fun r => ?_, fun r => ⟨fun e2 => ?_, fun e2 => ?_⟩⟩
     ·rw [hps.has] at r
      rw [expand_old r] at he
      exact ⟨⟨n + 1, by omega, by omega, hps, hl9, he⟩, by omega⟩
     ·rw [hps.has] at r
      rw [expand_full r (by omega)] at he
      rw [← he] at hb
      exact hb
     ·rw [hps.has] at r
      have hne2 : ¬ (l8 ++ [(⟨Y, (i : Int), -1⟩ : Entry)]).length = 2000 := by omega
      rw [expand_new r hne2] at he
      have hps2 := hps.push (i := (i : Int)) (s := -1) hok.2 hne2
      exact ⟨hps2.room, ⟨n + 1, by omega, by omega, hps2, by rw [List.length_append]; omega, he⟩, by omega⟩
   ·have ed2 : sensors.drop n = [] := List.drop_eq_nil_of_le (by omega)
    rw [ed2, List.flatMap_nil, expand] at he
    rw [← he] at hb
    rw [w64 (n := (i : Int) + 1) (by omega)]
    refine ⟨⟨i + 1, by omega, by omega, hq8, ?_⟩, by omega⟩
    rw [show 2001 - (i + 1) = 2000 - i by omega]
    exact hb
 ·have hn : l[i]? = none := List.getElem?_eq_none (by omega)
  rw [ef, bfs] at hb
  simp only [hn] at hb
  exact hb
theorem ok_smallC : ∀ (start2 : List (List Int)) (k : Srch), pre_smallC start2 k → F_smallC start2 k (fun r => r = sp_smallC start2 k) := fun _ _ hp => ⟨hp, fun r hr => by rw [hr]; rfl⟩
theorem ok_cplan : ∀ (t : Task) (unknown : List Int) (sensors : List Int) (depth : Int), F_cplan t unknown sensors depth (fun r => r = sp_cplan t unknown sensors depth) := fun t u sensors depth => by
 unfold F_cplan F_cplan_J1
 simp only [forall_eq, beq_zero, Bool.not_eq_true', Bool.not_eq_false', decide_eq_true_eq, decide_eq_false_iff_not]
 unfold sp_cplan
 refine ⟨fun h => by rw [if_neg h], fun h => ?_⟩
 rw [if_pos h]
 obtain ⟨hu, hse⟩ := ccheck_ok h
 have hw := worlds_ok hu
 refine ⟨fun g => ⟨fun _ => by rw [if_pos (.inl g)], fun z => by simp at z⟩, fun g => ⟨fun g2 => by rw [if_pos (.inr g2)], fun g2 => ?_⟩⟩
 rw [if_neg (by omega)]
 refine ⟨hu, ⟨hu.1, hw, hse⟩, fun q => by rw [if_neg (by rw [q]; decide)], fun q => ?_⟩
 rw [if_pos q]
 have hpw : pre_within t sensors (sp_worlds t u) depth := ⟨hu.1, hw, hse, by omega, by omega⟩
 refine ⟨srInv_start _, hpw, fun m _ => ⟨fun s => ?_, fun s => ?_⟩⟩
 ·unfold sp_sleast at s
  cases hl : leastW t sensors (sp_worlds t u) depth.toNat with
  | none => rfl
  | some d => simp only [hl] at s; omega
 ·cases hl : leastW t sensors (sp_worlds t u) depth.toNat with
  | none => unfold sp_sleast at s; simp only [hl] at s; omega
  | some d =>
   obtain ⟨a, b, c⟩ := leastW_some.1 hl
   have es : sp_sleast ⟨t, sensors⟩ (sp_worlds t u) depth = d := by unfold sp_sleast; simp only [hl]
   have hpow := pow_mono (a := d) (b := 6) (by omega)
   rw [es, sbuild_eq]
   refine ⟨sbuild_of (by omega) ⟨hu.1, hw, hse, by omega, by omega⟩ (by simp only [List.length_nil]; omega) a c, fun m2 _ => ⟨fun z => ?_, fun z => ?_⟩⟩
   ·simp only at z ⊢; rw [if_pos (by omega)]
   ·simp only at z ⊢; rw [if_neg (by omega)]
end Go.Proofs.YtojoehfldbimpaaGreatDoor.Pl

namespace Go.Proofs.YtojoehfldbimpaaGreatDoor.Pl
open Go Go.RowKit
def NodesOK (t : Task) (sensors : List Int) (l : List TNode) : Prop := ∀ (j : Nat) (n : TNode), l[j]? = some n → sp_nodeCode t sensors n j = 0
theorem NodesOK.push {t : Task} {sensors : List Int} {l : List TNode} (h : NodesOK t sensors l) {n : TNode} (hn : sp_nodeCode t sensors n l.length = 0) : NodesOK t sensors (l ++ [n]) := fun j m hj => by
 rcases Nat.lt_trichotomy j l.length with q | q | q
 ·rw [List.getElem?_append_left q] at hj; exact h j m hj
 ·subst q
  rw [List.getElem?_append_right (Nat.le_refl _)] at hj
  simp at hj; subst hj; exact hn
 ·rw [List.getElem?_eq_none (by simp; omega)] at hj; cases hj
end Go.Proofs.YtojoehfldbimpaaGreatDoor.Pl

namespace Go.Proofs.YtojoehfldbimpaaGreatDoor.Pl
open Go Go.RowKit
theorem able_worlds0 : sp_worlds sp_able [] = [[]] := by
 rw [worlds_possible able_val (by decide +kernel)]; rfl
theorem able_depth : sp_depth sp_able [] [⟨1, 0, 0, 0, 0⟩] = (0, ⟨0, 0⟩) := by decide +kernel
theorem able_cplan : sp_cplan sp_able [] [] 1 = ([⟨1, 0, 0, 0, 0⟩, ⟨2, 0, 0, 0, 0⟩], true, ⟨0, 0⟩) := by
 unfold sp_cplan
 rw [if_pos (by decide +kernel), if_neg (by decide), able_worlds0]
 decide +kernel
theorem ok_stopped : F_stopped (fun r => r = sp_stopped) := by
 unfold F_stopped
 simp only [forall_eq, able_depth, able_cplan]
 exact ⟨fun _ => ⟨fun _ => ⟨fun _ => ⟨fun _ => ⟨by simp [pre_trees], by decide⟩, fun h => absurd h (by decide)⟩, fun h => absurd h (by decide)⟩, fun h => absurd h (by decide)⟩, fun h => absurd h (by decide)⟩
theorem depth_snd (t : Task) (sensors : List Int) (tree : List TNode) : (sp_depth t sensors tree).2 = sp_cvalidate t sensors tree := by
 unfold sp_depth; split
 ·rename_i h; exact h.symm
 ·rfl
theorem ok_lawContMatches : ∀ (t : Task) (sensors : List Int) (tree : List TNode) (s_ : List Int), F_lawContMatches t sensors tree s_ (fun r => r = sp_lawContMatches t sensors tree s_) := fun t sensors tree s => by
 unfold F_lawContMatches F_lawContMatches_J1
 simp only [forall_eq, beq_fault, depth_snd, decide_true, Bool.not_true]
 refine ⟨fun q => by simp at q, fun _ => ⟨fun q => by simp at q, fun _ => ?_⟩⟩
 by_cases h : sp_cvalidate t sensors tree = ⟨0, 0⟩
 ·have hc := cv_ok h
  have hT := hc.2.2.1
  have hp := hT.pos
  have hl := hT.len
  have e1 : (sp_depth t sensors tree).1 = sp_deep tree := by unfold sp_depth; rw [if_pos h]
  rw [h, e1]
  refine ⟨fun q => by simp at q, fun _ => ⟨tree_pre h, fun q => by simp [sp_treeDepth] at q, fun _ => ⟨set_range hc.1, fun q => ?_, fun q => ?_⟩⟩⟩
  ·have e2 : sp_cRun t sensors tree s = ([], false, ⟨5, -4⟩) := by
    unfold sp_cRun; unfold sp_stateOk at q
    rw [if_pos h, if_neg (by have : sp_isSet s t.facts = false := by simpa using q
                             rw [this]; decide)]
   rw [e2]
   exact ⟨fun _ => ⟨fun _ => ⟨fun _ => rfl, fun q => by simp at q⟩, fun q => by simp at q⟩, fun q => by simp [sp_at_] at q⟩
  ·have hs : sp_isSet s t.facts = true := by unfold sp_stateOk at q; simpa using q
   have e2 : sp_cRun t sensors tree s = ((sp_crun t tree s).1, (sp_crun t tree s).2, ⟨0, 0⟩) := by unfold sp_cRun; rw [if_pos h, if_pos hs]
   have hln := runT_len (t := t) (l := tree) tree.length ((tree.length : Int) - 1) s
   have hss := set_len24 hc.1 hs
   rw [e2, w64 (n := (tree.length : Int) - 1) (by omega), ← crun_eq hT]
   refine ⟨⟨hc.1, hT, ⟨by omega, by omega⟩, by omega⟩, fun _ => ⟨fun _ => ⟨by unfold pre_numbers sp_crun; simp only; omega, fun _ => rfl, fun q => by simp [sp_numbers] at q⟩, fun q => by simp at q⟩, fun q => by simp at q⟩
 ·have hc := code_ne cv_code h
  have e1 : (sp_depth t sensors tree).1 = 0 := by unfold sp_depth; rw [if_neg h]
  have e2 : sp_cRun t sensors tree s = ([], false, sp_cvalidate t sensors tree) := by unfold sp_cRun; rw [if_neg h]
  rw [e1, e2]
  exact ⟨fun _ => ⟨fun _ => ⟨fun _ => ⟨fun _ => ⟨fun _ => rfl, fun q => by simp at q⟩, fun q => by simp at q⟩, fun q => by simp at q⟩, fun q => by simp at q⟩, fun q => absurd (by simpa using q) hc⟩
end Go.Proofs.YtojoehfldbimpaaGreatDoor.Pl

namespace Go.Proofs.YtojoehfldbimpaaGreatDoor.Pl
open Go Go.RowKit
end Go.Proofs.YtojoehfldbimpaaGreatDoor.Pl


namespace Go.Proofs.YtojoehfldbimpaaGreatDoor.Pl
open Go Go.RowKit
abbrev tF (t : Task) (a : Option Addr) (c : Nat) (a2 : Option Addr) (c2 : Nat) (a3 : Option Addr) (c3 : Nat) (r : List Value := []) : List Value := iV t.facts :: vSl a t.init c :: vSl a2 t.goal c2 :: vSl a3 t.ops c3 :: r
theorem w_in_ {h : FH} {w : World} (hs : Sub h w) (n_ : Int) (low : Int) (high : Int) (K : Bool → Prop) (hF : F_in_ n_ low high K) : Calls Tryz.prog 25 #[iV n_, iV low, iV high] w fun e w' => ∃ r : Bool, K r ∧ e = .returned (.bool r) ∧ Below w.heap.size w w' := by
 refine enter (args := [iV n_, iV low, iV high]) Tryz.func25 rfl Tryz.ntmps25 rfl hs ?_
 refine .seq (.region (.V (asg rfl) ?_))
 refine .nil (.seqN (.seq (.region (.V (mv rfl) ?_))))
 refine .V (mv rfl) ?_
 refine .V (bi rfl rfl rfl) ?_
 refine .V (mv rfl) ?_
 rcases Bool.eq_false_or_eq_true (decide (low ≤ n_)) with q2 | q2
 ·replace hF := hF.1 q2
  refine .GV (mv rfl) q2 ?_
  refine .GV (mv rfl) q2 ?_
  refine .GV (bi rfl rfl rfl) q2 ?_
  refine .V (pkT rfl q2 rfl) ?_
  refine .V (asg rfl) ?_
  refine .nil (.seqN (.ret ?_))
  refine .res1 rfl (rvT rfl) (fun w' S => ⟨decide (n_ ≤ high), hF, rfl, S.below⟩)
 replace hF := hF.2 q2
 refine .GS q2 ?_
 refine .GS q2 ?_
 refine .GS q2 ?_
 refine .V (pkF rfl q2 rfl) ?_
 refine .V (asg rfl) ?_
 refine .nil (.seqN (.ret ?_))
 refine .res1 rfl (rvT rfl) (fun w' S => ⟨false, hF, rfl, S.below⟩)
theorem c_in_ {h : FH} {w : World} (hs : Sub h w) (n_ : Int) (low : Int) (high : Int) : Calls Tryz.prog 25 #[iV n_, iV low, iV high] w fun e w' => e = .returned (.bool (sp_in_ n_ low high)) ∧ Below w.heap.size w w' :=
 (w_in_ hs n_ low high (fun r => r = sp_in_ n_ low high) (ok_in_ n_ low high)).mono fun _ _ ⟨_, hk, he, hb⟩ => ⟨by rw [he, hk], hb⟩
theorem w_at_ {h : FH} {w : World} (hs : Sub h w) (code : Int) (index : Int) (K : Fault → Prop) (hF : F_at_ code index K) : Calls Tryz.prog 18 #[iV code, iV index] w fun e w' => ∃ r : Fault, K r ∧ e = .returned (.agg #[iV r.code, iV r.index]) ∧ Below w.heap.size w w' := by
 refine enter (args := [iV code, iV index]) Tryz.func18 rfl Tryz.ntmps18 rfl hs ?_
 refine .seq (.region ?_)
 refine al tZ27 rfl (fun pv => ?_)
 refine .nil (.seqN (.seq (.region (.V (mv rfl) ?_))))
 refine .V (mv rfl) ?_
 refine .V (bld (cs := #[iV code, iV index]) (pv := [(0, iV code), (1, iV index)]) tB27 rfl rfl) ?_
 refine st (p := pv) (off := 0) (k := 0) (vs := [iV code, iV index]) rfl rfl rfl (fun w => (tA27 w).2) rfl rfl rfl rfl ?_
 refine .cast (A' := [Box pv [iV code, iV index]]) rfl ?_
 refine .nil (.seqN (.ret ?_))
 refine .res1 rfl (rvC rfl tA27 (k := 0) rfl rfl) (fun w' S => ⟨(⟨code, index⟩ : Fault), hF, rfl, S.below⟩)
theorem c_at_ {h : FH} {w : World} (hs : Sub h w) (code : Int) (index : Int) : Calls Tryz.prog 18 #[iV code, iV index] w fun e w' => e = .returned (.agg #[iV (sp_at_ code index).code, iV (sp_at_ code index).index]) ∧ Below w.heap.size w w' :=
 (w_at_ hs code index (fun r => r = sp_at_ code index) (ok_at_ code index)).mono fun _ _ ⟨_, hk, he, hb⟩ => ⟨by rw [he, hk], hb⟩
theorem w_has {h : FH} {w : World} (hs : Sub h w) (l : List Int) (al2 : Option Addr) (cl2 : Nat) (_q1 : RSl h al2 l) (_q2 : l.length ≤ cl2) (n_ : Int) (K : Bool → Prop) (hF : F_has l n_ K) : Calls Tryz.prog 76 #[.slice al2 l.length cl2, iV n_] w fun e w' => ∃ r : Bool, K r ∧ e = .returned (.bool r) ∧ Below w.heap.size w w' := by
 refine enter (args := [vSl al2 l cl2, iV n_]) Tryz.func76 rfl Tryz.ntmps76 rfl hs ?_
 refine .seq (.region (.V (asg rfl) ?_))
 refine .nil (.seqN (.seq (.seq (.region (.V (asg rfl) ?_)))))
 refine .nil (.seqN (.block ?_))
 obtain ⟨I1, μ1, q45, q46⟩ := hF
 refine .loop' (σ := Int) (fun z => I1 z) (fun z => μ1 z) (fun z => [(0, vSl al2 l cl2), (1, iV n_), (5, iV z)]) (fun _ => []) (fun _ => h) 0 q45 sb rfl (FH.le_refl _) ?_
 rintro i q45
 have hF := q46 i q45
 show J _ _ _ _ _ [(0, vSl al2 l cl2), (1, iV n_), (5, iV i)] [] h
 refine .seq (.seq (.region (.V (mv rfl) ?_)))
 refine .V (mv rfl) ?_
 refine .V (ln rfl tS22.is) ?_
 refine .V (bi rfl rfl rfl) ?_
 refine .nil (.seqN ?_)
 refine .cond rfl (fun q48 => ?_) (fun q48 => ?_)
 ·replace hF := hF.1 q48
  refine .skip (.seqN (.seq (.block (.seq (.region (.V (mv rfl) ?_))))))
  refine .V (mv rfl) ?_
  obtain ⟨q53, hF⟩ := hF
  refine .V (ix rfl rfl tS22 (_q1.ne (by decide) (inb_pos q53)) q53) ?_
  refine .V (ld1 (v := iV (gt l i)) rfl tO3 (cellH (_q1.elemF q53 (by decide) 0 _ rfl))) ?_
  refine .V (mv rfl) ?_
  refine .V (bi rfl rfl rfl) ?_
  refine .nil (.seqN ?_)
  refine .cond rfl (fun q54 => ?_) (fun q54 => ?_)
  ·replace hF := hF.1 q54
   refine .seq (.region (.V (asg rfl) ?_))
   refine .nil (.seqN (.ret (.blkR (.seqR (.seqR (.blkR (.seqR ?_)))))))
   refine .res1 rfl (rvT rfl) (fun w' S => ⟨true, hF, rfl, S.below⟩)
  replace hF := hF.2 q54
  refine .skip (.blkN (.seqN (.region (.V (mv rfl) ?_))))
  refine .V (bi rfl rfl rfl) ?_
  refine .V (asg rfl) ?_
  refine .nil ?_
  exact .RO (wr (i + 1)) hF.1 hF.2
 replace hF := hF.2 q48
 refine .exit (.seqX (.seqX (.blkX (.seqN (.seq (.region (.V (asg rfl) ?_)))))))
 refine .nil (.seqN (.ret ?_))
 refine .res1 rfl (rvT rfl) (fun w' S => ⟨false, hF, rfl, S.below⟩)
theorem c_has {h : FH} {w : World} (hs : Sub h w) (l : List Int) (al2 : Option Addr) (cl2 : Nat) (_q1 : RSl h al2 l) (_q2 : l.length ≤ cl2) (n_ : Int) (hp : pre_has l n_) : Calls Tryz.prog 76 #[.slice al2 l.length cl2, iV n_] w fun e w' => e = .returned (.bool (sp_has l n_)) ∧ Below w.heap.size w w' :=
 (w_has hs l al2 cl2 _q1 _q2 n_ (fun r => r = sp_has l n_) (ok_has l n_ hp)).mono fun _ _ ⟨_, hk, he, hb⟩ => ⟨by rw [he, hk], hb⟩
theorem w_numbers {h : FH} {w : World} (hs : Sub h w) (a : List Int) (aa : Option Addr) (ca : Nat) (_q1 : RSl h aa a) (_q2 : a.length ≤ ca) (b : List Int) (ab : Option Addr) (cb : Nat) (_q3 : RSl h ab b) (_q4 : b.length ≤ cb) (K : Bool → Prop) (hF : F_numbers a b K) : Calls Tryz.prog 19 #[.slice aa a.length ca, .slice ab b.length cb] w fun e w' => ∃ r : Bool, K r ∧ e = .returned (.bool r) ∧ Below w.heap.size w w' := by
 refine enter (args := [vSl aa a ca, vSl ab b cb]) Tryz.func19 rfl Tryz.ntmps19 rfl hs ?_
 refine .seq (.region (.V (asg rfl) ?_))
 refine .nil (.seqN (.seq (.seq (.region (.V (mv rfl) ?_)))))
 refine .V (ln rfl tS22.is) ?_
 refine .V (mv rfl) ?_
 refine .V (ln rfl tS22.is) ?_
 refine .V (bi rfl rfl rfl) ?_
 refine .nil (.seqN ?_)
 refine .cond rfl (fun q6 => ?_) (fun q6 => ?_)
 ·replace hF := hF.1 q6
  refine .seq (.region (.V (asg rfl) ?_))
  refine .nil (.seqN (.ret (.seqR ?_)))
  refine .res1 rfl (rvT rfl) (fun w' S => ⟨false, hF, rfl, S.below⟩)
 replace hF := hF.2 q6
 refine .skip (.seqN (.seq (.seq (.region (.V (asg rfl) ?_)))))
 refine .nil (.seqN (.block ?_))
 obtain ⟨I1, μ1, q64, q65⟩ := hF
 refine .loop' (σ := Int) (fun z => I1 z) (fun z => μ1 z) (fun z => [(0, vSl aa a ca), (1, vSl ab b cb), (5, iV z)]) (fun _ => []) (fun _ => h) 0 q64 sb rfl (FH.le_refl _) ?_
 rintro i q64
 have hF := q65 i q64
 show J _ _ _ _ _ [(0, vSl aa a ca), (1, vSl ab b cb), (5, iV i)] [] h
 refine .seq (.seq (.region (.V (mv rfl) ?_)))
 refine .V (mv rfl) ?_
 refine .V (ln rfl tS22.is) ?_
 refine .V (bi rfl rfl rfl) ?_
 refine .nil (.seqN ?_)
 refine .cond rfl (fun q67 => ?_) (fun q67 => ?_)
 ·replace hF := hF.1 q67
  refine .skip (.seqN (.seq (.block (.seq ?_))))
  refine .open_ (by kernel_rfl) (by kernel_rfl) ?_
  refine .V (mv rfl) ?_
  refine .V (mv rfl) ?_
  obtain ⟨q74, hF⟩ := hF
  refine .V (ix rfl rfl tS22 (_q1.ne (by decide) (inb_pos q74)) q74) ?_
  refine .V (ld1 (v := iV (gt a i)) rfl tO3 (cellH (_q1.elemF q74 (by decide) 0 _ rfl))) ?_
  refine .V (mv rfl) ?_
  refine .V (mv rfl) ?_
  obtain ⟨q75, hF⟩ := hF
  refine .V (ix rfl rfl tS22 (_q3.ne (by decide) (inb_pos q75)) q75) ?_
  refine .V (ld1 (v := iV (gt b i)) rfl tO3 (cellH (_q3.elemF q75 (by decide) 0 _ rfl))) ?_
  refine .V (bi rfl rfl rfl) ?_
  refine .fin ?_
  refine .seqN ?_
  refine .cond rfl (fun q76 => ?_) (fun q76 => ?_)
  ·replace hF := hF.1 q76
   refine .seq (.region (.V (asg rfl) ?_))
   refine .nil (.seqN (.ret (.blkR (.seqR (.seqR (.blkR (.seqR ?_)))))))
   refine .res1 rfl (rvT rfl) (fun w' S => ⟨false, hF, rfl, S.below⟩)
  replace hF := hF.2 q76
  refine .skip (.blkN (.seqN (.region (.V (mv rfl) ?_))))
  refine .V (bi rfl rfl rfl) ?_
  refine .V (asg rfl) ?_
  refine .nil ?_
  exact .RO (wr (i + 1)) hF.1 hF.2
 replace hF := hF.2 q67
 refine .exit (.seqX (.seqX (.blkX (.seqN (.seq (.region (.V (asg rfl) ?_)))))))
 refine .nil (.seqN (.ret ?_))
 refine .res1 rfl (rvT rfl) (fun w' S => ⟨true, hF, rfl, S.below⟩)
theorem c_numbers {h : FH} {w : World} (hs : Sub h w) (a : List Int) (aa : Option Addr) (ca : Nat) (_q1 : RSl h aa a) (_q2 : a.length ≤ ca) (b : List Int) (ab : Option Addr) (cb : Nat) (_q3 : RSl h ab b) (_q4 : b.length ≤ cb) (hp : pre_numbers a b) : Calls Tryz.prog 19 #[.slice aa a.length ca, .slice ab b.length cb] w fun e w' => e = .returned (.bool (sp_numbers a b)) ∧ Below w.heap.size w w' :=
 (w_numbers hs a aa ca _q1 _q2 b ab cb _q3 _q4 (fun r => r = sp_numbers a b) (ok_numbers a b hp)).mono fun _ _ ⟨_, hk, he, hb⟩ => ⟨by rw [he, hk], hb⟩
theorem w_index {h : FH} {w : World} (hs : Sub h w) (s_ : List Int) (as_ : Option Addr) (cs_ : Nat) (_q1 : RSl h as_ s_) (_q2 : s_.length ≤ cs_) (v : Int) (K : Int → Prop) (hF : F_index s_ v K) : Calls Tryz.prog 114 #[.slice as_ s_.length cs_, iV v] w fun e w' => ∃ r : Int, K r ∧ e = .returned (iV r) ∧ Below w.heap.size w w' := by
 refine enter (args := [vSl as_ s_ cs_, iV v]) Tryz.func114 rfl Tryz.ntmps114 rfl hs ?_
 refine .seq (.region (.V (asg rfl) ?_))
 refine .nil (.seqN (.seq (.seq (.region (.V (mv rfl) ?_)))))
 refine .V (ln rfl tS22.is) ?_
 refine .V (mv rfl) ?_
 refine .nil (.seqN (.block ?_))
 obtain ⟨I1, μ1, q50, q51⟩ := hF
 refine .loop' (σ := Int) (fun z => I1 z) (fun z => μ1 z) (fun z => [(0, vSl as_ s_ cs_), (1, iV v), (7, iV ((s_.length : Nat) : Int)), (8, iV z)]) (fun _ => []) (fun _ => h) 0 q50 sb rfl (FH.le_refl _) ?_
 rintro t8 q50
 have hF := q51 t8 q50
 show J _ _ _ _ _ [(0, vSl as_ s_ cs_), (1, iV v), (7, iV ((s_.length : Nat) : Int)), (8, iV t8)] [] h
 refine .seq (.region (.V (bi rfl rfl rfl) ?_))
 refine .nil (.seqN (.seq ?_))
 refine .cond rfl (fun q54 => ?_) (fun q54 => ?_)
 ·replace hF := hF.1 q54
  refine .skip (.seqN (.seq (.block (.seq (.region (.V (mv rfl) ?_))))))
  refine .V (asg rfl) ?_
  refine .nil (.seqN (.seq (.region (.V (mv rfl) ?_))))
  refine .V (mv rfl) ?_
  refine .V (mv rfl) ?_
  obtain ⟨q59, hF⟩ := hF
  refine .V (ix rfl rfl tS22 (_q1.ne (by decide) (inb_pos q59)) q59) ?_
  refine .V (ld1 (v := iV (gt s_ t8)) rfl tO3 (cellH (_q1.elemF q59 (by decide) 0 _ rfl))) ?_
  refine .V (bi rfl rfl rfl) ?_
  refine .nil (.seqN ?_)
  refine .cond rfl (fun q60 => ?_) (fun q60 => ?_)
  ·replace hF := hF.1 q60
   refine .seq (.region (.V (mv rfl) ?_))
   refine .V (asg rfl) ?_
   refine .nil (.seqN (.ret (.blkR (.seqR (.seqR (.blkR (.seqR ?_)))))))
   refine .res1 rfl (rvT rfl) (fun w' S => ⟨t8, hF, rfl, S.below⟩)
  replace hF := hF.2 q60
  refine .skip (.blkN (.seqN (.region (.V (bi rfl rfl rfl) ?_))))
  refine .V (mv rfl) ?_
  refine .nil ?_
  exact .RO (wr (t8 + 1)) hF.1 hF.2
 replace hF := hF.2 q54
 refine .exit (.seqX (.seqX (.blkX (.seqN (.seq (.region (.V (asg rfl) ?_)))))))
 refine .nil (.seqN (.ret ?_))
 refine .res1 rfl (rvT rfl) (fun w' S => ⟨(-1), hF, rfl, S.below⟩)
theorem c_index {h : FH} {w : World} (hs : Sub h w) (s_ : List Int) (as_ : Option Addr) (cs_ : Nat) (_q1 : RSl h as_ s_) (_q2 : s_.length ≤ cs_) (v : Int) (hp : pre_index s_ v) : Calls Tryz.prog 114 #[.slice as_ s_.length cs_, iV v] w fun e w' => e = .returned (iV (sp_index s_ v)) ∧ Below w.heap.size w w' :=
 (w_index hs s_ as_ cs_ _q1 _q2 v (fun r => r = sp_index s_ v) (ok_index s_ v hp)).mono fun _ _ ⟨_, hk, he, hb⟩ => ⟨by rw [he, hk], hb⟩
theorem w_contains {h : FH} {w : World} (hs : Sub h w) (s_ : List Int) (as_ : Option Addr) (cs_ : Nat) (_q1 : RSl h as_ s_) (_q2 : s_.length ≤ cs_) (v : Int) (K : Bool → Prop) (hF : F_contains s_ v K) : Calls Tryz.prog 101 #[.slice as_ s_.length cs_, iV v] w fun e w' => ∃ r : Bool, K r ∧ e = .returned (.bool r) ∧ Below w.heap.size w w' := by
 refine enter (args := [vSl as_ s_ cs_, iV v]) Tryz.func101 rfl Tryz.ntmps101 rfl hs ?_
 refine .seq (.region (.V (asg rfl) ?_))
 refine .nil (.seqN (.seq (.region (.V (mv rfl) ?_))))
 refine .V (mv rfl) ?_
 obtain ⟨q3, hF⟩ := hF
 obtain ⟨r2, q4⟩ : ∃ y_ : Int, y_ = sp_index s_ v := ⟨_, rfl⟩
 replace hF := hF r2 q4
 refine .C (cl (v := iV r2) Tryz.call114 rfl rfl (fun w S => (by rw [q4]; exact c_index S.sub s_ as_ cs_ _q1 _q2 v q3))) ?_
 refine .V (bi rfl rfl rfl) ?_
 refine .V (asg rfl) ?_
 refine .nil (.seqN (.ret ?_))
 refine .res1 rfl (rvT rfl) (fun w' S => ⟨decide (0 ≤ r2), hF, rfl, S.below⟩)
theorem c_contains {h : FH} {w : World} (hs : Sub h w) (s_ : List Int) (as_ : Option Addr) (cs_ : Nat) (_q1 : RSl h as_ s_) (_q2 : s_.length ≤ cs_) (v : Int) (hp : pre_index s_ v) : Calls Tryz.prog 101 #[.slice as_ s_.length cs_, iV v] w fun e w' => e = .returned (.bool (sp_contains s_ v)) ∧ Below w.heap.size w w' :=
 (w_contains hs s_ as_ cs_ _q1 _q2 v (fun r => r = sp_contains s_ v) (ok_contains s_ v hp)).mono fun _ _ ⟨_, hk, he, hb⟩ => ⟨by rw [he, hk], hb⟩
theorem w_isNaN1 {h : FH} {w : World} (hs : Sub h w) (x : Int) (K : Bool → Prop) (hF : F_isNaN1 x K) : Calls Tryz.prog 122 #[iV x] w fun e w' => ∃ r : Bool, K r ∧ e = .returned (.bool r) ∧ Below w.heap.size w w' := by
 refine enter (args := [iV x]) Tryz.func122 rfl Tryz.ntmps122 rfl hs ?_
 refine .seq (.region (.V (asg rfl) ?_))
 refine .nil (.seqN (.seq (.region (.V (mv rfl) ?_))))
 refine .V (mv rfl) ?_
 refine .V (bi rfl rfl rfl) ?_
 refine .V (asg rfl) ?_
 refine .nil (.seqN (.ret ?_))
 refine .res1 rfl (rvT rfl) (fun w' S => ⟨x != x, hF, rfl, S.below⟩)
theorem c_isNaN1 {h : FH} {w : World} (hs : Sub h w) (x : Int) : Calls Tryz.prog 122 #[iV x] w fun e w' => e = .returned (.bool (sp_isNaN1 x)) ∧ Below w.heap.size w w' :=
 (w_isNaN1 hs x (fun r => r = sp_isNaN1 x) (ok_isNaN1 x)).mono fun _ _ ⟨_, hk, he, hb⟩ => ⟨by rw [he, hk], hb⟩
theorem w_isNaN2 {h : FH} {w : World} (hs : Sub h w) (x : Int) (K : Bool → Prop) (hF : F_isNaN2 x K) : Calls Tryz.prog 117 #[iV x] w fun e w' => ∃ r : Bool, K r ∧ e = .returned (.bool r) ∧ Below w.heap.size w w' := by
 refine enter (args := [iV x]) Tryz.func117 rfl Tryz.ntmps117 rfl hs ?_
 refine .seq (.region (.V (asg rfl) ?_))
 refine .nil (.seqN (.seq (.region (.V (mv rfl) ?_))))
 refine .V (mv rfl) ?_
 refine .V (bi rfl rfl rfl) ?_
 refine .V (asg rfl) ?_
 refine .nil (.seqN (.ret ?_))
 refine .res1 rfl (rvT rfl) (fun w' S => ⟨x != x, hF, rfl, S.below⟩)
theorem c_isNaN2 {h : FH} {w : World} (hs : Sub h w) (x : Int) : Calls Tryz.prog 117 #[iV x] w fun e w' => e = .returned (.bool (sp_isNaN1 x)) ∧ Below w.heap.size w w' :=
 (w_isNaN2 hs x (fun r => r = sp_isNaN1 x) (ok_isNaN2 x)).mono fun _ _ ⟨_, hk, he, hb⟩ => ⟨by rw [he, hk], hb⟩
theorem w_less {h : FH} {w : World} (hs : Sub h w) (x : Int) (y : Int) (K : Bool → Prop) (hF : F_less x y K) : Calls Tryz.prog 116 #[iV x, iV y] w fun e w' => ∃ r : Bool, K r ∧ e = .returned (.bool r) ∧ Below w.heap.size w w' := by
 refine enter (args := [iV x, iV y]) Tryz.func116 rfl Tryz.ntmps116 rfl hs ?_
 refine .seq (.region (.V (asg rfl) ?_))
 refine .nil (.seqN (.seq (.region (.V (mv rfl) ?_))))
 obtain ⟨r2, q5⟩ : ∃ y_ : Bool, y_ = sp_isNaN1 x := ⟨_, rfl⟩
 replace hF := hF r2 q5
 refine .C (cl (v := .bool r2) Tryz.call122 rfl rfl (fun w S => (by rw [q5]; exact c_isNaN1 S.sub x ))) ?_
 refine .V (mv rfl) ?_
 rcases Bool.eq_false_or_eq_true (r2) with q6 | q6
 ·replace hF := hF.1 q6
  refine .GV (mv rfl) q6 ?_
  obtain ⟨r3, q7⟩ : ∃ y_ : Bool, y_ = sp_isNaN1 y := ⟨_, rfl⟩
  replace hF := hF r3 q7
  refine .gc (cl (v := .bool r3) Tryz.call122 rfl rfl (fun w S => (by rw [q7]; exact c_isNaN1 S.sub y ))) rfl rfl rfl q6 rfl rfl ?_
  refine .GV (nt rfl) q6 ?_
  refine .V (pkT rfl q6 rfl) ?_
  refine .V (mv rfl) ?_
  rcases Bool.eq_false_or_eq_true (!r3) with q8 | q8
  ·replace hF := hF.1 q8
   refine .GS q8 ?_
   refine .GS q8 ?_
   refine .GS q8 ?_
   refine .V (pkT rfl q8 rfl) ?_
   refine .V (asg rfl) ?_
   refine .nil (.seqN (.ret ?_))
   refine .res1 rfl (rvT rfl) (fun w' S => ⟨true, hF, rfl, S.below⟩)
  replace hF := hF.2 q8
  refine .GV (mv rfl) q8 ?_
  refine .GV (mv rfl) q8 ?_
  refine .GV (bi rfl rfl rfl) q8 ?_
  refine .V (pkF rfl q8 rfl) ?_
  refine .V (asg rfl) ?_
  refine .nil (.seqN (.ret ?_))
  refine .res1 rfl (rvT rfl) (fun w' S => ⟨decide (x < y), hF, rfl, S.below⟩)
 replace hF := hF.2 q6
 refine .GS q6 ?_
 refine .GS q6 ?_
 refine .GS q6 ?_
 refine .V (pkF rfl q6 rfl) ?_
 refine .V (mv rfl) ?_
 refine .gv (mv rfl) rfl rfl rfl rfl rfl rfl ?_
 refine .gv (mv rfl) rfl rfl rfl rfl rfl rfl ?_
 refine .gv (bi rfl rfl rfl) rfl rfl rfl rfl rfl rfl ?_
 refine .V (pkF rfl rfl rfl) ?_
 refine .V (asg rfl) ?_
 refine .nil (.seqN (.ret ?_))
 refine .res1 rfl (rvT rfl) (fun w' S => ⟨decide (x < y), hF, rfl, S.below⟩)
theorem c_less {h : FH} {w : World} (hs : Sub h w) (x : Int) (y : Int) : Calls Tryz.prog 116 #[iV x, iV y] w fun e w' => e = .returned (.bool (sp_less x y)) ∧ Below w.heap.size w w' :=
 (w_less hs x y (fun r => r = sp_less x y) (ok_less x y)).mono fun _ _ ⟨_, hk, he, hb⟩ => ⟨by rw [he, hk], hb⟩
set_option maxHeartbeats 8000000 in
theorem w_bsearch {h : FH} {w : World} (hs : Sub h w) (x : List Int) (ax : Option Addr) (cx : Nat) (_q1 : RSl h ax x) (_q2 : x.length ≤ cx) (target : Int) (K : (Int × Bool) → Prop) (hF : F_bsearch x target K) : Calls Tryz.prog 104 #[.slice ax x.length cx, iV target] w fun e w' => ∃ r : Int × Bool, K r ∧ e = .returned (.tuple #[iV r.1, .bool r.2]) ∧ Below w.heap.size w w' := by
 refine enter (args := [vSl ax x cx, iV target]) Tryz.func104 rfl Tryz.ntmps104 rfl hs ?_
 refine .seq (.region (.V (asg rfl) ?_))
 refine .V (asg rfl) ?_
 refine .nil (.seqN (.seq (.region (.V (mv rfl) ?_))))
 refine .V (ln rfl tS22.is) ?_
 refine .V (asg rfl) ?_
 refine .nil (.seqN (.seq (.region (.V (mv rfl) ?_))))
 refine .V (asg rfl) ?_
 refine .V (asg rfl) ?_
 refine .nil (.seqN (.seq (.block ?_)))
 obtain ⟨I1, μ1, q55, q56⟩ := hF
 refine .loop' (σ := Int × Int) (fun z => I1 z.1 z.2) (fun z => μ1 z.1 z.2) (fun z => [(0, vSl ax x cx), (1, iV target), (6, iV ((x.length : Nat) : Int)), (7, iV z.1), (8, iV z.2)]) (fun _ => []) (fun _ => h) (0, ((x.length : Nat) : Int)) q55 sb rfl (FH.le_refl _) ?_
 rintro ⟨i, j⟩ q55
 have hF := q56 i j q55
 show J _ _ _ _ _ [(0, vSl ax x cx), (1, iV target), (6, iV ((x.length : Nat) : Int)), (7, iV i), (8, iV j)] [] h
 refine .seq (.seq (.region (.V (mv rfl) ?_)))
 refine .V (mv rfl) ?_
 refine .V (bi rfl rfl rfl) ?_
 refine .nil (.seqN ?_)
 refine .cond rfl (fun q58 => ?_) (fun q58 => ?_)
 ·replace hF := hF.1 q58
  refine .skip (.seqN (.block (.seq (.region (.V (mv rfl) ?_)))))
  refine .V (mv rfl) ?_
  refine .V (bi rfl rfl rfl) ?_
  refine .V (cv Tryz.underlying3 Tryz.underlying131 rfl) ?_
  obtain ⟨x2, q59⟩ : ∃ y_ : Int, y_ = (Int.fdiv (IntKind.u64.wrap (wr (i + j))) (2 ^ (min ((1 : Int)).toNat (IntKind.bits .u64)))) := ⟨_, rfl⟩
  replace hF := hF x2 q59
  refine .v (v := .int .u64 x2) (by rw [q59]; exact bsh rfl rfl (by decide) rfl) rfl rfl rfl ?_
  refine .V (cv Tryz.underlying131 Tryz.underlying3 rfl) ?_
  refine .V (asg rfl) ?_
  refine .nil (.seqN (.seq (.region (.V (mv rfl) ?_))))
  refine .V (mv rfl) ?_
  obtain ⟨q60, hF⟩ := hF
  refine .V (ix rfl rfl tS22 (_q1.ne (by decide) (inb_pos q60)) q60) ?_
  refine .V (ld1 (v := iV (gt x (wr (x2)))) rfl tO3 (cellH (_q1.elemF q60 (by decide) 0 _ rfl))) ?_
  refine .V (mv rfl) ?_
  obtain ⟨r2, q61⟩ : ∃ y_ : Bool, y_ = sp_less (gt x (wr (x2))) target := ⟨_, rfl⟩
  replace hF := hF r2 q61
  refine .C (cl (v := .bool r2) Tryz.call116 rfl rfl (fun w S => (by rw [q61]; exact c_less S.sub (gt x (wr (x2))) target ))) ?_
  refine .nil (.seqN ?_)
  refine .cond rfl (fun q62 => ?_) (fun q62 => ?_)
  ·replace hF := hF.1 q62
   refine .region (.V (mv rfl) ?_)
   refine .V (bi rfl rfl rfl) ?_
   refine .V (asg rfl) ?_
   refine .nil (.blkN ?_)
   exact .RO (wr ((wr (x2)) + 1), j) hF.1 hF.2
  replace hF := hF.2 q62
  refine .region (.V (mv rfl) ?_)
  refine .V (asg rfl) ?_
  refine .nil (.blkN ?_)
  exact .RO (i, wr (x2)) hF.1 hF.2
 replace hF := hF.2 q58
 refine .exit (.seqX (.seqX (.blkX (.seqN (.seq (.region (.V (mv rfl) ?_)))))))
 refine .V (mv rfl) ?_
 refine .V (mv rfl) ?_
 refine .V (bi rfl rfl rfl) ?_
 refine .V (mv rfl) ?_
 rcases Bool.eq_false_or_eq_true (decide (i < ((x.length : Nat) : Int))) with q69 | q69
 ·replace hF := hF.1 q69
  refine .GV (mv rfl) q69 ?_
  refine .GV (mv rfl) q69 ?_
  obtain ⟨q70, hF⟩ := hF
  refine .GV (ix rfl rfl tS22 (_q1.ne (by decide) (inb_pos q70)) q70) q69 ?_
  refine .GV (ld1 (v := iV (gt x i)) rfl tO3 (cellH (_q1.elemF q70 (by decide) 0 _ rfl))) q69 ?_
  refine .GV (mv rfl) q69 ?_
  refine .GV (bi rfl rfl rfl) q69 ?_
  refine .GV (mv rfl) q69 ?_
  rcases Bool.eq_false_or_eq_true ((gt x i) == target) with q71 | q71
  ·replace hF := hF.1 q71
   refine .GS q71 ?_
   refine .GS q71 ?_
   refine .GS q71 ?_
   refine .GS q71 ?_
   refine .GS q71 ?_
   refine .GS q71 ?_
   refine .GU ?_
   refine .GU ?_
   refine .GS q71 ?_
   refine .GV (pkT rfl q71 rfl) q69 ?_
   refine .V (pkT rfl q69 rfl) ?_
   refine .V (asg rfl) ?_
   refine .V (asg rfl) ?_
   refine .nil (.seqN (.ret ?_))
   refine .res2 rfl (rvT rfl) (rvT rfl) (fun w' S => ⟨(i, true), hF, rfl, S.below⟩)
  replace hF := hF.2 q71
  refine .GV (mv rfl) q71 ?_
  refine .GV (mv rfl) q71 ?_
  refine .GV (ix rfl rfl tS22 (_q1.ne (by decide) (inb_pos q70)) q70) q71 ?_
  refine .GV (ld1 (v := iV (gt x i)) rfl tO3 (cellH (_q1.elemF q70 (by decide) 0 _ rfl))) q71 ?_
  obtain ⟨r3, q72⟩ : ∃ y_ : Bool, y_ = sp_isNaN1 (gt x i) := ⟨_, rfl⟩
  replace hF := hF r3 q72
  refine .gc (cl (v := .bool r3) Tryz.call117 rfl rfl (fun w S => (by rw [q72]; exact c_isNaN2 S.sub (gt x i) ))) rfl rfl rfl q71 rfl rfl ?_
  refine .GV (mv rfl) q71 ?_
  rcases Bool.eq_false_or_eq_true (r3) with q73 | q73
  ·replace hF := hF.1 q73
   refine .GV (mv rfl) q73 ?_
   obtain ⟨r4, q74⟩ : ∃ y_ : Bool, y_ = sp_isNaN1 target := ⟨_, rfl⟩
   replace hF := hF r4 q74
   refine .gc (cl (v := .bool r4) Tryz.call117 rfl rfl (fun w S => (by rw [q74]; exact c_isNaN2 S.sub target ))) rfl rfl rfl q73 rfl rfl ?_
   refine .GV (pkT rfl q73 rfl) q71 ?_
   refine .GV (pkF rfl q71 rfl) q69 ?_
   refine .V (pkT rfl q69 rfl) ?_
   refine .V (asg rfl) ?_
   refine .V (asg rfl) ?_
   refine .nil (.seqN (.ret ?_))
   refine .res2 rfl (rvT rfl) (rvT rfl) (fun w' S => ⟨(i, r4), hF, rfl, S.below⟩)
  replace hF := hF.2 q73
  refine .GS q73 ?_
  refine .GS q73 ?_
  refine .GV (pkF rfl q73 rfl) q71 ?_
  refine .GV (pkF rfl q71 rfl) q69 ?_
  refine .V (pkT rfl q69 rfl) ?_
  refine .V (asg rfl) ?_
  refine .V (asg rfl) ?_
  refine .nil (.seqN (.ret ?_))
  refine .res2 rfl (rvT rfl) (rvT rfl) (fun w' S => ⟨(i, false), hF, rfl, S.below⟩)
 replace hF := hF.2 q69
 refine .GS q69 ?_
 refine .GS q69 ?_
 refine .GS q69 ?_
 refine .GS q69 ?_
 refine .GS q69 ?_
 refine .GS q69 ?_
 refine .GS q69 ?_
 refine .GU ?_
 refine .GU ?_
 refine .GU ?_
 refine .GU ?_
 refine .GU ?_
 refine .GU ?_
 refine .GU ?_
 refine .GU ?_
 refine .GU ?_
 refine .GS q69 ?_
 refine .V (pkF rfl q69 rfl) ?_
 refine .V (asg rfl) ?_
 refine .V (asg rfl) ?_
 refine .nil (.seqN (.ret ?_))
 refine .res2 rfl (rvT rfl) (rvT rfl) (fun w' S => ⟨(i, false), hF, rfl, S.below⟩)
theorem c_bsearch {h : FH} {w : World} (hs : Sub h w) (x : List Int) (ax : Option Addr) (cx : Nat) (_q1 : RSl h ax x) (_q2 : x.length ≤ cx) (target : Int) (hp : pre_bsearch x target) : Calls Tryz.prog 104 #[.slice ax x.length cx, iV target] w fun e w' => e = .returned (.tuple #[iV (sp_bsearch x target).1, .bool (sp_bsearch x target).2]) ∧ Below w.heap.size w w' :=
 (w_bsearch hs x ax cx _q1 _q2 target (fun r => r = sp_bsearch x target) (ok_bsearch x target hp)).mono fun _ _ ⟨_, hk, he, hb⟩ => ⟨by rw [he, hk], hb⟩
theorem w_indexF {h : FH} {w : World} (hs : Sub h w) (s_ : List Int) (as_ : Option Addr) (cs_ : Nat) (_q1 : RSl h as_ s_) (_q2 : s_.length ≤ cs_) (pf : Int → Bool) (Df : Int → Prop) (ff : FuncId) (firstf capsf : Array Value) (hff : ∀ args w, (callFunc ff args).run Tryz.prog w = .ok (.enter ff args) w) (hpf : ∀ (x : Int) (w' : World), Df x → Sub h w' → Calls Tryz.prog ff (firstf.toList ++ [(iV x : Value)] ++ capsf.toList).toArray w' fun e w'' => e = .returned (.bool (pf x)) ∧ Below w'.heap.size w' w'') (K : Int → Prop) (hF : F_indexF s_ pf Df K) : Calls Tryz.prog 149 #[.slice as_ s_.length cs_, .func (.func ff) firstf capsf] w fun e w' => ∃ r : Int, K r ∧ e = .returned (iV r) ∧ Below w.heap.size w w' := by
 refine enter (args := [vSl as_ s_ cs_, .func (.func ff) firstf capsf]) Tryz.func149 rfl Tryz.ntmps149 rfl hs ?_
 refine .seq (.region (.V (asg rfl) ?_))
 refine .nil (.seqN (.seq (.seq (.region (.V (mv rfl) ?_)))))
 refine .V (ln rfl tS22.is) ?_
 refine .V (mv rfl) ?_
 refine .nil (.seqN (.block ?_))
 obtain ⟨I1, μ1, q80, q81⟩ := hF
 refine .loop' (σ := Int) (fun z => I1 z) (fun z => μ1 z) (fun z => [(0, vSl as_ s_ cs_), (1, .func (.func ff) firstf capsf), (7, iV ((s_.length : Nat) : Int)), (8, iV z)]) (fun _ => []) (fun _ => h) 0 q80 sb rfl (FH.le_refl _) ?_
 rintro t8 q80
 have hF := q81 t8 q80
 show J _ _ _ _ _ [(0, vSl as_ s_ cs_), (1, .func (.func ff) firstf capsf), (7, iV ((s_.length : Nat) : Int)), (8, iV t8)] [] h
 refine .seq (.region (.V (bi rfl rfl rfl) ?_))
 refine .nil (.seqN (.seq ?_))
 refine .cond rfl (fun q84 => ?_) (fun q84 => ?_)
 ·replace hF := hF.1 q84
  refine .skip (.seqN (.seq (.block (.seq (.region (.V (mv rfl) ?_))))))
  refine .V (asg rfl) ?_
  refine .nil (.seqN (.seq (.region (.V (mv rfl) ?_))))
  refine .V (mv rfl) ?_
  refine .V (mv rfl) ?_
  obtain ⟨q93, hF⟩ := hF
  refine .V (ix rfl rfl tS22 (_q1.ne (by decide) (inb_pos q93)) q93) ?_
  refine .V (ld1 (v := iV (gt s_ t8)) rfl tO3 (cellH (_q1.elemF q93 (by decide) 0 _ rfl))) ?_
  obtain ⟨q94, hF⟩ := hF
  obtain ⟨r2, q95⟩ : ∃ y_ : Bool, y_ = pf (gt s_ t8) := ⟨_, rfl⟩
  replace hF := hF r2 q95
  refine .C (cl (v := .bool r2) hff rfl rfl (fun w S => (by rw [q95]; exact hpf (gt s_ t8) w q94 (S.sub.anti (FH.le_refl _))))) ?_
  refine .nil (.seqN ?_)
  refine .cond rfl (fun q96 => ?_) (fun q96 => ?_)
  ·replace hF := hF.1 q96
   refine .seq (.region (.V (mv rfl) ?_))
   refine .V (asg rfl) ?_
   refine .nil (.seqN (.ret (.blkR (.seqR (.seqR (.blkR (.seqR ?_)))))))
   refine .res1 rfl (rvT rfl) (fun w' S => ⟨t8, hF, rfl, S.below⟩)
  replace hF := hF.2 q96
  refine .skip (.blkN (.seqN (.region (.V (bi rfl rfl rfl) ?_))))
  refine .V (mv rfl) ?_
  refine .nil ?_
  exact .RO (wr (t8 + 1)) hF.1 hF.2
 replace hF := hF.2 q84
 refine .exit (.seqX (.seqX (.blkX (.seqN (.seq (.region (.V (asg rfl) ?_)))))))
 refine .nil (.seqN (.ret ?_))
 refine .res1 rfl (rvT rfl) (fun w' S => ⟨(-1), hF, rfl, S.below⟩)
theorem c_indexF {h : FH} {w : World} (hs : Sub h w) (s_ : List Int) (as_ : Option Addr) (cs_ : Nat) (_q1 : RSl h as_ s_) (_q2 : s_.length ≤ cs_) (pf : Int → Bool) (Df : Int → Prop) (ff : FuncId) (firstf capsf : Array Value) (hff : ∀ args w, (callFunc ff args).run Tryz.prog w = .ok (.enter ff args) w) (hpf : ∀ (x : Int) (w' : World), Df x → Sub h w' → Calls Tryz.prog ff (firstf.toList ++ [(iV x : Value)] ++ capsf.toList).toArray w' fun e w'' => e = .returned (.bool (pf x)) ∧ Below w'.heap.size w' w'') (hp : pre_any s_ pf Df) : Calls Tryz.prog 149 #[.slice as_ s_.length cs_, .func (.func ff) firstf capsf] w fun e w' => e = .returned (iV (sp_indexF s_ pf Df)) ∧ Below w.heap.size w w' :=
 (w_indexF hs s_ as_ cs_ _q1 _q2 pf Df ff firstf capsf hff hpf (fun r => r = sp_indexF s_ pf Df) (ok_indexF s_ pf Df hp)).mono fun _ _ ⟨_, hk, he, hb⟩ => ⟨by rw [he, hk], hb⟩
theorem w_containsF {h : FH} {w : World} (hs : Sub h w) (s_ : List Int) (as_ : Option Addr) (cs_ : Nat) (_q1 : RSl h as_ s_) (_q2 : s_.length ≤ cs_) (pf : Int → Bool) (Df : Int → Prop) (ff : FuncId) (firstf capsf : Array Value) (hff : ∀ args w, (callFunc ff args).run Tryz.prog w = .ok (.enter ff args) w) (hpf : ∀ (x : Int) (w' : World), Df x → Sub h w' → Calls Tryz.prog ff (firstf.toList ++ [(iV x : Value)] ++ capsf.toList).toArray w' fun e w'' => e = .returned (.bool (pf x)) ∧ Below w'.heap.size w' w'') (K : Bool → Prop) (hF : F_containsF s_ pf Df K) : Calls Tryz.prog 124 #[.slice as_ s_.length cs_, .func (.func ff) firstf capsf] w fun e w' => ∃ r : Bool, K r ∧ e = .returned (.bool r) ∧ Below w.heap.size w w' := by
 refine enter (args := [vSl as_ s_ cs_, .func (.func ff) firstf capsf]) Tryz.func124 rfl Tryz.ntmps124 rfl hs ?_
 refine .seq (.region (.V (asg rfl) ?_))
 refine .nil (.seqN (.seq (.region (.V (mv rfl) ?_))))
 refine .V (mv rfl) ?_
 obtain ⟨q3, hF⟩ := hF
 obtain ⟨r2, q4⟩ : ∃ y_ : Int, y_ = sp_indexF s_ pf Df := ⟨_, rfl⟩
 replace hF := hF r2 q4
 refine .C (cl (v := iV r2) Tryz.call149 rfl rfl (fun w S => (by rw [q4]; exact c_indexF S.sub s_ as_ cs_ _q1 _q2 pf Df ff firstf capsf hff hpf q3))) ?_
 refine .V (bi rfl rfl rfl) ?_
 refine .V (asg rfl) ?_
 refine .nil (.seqN (.ret ?_))
 refine .res1 rfl (rvT rfl) (fun w' S => ⟨decide (0 ≤ r2), hF, rfl, S.below⟩)
theorem c_containsF {h : FH} {w : World} (hs : Sub h w) (s_ : List Int) (as_ : Option Addr) (cs_ : Nat) (_q1 : RSl h as_ s_) (_q2 : s_.length ≤ cs_) (pf : Int → Bool) (Df : Int → Prop) (ff : FuncId) (firstf capsf : Array Value) (hff : ∀ args w, (callFunc ff args).run Tryz.prog w = .ok (.enter ff args) w) (hpf : ∀ (x : Int) (w' : World), Df x → Sub h w' → Calls Tryz.prog ff (firstf.toList ++ [(iV x : Value)] ++ capsf.toList).toArray w' fun e w'' => e = .returned (.bool (pf x)) ∧ Below w'.heap.size w' w'') (hp : pre_any s_ pf Df) : Calls Tryz.prog 124 #[.slice as_ s_.length cs_, .func (.func ff) firstf capsf] w fun e w' => e = .returned (.bool (sp_any s_ pf Df)) ∧ Below w.heap.size w w' :=
 (w_containsF hs s_ as_ cs_ _q1 _q2 pf Df ff firstf capsf hff hpf (fun r => r = sp_any s_ pf Df) (ok_containsF s_ pf Df hp)).mono fun _ _ ⟨_, hk, he, hb⟩ => ⟨by rw [he, hk], hb⟩
set_option maxHeartbeats 8000000 in
theorem w_isSet {h : FH} {w : World} (hs : Sub h w) (l : List Int) (al2 : Option Addr) (cl2 : Nat) (_q1 : RSl h al2 l) (_q2 : l.length ≤ cl2) (n_ : Int) (K : Bool → Prop) (hF : F_isSet l n_ K) : Calls Tryz.prog 61 #[.slice al2 l.length cl2, iV n_] w fun e w' => ∃ r : Bool, K r ∧ e = .returned (.bool r) ∧ Below w.heap.size w w' := by
 refine enter (args := [vSl al2 l cl2, iV n_]) Tryz.func61 rfl Tryz.ntmps61 rfl hs ?_
 refine .seq (.region (.V (asg rfl) ?_))
 refine .nil (.seqN (.seq (.seq (.region (.V (mv rfl) ?_)))))
 refine .V (ln rfl tS22.is) ?_
 refine .V (mv rfl) ?_
 refine .nil (.seqN (.block ?_))
 obtain ⟨I1, μ1, q185, q186⟩ := hF
 refine .loop' (σ := Int) (fun z => I1 z) (fun z => μ1 z) (fun z => [(0, vSl al2 l cl2), (1, iV n_), (7, vSl al2 l cl2), (8, iV ((l.length : Nat) : Int)), (9, iV z)]) (fun _ => []) (fun _ => h) 0 q185 sb rfl (FH.le_refl _) ?_
 rintro t9 q185
 have hF := q186 t9 q185
 show J _ _ _ _ _ [(0, vSl al2 l cl2), (1, iV n_), (7, vSl al2 l cl2), (8, iV ((l.length : Nat) : Int)), (9, iV t9)] [] h
 refine .seq (.region (.V (bi rfl rfl rfl) ?_))
 refine .nil (.seqN (.seq ?_))
 refine .cond rfl (fun q189 => ?_) (fun q189 => ?_)
 ·replace hF := hF.1 q189
  refine .skip (.seqN (.seq (.block (.seq (.region (.V (mv rfl) ?_))))))
  obtain ⟨q212, hF⟩ := hF
  refine .V (ix rfl rfl tS22 (_q1.ne (by decide) (inb_pos q212)) q212) ?_
  refine .V (ld1 (v := iV (gt l t9)) rfl tO3 (cellH (_q1.elemF q212 (by decide) 0 _ rfl))) ?_
  refine .V (asg rfl) ?_
  refine .V (asg rfl) ?_
  refine .nil (.seqN ?_)
  refine .share (σ := Bool) (fun z => F_isSet_J1 K z t9 I1 μ1) (fun z => [(0, vSl al2 l cl2), (1, iV n_), (7, vSl al2 l cl2), (8, iV ((l.length : Nat) : Int)), (9, iV t9), (33, .bool z)]) (fun _ => []) (fun _ => h) ?_ (fun q217 => ?_)
  ·rintro t33 hF
   show J _ _ _ _ _ [(0, vSl al2 l cl2), (1, iV n_), (7, vSl al2 l cl2), (8, iV ((l.length : Nat) : Int)), (9, iV t9), (33, .bool t33)] [] h
   refine .cond rfl (fun q218 => ?_) (fun q218 => ?_)
   ·replace hF := hF.1 q218
    refine .seq (.region (.V (asg rfl) ?_))
    refine .nil (.seqN (.ret (.blkR (.seqR (.seqR (.blkR (.seqR ?_)))))))
    refine .res1 rfl (rvT rfl) (fun w' S => ⟨false, hF, rfl, S.below⟩)
   replace hF := hF.2 q218
   refine .skip (.blkN (.seqN (.region (.V (bi rfl rfl rfl) ?_))))
   refine .V (mv rfl) ?_
   refine .nil ?_
   exact .RO (wr (t9 + 1)) hF.1 hF.2
  refine .region (.V (mv rfl) ?_)
  refine .V (bi rfl rfl rfl) ?_
  refine .V (mv rfl) ?_
  rcases Bool.eq_false_or_eq_true (decide ((gt l t9) < 0)) with q219 | q219
  ·replace hF := hF.1 q219
   refine .GS q219 ?_
   refine .GS q219 ?_
   refine .GS q219 ?_
   refine .V (pkT rfl q219 rfl) ?_
   refine .V (mv rfl) ?_
   refine .gS rfl rfl rfl rfl rfl rfl ?_
   refine .gS rfl rfl rfl rfl rfl rfl ?_
   refine .gS rfl rfl rfl rfl rfl rfl ?_
   refine .GU ?_
   refine .GU ?_
   refine .GU ?_
   refine .GU ?_
   refine .GU ?_
   refine .GU ?_
   refine .GU ?_
   refine .gS rfl rfl rfl rfl rfl rfl ?_
   refine .V (pkT rfl rfl rfl) ?_
   refine .nil ?_
   exact .US q217 true hF
  replace hF := hF.2 q219
  refine .GV (mv rfl) q219 ?_
  refine .GV (mv rfl) q219 ?_
  refine .GV (bi rfl rfl rfl) q219 ?_
  refine .V (pkF rfl q219 rfl) ?_
  refine .V (mv rfl) ?_
  rcases Bool.eq_false_or_eq_true (decide (n_ ≤ (gt l t9))) with q220 | q220
  ·replace hF := hF.1 q220
   refine .GS q220 ?_
   refine .GS q220 ?_
   refine .GS q220 ?_
   refine .GU ?_
   refine .GU ?_
   refine .GU ?_
   refine .GU ?_
   refine .GU ?_
   refine .GU ?_
   refine .GU ?_
   refine .GS q220 ?_
   refine .V (pkT rfl q220 rfl) ?_
   refine .nil ?_
   exact .US q217 true hF
  replace hF := hF.2 q220
  refine .GV (mv rfl) q220 ?_
  refine .GV (bi rfl rfl rfl) q220 ?_
  refine .GV (mv rfl) q220 ?_
  rcases Bool.eq_false_or_eq_true (decide (0 < t9)) with q221 | q221
  ·replace hF := hF.1 q221
   refine .GV (mv rfl) q221 ?_
   refine .GV (mv rfl) q221 ?_
   refine .GV (mv rfl) q221 ?_
   refine .GV (bi rfl rfl rfl) q221 ?_
   obtain ⟨q222, hF⟩ := hF
   refine .GV (ix rfl rfl tS22 (_q1.ne (by decide) (inb_pos q222)) q222) q221 ?_
   refine .GV (ld1 (v := iV (gt l (wr (t9 - 1)))) rfl tO3 (cellH (_q1.elemF q222 (by decide) 0 _ rfl))) q221 ?_
   refine .GV (bi rfl rfl rfl) q221 ?_
   refine .GV (pkT rfl q221 rfl) q220 ?_
   refine .V (pkF rfl q220 rfl) ?_
   refine .nil ?_
   exact .US q217 (decide ((gt l t9) ≤ (gt l (wr (t9 - 1))))) hF
  replace hF := hF.2 q221
  refine .GS q221 ?_
  refine .GS q221 ?_
  refine .GS q221 ?_
  refine .GS q221 ?_
  refine .GS q221 ?_
  refine .GS q221 ?_
  refine .GS q221 ?_
  refine .GV (pkF rfl q221 rfl) q220 ?_
  refine .V (pkF rfl q220 rfl) ?_
  refine .nil ?_
  exact .US q217 false hF
 replace hF := hF.2 q189
 refine .exit (.seqX (.seqX (.blkX (.seqN (.seq (.region (.V (asg rfl) ?_)))))))
 refine .nil (.seqN (.ret ?_))
 refine .res1 rfl (rvT rfl) (fun w' S => ⟨true, hF, rfl, S.below⟩)
theorem c_isSet {h : FH} {w : World} (hs : Sub h w) (l : List Int) (al2 : Option Addr) (cl2 : Nat) (_q1 : RSl h al2 l) (_q2 : l.length ≤ cl2) (n_ : Int) (hp : pre_isSet l n_) : Calls Tryz.prog 61 #[.slice al2 l.length cl2, iV n_] w fun e w' => e = .returned (.bool (sp_isSet l n_)) ∧ Below w.heap.size w w' :=
 (w_isSet hs l al2 cl2 _q1 _q2 n_ (fun r => r = sp_isSet l n_) (ok_isSet l n_ hp)).mono fun _ _ ⟨_, hk, he, hb⟩ => ⟨by rw [he, hk], hb⟩
theorem w_rIsSet {h : FH} {w : World} (hs : Sub h w) (l : List Int) (al2 : Option Addr) (cl2 : Nat) (_q1 : RSl h al2 l) (_q2 : l.length ≤ cl2) (n_ : Int) (K : Bool → Prop) (hF : F_rIsSet l n_ K) : Calls Tryz.prog 26 #[.slice al2 l.length cl2, iV n_] w fun e w' => ∃ r : Bool, K r ∧ e = .returned (.bool r) ∧ Below w.heap.size w w' := by
 refine enter (args := [vSl al2 l cl2, iV n_]) Tryz.func26 rfl Tryz.ntmps26 rfl hs ?_
 refine .seq (.region (.V (asg rfl) ?_))
 refine .nil (.seqN (.seq (.seq (.region (.V (asg rfl) ?_)))))
 refine .nil (.seqN (.block ?_))
 obtain ⟨I1, μ1, q195, q196⟩ := hF
 refine .loop' (σ := Int) (fun z => I1 z) (fun z => μ1 z) (fun z => [(0, vSl al2 l cl2), (1, iV n_), (5, iV z)]) (fun _ => []) (fun _ => h) 0 q195 sb rfl (FH.le_refl _) ?_
 rintro i q195
 have hF := q196 i q195
 show J _ _ _ _ _ [(0, vSl al2 l cl2), (1, iV n_), (5, iV i)] [] h
 refine .seq (.seq (.region (.V (mv rfl) ?_)))
 refine .V (mv rfl) ?_
 refine .V (ln rfl tS22.is) ?_
 refine .V (bi rfl rfl rfl) ?_
 refine .nil (.seqN ?_)
 refine .cond rfl (fun q198 => ?_) (fun q198 => ?_)
 ·replace hF := hF.1 q198
  refine .skip (.seqN (.seq (.block ?_)))
  refine .share (σ := Bool) (fun z => F_rIsSet_J1 K z i I1 μ1) (fun z => [(0, vSl al2 l cl2), (1, iV n_), (5, iV i), (35, .bool z)]) (fun _ => []) (fun _ => h) ?_ (fun q228 => ?_)
  ·rintro t35 hF
   show J _ _ _ _ _ [(0, vSl al2 l cl2), (1, iV n_), (5, iV i), (35, .bool t35)] [] h
   refine .cond rfl (fun q229 => ?_) (fun q229 => ?_)
   ·replace hF := hF.1 q229
    refine .seq (.region (.V (asg rfl) ?_))
    refine .nil (.seqN (.ret (.blkR (.seqR (.seqR (.blkR (.seqR ?_)))))))
    refine .res1 rfl (rvT rfl) (fun w' S => ⟨false, hF, rfl, S.below⟩)
   replace hF := hF.2 q229
   refine .skip (.blkN (.seqN (.region (.V (mv rfl) ?_))))
   refine .V (bi rfl rfl rfl) ?_
   refine .V (asg rfl) ?_
   refine .nil ?_
   exact .RO (wr (i + 1)) hF.1 hF.2
  refine .open_ (by kernel_rfl) (by kernel_rfl) ?_
  refine .V (mv rfl) ?_
  refine .V (mv rfl) ?_
  obtain ⟨q230, hF⟩ := hF
  refine .V (ix rfl rfl tS22 (_q1.ne (by decide) (inb_pos q230)) q230) ?_
  refine .V (ld1 (v := iV (gt l i)) rfl tO3 (cellH (_q1.elemF q230 (by decide) 0 _ rfl))) ?_
  refine .V (mv rfl) ?_
  refine .V (bi rfl rfl rfl) ?_
  obtain ⟨r2, q231⟩ : ∃ y_ : Bool, y_ = sp_in_ (gt l i) 0 (wr (n_ - 1)) := ⟨_, rfl⟩
  replace hF := hF r2 q231
  refine .C (cl (v := .bool r2) Tryz.call25 rfl rfl (fun w S => (by rw [q231]; exact c_in_ S.sub (gt l i) 0 (wr (n_ - 1)) ))) ?_
  refine .V (nt rfl) ?_
  refine .V (mv rfl) ?_
  rcases Bool.eq_false_or_eq_true (!r2) with q232 | q232
  ·replace hF := hF.1 q232
   refine .GS q232 ?_
   refine .GS q232 ?_
   refine .GS q232 ?_
   refine .GU ?_
   refine .GU ?_
   refine .GU ?_
   refine .GU ?_
   refine .GU ?_
   refine .GU ?_
   refine .GU ?_
   refine .GU ?_
   refine .GU ?_
   refine .GU ?_
   refine .GS q232 ?_
   refine .V (pkT rfl q232 rfl) ?_
   refine .fin ?_
   exact .US q228 true hF
  replace hF := hF.2 q232
  refine .GV (mv rfl) q232 ?_
  refine .GV (bi rfl rfl rfl) q232 ?_
  refine .GV (mv rfl) q232 ?_
  rcases Bool.eq_false_or_eq_true (decide (0 < i)) with q233 | q233
  ·replace hF := hF.1 q233
   refine .GV (mv rfl) q233 ?_
   refine .GV (mv rfl) q233 ?_
   refine .GV (ix rfl rfl tS22 (_q1.ne (by decide) (inb_pos q230)) q230) q233 ?_
   refine .GV (ld1 (v := iV (gt l i)) rfl tO3 (cellH (_q1.elemF q230 (by decide) 0 _ rfl))) q233 ?_
   refine .GV (mv rfl) q233 ?_
   refine .GV (mv rfl) q233 ?_
   refine .GV (bi rfl rfl rfl) q233 ?_
   obtain ⟨q234, hF⟩ := hF
   refine .GV (ix rfl rfl tS22 (_q1.ne (by decide) (inb_pos q234)) q234) q233 ?_
   refine .GV (ld1 (v := iV (gt l (wr (i - 1)))) rfl tO3 (cellH (_q1.elemF q234 (by decide) 0 _ rfl))) q233 ?_
   refine .GV (bi rfl rfl rfl) q233 ?_
   refine .GV (pkT rfl q233 rfl) q232 ?_
   refine .V (pkF rfl q232 rfl) ?_
   refine .fin ?_
   exact .US q228 (decide ((gt l i) ≤ (gt l (wr (i - 1))))) hF
  replace hF := hF.2 q233
  refine .GS q233 ?_
  refine .GS q233 ?_
  refine .GS q233 ?_
  refine .GS q233 ?_
  refine .GS q233 ?_
  refine .GS q233 ?_
  refine .GS q233 ?_
  refine .GS q233 ?_
  refine .GS q233 ?_
  refine .GS q233 ?_
  refine .GV (pkF rfl q233 rfl) q232 ?_
  refine .V (pkF rfl q232 rfl) ?_
  refine .fin ?_
  exact .US q228 false hF
 replace hF := hF.2 q198
 refine .exit (.seqX (.seqX (.blkX (.seqN (.seq (.region (.V (asg rfl) ?_)))))))
 refine .nil (.seqN (.ret ?_))
 refine .res1 rfl (rvT rfl) (fun w' S => ⟨true, hF, rfl, S.below⟩)
theorem c_rIsSet {h : FH} {w : World} (hs : Sub h w) (l : List Int) (al2 : Option Addr) (cl2 : Nat) (_q1 : RSl h al2 l) (_q2 : l.length ≤ cl2) (n_ : Int) (hp : pre_isSet l n_) : Calls Tryz.prog 26 #[.slice al2 l.length cl2, iV n_] w fun e w' => e = .returned (.bool (sp_isSet l n_)) ∧ Below w.heap.size w w' :=
 (w_rIsSet hs l al2 cl2 _q1 _q2 n_ (fun r => r = sp_isSet l n_) (ok_rIsSet l n_ hp)).mono fun _ _ ⟨_, hk, he, hb⟩ => ⟨by rw [he, hk], hb⟩
theorem w_meets1 {h : FH} {w : World} (hs : Sub h w) (x : Int) (x2 : List Int) (ax2 : Option Addr) (cx2 : Nat) (_q1 : RSl h ax2 x2) (_q2 : x2.length ≤ cx2) (px2 : Addr) (_q3 : CellsAt h px2 [.slice ax2 x2.length cx2]) (K : Bool → Prop) (hF : F_meets1 x x2 K) : Calls Tryz.prog 125 #[iV x, .pointer (some px2)] w fun e w' => ∃ r : Bool, K r ∧ e = .returned (.bool r) ∧ Below w.heap.size w w' := by
 refine enter (args := [iV x, .pointer (some px2)]) Tryz.func125 rfl Tryz.ntmps125 rfl hs ?_
 refine .seq (.region (.V (asg rfl) ?_))
 refine .nil (.seqN (.seq (.region (.V (ld1 (v := vSl ax2 x2 cx2) rfl tO22 (cellH (CellsAt.mono (FH.le_refl _) _q3 0 _ rfl))) ?_))))
 refine .V (mv rfl) ?_
 obtain ⟨q4, hF⟩ := hF
 obtain ⟨r2, q5⟩ : ∃ y_ : Int × Bool, y_ = sp_bsearch x2 x := ⟨_, rfl⟩
 replace hF := hF r2 q5
 refine .C (cl (v := .tuple #[iV r2.1, .bool r2.2]) Tryz.call104 rfl rfl (fun w S => (by rw [q5]; exact c_bsearch S.sub x2 ax2 cx2 _q1 _q2 x q4))) ?_
 refine .V (mv rfl) ?_
 refine .V (ext rfl rfl) ?_
 refine .V (ext rfl rfl) ?_
 refine .V (asg rfl) ?_
 refine .V (asg rfl) ?_
 refine .nil (.seqN (.seq (.region (.V (mv rfl) ?_))))
 refine .V (asg rfl) ?_
 refine .nil (.seqN (.ret ?_))
 refine .res1 rfl (rvT rfl) (fun w' S => ⟨r2.2, hF, rfl, S.below⟩)
theorem c_meets1 {h : FH} {w : World} (hs : Sub h w) (x : Int) (x2 : List Int) (ax2 : Option Addr) (cx2 : Nat) (_q1 : RSl h ax2 x2) (_q2 : x2.length ≤ cx2) (px2 : Addr) (_q3 : CellsAt h px2 [.slice ax2 x2.length cx2]) (hp : pre_meets1 x x2) : Calls Tryz.prog 125 #[iV x, .pointer (some px2)] w fun e w' => e = .returned (.bool (sp_meets1 x x2)) ∧ Below w.heap.size w w' :=
 (w_meets1 hs x x2 ax2 cx2 _q1 _q2 px2 _q3 (fun r => r = sp_meets1 x x2) (ok_meets1 x x2 hp)).mono fun _ _ ⟨_, hk, he, hb⟩ => ⟨by rw [he, hk], hb⟩
theorem w_meets {h : FH} {w : World} (hs : Sub h w) (a : List Int) (aa : Option Addr) (ca : Nat) (_q1 : RSl h aa a) (_q2 : a.length ≤ ca) (b : List Int) (ab : Option Addr) (cb : Nat) (_q3 : RSl h ab b) (_q4 : b.length ≤ cb) (K : Bool → Prop) (hF : F_meets a b K) : Calls Tryz.prog 115 #[.slice aa a.length ca, .slice ab b.length cb] w fun e w' => ∃ r : Bool, K r ∧ e = .returned (.bool r) ∧ Below w.heap.size w w' := by
 refine enter (args := [vSl aa a ca, vSl ab b cb]) Tryz.func115 rfl Tryz.ntmps115 rfl hs ?_
 refine .seq (.region ?_)
 refine bx (vs := [vSl ab b cb]) rfl rfl rfl (fun pb => ?_)
 refine .V (asg rfl) ?_
 refine .nil (.seqN (.seq (.region (.V (mv rfl) ?_))))
 refine .V (mkf (vf := []) (vc := [.pointer (some pb)]) rfl rfl) ?_
 obtain ⟨q5, hF⟩ := hF
 obtain ⟨r2, q6⟩ : ∃ y_ : Bool, y_ = sp_any a (fun y_ : Int => sp_meets1 y_ b) (fun y_ : Int => pre_meets1 y_ b) := ⟨_, rfl⟩
 replace hF := hF r2 q6
 refine .C (cl (v := .bool r2) Tryz.call124 rfl rfl (fun w S => (by rw [q6]; obtain ⟨h_, hl_, hs_, hb_⟩ := lookB S (k := 0) rfl; exact c_containsF hs_ a aa ca (RSl.mono hl_ _q1) _q2 (fun y_ : Int => sp_meets1 y_ b) (fun y_ : Int => pre_meets1 y_ b) 125 #[] #[.pointer (some pb)] Tryz.call125 (fun x w' hD hs' => c_meets1 hs' x b ab cb (RSl.mono hl_ _q3) _q4 pb hb_ hD) q5))) ?_
 refine .V (asg rfl) ?_
 refine .nil (.seqN (.ret ?_))
 refine .res1 rfl (rvT rfl) (fun w' S => ⟨r2, hF, rfl, S.below⟩)
theorem c_meets {h : FH} {w : World} (hs : Sub h w) (a : List Int) (aa : Option Addr) (ca : Nat) (_q1 : RSl h aa a) (_q2 : a.length ≤ ca) (b : List Int) (ab : Option Addr) (cb : Nat) (_q3 : RSl h ab b) (_q4 : b.length ≤ cb) (hp : pre_meets a b) : Calls Tryz.prog 115 #[.slice aa a.length ca, .slice ab b.length cb] w fun e w' => e = .returned (.bool (sp_meets a b)) ∧ Below w.heap.size w w' :=
 (w_meets hs a aa ca _q1 _q2 b ab cb _q3 _q4 (fun r => r = sp_meets a b) (ok_meets a b hp)).mono fun _ _ ⟨_, hk, he, hb⟩ => ⟨by rw [he, hk], hb⟩
theorem w_disjoint {h : FH} {w : World} (hs : Sub h w) (a : List Int) (aa : Option Addr) (ca : Nat) (_q1 : RSl h aa a) (_q2 : a.length ≤ ca) (b : List Int) (ab : Option Addr) (cb : Nat) (_q3 : RSl h ab b) (_q4 : b.length ≤ cb) (K : Bool → Prop) (hF : F_disjoint a b K) : Calls Tryz.prog 89 #[.slice aa a.length ca, .slice ab b.length cb] w fun e w' => ∃ r : Bool, K r ∧ e = .returned (.bool r) ∧ Below w.heap.size w w' := by
 refine enter (args := [vSl aa a ca, vSl ab b cb]) Tryz.func89 rfl Tryz.ntmps89 rfl hs ?_
 refine .seq (.region (.V (asg rfl) ?_))
 refine .nil (.seqN (.seq (.seq (.region (.V (asg rfl) ?_)))))
 refine .nil (.seqN (.block ?_))
 obtain ⟨I1, μ1, q77, q78⟩ := hF
 refine .loop' (σ := Int) (fun z => I1 z) (fun z => μ1 z) (fun z => [(0, vSl aa a ca), (1, vSl ab b cb), (5, iV z)]) (fun _ => []) (fun _ => h) 0 q77 sb rfl (FH.le_refl _) ?_
 rintro i q77
 have hF := q78 i q77
 show J _ _ _ _ _ [(0, vSl aa a ca), (1, vSl ab b cb), (5, iV i)] [] h
 refine .seq (.seq (.region (.V (mv rfl) ?_)))
 refine .V (mv rfl) ?_
 refine .V (ln rfl tS22.is) ?_
 refine .V (bi rfl rfl rfl) ?_
 refine .nil (.seqN ?_)
 refine .cond rfl (fun q80 => ?_) (fun q80 => ?_)
 ·replace hF := hF.1 q80
  refine .skip (.seqN (.seq (.block (.seq (.region (.V (mv rfl) ?_))))))
  refine .V (mv rfl) ?_
  refine .V (mv rfl) ?_
  obtain ⟨q89, hF⟩ := hF
  refine .V (ix rfl rfl tS22 (_q1.ne (by decide) (inb_pos q89)) q89) ?_
  refine .V (ld1 (v := iV (gt a i)) rfl tO3 (cellH (_q1.elemF q89 (by decide) 0 _ rfl))) ?_
  obtain ⟨q90, hF⟩ := hF
  obtain ⟨r2, q91⟩ : ∃ y_ : Bool, y_ = sp_has b (gt a i) := ⟨_, rfl⟩
  replace hF := hF r2 q91
  refine .C (cl (v := .bool r2) Tryz.call76 rfl rfl (fun w S => (by rw [q91]; exact c_has S.sub b ab cb _q3 _q4 (gt a i) q90))) ?_
  refine .nil (.seqN ?_)
  refine .cond rfl (fun q92 => ?_) (fun q92 => ?_)
  ·replace hF := hF.1 q92
   refine .seq (.region (.V (asg rfl) ?_))
   refine .nil (.seqN (.ret (.blkR (.seqR (.seqR (.blkR (.seqR ?_)))))))
   refine .res1 rfl (rvT rfl) (fun w' S => ⟨false, hF, rfl, S.below⟩)
  replace hF := hF.2 q92
  refine .skip (.blkN (.seqN (.region (.V (mv rfl) ?_))))
  refine .V (bi rfl rfl rfl) ?_
  refine .V (asg rfl) ?_
  refine .nil ?_
  exact .RO (wr (i + 1)) hF.1 hF.2
 replace hF := hF.2 q80
 refine .exit (.seqX (.seqX (.blkX (.seqN (.seq (.region (.V (asg rfl) ?_)))))))
 refine .nil (.seqN (.ret ?_))
 refine .res1 rfl (rvT rfl) (fun w' S => ⟨true, hF, rfl, S.below⟩)
theorem c_disjoint {h : FH} {w : World} (hs : Sub h w) (a : List Int) (aa : Option Addr) (ca : Nat) (_q1 : RSl h aa a) (_q2 : a.length ≤ ca) (b : List Int) (ab : Option Addr) (cb : Nat) (_q3 : RSl h ab b) (_q4 : b.length ≤ cb) (hp : pre_disjoint a b) : Calls Tryz.prog 89 #[.slice aa a.length ca, .slice ab b.length cb] w fun e w' => e = .returned (.bool (sp_disjoint a b)) ∧ Below w.heap.size w w' :=
 (w_disjoint hs a aa ca _q1 _q2 b ab cb _q3 _q4 (fun r => r = sp_disjoint a b) (ok_disjoint a b hp)).mono fun _ _ ⟨_, hk, he, hb⟩ => ⟨by rw [he, hk], hb⟩
set_option maxHeartbeats 8000000 in
theorem w_operator {h : FH} {w : World} (hs : Sub h w) (o : Operator) (ao : Option Addr) (co : Nat) (_q1 : RSl h ao o.pre) (_q2 : o.pre.length ≤ co) (ao2 : Option Addr) (co2 : Nat) (_q3 : RSl h ao2 o.add) (_q4 : o.add.length ≤ co2) (ao3 : Option Addr) (co3 : Nat) (_q5 : RSl h ao3 o.del) (_q6 : o.del.length ≤ co3) (facts : Int) (K : Int → Prop) (hF : F_operator o facts K) : Calls Tryz.prog 102 #[.agg #[.slice ao o.pre.length co, .slice ao2 o.add.length co2, .slice ao3 o.del.length co3, iV o.cost], iV facts] w fun e w' => ∃ r : Int, K r ∧ e = .returned (iV r) ∧ Below w.heap.size w w' := by
 refine enter (args := [.agg #[vSl ao o.pre co, vSl ao2 o.add co2, vSl ao3 o.del co3, iV o.cost], iV facts]) Tryz.func102 rfl Tryz.ntmps102 rfl hs ?_
 refine .seq (.region ?_)
 refine bx (vs := [vSl ao o.pre co, vSl ao2 o.add co2, vSl ao3 o.del co3, iV o.cost]) rfl rfl rfl (fun po => ?_)
 refine .V (asg rfl) ?_
 refine .nil (.seqN (.seq (.block ?_)))
 refine .share (σ := Bool) (fun z => F_operator_J1 o K z) (fun z => [(2, .pointer (some po)), (5, .bool z)]) (fun _ => [Box po [vSl ao o.pre co, vSl ao2 o.add co2, vSl ao3 o.del co3, iV o.cost]]) (fun _ => h) ?_ (fun q74 => ?_)
 ·rintro t5 hF
  show J _ _ _ _ _ [(2, .pointer (some po)), (5, .bool t5)] [Box po [vSl ao o.pre co, vSl ao2 o.add co2, vSl ao3 o.del co3, iV o.cost]] h
  refine .cond rfl (fun q75 => ?_) (fun q75 => ?_)
  ·replace hF := hF.1 q75
   refine .seq (.region (.V (asg rfl) ?_))
   refine .nil (.seqN (.ret (.blkR (.seqR ?_))))
   refine .res1 rfl (rvT rfl) (fun w' S => ⟨5, hF, rfl, S.below⟩)
  replace hF := hF.2 q75
  refine .share (σ := Bool) (fun z => F_operator_J2 K z) (fun z => [(32, .bool z)]) (fun _ => []) (fun _ => h) ?_ (fun q77 => ?_)
  ·rintro t32 hF
   show J _ _ _ _ _ [(32, .bool t32)] [] h
   refine .cond rfl (fun q78 => ?_) (fun q78 => ?_)
   ·replace hF := hF.1 q78
    refine .seq (.region (.V (asg rfl) ?_))
    refine .nil (.seqN (.ret (.blkR (.seqR ?_))))
    refine .res1 rfl (rvT rfl) (fun w' S => ⟨3, hF, rfl, S.below⟩)
   replace hF := hF.2 q78
   refine .skip (.blkN (.seqN (.seq (.region (.V (asg rfl) ?_)))))
   refine .nil (.seqN (.ret ?_))
   refine .res1 rfl (rvT rfl) (fun w' S => ⟨0, hF, rfl, S.below⟩)
  refine .region (.V (fa rfl tF54_3) ?_)
  refine .V (ld1 rfl tO3 (cellB (off := 3) (k := 0) rfl rfl)) ?_
  refine .V (bi rfl rfl rfl) ?_
  refine .V (mv rfl) ?_
  rcases Bool.eq_false_or_eq_true (decide (o.cost < 0)) with q79 | q79
  ·replace hF := hF.1 q79
   refine .GS q79 ?_
   refine .GS q79 ?_
   refine .GS q79 ?_
   refine .V (pkT rfl q79 rfl) ?_
   refine .V (asg rfl) ?_
   refine .nil ?_
   refine .sel0 [] (by decide) rfl ?_
   exact .US q77 true hF
  replace hF := hF.2 q79
  refine .GV (fa rfl tF54_3) q79 ?_
  refine .GV (ld1 rfl tO3 (cellB (off := 3) (k := 0) rfl rfl)) q79 ?_
  refine .GV (bi rfl rfl rfl) q79 ?_
  refine .V (pkF rfl q79 rfl) ?_
  refine .V (asg rfl) ?_
  refine .nil ?_
  refine .sel0 [] (by decide) rfl ?_
  exact .US q77 (decide (100 < o.cost)) hF
 refine .region (.V (fa rfl tF54_0) ?_)
 refine .V (ld1 rfl tO22 (cellB (off := 0) (k := 0) rfl rfl)) ?_
 refine .V (mv rfl) ?_
 obtain ⟨q80, hF⟩ := hF
 obtain ⟨r2, q81⟩ : ∃ y_ : Bool, y_ = sp_isSet o.pre facts := ⟨_, rfl⟩
 replace hF := hF r2 q81
 refine .C (cl (v := .bool r2) Tryz.call61 rfl rfl (fun w S => (by rw [q81]; exact c_isSet S.sub o.pre ao co _q1 _q2 facts q80))) ?_
 refine .V (nt rfl) ?_
 refine .V (mv rfl) ?_
 rcases Bool.eq_false_or_eq_true (!r2) with q82 | q82
 ·replace hF := hF.1 q82
  refine .GS q82 ?_
  refine .GS q82 ?_
  refine .GS q82 ?_
  refine .GS q82 ?_
  refine .GS q82 ?_
  refine .V (pkT rfl q82 rfl) ?_
  refine .V (mv rfl) ?_
  refine .gS rfl rfl rfl rfl rfl rfl ?_
  refine .gS rfl rfl rfl rfl rfl rfl ?_
  refine .gS rfl rfl rfl rfl rfl rfl ?_
  refine .gS rfl rfl rfl rfl rfl rfl ?_
  refine .gS rfl rfl rfl rfl rfl rfl ?_
  refine .V (pkT rfl rfl rfl) ?_
  refine .V (mv rfl) ?_
  refine .gS rfl rfl rfl rfl rfl rfl ?_
  refine .gS rfl rfl rfl rfl rfl rfl ?_
  refine .gS rfl rfl rfl rfl rfl rfl ?_
  refine .gS rfl rfl rfl rfl rfl rfl ?_
  refine .gS rfl rfl rfl rfl rfl rfl ?_
  refine .V (pkT rfl rfl rfl) ?_
  refine .V (asg rfl) ?_
  refine .nil ?_
  exact .US q74 true hF
 replace hF := hF.2 q82
 refine .GV (fa rfl tF54_1) q82 ?_
 refine .GV (ld1 rfl tO22 (cellB (off := 1) (k := 0) rfl rfl)) q82 ?_
 refine .GV (mv rfl) q82 ?_
 obtain ⟨q83, hF⟩ := hF
 obtain ⟨r3, q84⟩ : ∃ y_ : Bool, y_ = sp_isSet o.add facts := ⟨_, rfl⟩
 replace hF := hF r3 q84
 refine .gc (cl (v := .bool r3) Tryz.call61 rfl rfl (fun w S => (by rw [q84]; exact c_isSet S.sub o.add ao2 co2 _q3 _q4 facts q83))) rfl rfl rfl q82 rfl rfl ?_
 refine .GV (nt rfl) q82 ?_
 refine .V (pkF rfl q82 rfl) ?_
 refine .V (mv rfl) ?_
 rcases Bool.eq_false_or_eq_true (!r3) with q85 | q85
 ·replace hF := hF.1 q85
  refine .GS q85 ?_
  refine .GS q85 ?_
  refine .GS q85 ?_
  refine .GS q85 ?_
  refine .GS q85 ?_
  refine .V (pkT rfl q85 rfl) ?_
  refine .V (mv rfl) ?_
  refine .gS rfl rfl rfl rfl rfl rfl ?_
  refine .gS rfl rfl rfl rfl rfl rfl ?_
  refine .gS rfl rfl rfl rfl rfl rfl ?_
  refine .gS rfl rfl rfl rfl rfl rfl ?_
  refine .gS rfl rfl rfl rfl rfl rfl ?_
  refine .V (pkT rfl rfl rfl) ?_
  refine .V (asg rfl) ?_
  refine .nil ?_
  exact .US q74 true hF
 replace hF := hF.2 q85
 refine .GV (fa rfl tF54_2) q85 ?_
 refine .GV (ld1 rfl tO22 (cellB (off := 2) (k := 0) rfl rfl)) q85 ?_
 refine .GV (mv rfl) q85 ?_
 obtain ⟨q86, hF⟩ := hF
 obtain ⟨r4, q87⟩ : ∃ y_ : Bool, y_ = sp_isSet o.del facts := ⟨_, rfl⟩
 replace hF := hF r4 q87
 refine .gc (cl (v := .bool r4) Tryz.call61 rfl rfl (fun w S => (by rw [q87]; exact c_isSet S.sub o.del ao3 co3 _q5 _q6 facts q86))) rfl rfl rfl q85 rfl rfl ?_
 refine .GV (nt rfl) q85 ?_
 refine .V (pkF rfl q85 rfl) ?_
 refine .V (mv rfl) ?_
 rcases Bool.eq_false_or_eq_true (!r4) with q88 | q88
 ·replace hF := hF.1 q88
  refine .GS q88 ?_
  refine .GS q88 ?_
  refine .GS q88 ?_
  refine .GS q88 ?_
  refine .GS q88 ?_
  refine .V (pkT rfl q88 rfl) ?_
  refine .V (asg rfl) ?_
  refine .nil ?_
  exact .US q74 true hF
 replace hF := hF.2 q88
 refine .GV (fa rfl tF54_1) q88 ?_
 refine .GV (ld1 rfl tO22 (cellB (off := 1) (k := 0) rfl rfl)) q88 ?_
 refine .GV (fa rfl tF54_2) q88 ?_
 refine .GV (ld1 rfl tO22 (cellB (off := 2) (k := 0) rfl rfl)) q88 ?_
 obtain ⟨q89, hF⟩ := hF
 obtain ⟨r5, q90⟩ : ∃ y_ : Bool, y_ = sp_meets o.add o.del := ⟨_, rfl⟩
 replace hF := hF r5 q90
 refine .gc (cl (v := .bool r5) Tryz.call115 rfl rfl (fun w S => (by rw [q90]; exact c_meets S.sub o.add ao2 co2 _q3 _q4 o.del ao3 co3 _q5 _q6 q89))) rfl rfl rfl q88 rfl rfl ?_
 refine .V (pkF rfl q88 rfl) ?_
 refine .V (asg rfl) ?_
 refine .nil ?_
 exact .US q74 r5 hF
theorem c_operator {h : FH} {w : World} (hs : Sub h w) (o : Operator) (ao : Option Addr) (co : Nat) (_q1 : RSl h ao o.pre) (_q2 : o.pre.length ≤ co) (ao2 : Option Addr) (co2 : Nat) (_q3 : RSl h ao2 o.add) (_q4 : o.add.length ≤ co2) (ao3 : Option Addr) (co3 : Nat) (_q5 : RSl h ao3 o.del) (_q6 : o.del.length ≤ co3) (facts : Int) (hp : pre_operator o facts) : Calls Tryz.prog 102 #[.agg #[.slice ao o.pre.length co, .slice ao2 o.add.length co2, .slice ao3 o.del.length co3, iV o.cost], iV facts] w fun e w' => e = .returned (iV (sp_operator o facts)) ∧ Below w.heap.size w w' :=
 (w_operator hs o ao co _q1 _q2 ao2 co2 _q3 _q4 ao3 co3 _q5 _q6 facts (fun r => r = sp_operator o facts) (ok_operator o facts hp)).mono fun _ _ ⟨_, hk, he, hb⟩ => ⟨by rw [he, hk], hb⟩
set_option maxHeartbeats 8000000 in
theorem w_validate {h : FH} {w : World} (hs : Sub h w) (t : Task) (at_ : Option Addr) (ct : Nat) (_q1 : RSl h at_ t.init) (_q2 : t.init.length ≤ ct) (at_2 : Option Addr) (ct2 : Nat) (_q3 : RSl h at_2 t.goal) (_q4 : t.goal.length ≤ ct2) (at_3 : Option Addr) (ct3 : Nat) (_q5 : RSl h at_3 t.ops) (_q6 : t.ops.length ≤ ct3) (K : Fault → Prop) (hF : F_validate t K) : Calls Tryz.prog 79 #[.agg #[iV t.facts, .slice at_ t.init.length ct, .slice at_2 t.goal.length ct2, .slice at_3 t.ops.length ct3]] w fun e w' => ∃ r : Fault, K r ∧ e = .returned (.agg #[iV r.code, iV r.index]) ∧ Below w.heap.size w w' := by
 refine enter (args := [.agg (tF t at_ ct at_2 ct2 at_3 ct3).toArray]) Tryz.func79 rfl Tryz.ntmps79 rfl hs ?_
 refine .seq (.region ?_)
 refine bx (vs := (tF t at_ ct at_2 ct2 at_3 ct3)) rfl rfl rfl (fun pt => ?_)
 refine al tZ27 rfl (fun pv => ?_)
 refine .nil (.seqN (.seq (.block ?_)))
 refine .share (σ := Bool) (fun z => F_validate_J1 t K z) (fun z => [(1, .pointer (some pt)), (2, .pointer (some pv)), (6, .bool z)]) (fun _ => [Box pt (tF t at_ ct at_2 ct2 at_3 ct3), Box pv [iV 0, iV 0]]) (fun _ => h) ?_ (fun q30 => ?_)
 ·rintro t6 hF
  show J _ _ _ _ _ [(1, .pointer (some pt)), (2, .pointer (some pv)), (6, .bool t6)] [Box pt (tF t at_ ct at_2 ct2 at_3 ct3), Box pv [iV 0, iV 0]] h
  refine .cond rfl (fun q31 => ?_) (fun q31 => ?_)
  ·replace hF := hF.1 q31
   refine .seq (.region (.V (bld (cs := #[iV 3, iV (-1)]) (pv := [(0, iV 3), (1, iV (-1))]) tB27 rfl rfl) ?_))
   refine st (p := pv) (off := 0) (k := 1) (vs := [iV 3, iV (-1)]) rfl rfl rfl (fun w => (tA27 w).2) rfl rfl rfl rfl ?_
   refine .cast (A' := [Box pt (tF t at_ ct at_2 ct2 at_3 ct3), Box pv [iV 3, iV (-1)]]) rfl ?_
   refine .nil (.seqN (.ret (.blkR (.seqR ?_))))
   refine .res1 rfl (rvC rfl tA27 (k := 1) rfl rfl) (fun w' S => ⟨(⟨3, (-1)⟩ : Fault), hF, rfl, S.below⟩)
  replace hF := hF.2 q31
  refine .seq (.region (.V (fa rfl tF25_1) ?_))
  refine .V (ld1 rfl tO22 (cellB (off := 1) (k := 0) rfl rfl)) ?_
  refine .V (fa rfl tF25_0) ?_
  refine .V (ld1 rfl tO3 (cellB (off := 0) (k := 0) rfl rfl)) ?_
  obtain ⟨q32, hF⟩ := hF
  obtain ⟨r2, q33⟩ : ∃ y_ : Bool, y_ = sp_isSet t.init t.facts := ⟨_, rfl⟩
  replace hF := hF r2 q33
  refine .C (cl (v := .bool r2) Tryz.call61 rfl rfl (fun w S => (by rw [q33]; exact c_isSet S.sub t.init at_ ct _q1 _q2 t.facts q32))) ?_
  refine .V (nt rfl) ?_
  refine .V (asg rfl) ?_
  refine .nil (.seqN ?_)
  refine .cond rfl (fun q34 => ?_) (fun q34 => ?_)
  ·replace hF := hF.1 q34
   refine .seq (.region (.V (bld (cs := #[iV 5, iV (-2)]) (pv := [(0, iV 5), (1, iV (-2))]) tB27 rfl rfl) ?_))
   refine st (p := pv) (off := 0) (k := 1) (vs := [iV 5, iV (-2)]) rfl rfl rfl (fun w => (tA27 w).2) rfl rfl rfl rfl ?_
   refine .cast (A' := [Box pt (tF t at_ ct at_2 ct2 at_3 ct3), Box pv [iV 5, iV (-2)]]) rfl ?_
   refine .nil (.seqN (.ret (.blkR (.seqR ?_))))
   refine .res1 rfl (rvC rfl tA27 (k := 1) rfl rfl) (fun w' S => ⟨(⟨5, (-2)⟩ : Fault), hF, rfl, S.below⟩)
  replace hF := hF.2 q34
  refine .seq (.region (.V (fa rfl tF25_2) ?_))
  refine .V (ld1 rfl tO22 (cellB (off := 2) (k := 0) rfl rfl)) ?_
  refine .V (fa rfl tF25_0) ?_
  refine .V (ld1 rfl tO3 (cellB (off := 0) (k := 0) rfl rfl)) ?_
  obtain ⟨q35, hF⟩ := hF
  obtain ⟨r3, q36⟩ : ∃ y_ : Bool, y_ = sp_isSet t.goal t.facts := ⟨_, rfl⟩
  replace hF := hF r3 q36
  refine .C (cl (v := .bool r3) Tryz.call61 rfl rfl (fun w S => (by rw [q36]; exact c_isSet S.sub t.goal at_2 ct2 _q3 _q4 t.facts q35))) ?_
  refine .V (nt rfl) ?_
  refine .V (asg rfl) ?_
  refine .nil (.seqN ?_)
  refine .cond rfl (fun q37 => ?_) (fun q37 => ?_)
  ·replace hF := hF.1 q37
   refine .seq (.region (.V (bld (cs := #[iV 5, iV (-3)]) (pv := [(0, iV 5), (1, iV (-3))]) tB27 rfl rfl) ?_))
   refine st (p := pv) (off := 0) (k := 1) (vs := [iV 5, iV (-3)]) rfl rfl rfl (fun w => (tA27 w).2) rfl rfl rfl rfl ?_
   refine .cast (A' := [Box pt (tF t at_ ct at_2 ct2 at_3 ct3), Box pv [iV 5, iV (-3)]]) rfl ?_
   refine .nil (.seqN (.ret (.blkR (.seqR ?_))))
   refine .res1 rfl (rvC rfl tA27 (k := 1) rfl rfl) (fun w' S => ⟨(⟨5, (-3)⟩ : Fault), hF, rfl, S.below⟩)
  replace hF := hF.2 q37
  refine .seq (.region (.V (fa rfl tF25_3) ?_))
  refine .V (ld1 rfl tO23 (cellB (off := 3) (k := 0) rfl rfl)) ?_
  refine .V (ln rfl tS23.is) ?_
  refine .V (bi rfl rfl rfl) ?_
  refine .V (asg rfl) ?_
  refine .nil (.seqN ?_)
  refine .cond rfl (fun q38 => ?_) (fun q38 => ?_)
  ·replace hF := hF.1 q38
   refine .seq (.region (.V (bld (cs := #[iV 2, iV (-1)]) (pv := [(0, iV 2), (1, iV (-1))]) tB27 rfl rfl) ?_))
   refine st (p := pv) (off := 0) (k := 1) (vs := [iV 2, iV (-1)]) rfl rfl rfl (fun w => (tA27 w).2) rfl rfl rfl rfl ?_
   refine .cast (A' := [Box pt (tF t at_ ct at_2 ct2 at_3 ct3), Box pv [iV 2, iV (-1)]]) rfl ?_
   refine .nil (.seqN (.ret (.blkR (.seqR ?_))))
   refine .res1 rfl (rvC rfl tA27 (k := 1) rfl rfl) (fun w' S => ⟨(⟨2, (-1)⟩ : Fault), hF, rfl, S.below⟩)
  replace hF := hF.2 q38
  refine .skip (.blkN (.seqN (.seq (.seq (.region (.V (fa rfl tF25_3) ?_))))))
  refine .V (ld1 rfl tO23 (cellB (off := 3) (k := 0) rfl rfl)) ?_
  refine .V (ln rfl tS23.is) ?_
  refine .V (mv rfl) ?_
  refine .nil (.seqN (.block ?_))
  obtain ⟨I1, μ1, q221, q222⟩ := hF
  refine .loop' (σ := Int) (fun z => I1 z) (fun z => μ1 z) (fun z => [(1, .pointer (some pt)), (2, .pointer (some pv)), (39, vSl at_3 t.ops ct3), (40, iV ((t.ops.length : Nat) : Int)), (41, iV z)]) (fun _ => [Box pt (tF t at_ ct at_2 ct2 at_3 ct3), Box pv [iV 0, iV 0]]) (fun _ => h) 0 q221 sb rfl (FH.le_refl _) ?_
  rintro t41 q221
  have hF := q222 t41 q221
  show J _ _ _ _ _ [(1, .pointer (some pt)), (2, .pointer (some pv)), (39, vSl at_3 t.ops ct3), (40, iV ((t.ops.length : Nat) : Int)), (41, iV t41)] [Box pt (tF t at_ ct at_2 ct2 at_3 ct3), Box pv [iV 0, iV 0]] h
  refine .seq (.region (.V (bi rfl rfl rfl) ?_))
  refine .nil (.seqN (.seq ?_))
  refine .cond rfl (fun q225 => ?_) (fun q225 => ?_)
  ·replace hF := hF.1 q225
   refine .skip (.seqN (.seq (.block (.seq (.region (.V (mv rfl) ?_))))))
   obtain ⟨q248, hF⟩ := hF
   refine .V (ix rfl rfl tS23 (_q5.ne (by decide) (inb_pos q248)) q248) ?_
   obtain ⟨_, ⟨a, c, a2, c2, a3, c3, rfl, ⟨q249, q250⟩, ⟨q251, q252⟩, q253, q254⟩, q255⟩ := _q5.elem q248
   refine .V (ldA (cs := [.slice a ((gt t.ops t41).pre.length) c, .slice a2 ((gt t.ops t41).add.length) c2, .slice a3 ((gt t.ops t41).del.length) c3, iV ((gt t.ops t41).cost)]) rfl tA54 rfl (cellsH (q255 (by decide)))) ?_
   refine al tZ54 rfl (fun po => ?_)
   refine .V (asg rfl) ?_
   refine st (p := po) (off := 0) (k := 0) (vs := [.slice a ((gt t.ops t41).pre.length) c, .slice a2 ((gt t.ops t41).add.length) c2, .slice a3 ((gt t.ops t41).del.length) c3, iV ((gt t.ops t41).cost)]) rfl rfl rfl (fun w => (tA54 w).2) rfl rfl rfl rfl ?_
   refine .cast (A' := [Box po [.slice a ((gt t.ops t41).pre.length) c, .slice a2 ((gt t.ops t41).add.length) c2, .slice a3 ((gt t.ops t41).del.length) c3, iV ((gt t.ops t41).cost)], Box pt (tF t at_ ct at_2 ct2 at_3 ct3), Box pv [iV 0, iV 0]]) rfl ?_
   refine .nil (.seqN (.seq (.region (.V (ldA (cs := [.slice a ((gt t.ops t41).pre.length) c, .slice a2 ((gt t.ops t41).add.length) c2, .slice a3 ((gt t.ops t41).del.length) c3, iV ((gt t.ops t41).cost)]) rfl tA54 rfl (cellsB (off := 0) (k := 0) rfl (m := 4) rfl)) ?_))))
   refine .V (fa rfl tF25_0) ?_
   refine .V (ld1 rfl tO3 (cellB (off := 0) (k := 1) rfl rfl)) ?_
   obtain ⟨q256, hF⟩ := hF
   obtain ⟨r4, q257⟩ : ∃ y_ : Int, y_ = sp_operator (gt t.ops t41) t.facts := ⟨_, rfl⟩
   replace hF := hF r4 q257
   refine .C (cl (v := iV r4) Tryz.call102 rfl rfl (fun w S => (by rw [q257]; exact c_operator S.sub (gt t.ops t41) a c q250 q249 a2 c2 q252 q251 a3 c3 q254 q253 t.facts q256))) ?_
   refine .V (asg rfl) ?_
   refine .nil (.seqN (.seq (.region (.V (mv rfl) ?_))))
   refine .V (bi rfl rfl rfl) ?_
   refine .nil (.seqN ?_)
   refine .cond rfl (fun q258 => ?_) (fun q258 => ?_)
   ·replace hF := hF.1 q258
    refine .seq (.region (.V (mv rfl) ?_))
    refine .V (mv rfl) ?_
    refine .V (bld (cs := #[iV r4, iV t41]) (pv := [(0, iV r4), (1, iV t41)]) tB27 rfl rfl) ?_
    refine st (p := pv) (off := 0) (k := 2) (vs := [iV r4, iV t41]) rfl rfl rfl (fun w => (tA27 w).2) rfl rfl rfl rfl ?_
    refine .cast (A' := [Box po [.slice a ((gt t.ops t41).pre.length) c, .slice a2 ((gt t.ops t41).add.length) c2, .slice a3 ((gt t.ops t41).del.length) c3, iV ((gt t.ops t41).cost)], Box pt (tF t at_ ct at_2 ct2 at_3 ct3), Box pv [iV r4, iV t41]]) rfl ?_
    refine .nil (.seqN (.ret (.blkR (.seqR (.seqR (.blkR (.seqR ?_)))))))
    refine .res1 rfl (rvC rfl tA27 (k := 2) rfl rfl) (fun w' S => ⟨(⟨r4, t41⟩ : Fault), hF, rfl, S.below⟩)
   replace hF := hF.2 q258
   refine .skip (.blkN (.seqN (.region (.V (bi rfl rfl rfl) ?_))))
   refine .V (mv rfl) ?_
   refine .nil ?_
   refine .sel0 [1, 2] (by decide) rfl ?_
   exact .RO (wr (t41 + 1)) hF.1 hF.2
  replace hF := hF.2 q225
  refine .exit (.seqX (.seqX (.blkX (.seqN (.seq (.region (.V (bld (cs := #[iV 0, iV 0]) (pv := []) tB27 rfl rfl) ?_)))))))
  refine st (p := pv) (off := 0) (k := 1) (vs := [iV 0, iV 0]) rfl rfl rfl (fun w => (tA27 w).2) rfl rfl rfl rfl ?_
  refine .cast (A' := [Box pt (tF t at_ ct at_2 ct2 at_3 ct3), Box pv [iV 0, iV 0]]) rfl ?_
  refine .nil (.seqN (.ret ?_))
  refine .res1 rfl (rvC rfl tA27 (k := 1) rfl rfl) (fun w' S => ⟨(⟨0, 0⟩ : Fault), hF, rfl, S.below⟩)
 refine .region (.V (fa rfl tF25_0) ?_)
 refine .V (ld1 rfl tO3 (cellB (off := 0) (k := 1) rfl rfl)) ?_
 refine .V (bi rfl rfl rfl) ?_
 refine .V (mv rfl) ?_
 rcases Bool.eq_false_or_eq_true (decide (t.facts < 0)) with q259 | q259
 ·replace hF := hF.1 q259
  refine .GS q259 ?_
  refine .GS q259 ?_
  refine .GS q259 ?_
  refine .V (pkT rfl q259 rfl) ?_
  refine .V (asg rfl) ?_
  refine .nil ?_
  refine .sel0 [1, 0] (by decide) rfl ?_
  exact .US q30 true hF
 replace hF := hF.2 q259
 refine .GV (fa rfl tF25_0) q259 ?_
 refine .GV (ld1 rfl tO3 (cellB (off := 0) (k := 1) rfl rfl)) q259 ?_
 refine .GV (bi rfl rfl rfl) q259 ?_
 refine .V (pkF rfl q259 rfl) ?_
 refine .V (asg rfl) ?_
 refine .nil ?_
 refine .sel0 [1, 0] (by decide) rfl ?_
 exact .US q30 (decide (24 < t.facts)) hF
theorem c_validate {h : FH} {w : World} (hs : Sub h w) (t : Task) (at_ : Option Addr) (ct : Nat) (_q1 : RSl h at_ t.init) (_q2 : t.init.length ≤ ct) (at_2 : Option Addr) (ct2 : Nat) (_q3 : RSl h at_2 t.goal) (_q4 : t.goal.length ≤ ct2) (at_3 : Option Addr) (ct3 : Nat) (_q5 : RSl h at_3 t.ops) (_q6 : t.ops.length ≤ ct3) : Calls Tryz.prog 79 #[.agg #[iV t.facts, .slice at_ t.init.length ct, .slice at_2 t.goal.length ct2, .slice at_3 t.ops.length ct3]] w fun e w' => e = .returned (.agg #[iV (sp_validate t).code, iV (sp_validate t).index]) ∧ Below w.heap.size w w' :=
 (w_validate hs t at_ ct _q1 _q2 at_2 ct2 _q3 _q4 at_3 ct3 _q5 _q6 (fun r => r = sp_validate t) (ok_validate t)).mono fun _ _ ⟨_, hk, he, hb⟩ => ⟨by rw [he, hk], hb⟩
set_option maxHeartbeats 8000000 in
theorem w_taskFault {h : FH} {w : World} (hs : Sub h w) (t : Task) (at_ : Option Addr) (ct : Nat) (_q1 : RSl h at_ t.init) (_q2 : t.init.length ≤ ct) (at_2 : Option Addr) (ct2 : Nat) (_q3 : RSl h at_2 t.goal) (_q4 : t.goal.length ≤ ct2) (at_3 : Option Addr) (ct3 : Nat) (_q5 : RSl h at_3 t.ops) (_q6 : t.ops.length ≤ ct3) (K : Fault → Prop) (hF : F_taskFault t K) : Calls Tryz.prog 53 #[.agg #[iV t.facts, .slice at_ t.init.length ct, .slice at_2 t.goal.length ct2, .slice at_3 t.ops.length ct3]] w fun e w' => ∃ r : Fault, K r ∧ e = .returned (.agg #[iV r.code, iV r.index]) ∧ Below w.heap.size w w' := by
 refine enter (args := [.agg (tF t at_ ct at_2 ct2 at_3 ct3).toArray]) Tryz.func53 rfl Tryz.ntmps53 rfl hs ?_
 refine .seq (.region ?_)
 refine bx (vs := (tF t at_ ct at_2 ct2 at_3 ct3)) rfl rfl rfl (fun pt => ?_)
 refine al tZ27 rfl (fun pv => ?_)
 refine .nil (.seqN (.seq (.seq (.region (.V (fa rfl tF25_0) ?_)))))
 refine .V (ld1 rfl tO3 (cellB (off := 0) (k := 1) rfl rfl)) ?_
 obtain ⟨r2, q7⟩ : ∃ y_ : Bool, y_ = sp_in_ t.facts 0 24 := ⟨_, rfl⟩
 replace hF := hF r2 q7
 refine .C (cl (v := .bool r2) Tryz.call25 rfl rfl (fun w S => (by rw [q7]; exact c_in_ S.sub t.facts 0 24 ))) ?_
 refine .V (nt rfl) ?_
 refine .nil (.seqN ?_)
 refine .cond rfl (fun q10 => ?_) (fun q10 => ?_)
 ·replace hF := hF.1 q10
  refine .seq (.region ?_)
  obtain ⟨r3, q11⟩ : ∃ y_ : Fault, y_ = sp_at_ 3 (-1) := ⟨_, rfl⟩
  replace hF := hF r3 q11
  refine .C (cl (v := .agg #[iV r3.code, iV r3.index]) Tryz.call18 rfl rfl (fun w S => (by rw [q11]; exact c_at_ S.sub 3 (-1) ))) ?_
  refine st (p := pv) (off := 0) (k := 0) (vs := [iV r3.code, iV r3.index]) rfl rfl rfl (fun w => (tA27 w).2) rfl rfl rfl rfl ?_
  refine .cast (A' := [Box pv [iV r3.code, iV r3.index], Box pt (tF t at_ ct at_2 ct2 at_3 ct3)]) rfl ?_
  refine .nil (.seqN (.ret (.seqR ?_)))
  refine .res1 rfl (rvC rfl tA27 (k := 0) rfl rfl) (fun w' S => ⟨r3, hF, rfl, S.below⟩)
 replace hF := hF.2 q10
 refine .skip (.seqN (.seq (.seq (.region (.V (fa rfl tF25_1) ?_)))))
 refine .V (ld1 rfl tO22 (cellB (off := 1) (k := 1) rfl rfl)) ?_
 refine .V (fa rfl tF25_0) ?_
 refine .V (ld1 rfl tO3 (cellB (off := 0) (k := 1) rfl rfl)) ?_
 obtain ⟨q12, hF⟩ := hF
 obtain ⟨r4, q13⟩ : ∃ y_ : Bool, y_ = sp_isSet t.init t.facts := ⟨_, rfl⟩
 replace hF := hF r4 q13
 refine .C (cl (v := .bool r4) Tryz.call26 rfl rfl (fun w S => (by rw [q13]; exact c_rIsSet S.sub t.init at_ ct _q1 _q2 t.facts q12))) ?_
 refine .V (nt rfl) ?_
 refine .nil (.seqN ?_)
 refine .cond rfl (fun q16 => ?_) (fun q16 => ?_)
 ·replace hF := hF.1 q16
  refine .seq (.region ?_)
  obtain ⟨r5, q17⟩ : ∃ y_ : Fault, y_ = sp_at_ 5 (-2) := ⟨_, rfl⟩
  replace hF := hF r5 q17
  refine .C (cl (v := .agg #[iV r5.code, iV r5.index]) Tryz.call18 rfl rfl (fun w S => (by rw [q17]; exact c_at_ S.sub 5 (-2) ))) ?_
  refine st (p := pv) (off := 0) (k := 0) (vs := [iV r5.code, iV r5.index]) rfl rfl rfl (fun w => (tA27 w).2) rfl rfl rfl rfl ?_
  refine .cast (A' := [Box pv [iV r5.code, iV r5.index], Box pt (tF t at_ ct at_2 ct2 at_3 ct3)]) rfl ?_
  refine .nil (.seqN (.ret (.seqR ?_)))
  refine .res1 rfl (rvC rfl tA27 (k := 0) rfl rfl) (fun w' S => ⟨r5, hF, rfl, S.below⟩)
 replace hF := hF.2 q16
 refine .skip (.seqN (.seq (.seq (.region (.V (fa rfl tF25_2) ?_)))))
 refine .V (ld1 rfl tO22 (cellB (off := 2) (k := 1) rfl rfl)) ?_
 refine .V (fa rfl tF25_0) ?_
 refine .V (ld1 rfl tO3 (cellB (off := 0) (k := 1) rfl rfl)) ?_
 obtain ⟨q18, hF⟩ := hF
 obtain ⟨r6, q19⟩ : ∃ y_ : Bool, y_ = sp_isSet t.goal t.facts := ⟨_, rfl⟩
 replace hF := hF r6 q19
 refine .C (cl (v := .bool r6) Tryz.call26 rfl rfl (fun w S => (by rw [q19]; exact c_rIsSet S.sub t.goal at_2 ct2 _q3 _q4 t.facts q18))) ?_
 refine .V (nt rfl) ?_
 refine .nil (.seqN ?_)
 refine .cond rfl (fun q22 => ?_) (fun q22 => ?_)
 ·replace hF := hF.1 q22
  refine .seq (.region ?_)
  obtain ⟨r7, q23⟩ : ∃ y_ : Fault, y_ = sp_at_ 5 (-3) := ⟨_, rfl⟩
  replace hF := hF r7 q23
  refine .C (cl (v := .agg #[iV r7.code, iV r7.index]) Tryz.call18 rfl rfl (fun w S => (by rw [q23]; exact c_at_ S.sub 5 (-3) ))) ?_
  refine st (p := pv) (off := 0) (k := 0) (vs := [iV r7.code, iV r7.index]) rfl rfl rfl (fun w => (tA27 w).2) rfl rfl rfl rfl ?_
  refine .cast (A' := [Box pv [iV r7.code, iV r7.index], Box pt (tF t at_ ct at_2 ct2 at_3 ct3)]) rfl ?_
  refine .nil (.seqN (.ret (.seqR ?_)))
  refine .res1 rfl (rvC rfl tA27 (k := 0) rfl rfl) (fun w' S => ⟨r7, hF, rfl, S.below⟩)
 replace hF := hF.2 q22
 refine .skip (.seqN (.seq (.seq (.region (.V (fa rfl tF25_3) ?_)))))
 refine .V (ld1 rfl tO23 (cellB (off := 3) (k := 1) rfl rfl)) ?_
 refine .V (ln rfl tS23.is) ?_
 refine .V (bi rfl rfl rfl) ?_
 refine .nil (.seqN ?_)
 refine .cond rfl (fun q26 => ?_) (fun q26 => ?_)
 ·replace hF := hF.1 q26
  refine .seq (.region ?_)
  obtain ⟨r8, q27⟩ : ∃ y_ : Fault, y_ = sp_at_ 2 (-1) := ⟨_, rfl⟩
  replace hF := hF r8 q27
  refine .C (cl (v := .agg #[iV r8.code, iV r8.index]) Tryz.call18 rfl rfl (fun w S => (by rw [q27]; exact c_at_ S.sub 2 (-1) ))) ?_
  refine st (p := pv) (off := 0) (k := 0) (vs := [iV r8.code, iV r8.index]) rfl rfl rfl (fun w => (tA27 w).2) rfl rfl rfl rfl ?_
  refine .cast (A' := [Box pv [iV r8.code, iV r8.index], Box pt (tF t at_ ct at_2 ct2 at_3 ct3)]) rfl ?_
  refine .nil (.seqN (.ret (.seqR ?_)))
  refine .res1 rfl (rvC rfl tA27 (k := 0) rfl rfl) (fun w' S => ⟨r8, hF, rfl, S.below⟩)
 replace hF := hF.2 q26
 refine .skip (.seqN (.seq (.seq (.region (.V (asg rfl) ?_)))))
 refine .nil (.seqN (.block ?_))
 refine .sel0 [1, 0] (by decide) rfl ?_
 obtain ⟨I1, μ1, q610, q611⟩ := hF
 refine .loop' (σ := Int) (fun z => I1 z) (fun z => μ1 z) (fun z => [(1, .pointer (some pt)), (2, .pointer (some pv)), (3, iV z)]) (fun _ => [Box pt (tF t at_ ct at_2 ct2 at_3 ct3), Box pv [iV 0, iV 0]]) (fun _ => h) 0 q610 sb rfl (FH.le_refl _) ?_
 rintro i q610
 have hF := q611 i q610
 show J _ _ _ _ _ [(1, .pointer (some pt)), (2, .pointer (some pv)), (3, iV i)] [Box pt (tF t at_ ct at_2 ct2 at_3 ct3), Box pv [iV 0, iV 0]] h
 refine .seq (.seq (.region (.V (mv rfl) ?_)))
 refine .V (fa rfl tF25_3) ?_
 refine .V (ld1 rfl tO23 (cellB (off := 3) (k := 0) rfl rfl)) ?_
 refine .V (ln rfl tS23.is) ?_
 refine .V (bi rfl rfl rfl) ?_
 refine .nil (.seqN ?_)
 refine .cond rfl (fun q613 => ?_) (fun q613 => ?_)
 ·replace hF := hF.1 q613
  refine .skip (.seqN (.seq (.block (.seq (.region (.V (fa rfl tF25_3) ?_))))))
  refine .V (ld1 rfl tO23 (cellB (off := 3) (k := 0) rfl rfl)) ?_
  refine .V (mv rfl) ?_
  obtain ⟨q690, hF⟩ := hF
  refine .V (ix rfl rfl tS23 (_q5.ne (by decide) (inb_pos q690)) q690) ?_
  obtain ⟨_, ⟨a, c, a2, c2, a3, c3, rfl, ⟨q691, q692⟩, ⟨q693, q694⟩, q695, q696⟩, q697⟩ := _q5.elem q690
  refine .V (ldA (cs := [.slice a ((gt t.ops i).pre.length) c, .slice a2 ((gt t.ops i).add.length) c2, .slice a3 ((gt t.ops i).del.length) c3, iV ((gt t.ops i).cost)]) rfl tA54 rfl (cellsH (q697 (by decide)))) ?_
  refine al tZ54 rfl (fun po => ?_)
  refine st (p := po) (off := 0) (k := 0) (vs := [.slice a ((gt t.ops i).pre.length) c, .slice a2 ((gt t.ops i).add.length) c2, .slice a3 ((gt t.ops i).del.length) c3, iV ((gt t.ops i).cost)]) rfl rfl rfl (fun w => (tA54 w).2) rfl rfl rfl rfl ?_
  refine .cast (A' := [Box po [.slice a ((gt t.ops i).pre.length) c, .slice a2 ((gt t.ops i).add.length) c2, .slice a3 ((gt t.ops i).del.length) c3, iV ((gt t.ops i).cost)], Box pt (tF t at_ ct at_2 ct2 at_3 ct3), Box pv [iV 0, iV 0]]) rfl ?_
  refine .nil (.seqN (.seq ?_))
  refine .share (σ := Bool) (fun z => F_taskFault_J1 t K z i I1 μ1) (fun z => [(1, .pointer (some pt)), (2, .pointer (some pv)), (3, iV i), (4, .pointer (some po)), (70, .bool z)]) (fun _ => [Box pt (tF t at_ ct at_2 ct2 at_3 ct3), Box pv [iV 0, iV 0], Box po [.slice a ((gt t.ops i).pre.length) c, .slice a2 ((gt t.ops i).add.length) c2, .slice a3 ((gt t.ops i).del.length) c3, iV ((gt t.ops i).cost)]]) (fun _ => h) ?_ (fun q709 => ?_)
  ·rintro t70 hF
   show J _ _ _ _ _ [(1, .pointer (some pt)), (2, .pointer (some pv)), (3, iV i), (4, .pointer (some po)), (70, .bool t70)] [Box pt (tF t at_ ct at_2 ct2 at_3 ct3), Box pv [iV 0, iV 0], Box po [.slice a ((gt t.ops i).pre.length) c, .slice a2 ((gt t.ops i).add.length) c2, .slice a3 ((gt t.ops i).del.length) c3, iV ((gt t.ops i).cost)]] h
   refine .cond rfl (fun q712 => ?_) (fun q712 => ?_)
   ·replace hF := hF.1 q712
    refine .seq (.region (.V (mv rfl) ?_))
    obtain ⟨r9, q713⟩ : ∃ y_ : Fault, y_ = sp_at_ 5 i := ⟨_, rfl⟩
    replace hF := hF r9 q713
    refine .C (cl (v := .agg #[iV r9.code, iV r9.index]) Tryz.call18 rfl rfl (fun w S => (by rw [q713]; exact c_at_ S.sub 5 i ))) ?_
    refine st (p := pv) (off := 0) (k := 1) (vs := [iV r9.code, iV r9.index]) rfl rfl rfl (fun w => (tA27 w).2) rfl rfl rfl rfl ?_
    refine .cast (A' := [Box pt (tF t at_ ct at_2 ct2 at_3 ct3), Box pv [iV r9.code, iV r9.index], Box po [.slice a ((gt t.ops i).pre.length) c, .slice a2 ((gt t.ops i).add.length) c2, .slice a3 ((gt t.ops i).del.length) c3, iV ((gt t.ops i).cost)]]) rfl ?_
    refine .nil (.seqN (.ret (.seqR (.blkR (.seqR (.seqR (.blkR (.seqR ?_))))))))
    refine .res1 rfl (rvC rfl tA27 (k := 1) rfl rfl) (fun w' S => ⟨r9, hF, rfl, S.below⟩)
   replace hF := hF.2 q712
   refine .skip (.seqN (.seq (.region (.V (fa rfl tF54_3) ?_))))
   refine .V (ld1 rfl tO3 (cellB (off := 3) (k := 2) rfl rfl)) ?_
   obtain ⟨r10, q714⟩ : ∃ y_ : Bool, y_ = sp_in_ ((gt t.ops i).cost) 0 100 := ⟨_, rfl⟩
   replace hF := hF r10 q714
   refine .C (cl (v := .bool r10) Tryz.call25 rfl rfl (fun w S => (by rw [q714]; exact c_in_ S.sub ((gt t.ops i).cost) 0 100 ))) ?_
   refine .V (nt rfl) ?_
   refine .nil (.seqN ?_)
   refine .cond rfl (fun q715 => ?_) (fun q715 => ?_)
   ·replace hF := hF.1 q715
    refine .seq (.region (.V (mv rfl) ?_))
    obtain ⟨r11, q716⟩ : ∃ y_ : Fault, y_ = sp_at_ 3 i := ⟨_, rfl⟩
    replace hF := hF r11 q716
    refine .C (cl (v := .agg #[iV r11.code, iV r11.index]) Tryz.call18 rfl rfl (fun w S => (by rw [q716]; exact c_at_ S.sub 3 i ))) ?_
    refine st (p := pv) (off := 0) (k := 1) (vs := [iV r11.code, iV r11.index]) rfl rfl rfl (fun w => (tA27 w).2) rfl rfl rfl rfl ?_
    refine .cast (A' := [Box pt (tF t at_ ct at_2 ct2 at_3 ct3), Box pv [iV r11.code, iV r11.index], Box po [.slice a ((gt t.ops i).pre.length) c, .slice a2 ((gt t.ops i).add.length) c2, .slice a3 ((gt t.ops i).del.length) c3, iV ((gt t.ops i).cost)]]) rfl ?_
    refine .nil (.seqN (.ret (.blkR (.seqR (.seqR (.blkR (.seqR ?_)))))))
    refine .res1 rfl (rvC rfl tA27 (k := 1) rfl rfl) (fun w' S => ⟨r11, hF, rfl, S.below⟩)
   replace hF := hF.2 q715
   refine .skip (.blkN (.seqN (.region (.V (mv rfl) ?_))))
   refine .V (bi rfl rfl rfl) ?_
   refine .V (asg rfl) ?_
   refine .nil ?_
   refine .sel0 [0, 1] (by decide) rfl ?_
   exact .RO (wr (i + 1)) hF.1 hF.2
  refine .region (.V (fa rfl tF54_0) ?_)
  refine .V (ld1 rfl tO22 (cellB (off := 0) (k := 0) rfl rfl)) ?_
  refine .V (fa rfl tF25_0) ?_
  refine .V (ld1 rfl tO3 (cellB (off := 0) (k := 1) rfl rfl)) ?_
  obtain ⟨q717, hF⟩ := hF
  obtain ⟨r12, q718⟩ : ∃ y_ : Bool, y_ = sp_isSet ((gt t.ops i).pre) t.facts := ⟨_, rfl⟩
  replace hF := hF r12 q718
  refine .C (cl (v := .bool r12) Tryz.call26 rfl rfl (fun w S => (by rw [q718]; exact c_rIsSet S.sub ((gt t.ops i).pre) a c q692 q691 t.facts q717))) ?_
  refine .V (nt rfl) ?_
  refine .V (mv rfl) ?_
  rcases Bool.eq_false_or_eq_true (!r12) with q719 | q719
  ·replace hF := hF.1 q719
   refine .GS q719 ?_
   refine .GS q719 ?_
   refine .GS q719 ?_
   refine .GS q719 ?_
   refine .GS q719 ?_
   refine .GS q719 ?_
   refine .V (pkT rfl q719 rfl) ?_
   refine .V (mv rfl) ?_
   refine .gS rfl rfl rfl rfl rfl rfl ?_
   refine .gS rfl rfl rfl rfl rfl rfl ?_
   refine .gS rfl rfl rfl rfl rfl rfl ?_
   refine .gS rfl rfl rfl rfl rfl rfl ?_
   refine .gS rfl rfl rfl rfl rfl rfl ?_
   refine .gS rfl rfl rfl rfl rfl rfl ?_
   refine .V (pkT rfl rfl rfl) ?_
   refine .V (mv rfl) ?_
   refine .gS rfl rfl rfl rfl rfl rfl ?_
   refine .gS rfl rfl rfl rfl rfl rfl ?_
   refine .gS rfl rfl rfl rfl rfl rfl ?_
   refine .gS rfl rfl rfl rfl rfl rfl ?_
   refine .gS rfl rfl rfl rfl rfl rfl ?_
   refine .gS rfl rfl rfl rfl rfl rfl ?_
   refine .V (pkT rfl rfl rfl) ?_
   refine .nil ?_
   refine .sel0 [1, 2, 0] (by decide) rfl ?_
   exact .US q709 true hF
  replace hF := hF.2 q719
  refine .GV (fa rfl tF54_1) q719 ?_
  refine .GV (ld1 rfl tO22 (cellB (off := 1) (k := 0) rfl rfl)) q719 ?_
  refine .GV (fa rfl tF25_0) q719 ?_
  refine .GV (ld1 rfl tO3 (cellB (off := 0) (k := 1) rfl rfl)) q719 ?_
  obtain ⟨q720, hF⟩ := hF
  obtain ⟨r13, q721⟩ : ∃ y_ : Bool, y_ = sp_isSet ((gt t.ops i).add) t.facts := ⟨_, rfl⟩
  replace hF := hF r13 q721
  refine .gc (cl (v := .bool r13) Tryz.call26 rfl rfl (fun w S => (by rw [q721]; exact c_rIsSet S.sub ((gt t.ops i).add) a2 c2 q694 q693 t.facts q720))) rfl rfl rfl q719 rfl rfl ?_
  refine .GV (nt rfl) q719 ?_
  refine .V (pkF rfl q719 rfl) ?_
  refine .V (mv rfl) ?_
  rcases Bool.eq_false_or_eq_true (!r13) with q722 | q722
  ·replace hF := hF.1 q722
   refine .GS q722 ?_
   refine .GS q722 ?_
   refine .GS q722 ?_
   refine .GS q722 ?_
   refine .GS q722 ?_
   refine .GS q722 ?_
   refine .V (pkT rfl q722 rfl) ?_
   refine .V (mv rfl) ?_
   refine .gS rfl rfl rfl rfl rfl rfl ?_
   refine .gS rfl rfl rfl rfl rfl rfl ?_
   refine .gS rfl rfl rfl rfl rfl rfl ?_
   refine .gS rfl rfl rfl rfl rfl rfl ?_
   refine .gS rfl rfl rfl rfl rfl rfl ?_
   refine .gS rfl rfl rfl rfl rfl rfl ?_
   refine .V (pkT rfl rfl rfl) ?_
   refine .nil ?_
   refine .sel0 [1, 2, 0] (by decide) rfl ?_
   exact .US q709 true hF
  replace hF := hF.2 q722
  refine .GV (fa rfl tF54_2) q722 ?_
  refine .GV (ld1 rfl tO22 (cellB (off := 2) (k := 0) rfl rfl)) q722 ?_
  refine .GV (fa rfl tF25_0) q722 ?_
  refine .GV (ld1 rfl tO3 (cellB (off := 0) (k := 1) rfl rfl)) q722 ?_
  obtain ⟨q723, hF⟩ := hF
  obtain ⟨r14, q724⟩ : ∃ y_ : Bool, y_ = sp_isSet ((gt t.ops i).del) t.facts := ⟨_, rfl⟩
  replace hF := hF r14 q724
  refine .gc (cl (v := .bool r14) Tryz.call26 rfl rfl (fun w S => (by rw [q724]; exact c_rIsSet S.sub ((gt t.ops i).del) a3 c3 q696 q695 t.facts q723))) rfl rfl rfl q722 rfl rfl ?_
  refine .GV (nt rfl) q722 ?_
  refine .V (pkF rfl q722 rfl) ?_
  refine .V (mv rfl) ?_
  rcases Bool.eq_false_or_eq_true (!r14) with q725 | q725
  ·replace hF := hF.1 q725
   refine .GS q725 ?_
   refine .GS q725 ?_
   refine .GS q725 ?_
   refine .GS q725 ?_
   refine .GS q725 ?_
   refine .GS q725 ?_
   refine .V (pkT rfl q725 rfl) ?_
   refine .nil ?_
   refine .sel0 [1, 2, 0] (by decide) rfl ?_
   exact .US q709 true hF
  replace hF := hF.2 q725
  refine .GV (fa rfl tF54_1) q725 ?_
  refine .GV (ld1 rfl tO22 (cellB (off := 1) (k := 0) rfl rfl)) q725 ?_
  refine .GV (fa rfl tF54_2) q725 ?_
  refine .GV (ld1 rfl tO22 (cellB (off := 2) (k := 0) rfl rfl)) q725 ?_
  obtain ⟨q726, hF⟩ := hF
  obtain ⟨r15, q727⟩ : ∃ y_ : Bool, y_ = sp_disjoint ((gt t.ops i).add) ((gt t.ops i).del) := ⟨_, rfl⟩
  replace hF := hF r15 q727
  refine .gc (cl (v := .bool r15) Tryz.call89 rfl rfl (fun w S => (by rw [q727]; exact c_disjoint S.sub ((gt t.ops i).add) a2 c2 q694 q693 ((gt t.ops i).del) a3 c3 q696 q695 q726))) rfl rfl rfl q725 rfl rfl ?_
  refine .GV (nt rfl) q725 ?_
  refine .V (pkF rfl q725 rfl) ?_
  refine .nil ?_
  refine .sel0 [1, 2, 0] (by decide) rfl ?_
  exact .US q709 (!r15) hF
 replace hF := hF.2 q613
 refine .exit (.seqX (.seqX (.blkX (.seqN (.seq (.region (.V (bld (cs := #[iV 0, iV 0]) (pv := []) tB27 rfl rfl) ?_)))))))
 refine st (p := pv) (off := 0) (k := 1) (vs := [iV 0, iV 0]) rfl rfl rfl (fun w => (tA27 w).2) rfl rfl rfl rfl ?_
 refine .cast (A' := [Box pt (tF t at_ ct at_2 ct2 at_3 ct3), Box pv [iV 0, iV 0]]) rfl ?_
 refine .nil (.seqN (.ret ?_))
 refine .res1 rfl (rvC rfl tA27 (k := 1) rfl rfl) (fun w' S => ⟨(⟨0, 0⟩ : Fault), hF, rfl, S.below⟩)
theorem c_taskFault {h : FH} {w : World} (hs : Sub h w) (t : Task) (at_ : Option Addr) (ct : Nat) (_q1 : RSl h at_ t.init) (_q2 : t.init.length ≤ ct) (at_2 : Option Addr) (ct2 : Nat) (_q3 : RSl h at_2 t.goal) (_q4 : t.goal.length ≤ ct2) (at_3 : Option Addr) (ct3 : Nat) (_q5 : RSl h at_3 t.ops) (_q6 : t.ops.length ≤ ct3) : Calls Tryz.prog 53 #[.agg #[iV t.facts, .slice at_ t.init.length ct, .slice at_2 t.goal.length ct2, .slice at_3 t.ops.length ct3]] w fun e w' => e = .returned (.agg #[iV (sp_validate t).code, iV (sp_validate t).index]) ∧ Below w.heap.size w w' :=
 (w_taskFault hs t at_ ct _q1 _q2 at_2 ct2 _q3 _q4 at_3 ct3 _q5 _q6 (fun r => r = sp_validate t) (ok_taskFault t)).mono fun _ _ ⟨_, hk, he, hb⟩ => ⟨by rw [he, hk], hb⟩
theorem w_subset {h : FH} {w : World} (hs : Sub h w) (part : List Int) (apart : Option Addr) (cpart : Nat) (_q1 : RSl h apart part) (_q2 : part.length ≤ cpart) (l : List Int) (al2 : Option Addr) (cl2 : Nat) (_q3 : RSl h al2 l) (_q4 : l.length ≤ cl2) (K : Bool → Prop) (hF : F_subset part l K) : Calls Tryz.prog 63 #[.slice apart part.length cpart, .slice al2 l.length cl2] w fun e w' => ∃ r : Bool, K r ∧ e = .returned (.bool r) ∧ Below w.heap.size w w' := by
 refine enter (args := [vSl apart part cpart, vSl al2 l cl2]) Tryz.func63 rfl Tryz.ntmps63 rfl hs ?_
 refine .seq (.region (.V (asg rfl) ?_))
 refine .nil (.seqN (.seq (.seq (.region (.V (asg rfl) ?_)))))
 refine .nil (.seqN (.block ?_))
 obtain ⟨I1, μ1, q77, q78⟩ := hF
 refine .loop' (σ := Int) (fun z => I1 z) (fun z => μ1 z) (fun z => [(0, vSl apart part cpart), (1, vSl al2 l cl2), (5, iV z)]) (fun _ => []) (fun _ => h) 0 q77 sb rfl (FH.le_refl _) ?_
 rintro i q77
 have hF := q78 i q77
 show J _ _ _ _ _ [(0, vSl apart part cpart), (1, vSl al2 l cl2), (5, iV i)] [] h
 refine .seq (.seq (.region (.V (mv rfl) ?_)))
 refine .V (mv rfl) ?_
 refine .V (ln rfl tS22.is) ?_
 refine .V (bi rfl rfl rfl) ?_
 refine .nil (.seqN ?_)
 refine .cond rfl (fun q80 => ?_) (fun q80 => ?_)
 ·replace hF := hF.1 q80
  refine .skip (.seqN (.seq (.block (.seq (.region (.V (mv rfl) ?_))))))
  refine .V (mv rfl) ?_
  refine .V (mv rfl) ?_
  obtain ⟨q89, hF⟩ := hF
  refine .V (ix rfl rfl tS22 (_q1.ne (by decide) (inb_pos q89)) q89) ?_
  refine .V (ld1 (v := iV (gt part i)) rfl tO3 (cellH (_q1.elemF q89 (by decide) 0 _ rfl))) ?_
  obtain ⟨q90, hF⟩ := hF
  obtain ⟨r2, q91⟩ : ∃ y_ : Bool, y_ = sp_has l (gt part i) := ⟨_, rfl⟩
  replace hF := hF r2 q91
  refine .C (cl (v := .bool r2) Tryz.call76 rfl rfl (fun w S => (by rw [q91]; exact c_has S.sub l al2 cl2 _q3 _q4 (gt part i) q90))) ?_
  refine .V (nt rfl) ?_
  refine .nil (.seqN ?_)
  refine .cond rfl (fun q92 => ?_) (fun q92 => ?_)
  ·replace hF := hF.1 q92
   refine .seq (.region (.V (asg rfl) ?_))
   refine .nil (.seqN (.ret (.blkR (.seqR (.seqR (.blkR (.seqR ?_)))))))
   refine .res1 rfl (rvT rfl) (fun w' S => ⟨false, hF, rfl, S.below⟩)
  replace hF := hF.2 q92
  refine .skip (.blkN (.seqN (.region (.V (mv rfl) ?_))))
  refine .V (bi rfl rfl rfl) ?_
  refine .V (asg rfl) ?_
  refine .nil ?_
  exact .RO (wr (i + 1)) hF.1 hF.2
 replace hF := hF.2 q80
 refine .exit (.seqX (.seqX (.blkX (.seqN (.seq (.region (.V (asg rfl) ?_)))))))
 refine .nil (.seqN (.ret ?_))
 refine .res1 rfl (rvT rfl) (fun w' S => ⟨true, hF, rfl, S.below⟩)
theorem c_subset {h : FH} {w : World} (hs : Sub h w) (part : List Int) (apart : Option Addr) (cpart : Nat) (_q1 : RSl h apart part) (_q2 : part.length ≤ cpart) (l : List Int) (al2 : Option Addr) (cl2 : Nat) (_q3 : RSl h al2 l) (_q4 : l.length ≤ cl2) (hp : pre_subset part l) : Calls Tryz.prog 63 #[.slice apart part.length cpart, .slice al2 l.length cl2] w fun e w' => e = .returned (.bool (sp_subset part l)) ∧ Below w.heap.size w w' :=
 (w_subset hs part apart cpart _q1 _q2 l al2 cl2 _q3 _q4 (fun r => r = sp_subset part l) (ok_subset part l hp)).mono fun _ _ ⟨_, hk, he, hb⟩ => ⟨by rw [he, hk], hb⟩
theorem w_applies {h : FH} {w : World} (hs : Sub h w) (t : Task) (at_ : Option Addr) (ct : Nat) (_q1 : RSl h at_ t.init) (_q2 : t.init.length ≤ ct) (at_2 : Option Addr) (ct2 : Nat) (_q3 : RSl h at_2 t.goal) (_q4 : t.goal.length ≤ ct2) (at_3 : Option Addr) (ct3 : Nat) (_q5 : RSl h at_3 t.ops) (_q6 : t.ops.length ≤ ct3) (s_ : List Int) (as_ : Option Addr) (cs_ : Nat) (_q7 : RSl h as_ s_) (_q8 : s_.length ≤ cs_) (op : Int) (K : Bool → Prop) (hF : F_applies t s_ op K) : Calls Tryz.prog 78 #[.agg #[iV t.facts, .slice at_ t.init.length ct, .slice at_2 t.goal.length ct2, .slice at_3 t.ops.length ct3], .slice as_ s_.length cs_, iV op] w fun e w' => ∃ r : Bool, K r ∧ e = .returned (.bool r) ∧ Below w.heap.size w w' := by
 refine enter (args := [.agg (tF t at_ ct at_2 ct2 at_3 ct3).toArray, vSl as_ s_ cs_, iV op]) Tryz.func78 rfl Tryz.ntmps78 rfl hs ?_
 refine .seq (.region ?_)
 refine bx (vs := (tF t at_ ct at_2 ct2 at_3 ct3)) rfl rfl rfl (fun pt => ?_)
 refine .V (asg rfl) ?_
 refine .nil (.seqN (.seq (.region (.V (fa rfl tF25_3) ?_))))
 refine .V (ld1 rfl tO23 (cellB (off := 3) (k := 0) rfl rfl)) ?_
 refine .V (mv rfl) ?_
 obtain ⟨q9, hF⟩ := hF
 refine .V (ix rfl rfl tS23 (_q5.ne (by decide) (inb_pos q9)) q9) ?_
 refine .V (fa rfl tF54_0) ?_
 obtain ⟨_, ⟨a, c, a2, c2, a3, c3, rfl, ⟨q10, q11⟩, ⟨q12, q13⟩, q14, q15⟩, q16⟩ := _q5.elem q9
 refine .V (ld1 (v := .slice a ((gt t.ops op).pre.length) c) rfl tO22 (cellH (q16 (by decide) 0 _ rfl))) ?_
 refine .V (mv rfl) ?_
 obtain ⟨q17, hF⟩ := hF
 obtain ⟨r2, q18⟩ : ∃ y_ : Bool, y_ = sp_subset ((gt t.ops op).pre) s_ := ⟨_, rfl⟩
 replace hF := hF r2 q18
 refine .C (cl (v := .bool r2) Tryz.call63 rfl rfl (fun w S => (by rw [q18]; exact c_subset S.sub ((gt t.ops op).pre) a c q11 q10 s_ as_ cs_ _q7 _q8 q17))) ?_
 refine .V (asg rfl) ?_
 refine .nil (.seqN (.ret ?_))
 refine .res1 rfl (rvT rfl) (fun w' S => ⟨r2, hF, rfl, S.below⟩)
theorem c_applies {h : FH} {w : World} (hs : Sub h w) (t : Task) (at_ : Option Addr) (ct : Nat) (_q1 : RSl h at_ t.init) (_q2 : t.init.length ≤ ct) (at_2 : Option Addr) (ct2 : Nat) (_q3 : RSl h at_2 t.goal) (_q4 : t.goal.length ≤ ct2) (at_3 : Option Addr) (ct3 : Nat) (_q5 : RSl h at_3 t.ops) (_q6 : t.ops.length ≤ ct3) (s_ : List Int) (as_ : Option Addr) (cs_ : Nat) (_q7 : RSl h as_ s_) (_q8 : s_.length ≤ cs_) (op : Int) (hp : pre_applies t s_ op) : Calls Tryz.prog 78 #[.agg #[iV t.facts, .slice at_ t.init.length ct, .slice at_2 t.goal.length ct2, .slice at_3 t.ops.length ct3], .slice as_ s_.length cs_, iV op] w fun e w' => e = .returned (.bool (sp_applies t s_ op)) ∧ Below w.heap.size w w' :=
 (w_applies hs t at_ ct _q1 _q2 at_2 ct2 _q3 _q4 at_3 ct3 _q5 _q6 s_ as_ cs_ _q7 _q8 op (fun r => r = sp_applies t s_ op) (ok_applies t s_ op hp)).mono fun _ _ ⟨_, hk, he, hb⟩ => ⟨by rw [he, hk], hb⟩
set_option maxHeartbeats 8000000 in
theorem w_after {h : FH} {w : World} (hs : Sub h w) (t : Task) (at_ : Option Addr) (ct : Nat) (_q1 : RSl h at_ t.init) (_q2 : t.init.length ≤ ct) (at_2 : Option Addr) (ct2 : Nat) (_q3 : RSl h at_2 t.goal) (_q4 : t.goal.length ≤ ct2) (at_3 : Option Addr) (ct3 : Nat) (_q5 : RSl h at_3 t.ops) (_q6 : t.ops.length ≤ ct3) (s_ : List Int) (as_ : Option Addr) (cs_ : Nat) (_q7 : RSl h as_ s_) (_q8 : s_.length ≤ cs_) (op : Int) (K : (List Int) → Prop) (hF : F_after t s_ op K) : Calls Tryz.prog 64 #[.agg #[iV t.facts, .slice at_ t.init.length ct, .slice at_2 t.goal.length ct2, .slice at_3 t.ops.length ct3], .slice as_ s_.length cs_, iV op] w fun e w' => ∃ (r : List Int) (z : Option Addr × Nat) (h1 : FH), K r ∧ e = .returned (.slice z.1 r.length z.2) ∧ FH.le h h1 ∧ (RSl h1 z.1 r ∧ r.length ≤ z.2) ∧ SH (Kp.all w h) h1 w' [] := by
 refine enter (args := [.agg (tF t at_ ct at_2 ct2 at_3 ct3).toArray, vSl as_ s_ cs_, iV op]) Tryz.func64 rfl Tryz.ntmps64 rfl hs ?_
 refine .seq (.region ?_)
 refine bx (vs := (tF t at_ ct at_2 ct2 at_3 ct3)) rfl rfl rfl (fun pt => ?_)
 refine .V (asg rfl) ?_
 refine .nil (.seqN (.seq (.region (.V (asg rfl) ?_))))
 refine .nil (.seqN (.seq (.seq (.region (.V (asg rfl) ?_)))))
 refine .nil (.seqN (.block ?_))
 refine .nilSl 3 1 ?_
 refine .cast (A' := [OwnSl 3 1 none (([] : List Int).length) 0 (flL ([] : List Int)), Box pt (tF t at_ ct at_2 ct2 at_3 ct3)]) rfl ?_
 refine .sel0 [1, 0] (by decide) rfl ?_
 obtain ⟨I1, μ1, q396, q397⟩ := hF
 refine .loop' (σ := Int × List Int × Option Addr × Nat) (fun z => I1 z.1 z.2.1) (fun z => μ1 z.1 z.2.1) (fun z => [(1, vSl as_ s_ cs_), (2, iV op), (3, .pointer (some pt)), (7, vSl z.2.2.1 z.2.1 z.2.2.2), (8, iV z.1)]) (fun z => [Box pt (tF t at_ ct at_2 ct2 at_3 ct3), OwnSl 3 1 z.2.2.1 z.2.1.length z.2.2.2 (flL z.2.1)]) (fun _ => h) (0, ([] : List Int), none, 0) q396 sb rfl (FH.le_refl _) ?_
 rintro ⟨p, out, aout, cout⟩ q396
 have hF := q397 p out q396
 show J _ _ _ _ _ [(1, vSl as_ s_ cs_), (2, iV op), (3, .pointer (some pt)), (7, vSl aout out cout), (8, iV p)] [Box pt (tF t at_ ct at_2 ct2 at_3 ct3), OwnSl 3 1 aout out.length cout (flL out)] h
 refine .seq (.seq (.region (.V (mv rfl) ?_)))
 refine .V (fa rfl tF25_0) ?_
 refine .V (ld1 rfl tO3 (cellB (off := 0) (k := 0) rfl rfl)) ?_
 refine .V (bi rfl rfl rfl) ?_
 refine .nil (.seqN ?_)
 refine .cond rfl (fun q399 => ?_) (fun q399 => ?_)
 ·replace hF := hF.1 q399
  refine .skip (.seqN ?_)
  refine .share (σ := List Int × Option Addr × Nat) (fun z => F_after_J1 out p I1 μ1 z.1) (fun z => [(1, vSl as_ s_ cs_), (2, iV op), (3, .pointer (some pt)), (7, vSl z.2.1 z.1 z.2.2), (8, iV p)]) (fun z => [Box pt (tF t at_ ct at_2 ct2 at_3 ct3), OwnSl 3 1 z.2.1 z.1.length z.2.2 (flL z.1)]) (fun _ => h) ?_ (fun q437 => ?_)
  ·rintro ⟨out3, aout3, cout3⟩ hF
   show J _ _ _ _ _ [(1, vSl as_ s_ cs_), (2, iV op), (3, .pointer (some pt)), (7, vSl aout3 out3 cout3), (8, iV p)] [Box pt (tF t at_ ct at_2 ct2 at_3 ct3), OwnSl 3 1 aout3 out3.length cout3 (flL out3)] h
   refine .region (.V (mv rfl) ?_)
   refine .V (bi rfl rfl rfl) ?_
   refine .V (asg rfl) ?_
   refine .nil ?_
   exact .RO (wr (p + 1), out3, aout3, cout3) hF.1 hF.2
  refine .block ?_
  refine .share (σ := Bool) (fun z => F_after_J2 z out p I1 μ1) (fun z => [(1, vSl as_ s_ cs_), (2, iV op), (3, .pointer (some pt)), (7, vSl aout out cout), (8, iV p), (38, .bool z)]) (fun _ => [Box pt (tF t at_ ct at_2 ct2 at_3 ct3), OwnSl 3 1 aout out.length cout (flL out)]) (fun _ => h) ?_ (fun q454 => ?_)
  ·rintro t38 hF
   show J _ _ _ _ _ [(1, vSl as_ s_ cs_), (2, iV op), (3, .pointer (some pt)), (7, vSl aout out cout), (8, iV p), (38, .bool t38)] [Box pt (tF t at_ ct at_2 ct2 at_3 ct3), OwnSl 3 1 aout out.length cout (flL out)] h
   refine .cond rfl (fun q455 => ?_) (fun q455 => ?_)
   ·replace hF := hF.1 q455
    refine .region (.V (mv rfl) ?_)
    refine .V (mv rfl) ?_
    refine bs2 (cs := #[iV p]) (pv := [(0, iV p)]) tS22 rfl rfl (by decide) (by decide) rfl rfl rfl (fun a _ => ?_)
    refine .cast (A' := [OwnSl 3 1 a (([p] : List Int).length) 1 (flL ([p] : List Int)), Box pt (tF t at_ ct at_2 ct2 at_3 ct3), OwnSl 3 1 aout out.length cout (flL out)]) rfl ?_
    obtain ⟨q457, hF⟩ := hF
    have q458 : out.length + ([p] : List Int).length = ((out ++ ([p] : List Int))).length := len_app rfl rfl
    refine app (k := 2) (news := flL ([p] : List Int)) (cs' := flL (out ++ ([p] : List Int))) (nm := ((out ++ ([p] : List Int))).length) tS22 rfl (by decide) rfl rfl rfl (by rw [flL_len]; rfl) (srcS (k := 0) rfl) (flL_one _) (room_of q458 q457).1 (room_of q458 q457).2 q458 (flL_append _ _).symm rfl (fun a2 c => ?_)
    refine .cast (A' := [OwnSl 3 1 a (([p] : List Int).length) 1 (flL ([p] : List Int)), Box pt (tF t at_ ct at_2 ct2 at_3 ct3), OwnSl 3 1 a2 ((out ++ ([p] : List Int)).length) c (flL (out ++ ([p] : List Int)))]) rfl ?_
    refine .V (asg rfl) ?_
    refine .nil (.blkN ?_)
    refine .sel0 [1, 2] (by decide) rfl ?_
    exact .US q437 ((out ++ ([p] : List Int)), a2, c) hF
   replace hF := hF.2 q455
   refine .skip (.blkN ?_)
   exact .US q437 (out, aout, cout) hF
  refine .region (.V (fa rfl tF25_3) ?_)
  refine .V (ld1 rfl tO23 (cellB (off := 3) (k := 0) rfl rfl)) ?_
  refine .V (mv rfl) ?_
  obtain ⟨q459, hF⟩ := hF
  refine .V (ix rfl rfl tS23 (_q5.ne (by decide) (inb_pos q459)) q459) ?_
  refine .V (fa rfl tF54_1) ?_
  obtain ⟨_, ⟨a3, c2, a4, c3, a5, c4, rfl, ⟨q460, q461⟩, ⟨q462, q463⟩, q464, q465⟩, q466⟩ := _q5.elem q459
  refine .V (ld1 (v := .slice a4 ((gt t.ops op).add.length) c3) rfl tO22 (cellH (q466 (by decide) 1 _ rfl))) ?_
  refine .V (mv rfl) ?_
  obtain ⟨q467, hF⟩ := hF
  obtain ⟨r2, q468⟩ : ∃ y_ : Bool, y_ = sp_has ((gt t.ops op).add) p := ⟨_, rfl⟩
  replace hF := hF r2 q468
  refine .C (cl (v := .bool r2) Tryz.call76 rfl rfl (fun w S => (by rw [q468]; exact c_has S.sub ((gt t.ops op).add) a4 c3 q463 q462 p q467))) ?_
  refine .V (mv rfl) ?_
  rcases Bool.eq_false_or_eq_true (r2) with q469 | q469
  ·replace hF := hF.1 q469
   refine .GS q469 ?_
   refine .GS q469 ?_
   refine .GS q469 ?_
   refine .GS q469 ?_
   refine .GU ?_
   refine .GU ?_
   refine .GU ?_
   refine .GU ?_
   refine .GU ?_
   refine .GU ?_
   refine .GU ?_
   refine .GU ?_
   refine .GU ?_
   refine .GS q469 ?_
   refine .V (pkT rfl q469 rfl) ?_
   refine .nil ?_
   exact .US q454 true hF
  replace hF := hF.2 q469
  refine .GV (mv rfl) q469 ?_
  refine .GV (mv rfl) q469 ?_
  obtain ⟨q470, hF⟩ := hF
  obtain ⟨r3, q471⟩ : ∃ y_ : Bool, y_ = sp_has s_ p := ⟨_, rfl⟩
  replace hF := hF r3 q471
  refine .gc (cl (v := .bool r3) Tryz.call76 rfl rfl (fun w S => (by rw [q471]; exact c_has S.sub s_ as_ cs_ _q7 _q8 p q470))) rfl rfl rfl q469 rfl rfl ?_
  refine .GV (mv rfl) q469 ?_
  rcases Bool.eq_false_or_eq_true (r3) with q472 | q472
  ·replace hF := hF.1 q472
   refine .GV (fa rfl tF25_3) q472 ?_
   refine .GV (ld1 rfl tO23 (cellB (off := 3) (k := 0) rfl rfl)) q472 ?_
   refine .GV (mv rfl) q472 ?_
   refine .GV (ix rfl rfl tS23 (_q5.ne (by decide) (inb_pos q459)) q459) q472 ?_
   refine .GV (fa rfl tF54_2) q472 ?_
   refine .GV (ld1 (v := .slice a5 ((gt t.ops op).del.length) c4) rfl tO22 (cellH (q466 (by decide) 2 _ rfl))) q472 ?_
   refine .GV (mv rfl) q472 ?_
   obtain ⟨q473, hF⟩ := hF
   obtain ⟨r4, q474⟩ : ∃ y_ : Bool, y_ = sp_has ((gt t.ops op).del) p := ⟨_, rfl⟩
   replace hF := hF r4 q474
   refine .gc (cl (v := .bool r4) Tryz.call76 rfl rfl (fun w S => (by rw [q474]; exact c_has S.sub ((gt t.ops op).del) a5 c4 q465 q464 p q473))) rfl rfl rfl q472 rfl rfl ?_
   refine .GV (nt rfl) q472 ?_
   refine .GV (pkT rfl q472 rfl) q469 ?_
   refine .V (pkF rfl q469 rfl) ?_
   refine .nil ?_
   exact .US q454 (!r4) hF
  replace hF := hF.2 q472
  refine .GS q472 ?_
  refine .GS q472 ?_
  refine .GS q472 ?_
  refine .GS q472 ?_
  refine .GS q472 ?_
  refine .GS q472 ?_
  refine .GS q472 ?_
  refine .GS q472 ?_
  refine .GS q472 ?_
  refine .GV (pkF rfl q472 rfl) q469 ?_
  refine .V (pkF rfl q469 rfl) ?_
  refine .nil ?_
  exact .US q454 false hF
 replace hF := hF.2 q399
 refine .exit (.seqX (.seqX (.blkX (.seqN (.seq (.region (.V (mv rfl) ?_)))))))
 refine .V (asg rfl) ?_
 refine .nil (.seqN ?_)
 refine .freezeL (k := 1) rfl (fun h1 le1 q476 q475 => ?_)
 refine .cast (A' := [Box pt (tF t at_ ct at_2 ct2 at_3 ct3), tru]) rfl ?_
 refine .ret ?_
 refine .res1 rfl (rvT rfl) (fun w' S => ⟨out, (aout, cout), h1, hF, rfl, (le1), ⟨(RSl.of q475), (q476)⟩, S.none⟩)
theorem c_after {h : FH} {w : World} (hs : Sub h w) (t : Task) (at_ : Option Addr) (ct : Nat) (_q1 : RSl h at_ t.init) (_q2 : t.init.length ≤ ct) (at_2 : Option Addr) (ct2 : Nat) (_q3 : RSl h at_2 t.goal) (_q4 : t.goal.length ≤ ct2) (at_3 : Option Addr) (ct3 : Nat) (_q5 : RSl h at_3 t.ops) (_q6 : t.ops.length ≤ ct3) (s_ : List Int) (as_ : Option Addr) (cs_ : Nat) (_q7 : RSl h as_ s_) (_q8 : s_.length ≤ cs_) (op : Int) (hp : pre_after t s_ op) : Calls Tryz.prog 64 #[.agg #[iV t.facts, .slice at_ t.init.length ct, .slice at_2 t.goal.length ct2, .slice at_3 t.ops.length ct3], .slice as_ s_.length cs_, iV op] w fun e w' => ∃ (z : Option Addr × Nat) (h1 : FH), e = .returned (.slice z.1 (sp_after t s_ op).length z.2) ∧ FH.le h h1 ∧ (RSl h1 z.1 (sp_after t s_ op) ∧ (sp_after t s_ op).length ≤ z.2) ∧ SH (Kp.all w h) h1 w' [] :=
 (w_after hs t at_ ct _q1 _q2 at_2 ct2 _q3 _q4 at_3 ct3 _q5 _q6 s_ as_ cs_ _q7 _q8 op (fun r => r = sp_after t s_ op) (ok_after t s_ op hp)).mono fun _ _ ⟨r, z, h1, hk, he, hl, hf, hS⟩ => by subst hk; exact ⟨z, h1, he, hl, hf, hS⟩
end Go.Proofs.YtojoehfldbimpaaGreatDoor.Pl

namespace Go.Proofs.YtojoehfldbimpaaGreatDoor.Pl
open Go Go.RowKit
theorem w_update {h : FH} {w : World} (hs : Sub h w) (s_ : List Int) (as_ : Option Addr) (cs_ : Nat) (_q1 : RSl h as_ s_) (_q2 : s_.length ≤ cs_) (add : List Int) (aadd : Option Addr) (cadd : Nat) (_q3 : RSl h aadd add) (_q4 : add.length ≤ cadd) (del : List Int) (adel : Option Addr) (cdel : Nat) (_q5 : RSl h adel del) (_q6 : del.length ≤ cdel) (K : (List Int) → Prop) (hF : F_update s_ add del K) : Calls Tryz.prog 83 #[.slice as_ s_.length cs_, .slice aadd add.length cadd, .slice adel del.length cdel] w fun e w' => ∃ (r : List Int) (z : Option Addr × Nat) (h1 : FH), K r ∧ e = .returned (.slice z.1 r.length z.2) ∧ FH.le h h1 ∧ True ∧ SH (Kp.all w h) h1 w' [OwnSl 3 1 z.1 r.length z.2 (flL r)] := by
 refine enter (args := [vSl as_ s_ cs_, vSl aadd add cadd, vSl adel del cdel]) Tryz.func83 rfl Tryz.ntmps83 rfl hs ?_
 refine .seq (.region (.V (asg rfl) ?_))
 refine .nil (.seqN (.seq (.region (.V (asg rfl) ?_))))
 refine .nil (.seqN (.seq (.seq (.region (.V (mv rfl) ?_)))))
 refine .V (ln rfl tS22.is) ?_
 refine .V (mv rfl) ?_
 refine .nil (.seqN (.block ?_))
 refine .nilSl 3 1 ?_
 refine .cast (A' := [OwnSl 3 1 none (([] : List Int).length) 0 (flL ([] : List Int))]) rfl ?_
 obtain ⟨I1, μ1, q99, q100⟩ := hF
 refine .loop' (σ := Int × List Int × Option Addr × Nat) (fun z => I1 z.1 z.2.1) (fun z => μ1 z.1 z.2.1) (fun z => [(1, vSl aadd add cadd), (2, vSl adel del cdel), (7, vSl z.2.2.1 z.2.1 z.2.2.2), (12, vSl as_ s_ cs_), (13, iV ((s_.length : Nat) : Int)), (14, iV z.1)]) (fun z => [OwnSl 3 1 z.2.2.1 z.2.1.length z.2.2.2 (flL z.2.1)]) (fun _ => h) (0, ([] : List Int), none, 0) q99 sb rfl (FH.le_refl _) ?_
 rintro ⟨t14, out, aout, cout⟩ q99
 have hF := q100 t14 out q99
 show J _ _ _ _ _ [(1, vSl aadd add cadd), (2, vSl adel del cdel), (7, vSl aout out cout), (12, vSl as_ s_ cs_), (13, iV ((s_.length : Nat) : Int)), (14, iV t14)] [OwnSl 3 1 aout out.length cout (flL out)] h
 refine .seq (.region (.V (bi rfl rfl rfl) ?_))
 refine .nil (.seqN (.seq ?_))
 refine .cond rfl (fun q103 => ?_) (fun q103 => ?_)
 ·replace hF := hF.1 q103
  refine .skip (.seqN ?_)
  refine .share (σ := List Int × Option Addr × Nat) (fun z => F_update_J1 out t14 I1 μ1 z.1) (fun z => [(1, vSl aadd add cadd), (2, vSl adel del cdel), (7, vSl z.2.1 z.1 z.2.2), (12, vSl as_ s_ cs_), (13, iV ((s_.length : Nat) : Int)), (14, iV t14)]) (fun z => [OwnSl 3 1 z.2.1 z.1.length z.2.2 (flL z.1)]) (fun _ => h) ?_ (fun q111 => ?_)
  ·rintro ⟨out3, aout3, cout3⟩ hF
   show J _ _ _ _ _ [(1, vSl aadd add cadd), (2, vSl adel del cdel), (7, vSl aout3 out3 cout3), (12, vSl as_ s_ cs_), (13, iV ((s_.length : Nat) : Int)), (14, iV t14)] [OwnSl 3 1 aout3 out3.length cout3 (flL out3)] h
   refine .region (.V (bi rfl rfl rfl) ?_)
   refine .V (mv rfl) ?_
   refine .nil ?_
   exact .RO (wr (t14 + 1), out3, aout3, cout3) hF.1 hF.2
  refine .block (.seq (.region ?_))
  obtain ⟨q112, hF⟩ := hF
  refine .V (ix rfl rfl tS22 (_q1.ne (by decide) (inb_pos q112)) q112) ?_
  refine .V (ld1 (v := iV (gt s_ t14)) rfl tO3 (cellH (_q1.elemF q112 (by decide) 0 _ rfl))) ?_
  refine .V (asg rfl) ?_
  refine .nil (.seqN (.seq (.region (.V (mv rfl) ?_))))
  refine .V (mv rfl) ?_
  obtain ⟨q113, hF⟩ := hF
  obtain ⟨r2, q114⟩ : ∃ y_ : Int × Bool, y_ = sp_bsearch del (gt s_ t14) := ⟨_, rfl⟩
  replace hF := hF r2 q114
  refine .C (cl (v := .tuple #[iV r2.1, .bool r2.2]) Tryz.call104 rfl rfl (fun w S => (by rw [q114]; exact c_bsearch S.sub del adel cdel _q5 _q6 (gt s_ t14) q113))) ?_
  refine .V (mv rfl) ?_
  refine .V (ext rfl rfl) ?_
  refine .V (ext rfl rfl) ?_
  refine .V (asg rfl) ?_
  refine .V (asg rfl) ?_
  refine .nil (.seqN (.seq (.region (.V (mv rfl) ?_))))
  refine .V (nt rfl) ?_
  refine .nil (.seqN ?_)
  refine .cond rfl (fun q115 => ?_) (fun q115 => ?_)
  ·replace hF := hF.1 q115
   refine .region (.V (mv rfl) ?_)
   refine .V (mv rfl) ?_
   refine bs2 (cs := #[iV (gt s_ t14)]) (pv := [(0, iV (gt s_ t14))]) tS22 rfl rfl (by decide) (by decide) rfl rfl rfl (fun a _ => ?_)
   refine .cast (A' := [OwnSl 3 1 a (([(gt s_ t14)] : List Int).length) 1 (flL ([(gt s_ t14)] : List Int)), OwnSl 3 1 aout out.length cout (flL out)]) rfl ?_
   obtain ⟨q117, hF⟩ := hF
   have q118 : out.length + ([(gt s_ t14)] : List Int).length = ((out ++ ([(gt s_ t14)] : List Int))).length := len_app rfl rfl
   refine app (k := 1) (news := flL ([(gt s_ t14)] : List Int)) (cs' := flL (out ++ ([(gt s_ t14)] : List Int))) (nm := ((out ++ ([(gt s_ t14)] : List Int))).length) tS22 rfl (by decide) rfl rfl rfl (by rw [flL_len]; rfl) (srcS (k := 0) rfl) (flL_one _) (room_of q118 q117).1 (room_of q118 q117).2 q118 (flL_append _ _).symm rfl (fun a2 c => ?_)
   refine .cast (A' := [OwnSl 3 1 a (([(gt s_ t14)] : List Int).length) 1 (flL ([(gt s_ t14)] : List Int)), OwnSl 3 1 a2 ((out ++ ([(gt s_ t14)] : List Int)).length) c (flL (out ++ ([(gt s_ t14)] : List Int)))]) rfl ?_
   refine .V (asg rfl) ?_
   refine .nil (.blkN ?_)
   refine .sel0 [1] (by decide) rfl ?_
   exact .US q111 ((out ++ ([(gt s_ t14)] : List Int)), a2, c) hF
  replace hF := hF.2 q115
  refine .skip (.blkN ?_)
  exact .US q111 (out, aout, cout) hF
 replace hF := hF.2 q103
 refine .exit (.seqX (.seqX (.blkX (.seqN (.seq (.region (.V (mv rfl) ?_)))))))
 refine .V (mv rfl) ?_
 obtain ⟨q119, hF⟩ := hF
 have q120 : out.length + add.length = ((out ++ add)).length := len_app rfl rfl
 refine app (k := 0) (news := flL add) (cs' := flL (out ++ add)) (nm := ((out ++ add)).length) tS22 rfl (by decide) rfl rfl rfl (by rw [flL_len]; rfl) (srcH (fun q => _q3.ne (by decide) q) (_q3.raw)) (flL_one _) (room_of q120 q119).1 (room_of q120 q119).2 q120 (flL_append _ _).symm rfl (fun a3 c2 => ?_)
 refine .cast (A' := [OwnSl 3 1 a3 ((out ++ add).length) c2 (flL (out ++ add))]) rfl ?_
 refine .V (asg rfl) ?_
 refine .nil (.seqN (.seq (.region (.V (mv rfl) ?_))))
 obtain ⟨q121, hF⟩ := hF
 obtain ⟨r3, q122⟩ : ∃ y_ : List Int, y_ = sp_sort (out ++ add) := ⟨_, rfl⟩
 replace hF := hF r3 q122
 refine callX (k := 0) (v := .tuple #[]) (X' := OwnSl 3 1 a3 ((out ++ add).length) c2 (flL r3)) rfl Tryz.call105 rfl rfl (fun w g hx sg hd hs' => ?_) rfl ?_
 ·rw [q122]; exact c_sort hs' (out ++ add) a3 c2 hx sg hd q121
 have q123 : r3.length = (out ++ add).length := by rw [q122]; exact (sort_len (out ++ add)).trans rfl
 refine .cast (A' := [OwnSl 3 1 a3 ((out ++ add).length) c2 (flL r3)]) rfl ?_
 refine .nil (.seqN (.seq (.region (.V (mv rfl) ?_))))
 obtain ⟨q124, hF⟩ := hF
 obtain ⟨r4, q125⟩ : ∃ y_ : List Int, y_ = sp_compact r3 := ⟨_, rfl⟩
 replace hF := hF r4 q125
 refine callX (k := 0) (v := vSl a3 r4 c2) (X' := OwnSl 3 1 a3 (r4.length) c2 (flL r4)) rfl Tryz.call106 rfl rfl (fun w g hx sg hd hs' => ?_) rfl ?_
 ·rw [q125]; have hc_ := c_compact hs' r3 a3 c2 (own_n (q123).symm hx) sg hd q124; rw [q123] at hc_; exact hc_
 refine .cast (A' := [OwnSl 3 1 a3 r4.length c2 (flL r4)]) rfl ?_
 refine .V (asg rfl) ?_
 refine .nil (.seqN (.ret ?_))
 refine .res1 rfl (rvT rfl) (fun w' S => ⟨r4, (a3, c2), h, hF, rfl, (FH.le_refl _), trivial, S.pick (k := 0) rfl⟩)
theorem c_update {h : FH} {w : World} (hs : Sub h w) (s_ : List Int) (as_ : Option Addr) (cs_ : Nat) (_q1 : RSl h as_ s_) (_q2 : s_.length ≤ cs_) (add : List Int) (aadd : Option Addr) (cadd : Nat) (_q3 : RSl h aadd add) (_q4 : add.length ≤ cadd) (del : List Int) (adel : Option Addr) (cdel : Nat) (_q5 : RSl h adel del) (_q6 : del.length ≤ cdel) (hp : pre_update s_ add del) : Calls Tryz.prog 83 #[.slice as_ s_.length cs_, .slice aadd add.length cadd, .slice adel del.length cdel] w fun e w' => ∃ (z : Option Addr × Nat) (h0 h1 : FH), e = .returned (.slice z.1 (sp_update s_ add del).length z.2) ∧ (True) ∧ FH.le h h1 ∧ SH (Kp.all w h0) h1 w' [OwnSl 3 1 z.1 (sp_update s_ add del).length z.2 (flL (sp_update s_ add del))] :=
 (w_update hs s_ as_ cs_ _q1 _q2 add aadd cadd _q3 _q4 del adel cdel _q5 _q6 (fun r => r = sp_update s_ add del) (ok_update s_ add del hp)).mono fun _ _ ⟨r, z, h1, hk, he, hl, hψ, hS⟩ => by subst hk; exact ⟨z, h, h1, he, hψ, hl, hS⟩
set_option maxHeartbeats 8000000 in
theorem w_contains2 {h : FH} {w : World} (hs : Sub h w) (s_ : List Int) (as_ : Option Addr) (cs_ : Nat) (_q1 : RSl h as_ s_) (_q2 : s_.length ≤ cs_) (part : List Int) (apart : Option Addr) (cpart : Nat) (_q3 : RSl h apart part) (_q4 : part.length ≤ cpart) (K : Bool → Prop) (hF : F_contains2 s_ part K) : Calls Tryz.prog 88 #[.slice as_ s_.length cs_, .slice apart part.length cpart] w fun e w' => ∃ r : Bool, K r ∧ e = .returned (.bool r) ∧ Below w.heap.size w w' := by
 refine enter (args := [vSl as_ s_ cs_, vSl apart part cpart]) Tryz.func88 rfl Tryz.ntmps88 rfl hs ?_
 refine .seq (.region (.V (asg rfl) ?_))
 refine .nil (.seqN (.seq (.region (.V (asg rfl) ?_))))
 refine .nil (.seqN (.seq (.seq (.region (.V (mv rfl) ?_)))))
 refine .V (ln rfl tS22.is) ?_
 refine .V (mv rfl) ?_
 refine .nil (.seqN (.block ?_))
 obtain ⟨I1, μ1, q1162, q1163⟩ := hF
 refine .loop' (σ := Int × Int) (fun z => I1 z.1 z.2) (fun z => μ1 z.1 z.2) (fun z => [(0, vSl as_ s_ cs_), (5, iV z.1), (8, vSl apart part cpart), (9, iV ((part.length : Nat) : Int)), (10, iV z.2)]) (fun _ => []) (fun _ => h) (0, 0) q1162 sb rfl (FH.le_refl _) ?_
 rintro ⟨i, t10⟩ q1162
 have hF := q1163 i t10 q1162
 show J _ _ _ _ _ [(0, vSl as_ s_ cs_), (5, iV i), (8, vSl apart part cpart), (9, iV ((part.length : Nat) : Int)), (10, iV t10)] [] h
 refine .seq (.region (.V (bi rfl rfl rfl) ?_))
 refine .nil (.seqN (.seq ?_))
 refine .cond rfl (fun q1166 => ?_) (fun q1166 => ?_)
 ·replace hF := hF.1 q1166
  refine .skip (.seqN (.seq (.block (.seq (.region ?_)))))
  obtain ⟨q1319, hF⟩ := hF
  refine .V (ix rfl rfl tS22 (_q3.ne (by decide) (inb_pos q1319)) q1319) ?_
  refine .V (ld1 (v := iV (gt part t10)) rfl tO3 (cellH (_q3.elemF q1319 (by decide) 0 _ rfl))) ?_
  refine .V (asg rfl) ?_
  refine .nil (.seqN (.seq (.block ?_)))
  obtain ⟨I2, μ2, q1380, q1381⟩ := hF
  refine .loop' (σ := Int) (fun z => I2 z) (fun z => μ2 z) (fun z => [(0, vSl as_ s_ cs_), (5, iV z), (7, iV (gt part t10)), (8, vSl apart part cpart), (9, iV ((part.length : Nat) : Int)), (10, iV t10)]) (fun _ => []) (fun _ => h) i q1380 sb rfl (FH.le_refl _) ?_
  rintro i3 q1380
  have hF := q1381 i3 q1380
  show J _ _ _ _ _ [(0, vSl as_ s_ cs_), (5, iV i3), (7, iV (gt part t10)), (8, vSl apart part cpart), (9, iV ((part.length : Nat) : Int)), (10, iV t10)] [] h
  refine .seq ?_
  refine .share (σ := Bool) (fun z => F_contains2_J1 s_ part K z i I2 μ2 t10 i3 I1 μ1) (fun z => [(0, vSl as_ s_ cs_), (5, iV i3), (7, iV (gt part t10)), (8, vSl apart part cpart), (9, iV ((part.length : Nat) : Int)), (10, iV t10), (25, .bool z)]) (fun _ => []) (fun _ => h) ?_ (fun q1384 => ?_)
  ·rintro t25 hF
   show J _ _ _ _ _ [(0, vSl as_ s_ cs_), (5, iV i3), (7, iV (gt part t10)), (8, vSl apart part cpart), (9, iV ((part.length : Nat) : Int)), (10, iV t10), (25, .bool t25)] [] h
   refine .cond rfl (fun q1386 => ?_) (fun q1386 => ?_)
   ·replace hF := hF.1 q1386
    refine .skip (.seqN (.block (.region (.V (mv rfl) ?_))))
    refine .V (bi rfl rfl rfl) ?_
    refine .V (asg rfl) ?_
    refine .nil (.blkN ?_)
    exact .RO (wr (i3 + 1)) hF.1 hF.2
   replace hF := hF.2 q1386
   refine .exit (.seqX (.seqX (.blkX (.seqN ?_))))
   refine .share (σ := Bool) (fun z => F_contains2_J2 K i z t10 i3 I1 μ1) (fun z => [(0, vSl as_ s_ cs_), (5, iV i3), (8, vSl apart part cpart), (9, iV ((part.length : Nat) : Int)), (10, iV t10), (39, .bool z)]) (fun _ => []) (fun _ => h) ?_ (fun q1389 => ?_)
   ·rintro t39 hF
    show J _ _ _ _ _ [(0, vSl as_ s_ cs_), (5, iV i3), (8, vSl apart part cpart), (9, iV ((part.length : Nat) : Int)), (10, iV t10), (39, .bool t39)] [] h
    refine .cond rfl (fun q1390 => ?_) (fun q1390 => ?_)
    ·replace hF := hF.1 q1390
     refine .seq (.region (.V (asg rfl) ?_))
     refine .nil (.seqN (.ret (.blkR (.seqR (.seqR (.blkR (.seqR ?_)))))))
     refine .res1 rfl (rvT rfl) (fun w' S => ⟨false, hF, rfl, S.below⟩)
    replace hF := hF.2 q1390
    refine .skip (.blkN (.seqN (.region (.V (bi rfl rfl rfl) ?_))))
    refine .V (mv rfl) ?_
    refine .nil ?_
    exact .RO (i3, wr (t10 + 1)) hF.1 hF.2
   refine .region (.V (mv rfl) ?_)
   refine .V (mv rfl) ?_
   refine .V (ln rfl tS22.is) ?_
   refine .V (bi rfl rfl rfl) ?_
   refine .V (mv rfl) ?_
   rcases Bool.eq_false_or_eq_true (i3 == ((s_.length : Nat) : Int)) with q1391 | q1391
   ·replace hF := hF.1 q1391
    refine .GS q1391 ?_
    refine .GS q1391 ?_
    refine .GS q1391 ?_
    refine .GS q1391 ?_
    refine .GS q1391 ?_
    refine .GS q1391 ?_
    refine .V (pkT rfl q1391 rfl) ?_
    refine .nil ?_
    exact .US q1389 true hF
   replace hF := hF.2 q1391
   refine .GV (mv rfl) q1391 ?_
   refine .GV (mv rfl) q1391 ?_
   obtain ⟨q1392, hF⟩ := hF
   refine .GV (ix rfl rfl tS22 (_q1.ne (by decide) (inb_pos q1392)) q1392) q1391 ?_
   refine .GV (ld1 (v := iV (gt s_ i3)) rfl tO3 (cellH (_q1.elemF q1392 (by decide) 0 _ rfl))) q1391 ?_
   refine .GV (mv rfl) q1391 ?_
   refine .GV (bi rfl rfl rfl) q1391 ?_
   refine .V (pkF rfl q1391 rfl) ?_
   refine .nil ?_
   exact .US q1389 ((gt s_ i3) != (gt part t10)) hF
  refine .region (.V (mv rfl) ?_)
  refine .V (mv rfl) ?_
  refine .V (ln rfl tS22.is) ?_
  refine .V (bi rfl rfl rfl) ?_
  refine .V (mv rfl) ?_
  rcases Bool.eq_false_or_eq_true (decide (i3 < ((s_.length : Nat) : Int))) with q1393 | q1393
  ·replace hF := hF.1 q1393
   refine .GV (mv rfl) q1393 ?_
   refine .GV (mv rfl) q1393 ?_
   obtain ⟨q1394, hF⟩ := hF
   refine .GV (ix rfl rfl tS22 (_q1.ne (by decide) (inb_pos q1394)) q1394) q1393 ?_
   refine .GV (ld1 (v := iV (gt s_ i3)) rfl tO3 (cellH (_q1.elemF q1394 (by decide) 0 _ rfl))) q1393 ?_
   refine .GV (mv rfl) q1393 ?_
   refine .GV (bi rfl rfl rfl) q1393 ?_
   refine .V (pkT rfl q1393 rfl) ?_
   refine .nil ?_
   exact .US q1384 (decide ((gt s_ i3) < (gt part t10))) hF
  replace hF := hF.2 q1393
  refine .GS q1393 ?_
  refine .GS q1393 ?_
  refine .GS q1393 ?_
  refine .GS q1393 ?_
  refine .GS q1393 ?_
  refine .GS q1393 ?_
  refine .V (pkF rfl q1393 rfl) ?_
  refine .nil ?_
  exact .US q1384 false hF
 replace hF := hF.2 q1166
 refine .exit (.seqX (.seqX (.blkX (.seqN (.seq (.region (.V (asg rfl) ?_)))))))
 refine .nil (.seqN (.ret ?_))
 refine .res1 rfl (rvT rfl) (fun w' S => ⟨true, hF, rfl, S.below⟩)
theorem c_contains2 {h : FH} {w : World} (hs : Sub h w) (s_ : List Int) (as_ : Option Addr) (cs_ : Nat) (_q1 : RSl h as_ s_) (_q2 : s_.length ≤ cs_) (part : List Int) (apart : Option Addr) (cpart : Nat) (_q3 : RSl h apart part) (_q4 : part.length ≤ cpart) (hp : pre_contains2 s_ part) : Calls Tryz.prog 88 #[.slice as_ s_.length cs_, .slice apart part.length cpart] w fun e w' => e = .returned (.bool (sp_contains2 s_ part)) ∧ Below w.heap.size w w' :=
 (w_contains2 hs s_ as_ cs_ _q1 _q2 part apart cpart _q3 _q4 (fun r => r = sp_contains2 s_ part) (ok_contains2 s_ part hp)).mono fun _ _ ⟨_, hk, he, hb⟩ => ⟨by rw [he, hk], hb⟩
theorem w_can {h : FH} {w : World} (hs : Sub h w) (t : Task) (at_ : Option Addr) (ct : Nat) (_q1 : RSl h at_ t.init) (_q2 : t.init.length ≤ ct) (at_2 : Option Addr) (ct2 : Nat) (_q3 : RSl h at_2 t.goal) (_q4 : t.goal.length ≤ ct2) (at_3 : Option Addr) (ct3 : Nat) (_q5 : RSl h at_3 t.ops) (_q6 : t.ops.length ≤ ct3) (s_ : List Int) (as_ : Option Addr) (cs_ : Nat) (_q7 : RSl h as_ s_) (_q8 : s_.length ≤ cs_) (op : Int) (K : Bool → Prop) (hF : F_can t s_ op K) : Calls Tryz.prog 100 #[.agg #[iV t.facts, .slice at_ t.init.length ct, .slice at_2 t.goal.length ct2, .slice at_3 t.ops.length ct3], .slice as_ s_.length cs_, iV op] w fun e w' => ∃ r : Bool, K r ∧ e = .returned (.bool r) ∧ Below w.heap.size w w' := by
 refine enter (args := [.agg (tF t at_ ct at_2 ct2 at_3 ct3).toArray, vSl as_ s_ cs_, iV op]) Tryz.func100 rfl Tryz.ntmps100 rfl hs ?_
 refine .seq (.region ?_)
 refine bx (vs := (tF t at_ ct at_2 ct2 at_3 ct3)) rfl rfl rfl (fun pt => ?_)
 refine .V (asg rfl) ?_
 refine .nil (.seqN (.seq (.region (.V (mv rfl) ?_))))
 refine .V (fa rfl tF25_3) ?_
 refine .V (ld1 rfl tO23 (cellB (off := 3) (k := 0) rfl rfl)) ?_
 refine .V (mv rfl) ?_
 obtain ⟨q9, hF⟩ := hF
 refine .V (ix rfl rfl tS23 (_q5.ne (by decide) (inb_pos q9)) q9) ?_
 refine .V (fa rfl tF54_0) ?_
 obtain ⟨_, ⟨a, c, a2, c2, a3, c3, rfl, ⟨q10, q11⟩, ⟨q12, q13⟩, q14, q15⟩, q16⟩ := _q5.elem q9
 refine .V (ld1 (v := .slice a ((gt t.ops op).pre.length) c) rfl tO22 (cellH (q16 (by decide) 0 _ rfl))) ?_
 obtain ⟨q17, hF⟩ := hF
 obtain ⟨r2, q18⟩ : ∃ y_ : Bool, y_ = sp_contains2 s_ ((gt t.ops op).pre) := ⟨_, rfl⟩
 replace hF := hF r2 q18
 refine .C (cl (v := .bool r2) Tryz.call88 rfl rfl (fun w S => (by rw [q18]; exact c_contains2 S.sub s_ as_ cs_ _q7 _q8 ((gt t.ops op).pre) a c q11 q10 q17))) ?_
 refine .V (asg rfl) ?_
 refine .nil (.seqN (.ret ?_))
 refine .res1 rfl (rvT rfl) (fun w' S => ⟨r2, hF, rfl, S.below⟩)
theorem c_can {h : FH} {w : World} (hs : Sub h w) (t : Task) (at_ : Option Addr) (ct : Nat) (_q1 : RSl h at_ t.init) (_q2 : t.init.length ≤ ct) (at_2 : Option Addr) (ct2 : Nat) (_q3 : RSl h at_2 t.goal) (_q4 : t.goal.length ≤ ct2) (at_3 : Option Addr) (ct3 : Nat) (_q5 : RSl h at_3 t.ops) (_q6 : t.ops.length ≤ ct3) (s_ : List Int) (as_ : Option Addr) (cs_ : Nat) (_q7 : RSl h as_ s_) (_q8 : s_.length ≤ cs_) (op : Int) (hp : pre_can t s_ op) : Calls Tryz.prog 100 #[.agg #[iV t.facts, .slice at_ t.init.length ct, .slice at_2 t.goal.length ct2, .slice at_3 t.ops.length ct3], .slice as_ s_.length cs_, iV op] w fun e w' => e = .returned (.bool (sp_applies t s_ op)) ∧ Below w.heap.size w w' :=
 (w_can hs t at_ ct _q1 _q2 at_2 ct2 _q3 _q4 at_3 ct3 _q5 _q6 s_ as_ cs_ _q7 _q8 op (fun r => r = sp_applies t s_ op) (ok_can t s_ op hp)).mono fun _ _ ⟨_, hk, he, hb⟩ => ⟨by rw [he, hk], hb⟩
theorem w_next {h : FH} {w : World} (hs : Sub h w) (t : Task) (at_ : Option Addr) (ct : Nat) (_q1 : RSl h at_ t.init) (_q2 : t.init.length ≤ ct) (at_2 : Option Addr) (ct2 : Nat) (_q3 : RSl h at_2 t.goal) (_q4 : t.goal.length ≤ ct2) (at_3 : Option Addr) (ct3 : Nat) (_q5 : RSl h at_3 t.ops) (_q6 : t.ops.length ≤ ct3) (s_ : List Int) (as_ : Option Addr) (cs_ : Nat) (_q7 : RSl h as_ s_) (_q8 : s_.length ≤ cs_) (op : Int) (K : (List Int) → Prop) (hF : F_next t s_ op K) : Calls Tryz.prog 93 #[.agg #[iV t.facts, .slice at_ t.init.length ct, .slice at_2 t.goal.length ct2, .slice at_3 t.ops.length ct3], .slice as_ s_.length cs_, iV op] w fun e w' => ∃ (r : List Int) (z : Option Addr × Nat) (h1 : FH), K r ∧ e = .returned (.slice z.1 r.length z.2) ∧ FH.le h h1 ∧ (RSl h1 z.1 r ∧ r.length ≤ z.2) ∧ SH (Kp.all w h) h1 w' [] := by
 refine enter (args := [.agg (tF t at_ ct at_2 ct2 at_3 ct3).toArray, vSl as_ s_ cs_, iV op]) Tryz.func93 rfl Tryz.ntmps93 rfl hs ?_
 refine .seq (.region ?_)
 refine bx (vs := (tF t at_ ct at_2 ct2 at_3 ct3)) rfl rfl rfl (fun pt => ?_)
 refine .V (asg rfl) ?_
 refine .nil (.seqN (.seq (.region (.V (fa rfl tF25_3) ?_))))
 refine .V (ld1 rfl tO23 (cellB (off := 3) (k := 0) rfl rfl)) ?_
 refine .V (mv rfl) ?_
 obtain ⟨q9, hF⟩ := hF
 refine .V (ix rfl rfl tS23 (_q5.ne (by decide) (inb_pos q9)) q9) ?_
 obtain ⟨_, ⟨a, c, a2, c2, a3, c3, rfl, ⟨q10, q11⟩, ⟨q12, q13⟩, q14, q15⟩, q16⟩ := _q5.elem q9
 refine .V (ldA (cs := [.slice a ((gt t.ops op).pre.length) c, .slice a2 ((gt t.ops op).add.length) c2, .slice a3 ((gt t.ops op).del.length) c3, iV ((gt t.ops op).cost)]) rfl tA54 rfl (cellsH (q16 (by decide)))) ?_
 refine al tZ54 rfl (fun po => ?_)
 refine st (p := po) (off := 0) (k := 0) (vs := [.slice a ((gt t.ops op).pre.length) c, .slice a2 ((gt t.ops op).add.length) c2, .slice a3 ((gt t.ops op).del.length) c3, iV ((gt t.ops op).cost)]) rfl rfl rfl (fun w => (tA54 w).2) rfl rfl rfl rfl ?_
 refine .cast (A' := [Box po [.slice a ((gt t.ops op).pre.length) c, .slice a2 ((gt t.ops op).add.length) c2, .slice a3 ((gt t.ops op).del.length) c3, iV ((gt t.ops op).cost)], Box pt (tF t at_ ct at_2 ct2 at_3 ct3)]) rfl ?_
 refine .nil (.seqN (.seq (.region (.V (mv rfl) ?_))))
 refine .V (fa rfl tF54_1) ?_
 refine .V (ld1 rfl tO22 (cellB (off := 1) (k := 0) rfl rfl)) ?_
 refine .V (fa rfl tF54_2) ?_
 refine .V (ld1 rfl tO22 (cellB (off := 2) (k := 0) rfl rfl)) ?_
 obtain ⟨q17, hF⟩ := hF
 obtain ⟨r2, q18⟩ : ∃ y_ : List Int, y_ = sp_update s_ ((gt t.ops op).add) ((gt t.ops op).del) := ⟨_, rfl⟩
 replace hF := hF r2 q18
 refine clO (α := Option Addr × Nat) (V := fun z => vSl z.1 r2 z.2) (Ψ := fun z => True) (B := fun z => [OwnSl 3 1 z.1 r2.length z.2 (flL r2)]) Tryz.call83 rfl rfl (fun w S => (by rw [q18]; exact c_update S.sub s_ as_ cs_ _q7 _q8 ((gt t.ops op).add) a2 c2 q13 q12 ((gt t.ops op).del) a3 c3 q15 q14 q17)) rfl (fun z _ => ?_)
 obtain ⟨a4, c4⟩ := z
 refine .cast (A' := [OwnSl 3 1 a4 r2.length c4 (flL r2), Box po [.slice a ((gt t.ops op).pre.length) c, .slice a2 ((gt t.ops op).add.length) c2, .slice a3 ((gt t.ops op).del.length) c3, iV ((gt t.ops op).cost)], Box pt (tF t at_ ct at_2 ct2 at_3 ct3)]) rfl ?_
 refine .V (asg rfl) ?_
 refine .nil (.seqN ?_)
 refine .freezeL (k := 0) rfl (fun h1 le1 q20 q19 => ?_)
 refine .cast (A' := [tru, Box po [.slice a ((gt t.ops op).pre.length) c, .slice a2 ((gt t.ops op).add.length) c2, .slice a3 ((gt t.ops op).del.length) c3, iV ((gt t.ops op).cost)], Box pt (tF t at_ ct at_2 ct2 at_3 ct3)]) rfl ?_
 refine .ret ?_
 refine .res1 rfl (rvT rfl) (fun w' S => ⟨r2, (a4, c4), h1, hF, rfl, (le1), ⟨(RSl.of q19), (q20)⟩, S.none⟩)
theorem c_next {h : FH} {w : World} (hs : Sub h w) (t : Task) (at_ : Option Addr) (ct : Nat) (_q1 : RSl h at_ t.init) (_q2 : t.init.length ≤ ct) (at_2 : Option Addr) (ct2 : Nat) (_q3 : RSl h at_2 t.goal) (_q4 : t.goal.length ≤ ct2) (at_3 : Option Addr) (ct3 : Nat) (_q5 : RSl h at_3 t.ops) (_q6 : t.ops.length ≤ ct3) (s_ : List Int) (as_ : Option Addr) (cs_ : Nat) (_q7 : RSl h as_ s_) (_q8 : s_.length ≤ cs_) (op : Int) (hp : pre_next t s_ op) : Calls Tryz.prog 93 #[.agg #[iV t.facts, .slice at_ t.init.length ct, .slice at_2 t.goal.length ct2, .slice at_3 t.ops.length ct3], .slice as_ s_.length cs_, iV op] w fun e w' => ∃ (z : Option Addr × Nat) (h1 : FH), e = .returned (.slice z.1 (sp_after t s_ op).length z.2) ∧ FH.le h h1 ∧ (RSl h1 z.1 (sp_after t s_ op) ∧ (sp_after t s_ op).length ≤ z.2) ∧ SH (Kp.all w h) h1 w' [] :=
 (w_next hs t at_ ct _q1 _q2 at_2 ct2 _q3 _q4 at_3 ct3 _q5 _q6 s_ as_ cs_ _q7 _q8 op (fun r => r = sp_after t s_ op) (ok_next t s_ op hp)).mono fun _ _ ⟨r, z, h1, hk, he, hl, hf, hS⟩ => by subst hk; exact ⟨z, h1, he, hl, hf, hS⟩
theorem w_compare {h : FH} {w : World} (hs : Sub h w) (x : Int) (y : Int) (K : Int → Prop) (hF : F_compare x y K) : Calls Tryz.prog 111 #[iV x, iV y] w fun e w' => ∃ r : Int, K r ∧ e = .returned (iV r) ∧ Below w.heap.size w w' := by
 refine enter (args := [iV x, iV y]) Tryz.func111 rfl Tryz.ntmps111 rfl hs ?_
 refine .seq (.region (.V (asg rfl) ?_))
 refine .nil (.seqN (.seq (.region (.V (mv rfl) ?_))))
 obtain ⟨r2, q1⟩ : ∃ y_ : Bool, y_ = sp_isNaN1 x := ⟨_, rfl⟩
 replace hF := hF r2 q1
 refine .C (cl (v := .bool r2) Tryz.call122 rfl rfl (fun w S => (by rw [q1]; exact c_isNaN1 S.sub x ))) ?_
 refine .V (asg rfl) ?_
 refine .nil (.seqN (.seq (.region (.V (mv rfl) ?_))))
 obtain ⟨r3, q2⟩ : ∃ y_ : Bool, y_ = sp_isNaN1 y := ⟨_, rfl⟩
 replace hF := hF r3 q2
 refine .C (cl (v := .bool r3) Tryz.call122 rfl rfl (fun w S => (by rw [q2]; exact c_isNaN1 S.sub y ))) ?_
 refine .V (asg rfl) ?_
 refine .nil (.seqN (.seq (.seq (.region (.V (mv rfl) ?_)))))
 refine .nil (.seqN ?_)
 refine .cond rfl (fun q6 => ?_) (fun q6 => ?_)
 ·replace hF := hF.1 q6
  refine .seq (.seq (.region (.V (mv rfl) ?_)))
  refine .nil (.seqN ?_)
  refine .cond rfl (fun q8 => ?_) (fun q8 => ?_)
  ·replace hF := hF.1 q8
   refine .seq (.region (.V (asg rfl) ?_))
   refine .nil (.seqN (.ret (.seqR (.seqR ?_))))
   refine .res1 rfl (rvT rfl) (fun w' S => ⟨0, hF, rfl, S.below⟩)
  replace hF := hF.2 q8
  refine .skip (.seqN (.seq (.region (.V (asg rfl) ?_))))
  refine .nil (.seqN (.ret (.seqR ?_)))
  refine .res1 rfl (rvT rfl) (fun w' S => ⟨(-1), hF, rfl, S.below⟩)
 replace hF := hF.2 q6
 refine .skip (.seqN (.seq (.seq (.region (.V (mv rfl) ?_)))))
 refine .nil (.seqN ?_)
 refine .cond rfl (fun q10 => ?_) (fun q10 => ?_)
 ·replace hF := hF.1 q10
  refine .seq (.region (.V (asg rfl) ?_))
  refine .nil (.seqN (.ret (.seqR ?_)))
  refine .res1 rfl (rvT rfl) (fun w' S => ⟨1, hF, rfl, S.below⟩)
 replace hF := hF.2 q10
 refine .skip (.seqN (.seq (.seq (.region (.V (mv rfl) ?_)))))
 refine .V (mv rfl) ?_
 refine .V (bi rfl rfl rfl) ?_
 refine .nil (.seqN ?_)
 refine .cond rfl (fun q12 => ?_) (fun q12 => ?_)
 ·replace hF := hF.1 q12
  refine .seq (.region (.V (asg rfl) ?_))
  refine .nil (.seqN (.ret (.seqR ?_)))
  refine .res1 rfl (rvT rfl) (fun w' S => ⟨(-1), hF, rfl, S.below⟩)
 replace hF := hF.2 q12
 refine .skip (.seqN (.seq (.seq (.region (.V (mv rfl) ?_)))))
 refine .V (mv rfl) ?_
 refine .V (bi rfl rfl rfl) ?_
 refine .nil (.seqN ?_)
 refine .cond rfl (fun q14 => ?_) (fun q14 => ?_)
 ·replace hF := hF.1 q14
  refine .seq (.region (.V (asg rfl) ?_))
  refine .nil (.seqN (.ret (.seqR ?_)))
  refine .res1 rfl (rvT rfl) (fun w' S => ⟨1, hF, rfl, S.below⟩)
 replace hF := hF.2 q14
 refine .skip (.seqN (.seq (.region (.V (asg rfl) ?_))))
 refine .nil (.seqN (.ret ?_))
 refine .res1 rfl (rvT rfl) (fun w' S => ⟨0, hF, rfl, S.below⟩)
theorem c_compare {h : FH} {w : World} (hs : Sub h w) (x : Int) (y : Int) : Calls Tryz.prog 111 #[iV x, iV y] w fun e w' => e = .returned (iV (sp_compare x y)) ∧ Below w.heap.size w w' :=
 (w_compare hs x y (fun r => r = sp_compare x y) (ok_compare x y)).mono fun _ _ ⟨_, hk, he, hb⟩ => ⟨by rw [he, hk], hb⟩
end Go.Proofs.YtojoehfldbimpaaGreatDoor.Pl

namespace Go.Proofs
open Go.Shelf
def YtojoehfldbimpaaGreatDoor.lays176_ren : Go.Shelf.Ren := ⟨fun | 176 => 85 | 249 => 110 | 288 => 121 | 283 => 144 | 284 => 145 | 285 => 146 | 286 => 147 | 129 => 135 | 317 => 158 | 318 => 159 | 319 => 160 | 320 => 161 | 337 => 164 | 338 => 165 | n => n, fun | 37 => 110 | 2 => 2 | 3 => 3 | 53 => 137 | 4 => 4 | 9 => 9 | 171 => 155 | 0 => 0 | 173 => 157 | 212 => 171 | 51 => 148 | 5 => 5 | 20 => 20 | 213 => 172 | 46 => 131 | 232 => 177 | 233 => 178 | n => n, fun | 17 => 0 | 18 => 1 | 19 => 2 | n => n⟩
theorem YtojoehfldbimpaaGreatDoor.lays176 : Go.Proofs.LaysM.n176 Tryz.prog YtojoehfldbimpaaGreatDoor.lays176_ren := {
  mixed := by kernel_rfl
  f129 := Tryz.func135.trans (congrArg some (by kernel_rfl))
  f176 := Tryz.func85.trans (congrArg some (by kernel_rfl))
  f249 := Tryz.func110.trans (congrArg some (by kernel_rfl))
  f283 := Tryz.func144.trans (congrArg some (by kernel_rfl))
  f284 := Tryz.func145.trans (congrArg some (by kernel_rfl))
  f285 := Tryz.func146.trans (congrArg some (by kernel_rfl))
  f286 := Tryz.func147.trans (congrArg some (by kernel_rfl))
  f288 := Tryz.func121.trans (congrArg some (by kernel_rfl))
  f317 := Tryz.func158.trans (congrArg some (by kernel_rfl))
  f318 := Tryz.func159.trans (congrArg some (by kernel_rfl))
  f319 := Tryz.func160.trans (congrArg some (by kernel_rfl))
  f320 := Tryz.func161.trans (congrArg some (by kernel_rfl))
  f337 := Tryz.func164.trans (congrArg some (by kernel_rfl))
  f338 := Tryz.func165.trans (congrArg some (by kernel_rfl))
  t0 := Tryz.underlying0
  a0 := Tryz.isAgg0
  z0 := Tryz.sizeOf0
  v0 := Tryz.zeroValue0
  t2 := Tryz.underlying2
  a2 := Tryz.isAgg2
  z2 := Tryz.sizeOf2
  v2 := Tryz.zeroValue2
  t3 := Tryz.underlying3
  a3 := Tryz.isAgg3
  z3 := Tryz.sizeOf3
  v3 := Tryz.zeroValue3
  t4 := Tryz.underlying4
  a4 := Tryz.isAgg4
  z4 := Tryz.sizeOf4
  v4 := Tryz.zeroValue4
  t5 := Tryz.underlying5
  a5 := Tryz.isAgg5
  z5 := Tryz.sizeOf5
  v5 := Tryz.zeroValue5
  t9 := Tryz.underlying9
  a9 := Tryz.isAgg9
  z9 := Tryz.sizeOf9
  v9 := Tryz.zeroValue9
  t20 := Tryz.underlying20
  a20 := Tryz.isAgg20
  z20 := Tryz.sizeOf20
  v20 := Tryz.zeroValue20
  t37 := Tryz.underlying110
  a37 := Tryz.isAgg110
  z37 := Tryz.sizeOf110
  v37 := Tryz.zeroValue110
  t46 := Tryz.underlying131
  a46 := Tryz.isAgg131
  z46 := Tryz.sizeOf131
  v46 := Tryz.zeroValue131
  t51 := Tryz.underlying148
  a51 := Tryz.isAgg148
  z51 := Tryz.sizeOf148
  v51 := Tryz.zeroValue148
  t53 := Tryz.underlying137
  a53 := Tryz.isAgg137
  z53 := Tryz.sizeOf137
  v53 := Tryz.zeroValue137
  t171 := Tryz.underlying155
  a171 := Tryz.isAgg155
  z171 := Tryz.sizeOf155
  v171 := Tryz.zeroValue155
  t173 := Tryz.underlying157
  a173 := Tryz.isAgg157
  z173 := Tryz.sizeOf157
  v173 := Tryz.zeroValue157
  t212 := Tryz.underlying171
  a212 := Tryz.isAgg171
  z212 := Tryz.sizeOf171
  v212 := Tryz.zeroValue171
  t213 := Tryz.underlying172
  a213 := Tryz.isAgg172
  z213 := Tryz.sizeOf172
  t232 := Tryz.underlying177
  a232 := Tryz.isAgg177
  z232 := Tryz.sizeOf177
  v232 := Tryz.zeroValue177
  t233 := Tryz.underlying178
  a233 := Tryz.isAgg178
  z233 := Tryz.sizeOf178
  v233 := Tryz.zeroValue178
  g17 := by kernel_rfl
  g18 := by kernel_rfl
  g19 := by kernel_rfl
  i0 := by kernel_rfl
  i2 := by kernel_rfl
  i3 := by kernel_rfl
  i4 := by kernel_rfl
  i5 := by kernel_rfl
  i9 := by kernel_rfl
  i20 := by kernel_rfl
  i37 := by kernel_rfl
  i46 := by kernel_rfl
  i51 := by kernel_rfl
  i53 := by kernel_rfl
  i171 := by kernel_rfl
  i173 := by kernel_rfl
  i212 := by kernel_rfl
  i232 := by kernel_rfl
  i233 := by kernel_rfl
  m17 := by kernel_rfl
  m18 := by kernel_rfl
  m19 := by kernel_rfl }
end Go.Proofs

namespace Go.Proofs.YtojoehfldbimpaaGreatDoor.Pl
open Go Go.RowKit
theorem w_key {h : FH} {w : World} (hs : Sub h w) (ht : TabH Tryz.prog h) (l : List (List Int)) (al2 : Option Addr) (cl2 : Nat) (_q1 : RSl h al2 l) (_q2 : l.length ≤ cl2) (K : (List UInt8) → Prop) (hF : F_key l K) : Calls Tryz.prog 49 #[.slice al2 l.length cl2] w fun e w' => ∃ r : List UInt8, K r ∧ e = .returned (strV r) ∧ Below w.heap.size w w' := by
 refine enter (args := [vSl al2 l cl2]) Tryz.func49 rfl Tryz.ntmps49 rfl hs ?_
 refine .seq (.region (.V (asg rfl) ?_))
 refine .nil (.seqN (.seq (.region (.V (asg rfl) ?_))))
 refine .nil (.seqN (.seq (.seq (.region (.V (mv rfl) ?_)))))
 refine .V (ln rfl tS35.is) ?_
 refine .V (mv rfl) ?_
 refine .nil (.seqN (.block ?_))
 refine .nilSl 5 1 ?_
 refine .cast (A' := [OwnSl 5 1 none (([] : List UInt8).length) 0 (flL ([] : List UInt8))]) rfl ?_
 obtain ⟨I1, μ1, q2075, q2076⟩ := hF
 refine .loop' (σ := Int × List UInt8 × Option Addr × Nat) (fun z => I1 z.1 z.2.1) (fun z => μ1 z.1 z.2.1) (fun z => [(3, vSl z.2.2.1 z.2.1 z.2.2.2), (8, vSl al2 l cl2), (9, iV ((l.length : Nat) : Int)), (10, iV z.1)]) (fun z => [OwnSl 5 1 z.2.2.1 z.2.1.length z.2.2.2 (flL z.2.1)]) (fun _ => h) (0, ([] : List UInt8), none, 0) q2075 sb rfl (FH.le_refl _) ?_
 rintro ⟨t10, b, ab, cb⟩ q2075
 have hF := q2076 t10 b q2075
 show J _ _ _ _ _ [(3, vSl ab b cb), (8, vSl al2 l cl2), (9, iV ((l.length : Nat) : Int)), (10, iV t10)] [OwnSl 5 1 ab b.length cb (flL b)] h
 refine .seq (.region (.V (bi rfl rfl rfl) ?_))
 refine .nil (.seqN (.seq ?_))
 refine .cond rfl (fun q2079 => ?_) (fun q2079 => ?_)
 ·replace hF := hF.1 q2079
  refine .skip (.seqN (.seq (.block (.seq (.region ?_)))))
  obtain ⟨q2354, hF⟩ := hF
  refine .V (ix rfl rfl tS35 (_q1.ne (by decide) (inb_pos q2354)) q2354) ?_
  obtain ⟨_, ⟨a, c, rfl, q2355, q2356⟩, q2357⟩ := _q1.elem q2354
  refine .V (ld1 (v := .slice a ((gt l t10).length) c) rfl tO22 (cellH (q2357 (by decide) 0 _ rfl))) ?_
  refine .V (asg rfl) ?_
  refine .nil (.seqN (.seq (.seq (.region (.V (mv rfl) ?_)))))
  refine .V (ln rfl tS22.is) ?_
  refine .V (mv rfl) ?_
  refine .nil (.seqN (.block ?_))
  obtain ⟨I2, μ2, q2465, q2466⟩ := hF
  refine .loop' (σ := Int × List UInt8 × Option Addr × Nat) (fun z => I2 z.1 z.2.1) (fun z => μ2 z.1 z.2.1) (fun z => [(3, vSl z.2.2.1 z.2.1 z.2.2.2), (8, vSl al2 l cl2), (9, iV ((l.length : Nat) : Int)), (10, iV t10), (14, .slice a ((gt l t10).length) c), (15, iV (((gt l t10).length : Nat) : Int)), (16, iV z.1)]) (fun z => [OwnSl 5 1 z.2.2.1 z.2.1.length z.2.2.2 (flL z.2.1)]) (fun _ => h) (0, b, ab, cb) q2465 sb rfl (FH.le_refl _) ?_
  rintro ⟨t16, b3, ab3, cb3⟩ q2465
  have hF := q2466 t16 b3 q2465
  show J _ _ _ _ _ [(3, vSl ab3 b3 cb3), (8, vSl al2 l cl2), (9, iV ((l.length : Nat) : Int)), (10, iV t10), (14, .slice a ((gt l t10).length) c), (15, iV (((gt l t10).length : Nat) : Int)), (16, iV t16)] [OwnSl 5 1 ab3 b3.length cb3 (flL b3)] h
  refine .seq (.region (.V (bi rfl rfl rfl) ?_))
  refine .nil (.seqN (.seq ?_))
  refine .cond rfl (fun q2469 => ?_) (fun q2469 => ?_)
  ·replace hF := hF.1 q2469
   refine .skip (.seqN (.seq (.block (.seq (.region ?_)))))
   obtain ⟨q2482, hF⟩ := hF
   refine .V (ix rfl rfl tS22 (q2356.ne (by decide) (inb_pos q2482)) q2482) ?_
   refine .V (ld1 (v := iV (gt (gt l t10) t16)) rfl tO3 (cellH (q2356.elemF q2482 (by decide) 0 _ rfl))) ?_
   refine .V (asg rfl) ?_
   refine .nil (.seqN (.region (.V (mv rfl) ?_)))
   refine .V (mv rfl) ?_
   obtain ⟨q2483, q2484, hF⟩ := hF
   refine ai2 (bs := b3) YtojoehfldbimpaaGreatDoor.lays176 hs ht Tryz.call85 rfl rfl rfl rfl rfl q2483 q2484 rfl (fun a2 c2 => ?_)
   refine .cast (A' := [OwnSl 5 1 a2 ((b3 ++ Lib.itoa (gt (gt l t10) t16)).length) c2 (flL (b3 ++ Lib.itoa (gt (gt l t10) t16)))]) rfl ?_
   refine bs2 (cs := #[.int .u8 44]) (pv := [(0, .int .u8 44)]) tS110 rfl rfl (by decide) (by decide) rfl rfl rfl (fun a3 _ => ?_)
   refine .cast (A' := [OwnSl 5 1 a3 (([44] : List UInt8).length) 1 (flL ([44] : List UInt8)), OwnSl 5 1 a2 ((b3 ++ Lib.itoa (gt (gt l t10) t16)).length) c2 (flL (b3 ++ Lib.itoa (gt (gt l t10) t16)))]) rfl ?_
   obtain ⟨q2486, hF⟩ := hF
   have q2487 : (b3 ++ Lib.itoa (gt (gt l t10) t16)).length + ([44] : List UInt8).length = (((b3 ++ Lib.itoa (gt (gt l t10) t16)) ++ ([44] : List UInt8))).length := len_app rfl rfl
   refine app (k := 1) (news := flL ([44] : List UInt8)) (cs' := flL ((b3 ++ Lib.itoa (gt (gt l t10) t16)) ++ ([44] : List UInt8))) (nm := (((b3 ++ Lib.itoa (gt (gt l t10) t16)) ++ ([44] : List UInt8))).length) tS110 rfl (by decide) rfl rfl rfl (by rw [flL_len]; rfl) (srcS (k := 0) rfl) (flL_one _) (room_of q2487 q2486).1 (room_of q2487 q2486).2 q2487 (flL_append _ _).symm rfl (fun a4 c3 => ?_)
   refine .cast (A' := [OwnSl 5 1 a3 (([44] : List UInt8).length) 1 (flL ([44] : List UInt8)), OwnSl 5 1 a4 (((b3 ++ Lib.itoa (gt (gt l t10) t16)) ++ ([44] : List UInt8)).length) c3 (flL ((b3 ++ Lib.itoa (gt (gt l t10) t16)) ++ ([44] : List UInt8)))]) rfl ?_
   refine .V (asg rfl) ?_
   refine .nil (.blkN (.seqN (.region (.V (bi rfl rfl rfl) ?_))))
   refine .V (mv rfl) ?_
   refine .nil ?_
   refine .sel0 [1] (by decide) rfl ?_
   exact .RO (wr (t16 + 1), ((b3 ++ Lib.itoa (gt (gt l t10) t16)) ++ ([44] : List UInt8)), a4, c3) hF.1 hF.2
  replace hF := hF.2 q2469
  refine .exit (.seqX (.seqX (.blkX (.seqN (.region (.V (mv rfl) ?_))))))
  refine bs2 (cs := #[.int .u8 59]) (pv := [(0, .int .u8 59)]) tS110 rfl rfl (by decide) (by decide) rfl rfl rfl (fun a5 _ => ?_)
  refine .cast (A' := [OwnSl 5 1 a5 (([59] : List UInt8).length) 1 (flL ([59] : List UInt8)), OwnSl 5 1 ab3 b3.length cb3 (flL b3)]) rfl ?_
  obtain ⟨q2489, hF⟩ := hF
  have q2490 : b3.length + ([59] : List UInt8).length = ((b3 ++ ([59] : List UInt8))).length := len_app rfl rfl
  refine app (k := 1) (news := flL ([59] : List UInt8)) (cs' := flL (b3 ++ ([59] : List UInt8))) (nm := ((b3 ++ ([59] : List UInt8))).length) tS110 rfl (by decide) rfl rfl rfl (by rw [flL_len]; rfl) (srcS (k := 0) rfl) (flL_one _) (room_of q2490 q2489).1 (room_of q2490 q2489).2 q2490 (flL_append _ _).symm rfl (fun a6 c4 => ?_)
  refine .cast (A' := [OwnSl 5 1 a5 (([59] : List UInt8).length) 1 (flL ([59] : List UInt8)), OwnSl 5 1 a6 ((b3 ++ ([59] : List UInt8)).length) c4 (flL (b3 ++ ([59] : List UInt8)))]) rfl ?_
  refine .V (asg rfl) ?_
  refine .nil (.blkN (.seqN (.region (.V (bi rfl rfl rfl) ?_))))
  refine .V (mv rfl) ?_
  refine .nil ?_
  refine .sel0 [1] (by decide) rfl ?_
  exact .RO (wr (t10 + 1), (b3 ++ ([59] : List UInt8)), a6, c4) hF.1 hF.2
 replace hF := hF.2 q2079
 refine .exit (.seqX (.seqX (.blkX (.seqN (.seq (.region (.V (mv rfl) ?_)))))))
 refine .V (cvO (k := 0) Tryz.underlying110 Tryz.underlying5 Tryz.underlying9 rfl rfl) ?_
 refine .V (asg rfl) ?_
 refine .nil (.seqN (.ret ?_))
 refine .res1 rfl (rvT rfl) (fun w' S => ⟨b, hF, rfl, S.below⟩)
theorem c_key {h : FH} {w : World} (hs : Sub h w) (ht : TabH Tryz.prog h) (l : List (List Int)) (al2 : Option Addr) (cl2 : Nat) (_q1 : RSl h al2 l) (_q2 : l.length ≤ cl2) (hp : pre_key l) : Calls Tryz.prog 49 #[.slice al2 l.length cl2] w fun e w' => e = .returned (strV (sp_key l)) ∧ Below w.heap.size w w' :=
 (w_key hs ht l al2 cl2 _q1 _q2 (fun r => r = sp_key l) (ok_key l hp)).mono fun _ _ ⟨_, hk, he, hb⟩ => ⟨by rw [he, hk], hb⟩
set_option maxHeartbeats 8000000 in
theorem w_scompare {h : FH} {w : World} (hs : Sub h w) (s1 : List Int) (as1 : Option Addr) (cs1 : Nat) (_q1 : RSl h as1 s1) (_q2 : s1.length ≤ cs1) (s2 : List Int) (as2 : Option Addr) (cs2 : Nat) (_q3 : RSl h as2 s2) (_q4 : s2.length ≤ cs2) (K : Int → Prop) (hF : F_scompare s1 s2 K) : Calls Tryz.prog 92 #[.slice as1 s1.length cs1, .slice as2 s2.length cs2] w fun e w' => ∃ r : Int, K r ∧ e = .returned (iV r) ∧ Below w.heap.size w w' := by
 refine enter (args := [vSl as1 s1 cs1, vSl as2 s2 cs2]) Tryz.func92 rfl Tryz.ntmps92 rfl hs ?_
 refine .seq (.region (.V (asg rfl) ?_))
 refine .nil (.seqN (.seq (.seq (.region (.V (mv rfl) ?_)))))
 refine .V (ln rfl tS22.is) ?_
 refine .V (mv rfl) ?_
 refine .nil (.seqN (.block ?_))
 obtain ⟨I1, μ1, q112, q113⟩ := hF
 refine .loop' (σ := Int) (fun z => I1 z) (fun z => μ1 z) (fun z => [(0, vSl as1 s1 cs1), (1, vSl as2 s2 cs2), (9, vSl as1 s1 cs1), (10, iV ((s1.length : Nat) : Int)), (11, iV z)]) (fun _ => []) (fun _ => h) 0 q112 sb rfl (FH.le_refl _) ?_
 rintro t11 q112
 have hF := q113 t11 q112
 show J _ _ _ _ _ [(0, vSl as1 s1 cs1), (1, vSl as2 s2 cs2), (9, vSl as1 s1 cs1), (10, iV ((s1.length : Nat) : Int)), (11, iV t11)] [] h
 refine .seq (.region (.V (bi rfl rfl rfl) ?_))
 refine .nil (.seqN (.seq ?_))
 refine .cond rfl (fun q116 => ?_) (fun q116 => ?_)
 ·replace hF := hF.1 q116
  refine .skip (.seqN (.seq (.block (.seq (.region (.V (mv rfl) ?_))))))
  obtain ⟨q129, hF⟩ := hF
  refine .V (ix rfl rfl tS22 (_q1.ne (by decide) (inb_pos q129)) q129) ?_
  refine .V (ld1 (v := iV (gt s1 t11)) rfl tO3 (cellH (_q1.elemF q129 (by decide) 0 _ rfl))) ?_
  refine .V (asg rfl) ?_
  refine .V (asg rfl) ?_
  refine .nil (.seqN (.seq (.seq (.region (.V (mv rfl) ?_)))))
  refine .V (mv rfl) ?_
  refine .V (ln rfl tS22.is) ?_
  refine .V (bi rfl rfl rfl) ?_
  refine .nil (.seqN ?_)
  refine .cond rfl (fun q131 => ?_) (fun q131 => ?_)
  ·replace hF := hF.1 q131
   refine .seq (.region (.V (asg rfl) ?_))
   refine .nil (.seqN (.ret (.seqR (.blkR (.seqR (.seqR (.blkR (.seqR ?_))))))))
   refine .res1 rfl (rvT rfl) (fun w' S => ⟨1, hF, rfl, S.below⟩)
  replace hF := hF.2 q131
  refine .skip (.seqN (.seq (.region (.V (mv rfl) ?_))))
  refine .V (mv rfl) ?_
  obtain ⟨q132, hF⟩ := hF
  refine .V (ix rfl rfl tS22 (_q3.ne (by decide) (inb_pos q132)) q132) ?_
  refine .V (ld1 (v := iV (gt s2 t11)) rfl tO3 (cellH (_q3.elemF q132 (by decide) 0 _ rfl))) ?_
  refine .V (asg rfl) ?_
  refine .nil (.seqN (.seq (.region (.V (mv rfl) ?_))))
  refine .V (mv rfl) ?_
  obtain ⟨r2, q133⟩ : ∃ y_ : Int, y_ = sp_compare (gt s1 t11) (gt s2 t11) := ⟨_, rfl⟩
  replace hF := hF r2 q133
  refine .C (cl (v := iV r2) Tryz.call111 rfl rfl (fun w S => (by rw [q133]; exact c_compare S.sub (gt s1 t11) (gt s2 t11) ))) ?_
  refine .V (asg rfl) ?_
  refine .nil (.seqN (.seq (.region (.V (mv rfl) ?_))))
  refine .V (bi rfl rfl rfl) ?_
  refine .nil (.seqN ?_)
  refine .cond rfl (fun q134 => ?_) (fun q134 => ?_)
  ·replace hF := hF.1 q134
   refine .seq (.region (.V (mv rfl) ?_))
   refine .V (asg rfl) ?_
   refine .nil (.seqN (.ret (.blkR (.seqR (.seqR (.blkR (.seqR ?_)))))))
   refine .res1 rfl (rvT rfl) (fun w' S => ⟨r2, hF, rfl, S.below⟩)
  replace hF := hF.2 q134
  refine .skip (.blkN (.seqN (.region (.V (bi rfl rfl rfl) ?_))))
  refine .V (mv rfl) ?_
  refine .nil ?_
  exact .RO (wr (t11 + 1)) hF.1 hF.2
 replace hF := hF.2 q116
 refine .exit (.seqX (.seqX (.blkX (.seqN (.seq (.seq (.region (.V (mv rfl) ?_))))))))
 refine .V (ln rfl tS22.is) ?_
 refine .V (mv rfl) ?_
 refine .V (ln rfl tS22.is) ?_
 refine .V (bi rfl rfl rfl) ?_
 refine .nil (.seqN ?_)
 refine .cond rfl (fun q136 => ?_) (fun q136 => ?_)
 ·replace hF := hF.1 q136
  refine .seq (.region (.V (asg rfl) ?_))
  refine .nil (.seqN (.ret (.seqR ?_)))
  refine .res1 rfl (rvT rfl) (fun w' S => ⟨(-1), hF, rfl, S.below⟩)
 replace hF := hF.2 q136
 refine .skip (.seqN (.seq (.region (.V (asg rfl) ?_))))
 refine .nil (.seqN (.ret ?_))
 refine .res1 rfl (rvT rfl) (fun w' S => ⟨0, hF, rfl, S.below⟩)
theorem c_scompare {h : FH} {w : World} (hs : Sub h w) (s1 : List Int) (as1 : Option Addr) (cs1 : Nat) (_q1 : RSl h as1 s1) (_q2 : s1.length ≤ cs1) (s2 : List Int) (as2 : Option Addr) (cs2 : Nat) (_q3 : RSl h as2 s2) (_q4 : s2.length ≤ cs2) (hp : pre_scompare s1 s2) : Calls Tryz.prog 92 #[.slice as1 s1.length cs1, .slice as2 s2.length cs2] w fun e w' => e = .returned (iV (sp_scompare s1 s2)) ∧ Below w.heap.size w w' :=
 (w_scompare hs s1 as1 cs1 _q1 _q2 s2 as2 cs2 _q3 _q4 (fun r => r = sp_scompare s1 s2) (ok_scompare s1 s2 hp)).mono fun _ _ ⟨_, hk, he, hb⟩ => ⟨by rw [he, hk], hb⟩
theorem w_sequal {h : FH} {w : World} (hs : Sub h w) (s1 : List Int) (as1 : Option Addr) (cs1 : Nat) (_q1 : RSl h as1 s1) (_q2 : s1.length ≤ cs1) (s2 : List Int) (as2 : Option Addr) (cs2 : Nat) (_q3 : RSl h as2 s2) (_q4 : s2.length ≤ cs2) (K : Bool → Prop) (hF : F_sequal s1 s2 K) : Calls Tryz.prog 109 #[.slice as1 s1.length cs1, .slice as2 s2.length cs2] w fun e w' => ∃ r : Bool, K r ∧ e = .returned (.bool r) ∧ Below w.heap.size w w' := by
 refine enter (args := [vSl as1 s1 cs1, vSl as2 s2 cs2]) Tryz.func109 rfl Tryz.ntmps109 rfl hs ?_
 refine .seq (.region (.V (asg rfl) ?_))
 refine .nil (.seqN (.seq (.seq (.region (.V (mv rfl) ?_)))))
 refine .V (ln rfl tS22.is) ?_
 refine .V (mv rfl) ?_
 refine .V (ln rfl tS22.is) ?_
 refine .V (bi rfl rfl rfl) ?_
 refine .nil (.seqN ?_)
 refine .cond rfl (fun q6 => ?_) (fun q6 => ?_)
 ·replace hF := hF.1 q6
  refine .seq (.region (.V (asg rfl) ?_))
  refine .nil (.seqN (.ret (.seqR ?_)))
  refine .res1 rfl (rvT rfl) (fun w' S => ⟨false, hF, rfl, S.below⟩)
 replace hF := hF.2 q6
 refine .skip (.seqN (.seq (.seq (.region (.V (mv rfl) ?_)))))
 refine .V (ln rfl tS22.is) ?_
 refine .V (mv rfl) ?_
 refine .nil (.seqN (.block ?_))
 obtain ⟨I1, μ1, q69, q70⟩ := hF
 refine .loop' (σ := Int) (fun z => I1 z) (fun z => μ1 z) (fun z => [(0, vSl as1 s1 cs1), (1, vSl as2 s2 cs2), (12, iV ((s1.length : Nat) : Int)), (13, iV z)]) (fun _ => []) (fun _ => h) 0 q69 sb rfl (FH.le_refl _) ?_
 rintro t13 q69
 have hF := q70 t13 q69
 show J _ _ _ _ _ [(0, vSl as1 s1 cs1), (1, vSl as2 s2 cs2), (12, iV ((s1.length : Nat) : Int)), (13, iV t13)] [] h
 refine .seq (.region (.V (bi rfl rfl rfl) ?_))
 refine .nil (.seqN (.seq ?_))
 refine .cond rfl (fun q73 => ?_) (fun q73 => ?_)
 ·replace hF := hF.1 q73
  refine .skip (.seqN (.seq (.block (.seq (.region (.V (mv rfl) ?_))))))
  refine .V (asg rfl) ?_
  refine .nil (.seqN (.seq ?_))
  refine .open_ (by kernel_rfl) (by kernel_rfl) ?_
  refine .V (mv rfl) ?_
  refine .V (mv rfl) ?_
  obtain ⟨q80, hF⟩ := hF
  refine .V (ix rfl rfl tS22 (_q1.ne (by decide) (inb_pos q80)) q80) ?_
  refine .V (ld1 (v := iV (gt s1 t13)) rfl tO3 (cellH (_q1.elemF q80 (by decide) 0 _ rfl))) ?_
  refine .V (mv rfl) ?_
  refine .V (mv rfl) ?_
  obtain ⟨q81, hF⟩ := hF
  refine .V (ix rfl rfl tS22 (_q3.ne (by decide) (inb_pos q81)) q81) ?_
  refine .V (ld1 (v := iV (gt s2 t13)) rfl tO3 (cellH (_q3.elemF q81 (by decide) 0 _ rfl))) ?_
  refine .V (bi rfl rfl rfl) ?_
  refine .fin ?_
  refine .seqN ?_
  refine .cond rfl (fun q82 => ?_) (fun q82 => ?_)
  ·replace hF := hF.1 q82
   refine .seq (.region (.V (asg rfl) ?_))
   refine .nil (.seqN (.ret (.blkR (.seqR (.seqR (.blkR (.seqR ?_)))))))
   refine .res1 rfl (rvT rfl) (fun w' S => ⟨false, hF, rfl, S.below⟩)
  replace hF := hF.2 q82
  refine .skip (.blkN (.seqN (.region (.V (bi rfl rfl rfl) ?_))))
  refine .V (mv rfl) ?_
  refine .nil ?_
  exact .RO (wr (t13 + 1)) hF.1 hF.2
 replace hF := hF.2 q73
 refine .exit (.seqX (.seqX (.blkX (.seqN (.seq (.region (.V (asg rfl) ?_)))))))
 refine .nil (.seqN (.ret ?_))
 refine .res1 rfl (rvT rfl) (fun w' S => ⟨true, hF, rfl, S.below⟩)
theorem c_sequal {h : FH} {w : World} (hs : Sub h w) (s1 : List Int) (as1 : Option Addr) (cs1 : Nat) (_q1 : RSl h as1 s1) (_q2 : s1.length ≤ cs1) (s2 : List Int) (as2 : Option Addr) (cs2 : Nat) (_q3 : RSl h as2 s2) (_q4 : s2.length ≤ cs2) (hp : pre_sequal s1 s2) : Calls Tryz.prog 109 #[.slice as1 s1.length cs1, .slice as2 s2.length cs2] w fun e w' => e = .returned (.bool (sp_sequal s1 s2)) ∧ Below w.heap.size w w' :=
 (w_sequal hs s1 as1 cs1 _q1 _q2 s2 as2 cs2 _q3 _q4 (fun r => r = sp_sequal s1 s2) (ok_sequal s1 s2 hp)).mono fun _ _ ⟨_, hk, he, hb⟩ => ⟨by rw [he, hk], hb⟩
theorem w_indexR {h : FH} {w : World} (hs : Sub h w) (s_ : List (List Int)) (as_ : Option Addr) (cs_ : Nat) (_q1 : RSl h as_ s_) (_q2 : s_.length ≤ cs_) (pf : (List Int) → Bool) (Df : (List Int) → Prop) (ff : FuncId) (firstf capsf : Array Value) (hff : ∀ args w, (callFunc ff args).run Tryz.prog w = .ok (.enter ff args) w) (hpf : ∀ (x : List Int) (a : Option Addr) (c : Nat), RSl h a x → x.length ≤ c → ∀ (w' : World), Df x → Sub h w' → Calls Tryz.prog ff (firstf.toList ++ [(.slice a x.length c : Value)] ++ capsf.toList).toArray w' fun e w'' => e = .returned (.bool (pf x)) ∧ Below w'.heap.size w' w'') (K : Int → Prop) (hF : F_indexR s_ pf Df K) : Calls Tryz.prog 94 #[.slice as_ s_.length cs_, .func (.func ff) firstf capsf] w fun e w' => ∃ r : Int, K r ∧ e = .returned (iV r) ∧ Below w.heap.size w w' := by
 refine enter (args := [vSl as_ s_ cs_, .func (.func ff) firstf capsf]) Tryz.func94 rfl Tryz.ntmps94 rfl hs ?_
 refine .seq (.region (.V (asg rfl) ?_))
 refine .nil (.seqN (.seq (.seq (.region (.V (mv rfl) ?_)))))
 refine .V (ln rfl tS35.is) ?_
 refine .V (mv rfl) ?_
 refine .nil (.seqN (.block ?_))
 obtain ⟨I1, μ1, q125, q126⟩ := hF
 refine .loop' (σ := Int) (fun z => I1 z) (fun z => μ1 z) (fun z => [(0, vSl as_ s_ cs_), (1, .func (.func ff) firstf capsf), (7, iV ((s_.length : Nat) : Int)), (8, iV z)]) (fun _ => []) (fun _ => h) 0 q125 sb rfl (FH.le_refl _) ?_
 rintro t8 q125
 have hF := q126 t8 q125
 show J _ _ _ _ _ [(0, vSl as_ s_ cs_), (1, .func (.func ff) firstf capsf), (7, iV ((s_.length : Nat) : Int)), (8, iV t8)] [] h
 refine .seq (.region (.V (bi rfl rfl rfl) ?_))
 refine .nil (.seqN (.seq ?_))
 refine .cond rfl (fun q129 => ?_) (fun q129 => ?_)
 ·replace hF := hF.1 q129
  refine .skip (.seqN (.seq (.block (.seq (.region (.V (mv rfl) ?_))))))
  refine .V (asg rfl) ?_
  refine .nil (.seqN (.seq (.region (.V (mv rfl) ?_))))
  refine .V (mv rfl) ?_
  refine .V (mv rfl) ?_
  obtain ⟨q144, hF⟩ := hF
  refine .V (ix rfl rfl tS35 (_q1.ne (by decide) (inb_pos q144)) q144) ?_
  obtain ⟨_, ⟨a, c, rfl, q145, q146⟩, q147⟩ := _q1.elem q144
  refine .V (ld1 (v := .slice a ((gt s_ t8).length) c) rfl tO22 (cellH (q147 (by decide) 0 _ rfl))) ?_
  obtain ⟨q148, hF⟩ := hF
  obtain ⟨r2, q149⟩ : ∃ y_ : Bool, y_ = pf (gt s_ t8) := ⟨_, rfl⟩
  replace hF := hF r2 q149
  refine .C (cl (v := .bool r2) hff rfl rfl (fun w S => (by rw [q149]; exact hpf (gt s_ t8) a c q146 q145 w q148 (S.sub.anti (FH.le_refl _))))) ?_
  refine .nil (.seqN ?_)
  refine .cond rfl (fun q150 => ?_) (fun q150 => ?_)
  ·replace hF := hF.1 q150
   refine .seq (.region (.V (mv rfl) ?_))
   refine .V (asg rfl) ?_
   refine .nil (.seqN (.ret (.blkR (.seqR (.seqR (.blkR (.seqR ?_)))))))
   refine .res1 rfl (rvT rfl) (fun w' S => ⟨t8, hF, rfl, S.below⟩)
  replace hF := hF.2 q150
  refine .skip (.blkN (.seqN (.region (.V (bi rfl rfl rfl) ?_))))
  refine .V (mv rfl) ?_
  refine .nil ?_
  exact .RO (wr (t8 + 1)) hF.1 hF.2
 replace hF := hF.2 q129
 refine .exit (.seqX (.seqX (.blkX (.seqN (.seq (.region (.V (asg rfl) ?_)))))))
 refine .nil (.seqN (.ret ?_))
 refine .res1 rfl (rvT rfl) (fun w' S => ⟨(-1), hF, rfl, S.below⟩)
theorem c_indexR {h : FH} {w : World} (hs : Sub h w) (s_ : List (List Int)) (as_ : Option Addr) (cs_ : Nat) (_q1 : RSl h as_ s_) (_q2 : s_.length ≤ cs_) (pf : (List Int) → Bool) (Df : (List Int) → Prop) (ff : FuncId) (firstf capsf : Array Value) (hff : ∀ args w, (callFunc ff args).run Tryz.prog w = .ok (.enter ff args) w) (hpf : ∀ (x : List Int) (a : Option Addr) (c : Nat), RSl h a x → x.length ≤ c → ∀ (w' : World), Df x → Sub h w' → Calls Tryz.prog ff (firstf.toList ++ [(.slice a x.length c : Value)] ++ capsf.toList).toArray w' fun e w'' => e = .returned (.bool (pf x)) ∧ Below w'.heap.size w' w'') (hp : pre_any s_ pf Df) : Calls Tryz.prog 94 #[.slice as_ s_.length cs_, .func (.func ff) firstf capsf] w fun e w' => e = .returned (iV (sp_indexF s_ pf Df)) ∧ Below w.heap.size w w' :=
 (w_indexR hs s_ as_ cs_ _q1 _q2 pf Df ff firstf capsf hff hpf (fun r => r = sp_indexF s_ pf Df) (ok_indexR s_ pf Df hp)).mono fun _ _ ⟨_, hk, he, hb⟩ => ⟨by rw [he, hk], hb⟩
theorem w_containsR {h : FH} {w : World} (hs : Sub h w) (s_ : List (List Int)) (as_ : Option Addr) (cs_ : Nat) (_q1 : RSl h as_ s_) (_q2 : s_.length ≤ cs_) (pf : (List Int) → Bool) (Df : (List Int) → Prop) (ff : FuncId) (firstf capsf : Array Value) (hff : ∀ args w, (callFunc ff args).run Tryz.prog w = .ok (.enter ff args) w) (hpf : ∀ (x : List Int) (a : Option Addr) (c : Nat), RSl h a x → x.length ≤ c → ∀ (w' : World), Df x → Sub h w' → Calls Tryz.prog ff (firstf.toList ++ [(.slice a x.length c : Value)] ++ capsf.toList).toArray w' fun e w'' => e = .returned (.bool (pf x)) ∧ Below w'.heap.size w' w'') (K : Bool → Prop) (hF : F_containsR s_ pf Df K) : Calls Tryz.prog 66 #[.slice as_ s_.length cs_, .func (.func ff) firstf capsf] w fun e w' => ∃ r : Bool, K r ∧ e = .returned (.bool r) ∧ Below w.heap.size w w' := by
 refine enter (args := [vSl as_ s_ cs_, .func (.func ff) firstf capsf]) Tryz.func66 rfl Tryz.ntmps66 rfl hs ?_
 refine .seq (.region (.V (asg rfl) ?_))
 refine .nil (.seqN (.seq (.region (.V (mv rfl) ?_))))
 refine .V (mv rfl) ?_
 obtain ⟨q3, hF⟩ := hF
 obtain ⟨r2, q4⟩ : ∃ y_ : Int, y_ = sp_indexF s_ pf Df := ⟨_, rfl⟩
 replace hF := hF r2 q4
 refine .C (cl (v := iV r2) Tryz.call94 rfl rfl (fun w S => (by rw [q4]; exact c_indexR S.sub s_ as_ cs_ _q1 _q2 pf Df ff firstf capsf hff hpf q3))) ?_
 refine .V (bi rfl rfl rfl) ?_
 refine .V (asg rfl) ?_
 refine .nil (.seqN (.ret ?_))
 refine .res1 rfl (rvT rfl) (fun w' S => ⟨decide (0 ≤ r2), hF, rfl, S.below⟩)
theorem c_containsR {h : FH} {w : World} (hs : Sub h w) (s_ : List (List Int)) (as_ : Option Addr) (cs_ : Nat) (_q1 : RSl h as_ s_) (_q2 : s_.length ≤ cs_) (pf : (List Int) → Bool) (Df : (List Int) → Prop) (ff : FuncId) (firstf capsf : Array Value) (hff : ∀ args w, (callFunc ff args).run Tryz.prog w = .ok (.enter ff args) w) (hpf : ∀ (x : List Int) (a : Option Addr) (c : Nat), RSl h a x → x.length ≤ c → ∀ (w' : World), Df x → Sub h w' → Calls Tryz.prog ff (firstf.toList ++ [(.slice a x.length c : Value)] ++ capsf.toList).toArray w' fun e w'' => e = .returned (.bool (pf x)) ∧ Below w'.heap.size w' w'') (hp : pre_any s_ pf Df) : Calls Tryz.prog 66 #[.slice as_ s_.length cs_, .func (.func ff) firstf capsf] w fun e w' => e = .returned (.bool (sp_any s_ pf Df)) ∧ Below w.heap.size w w' :=
 (w_containsR hs s_ as_ cs_ _q1 _q2 pf Df ff firstf capsf hff hpf (fun r => r = sp_any s_ pf Df) (ok_containsR s_ pf Df hp)).mono fun _ _ ⟨_, hk, he, hb⟩ => ⟨by rw [he, hk], hb⟩
theorem w_reverse {h : FH} {w : World} (hs : Sub h w) (s_ : List Int) (as_ : Option Addr) (cs_ : Nat) {gX : FH} (ownX : OwnSl 3 1 as_ s_.length cs_ (flL s_) gX) (subX : Sub gX w) (disX : Disj h gX) (K : (List Int) → Prop) (hF : F_reverse s_ K) : Calls Tryz.prog 86 #[.slice as_ s_.length cs_] w fun e w' => ∃ r : List Int, K r ∧ e = .returned (.tuple #[]) ∧ SH (Kp.ex w h gX) h w' [OwnSl 3 1 as_ s_.length cs_ (flL r)] := by
 refine enterX (X := OwnSl 3 1 as_ s_.length cs_ (flL s_)) (args := [vSl as_ s_ cs_]) Tryz.func86 rfl Tryz.ntmps86 rfl hs subX disX ownX ?_
 refine .seq (.region (.V (mv rfl) ?_))
 refine .V (ln rfl tS22.is) ?_
 refine .V (bi rfl rfl rfl) ?_
 refine .V (asg rfl) ?_
 refine .V (asg rfl) ?_
 refine .nil (.seqN (.block ?_))
 obtain ⟨I1, μ1, q52, q53⟩ := hF
 refine .loop' (σ := Int × Int × List Int) (fun z => I1 z.1 z.2.1 z.2.2 ∧ z.2.2.length = s_.length) (fun z => μ1 z.1 z.2.1 z.2.2) (fun z => [(0, vSl as_ s_ cs_), (2, iV z.1), (3, iV z.2.1)]) (fun z => [OwnSl 3 1 as_ s_.length cs_ (flL z.2.2)]) (fun _ => h) (0, wr (((s_.length : Nat) : Int) - 1), s_) ⟨q52, rfl⟩ sb rfl (FH.le_refl _) ?_
 rintro ⟨i, j, s_2⟩ ⟨q52, q27⟩
 have hF := q53 i j s_2 q52
 show J _ _ _ _ _ [(0, vSl as_ s_ cs_), (2, iV i), (3, iV j)] [OwnSl 3 1 as_ s_.length cs_ (flL s_2)] h
 refine .seq (.seq (.region (.V (mv rfl) ?_)))
 refine .V (mv rfl) ?_
 refine .V (bi rfl rfl rfl) ?_
 refine .nil (.seqN ?_)
 refine .cond rfl (fun q55 => ?_) (fun q55 => ?_)
 ·replace hF := hF.1 q55
  refine .skip (.seqN (.seq (.block ?_)))
  obtain ⟨q70, q71, hF⟩ := hF
  refine .openA (s0 := [(0, vSl as_ s_ cs_), (2, iV i), (3, iV j)]) [0, 1, 2, 3, 4, 5, 6, 7, 8, 9, 10, 11, 12] [(0, vSl as_ s_ cs_), (1, iV i), (2, vSl as_ s_ cs_), (3, iV j), (4, vSl as_ s_ cs_), (5, iV j), (6, .pointer (some (ead as_ (j.toNat * 1)))), (7, iV (gt s_2 j)), (8, vSl as_ s_ cs_), (9, iV i), (10, .pointer (some (ead as_ (i.toNat * 1)))), (11, iV (gt s_2 i)), (12, .pointer (some (ead as_ (i.toNat * 1))))] (by kernel_rfl) sb [0, 2, 3] [] rfl (by kernel_rfl) ?_
  refine .step [13] 13 rfl (by kernel_rfl) (by kernel_rfl) (.v [] rfl rfl rfl rfl rfl rfl (fun _ => mv rfl) (.v [] rfl rfl rfl rfl rfl rfl (fun _ => mv rfl) (.v [] rfl rfl rfl rfl rfl rfl (fun _ => mv rfl) (.v [] rfl rfl rfl rfl rfl rfl (fun _ => mv rfl) (.v [] rfl rfl rfl rfl rfl rfl (fun _ => mv rfl) (.v [] rfl rfl rfl rfl rfl rfl (fun _ => mv rfl) (.v [(18, vSl as_ s_ cs_), (19, iV j)] rfl rfl rfl rfl rfl rfl (fun _ => ixS rfl rfl tS22 (k := 0) rfl (inb_n q70 q27)) (.v [(20, .pointer (some (ead as_ (j.toNat * 1))))] rfl rfl rfl rfl rfl rfl (fun _ => ld1 (v := iV (gt s_2 j)) rfl tO3 (cellS (k := 0) rfl (flL_get q70 (j := 0) rfl))) (.v [] rfl rfl rfl rfl rfl rfl (fun _ => mv rfl) (.v [] rfl rfl rfl rfl rfl rfl (fun _ => mv rfl) (.v [(22, vSl as_ s_ cs_), (23, iV i)] rfl rfl rfl rfl rfl rfl (fun _ => ixS rfl rfl tS22 (k := 0) rfl (inb_n q71 q27)) (.v [(24, .pointer (some (ead as_ (i.toNat * 1))))] rfl rfl rfl rfl rfl rfl (fun _ => ld1 (v := iV (gt s_2 i)) rfl tO3 (cellS (k := 0) rfl (flL_get q71 (j := 0) rfl))) (.v [(14, vSl as_ s_ cs_), (15, iV i), (14, vSl as_ s_ cs_), (15, iV i), (18, vSl as_ s_ cs_), (19, iV j), (20, .pointer (some (ead as_ (j.toNat * 1)))), (21, iV (gt s_2 j)), (25, iV (gt s_2 i))] rfl rfl rfl rfl rfl rfl (fun _ => ixS rfl rfl tS22 (k := 0) rfl (inb_n q71 q27)) (.nil)))))))))))))) (.cons [(26, .pointer (some (ead as_ (i.toNat * 1)))), (21, iV (gt s_2 j)), (14, vSl as_ s_ cs_), (15, iV i), (18, vSl as_ s_ cs_), (19, iV j), (20, .pointer (some (ead as_ (j.toNat * 1)))), (21, iV (gt s_2 j)), (25, iV (gt s_2 i))] rfl rfl (fun sL hL => ?_) (.nil))
  obtain ⟨d, q72⟩ : ∃ y_ : List Int, y_ = (s_2.set (i).toNat (gt s_2 j)) := ⟨_, rfl⟩
  replace hF := hF d q72
  refine stS (k := 0) (cs' := flL d) rfl (fun _ => rfl) rfl rfl (fun w => (tO3 w).2) rfl rfl rfl (by rw [← q27]; exact inb_pos q71) (fl_room q71) (by rw [q72]; exact flL_set q71 (gt s_2 j)) ?_
  have q73 : d.length = s_.length := by rw [q72]; exact List.length_set.trans q27
  refine .cast (A' := [OwnSl 3 1 as_ s_.length cs_ (flL d)]) rfl ?_
  refine .nil ?_
  obtain ⟨q74, hF⟩ := hF
  refine .jaN (M := [12, 7, 0, 1, 4, 5, 6, 11, 10, 8, 9]) (C' := [2, 3, 14]) (pre := [(14, .pointer (some (ead as_ (j.toNat * 1))))]) [0, 2, 3] hL rfl rfl rfl rfl rfl (by kernel_rfl) ?_
  refine .step [15] 15 rfl (by kernel_rfl) (by kernel_rfl) (.v [] rfl rfl rfl rfl rfl rfl (fun _ => mv rfl) (.v [] rfl rfl rfl rfl rfl rfl (fun _ => mv rfl) (.v [(16, vSl as_ s_ cs_), (17, iV j), (14, vSl as_ s_ cs_), (15, iV i), (16, vSl as_ s_ cs_), (17, iV j), (18, vSl as_ s_ cs_), (19, iV j), (20, .pointer (some (ead as_ (j.toNat * 1)))), (21, iV (gt s_2 j)), (22, vSl as_ s_ cs_), (23, iV i), (24, .pointer (some (ead as_ (i.toNat * 1)))), (25, iV (gt s_2 i)), (26, .pointer (some (ead as_ (i.toNat * 1))))] rfl rfl rfl rfl rfl rfl (fun _ => ixS rfl rfl tS22 (k := 0) rfl (inb_n q74 q73)) (.nil)))) (.cons [(27, .pointer (some (ead as_ (j.toNat * 1)))), (25, iV (gt s_2 i)), (14, vSl as_ s_ cs_), (15, iV i), (16, vSl as_ s_ cs_), (17, iV j), (18, vSl as_ s_ cs_), (19, iV j), (20, .pointer (some (ead as_ (j.toNat * 1)))), (21, iV (gt s_2 j)), (22, vSl as_ s_ cs_), (23, iV i), (24, .pointer (some (ead as_ (i.toNat * 1)))), (25, iV (gt s_2 i)), (26, .pointer (some (ead as_ (i.toNat * 1))))] rfl rfl (fun sL hL => ?_) (.nil))
  obtain ⟨d2, q75⟩ : ∃ y_ : List Int, y_ = (d.set (j).toNat (gt s_2 i)) := ⟨_, rfl⟩
  replace hF := hF d2 q75
  refine stS (k := 0) (cs' := flL d2) rfl (fun _ => rfl) rfl rfl (fun w => (tO3 w).2) rfl rfl rfl (by rw [← q73]; exact inb_pos q74) (fl_room q74) (by rw [q75]; exact flL_set q74 (gt s_2 i)) ?_
  have q76 : d2.length = s_.length := by rw [q75]; exact List.length_set.trans q73
  refine .cast (A' := [OwnSl 3 1 as_ s_.length cs_ (flL d2)]) rfl ?_
  refine .nil ?_
  refine .jaN (M := [14, 2, 3]) (C' := []) (pre := []) [0, 2, 3] hL rfl rfl rfl rfl rfl (by kernel_rfl) ?_
  refine .last [(14, vSl as_ s_ cs_), (15, iV i), (16, vSl as_ s_ cs_), (17, iV j), (18, vSl as_ s_ cs_), (19, iV j), (20, .pointer (some (ead as_ (j.toNat * 1)))), (21, iV (gt s_2 j)), (22, vSl as_ s_ cs_), (23, iV i), (24, .pointer (some (ead as_ (i.toNat * 1)))), (25, iV (gt s_2 i)), (26, .pointer (some (ead as_ (i.toNat * 1)))), (27, .pointer (some (ead as_ (j.toNat * 1))))] rfl (by kernel_rfl) (.nil) rfl ?_
  refine .blkN (.seqN (.region (.V (mv rfl) ?_)))
  refine .V (bi rfl rfl rfl) ?_
  refine .V (mv rfl) ?_
  refine .V (bi rfl rfl rfl) ?_
  refine .V (asg rfl) ?_
  refine .V (asg rfl) ?_
  refine .nil ?_
  exact .RO (wr (i + 1), wr (j - 1), d2) ⟨hF.1, q76⟩ hF.2
 replace hF := hF.2 q55
 refine .exit (.seqX (.seqX (.blkX ?_)))
 refine .res0 (.inr rfl) rfl (fun w' S => ⟨s_2, hF, rfl, S.pick (k := 0) rfl⟩)
theorem c_reverse {h : FH} {w : World} (hs : Sub h w) (s_ : List Int) (as_ : Option Addr) (cs_ : Nat) {gX : FH} (ownX : OwnSl 3 1 as_ s_.length cs_ (flL s_) gX) (subX : Sub gX w) (disX : Disj h gX) (hp : pre_reverse s_) : Calls Tryz.prog 86 #[.slice as_ s_.length cs_] w fun e w' => e = .returned (.tuple #[]) ∧ SH (Kp.ex w h gX) h w' [OwnSl 3 1 as_ s_.length cs_ (flL (sp_reverse s_))] :=
 (w_reverse hs s_ as_ cs_ ownX subX disX (fun r => r = sp_reverse s_) (ok_reverse s_ hp)).mono fun _ _ ⟨r, hk, he, hS⟩ => ⟨he, by rw [← hk]; exact hS⟩
theorem w_unknownFault {h : FH} {w : World} (hs : Sub h w) (t : Task) (at_ : Option Addr) (ct : Nat) (_q1 : RSl h at_ t.init) (_q2 : t.init.length ≤ ct) (at_2 : Option Addr) (ct2 : Nat) (_q3 : RSl h at_2 t.goal) (_q4 : t.goal.length ≤ ct2) (at_3 : Option Addr) (ct3 : Nat) (_q5 : RSl h at_3 t.ops) (_q6 : t.ops.length ≤ ct3) (unknown : List Int) (aunknown : Option Addr) (cunknown : Nat) (_q7 : RSl h aunknown unknown) (_q8 : unknown.length ≤ cunknown) (K : Fault → Prop) (hF : F_unknownFault t unknown K) : Calls Tryz.prog 45 #[.agg #[iV t.facts, .slice at_ t.init.length ct, .slice at_2 t.goal.length ct2, .slice at_3 t.ops.length ct3], .slice aunknown unknown.length cunknown] w fun e w' => ∃ r : Fault, K r ∧ e = .returned (.agg #[iV r.code, iV r.index]) ∧ Below w.heap.size w w' := by
 refine enter (args := [.agg (tF t at_ ct at_2 ct2 at_3 ct3).toArray, vSl aunknown unknown cunknown]) Tryz.func45 rfl Tryz.ntmps45 rfl hs ?_
 refine .seq (.region ?_)
 refine bx (vs := (tF t at_ ct at_2 ct2 at_3 ct3)) rfl rfl rfl (fun pt => ?_)
 refine al tZ27 rfl (fun pv => ?_)
 refine .nil (.seqN (.seq (.seq (.region (.V (ldA (cs := (tF t at_ ct at_2 ct2 at_3 ct3)) rfl tA25 rfl (cellsB (off := 0) (k := 1) rfl (m := 4) rfl)) ?_)))))
 obtain ⟨r2, q9⟩ : ∃ y_ : Fault, y_ = sp_validate t := ⟨_, rfl⟩
 replace hF := hF r2 q9
 refine .C (cl (v := .agg #[iV r2.code, iV r2.index]) Tryz.call79 rfl rfl (fun w S => (by rw [q9]; exact c_validate S.sub t at_ ct _q1 _q2 at_2 ct2 _q3 _q4 at_3 ct3 _q5 _q6 ))) ?_
 refine al tZ27 rfl (fun pf => ?_)
 refine st (p := pf) (off := 0) (k := 0) (vs := [iV r2.code, iV r2.index]) rfl rfl rfl (fun w => (tA27 w).2) rfl rfl rfl rfl ?_
 refine .cast (A' := [Box pf [iV r2.code, iV r2.index], Box pv [iV 0, iV 0], Box pt (tF t at_ ct at_2 ct2 at_3 ct3)]) rfl ?_
 refine .nil (.seqN (.seq (.region (.V (ldA (cs := [iV r2.code, iV r2.index]) rfl tA27 rfl (cellsB (off := 0) (k := 0) rfl (m := 2) rfl)) ?_))))
 refine .V (bld (cs := #[iV 0, iV 0]) (pv := []) tB27 rfl rfl) ?_
 refine .V (ne2 tE27 rfl rfl) ?_
 refine .nil (.seqN ?_)
 refine .cond rfl (fun q11 => ?_) (fun q11 => ?_)
 ·replace hF := hF.1 q11
  refine .seq (.region (.V (ldA (cs := [iV r2.code, iV r2.index]) rfl tA27 rfl (cellsB (off := 0) (k := 0) rfl (m := 2) rfl)) ?_))
  refine st (p := pv) (off := 0) (k := 1) (vs := [iV r2.code, iV r2.index]) rfl rfl rfl (fun w => (tA27 w).2) rfl rfl rfl rfl ?_
  refine .cast (A' := [Box pf [iV r2.code, iV r2.index], Box pv [iV r2.code, iV r2.index], Box pt (tF t at_ ct at_2 ct2 at_3 ct3)]) rfl ?_
  refine .nil (.seqN (.ret (.seqR ?_)))
  refine .res1 rfl (rvC rfl tA27 (k := 1) rfl rfl) (fun w' S => ⟨r2, hF, rfl, S.below⟩)
 replace hF := hF.2 q11
 refine .skip (.seqN (.seq (.block (.seq (.region (.V (mv rfl) ?_))))))
 refine .V (ln rfl tS22.is) ?_
 refine .V (bi rfl rfl rfl) ?_
 refine .V (asg rfl) ?_
 refine .nil (.seqN ?_)
 refine .cond rfl (fun q20 => ?_) (fun q20 => ?_)
 ·replace hF := hF.1 q20
  refine .seq (.region (.V (bld (cs := #[iV 2, iV (-8)]) (pv := [(0, iV 2), (1, iV (-8))]) tB27 rfl rfl) ?_))
  refine st (p := pv) (off := 0) (k := 1) (vs := [iV 2, iV (-8)]) rfl rfl rfl (fun w => (tA27 w).2) rfl rfl rfl rfl ?_
  refine .cast (A' := [Box pf [iV r2.code, iV r2.index], Box pv [iV 2, iV (-8)], Box pt (tF t at_ ct at_2 ct2 at_3 ct3)]) rfl ?_
  refine .nil (.seqN (.ret (.blkR (.seqR ?_))))
  refine .res1 rfl (rvC rfl tA27 (k := 1) rfl rfl) (fun w' S => ⟨(⟨2, (-8)⟩ : Fault), hF, rfl, S.below⟩)
 replace hF := hF.2 q20
 refine .seq (.region (.V (mv rfl) ?_))
 refine .V (fa rfl tF25_0) ?_
 refine .V (ld1 rfl tO3 (cellB (off := 0) (k := 2) rfl rfl)) ?_
 obtain ⟨q21, hF⟩ := hF
 obtain ⟨r3, q22⟩ : ∃ y_ : Bool, y_ = sp_isSet unknown t.facts := ⟨_, rfl⟩
 replace hF := hF r3 q22
 refine .C (cl (v := .bool r3) Tryz.call61 rfl rfl (fun w S => (by rw [q22]; exact c_isSet S.sub unknown aunknown cunknown _q7 _q8 t.facts q21))) ?_
 refine .V (nt rfl) ?_
 refine .V (asg rfl) ?_
 refine .nil (.seqN ?_)
 refine .cond rfl (fun q23 => ?_) (fun q23 => ?_)
 ·replace hF := hF.1 q23
  refine .seq (.region (.V (bld (cs := #[iV 5, iV (-8)]) (pv := [(0, iV 5), (1, iV (-8))]) tB27 rfl rfl) ?_))
  refine st (p := pv) (off := 0) (k := 1) (vs := [iV 5, iV (-8)]) rfl rfl rfl (fun w => (tA27 w).2) rfl rfl rfl rfl ?_
  refine .cast (A' := [Box pf [iV r2.code, iV r2.index], Box pv [iV 5, iV (-8)], Box pt (tF t at_ ct at_2 ct2 at_3 ct3)]) rfl ?_
  refine .nil (.seqN (.ret (.blkR (.seqR ?_))))
  refine .res1 rfl (rvC rfl tA27 (k := 1) rfl rfl) (fun w' S => ⟨(⟨5, (-8)⟩ : Fault), hF, rfl, S.below⟩)
 replace hF := hF.2 q23
 refine .skip (.blkN (.seqN (.seq (.region (.V (bld (cs := #[iV 0, iV 0]) (pv := []) tB27 rfl rfl) ?_)))))
 refine st (p := pv) (off := 0) (k := 1) (vs := [iV 0, iV 0]) rfl rfl rfl (fun w => (tA27 w).2) rfl rfl rfl rfl ?_
 refine .cast (A' := [Box pf [iV r2.code, iV r2.index], Box pv [iV 0, iV 0], Box pt (tF t at_ ct at_2 ct2 at_3 ct3)]) rfl ?_
 refine .nil (.seqN (.ret ?_))
 refine .res1 rfl (rvC rfl tA27 (k := 1) rfl rfl) (fun w' S => ⟨(⟨0, 0⟩ : Fault), hF, rfl, S.below⟩)
theorem c_unknownFault {h : FH} {w : World} (hs : Sub h w) (t : Task) (at_ : Option Addr) (ct : Nat) (_q1 : RSl h at_ t.init) (_q2 : t.init.length ≤ ct) (at_2 : Option Addr) (ct2 : Nat) (_q3 : RSl h at_2 t.goal) (_q4 : t.goal.length ≤ ct2) (at_3 : Option Addr) (ct3 : Nat) (_q5 : RSl h at_3 t.ops) (_q6 : t.ops.length ≤ ct3) (unknown : List Int) (aunknown : Option Addr) (cunknown : Nat) (_q7 : RSl h aunknown unknown) (_q8 : unknown.length ≤ cunknown) : Calls Tryz.prog 45 #[.agg #[iV t.facts, .slice at_ t.init.length ct, .slice at_2 t.goal.length ct2, .slice at_3 t.ops.length ct3], .slice aunknown unknown.length cunknown] w fun e w' => e = .returned (.agg #[iV (sp_unknownFault t unknown).code, iV (sp_unknownFault t unknown).index]) ∧ Below w.heap.size w w' :=
 (w_unknownFault hs t at_ ct _q1 _q2 at_2 ct2 _q3 _q4 at_3 ct3 _q5 _q6 unknown aunknown cunknown _q7 _q8 (fun r => r = sp_unknownFault t unknown) (ok_unknownFault t unknown)).mono fun _ _ ⟨_, hk, he, hb⟩ => ⟨by rw [he, hk], hb⟩
theorem w_sure1 {h : FH} {w : World} (hs : Sub h w) (s_ : List Int) (as_ : Option Addr) (cs_ : Nat) (_q1 : RSl h as_ s_) (_q2 : s_.length ≤ cs_) (x : List Int) (ax : Option Addr) (cx : Nat) (_q3 : RSl h ax x) (_q4 : x.length ≤ cx) (px : Addr) (_q5 : CellsAt h px [.slice ax x.length cx]) (K : Bool → Prop) (hF : F_sure1 s_ x K) : Calls Tryz.prog 87 #[.slice as_ s_.length cs_, .pointer (some px)] w fun e w' => ∃ r : Bool, K r ∧ e = .returned (.bool r) ∧ Below w.heap.size w w' := by
 refine enter (args := [vSl as_ s_ cs_, .pointer (some px)]) Tryz.func87 rfl Tryz.ntmps87 rfl hs ?_
 refine .seq (.region (.V (asg rfl) ?_))
 refine .nil (.seqN (.seq (.region (.V (mv rfl) ?_))))
 refine .V (ld1 (v := vSl ax x cx) rfl tO22 (cellH (CellsAt.mono (FH.le_refl _) _q5 0 _ rfl))) ?_
 obtain ⟨q6, hF⟩ := hF
 obtain ⟨r2, q7⟩ : ∃ y_ : Bool, y_ = sp_contains2 s_ x := ⟨_, rfl⟩
 replace hF := hF r2 q7
 refine .C (cl (v := .bool r2) Tryz.call88 rfl rfl (fun w S => (by rw [q7]; exact c_contains2 S.sub s_ as_ cs_ _q1 _q2 x ax cx _q3 _q4 q6))) ?_
 refine .V (nt rfl) ?_
 refine .V (asg rfl) ?_
 refine .nil (.seqN (.ret ?_))
 refine .res1 rfl (rvT rfl) (fun w' S => ⟨!r2, hF, rfl, S.below⟩)
theorem c_sure1 {h : FH} {w : World} (hs : Sub h w) (s_ : List Int) (as_ : Option Addr) (cs_ : Nat) (_q1 : RSl h as_ s_) (_q2 : s_.length ≤ cs_) (x : List Int) (ax : Option Addr) (cx : Nat) (_q3 : RSl h ax x) (_q4 : x.length ≤ cx) (px : Addr) (_q5 : CellsAt h px [.slice ax x.length cx]) (hp : pre_sure1 s_ x) : Calls Tryz.prog 87 #[.slice as_ s_.length cs_, .pointer (some px)] w fun e w' => e = .returned (.bool (sp_sure1 s_ x)) ∧ Below w.heap.size w w' :=
 (w_sure1 hs s_ as_ cs_ _q1 _q2 x ax cx _q3 _q4 px _q5 (fun r => r = sp_sure1 s_ x) (ok_sure1 s_ x hp)).mono fun _ _ ⟨_, hk, he, hb⟩ => ⟨by rw [he, hk], hb⟩
theorem w_sure {h : FH} {w : World} (hs : Sub h w) (worlds : List (List Int)) (aworlds : Option Addr) (cworlds : Nat) (_q1 : RSl h aworlds worlds) (_q2 : worlds.length ≤ cworlds) (facts : List Int) (afacts : Option Addr) (cfacts : Nat) (_q3 : RSl h afacts facts) (_q4 : facts.length ≤ cfacts) (K : Bool → Prop) (hF : F_sure worlds facts K) : Calls Tryz.prog 52 #[.slice aworlds worlds.length cworlds, .slice afacts facts.length cfacts] w fun e w' => ∃ r : Bool, K r ∧ e = .returned (.bool r) ∧ Below w.heap.size w w' := by
 refine enter (args := [vSl aworlds worlds cworlds, vSl afacts facts cfacts]) Tryz.func52 rfl Tryz.ntmps52 rfl hs ?_
 refine .seq (.region ?_)
 refine bx (vs := [vSl afacts facts cfacts]) rfl rfl rfl (fun pfacts => ?_)
 refine .V (asg rfl) ?_
 refine .nil (.seqN (.seq (.region (.V (mv rfl) ?_))))
 refine .V (mkf (vf := []) (vc := [.pointer (some pfacts)]) rfl rfl) ?_
 obtain ⟨q5, hF⟩ := hF
 obtain ⟨r2, q6⟩ : ∃ y_ : Bool, y_ = sp_any worlds (fun y_ : List Int => sp_sure1 y_ facts) (fun y_ : List Int => pre_sure1 y_ facts) := ⟨_, rfl⟩
 replace hF := hF r2 q6
 refine .C (cl (v := .bool r2) Tryz.call66 rfl rfl (fun w S => (by rw [q6]; obtain ⟨h_, hl_, hs_, hb_⟩ := lookB S (k := 0) rfl; exact c_containsR hs_ worlds aworlds cworlds (RSl.mono hl_ _q1) _q2 (fun y_ : List Int => sp_sure1 y_ facts) (fun y_ : List Int => pre_sure1 y_ facts) 87 #[] #[.pointer (some pfacts)] Tryz.call87 (fun x a_ c_ r_ l_ w' hD hs' => c_sure1 hs' x a_ c_ r_ l_ facts afacts cfacts (RSl.mono hl_ _q3) _q4 pfacts hb_ hD) q5))) ?_
 refine .V (nt rfl) ?_
 refine .V (asg rfl) ?_
 refine .nil (.seqN (.ret ?_))
 refine .res1 rfl (rvT rfl) (fun w' S => ⟨!r2, hF, rfl, S.below⟩)
theorem c_sure {h : FH} {w : World} (hs : Sub h w) (worlds : List (List Int)) (aworlds : Option Addr) (cworlds : Nat) (_q1 : RSl h aworlds worlds) (_q2 : worlds.length ≤ cworlds) (facts : List Int) (afacts : Option Addr) (cfacts : Nat) (_q3 : RSl h afacts facts) (_q4 : facts.length ≤ cfacts) (hp : pre_sure worlds facts) : Calls Tryz.prog 52 #[.slice aworlds worlds.length cworlds, .slice afacts facts.length cfacts] w fun e w' => e = .returned (.bool (sp_sure worlds facts)) ∧ Below w.heap.size w w' :=
 (w_sure hs worlds aworlds cworlds _q1 _q2 facts afacts cfacts _q3 _q4 (fun r => r = sp_sure worlds facts) (ok_sure worlds facts hp)).mono fun _ _ ⟨_, hk, he, hb⟩ => ⟨by rw [he, hk], hb⟩
end Go.Proofs.YtojoehfldbimpaaGreatDoor.Pl

namespace Go.Proofs.YtojoehfldbimpaaGreatDoor.Pl.Pd
open Go Go.RowKit
def dr (w : World) : Nat := w.drawn
theorem dr_drew (w : World) : dr w ≤ dr w.drew := by unfold dr; first | exact Nat.le_succ _ | exact Nat.le_refl _
structure Below (B : Nat) (w w' : World) : Prop where
 os : w'.os = w.os
 tape : w'.tape = w.tape
 output : w'.output = w.output
 size : w.heap.size ≤ w'.heap.size
 block : ∀ k, k < B → w'.heap[k]? = w.heap[k]?
 drawn : dr w ≤ dr w'
theorem Below.refl (B : Nat) (w : World) : Below B w w := ⟨rfl, rfl, rfl, Nat.le_refl _, fun _ _ => rfl, Nat.le_refl _⟩
theorem Below.drew {B : Nat} {a w : World} (h : Below B a w) : Below B a w.drew := ⟨h.os, h.tape, h.output, h.size, h.block, Nat.le_trans h.drawn (dr_drew _)⟩
structure Kept (K : Kp) (w : World) : Prop where
 os : w.os = K.w.os
 tape : w.tape = K.w.tape
 output : w.output = K.w.output
 size : K.w.heap.size ≤ w.heap.size
 block : ∀ b, K.keep b → w.heap[b]? = K.w.heap[b]?
 drawn : dr K.w ≤ dr w
theorem Kept.start (w : World) (h : FH) : Kept (Kp.all w h) w := ⟨rfl, rfl, rfl, Nat.le_refl _, fun _ _ => rfl, Nat.le_refl _⟩
theorem Kept.below {w w' : World} {h : FH} (k : Kept (Kp.all w h) w') : Below w.heap.size w w' := ⟨k.os, k.tape, k.output, k.size, k.block, k.drawn⟩
structure SH (K : Kp) (h : FH) (w : World) (A : List Asrt) : Prop where
 kept : Kept K w
 sub : Sub h w
 fresh : ∀ b, h b ≠ none → K.h b ≠ none ∨ ¬ K.keep b
 parts : ∃ gs, Parts K h w A gs
section
variable {K : Kp} {h : FH} {w : World} {A : List Asrt}
theorem SH.start (w : World) (h : FH) (s : Sub h w) : SH (Kp.all w h) h w [] :=
 ⟨Kept.start w h, s, fun _ h => .inl h, [], rfl, by simp, by simp, by simp⟩
theorem SH.below {w0 : World} {h0 : FH} (s : SH (Kp.all w0 h0) h w A) : Below w0.heap.size w0 w := s.kept.below
theorem SH.anti {h' : FH} (hl : FH.le h h') (s : SH K h' w A) : SH K h w A := by
 obtain ⟨gs, p1, p2, p3, p4⟩ := s.parts
 refine ⟨s.kept, s.sub.anti hl, fun b hb => s.fresh b (by
  cases e : h b with
  | none => exact absurd e hb
  | some o => rw [hl b o e]; simp), gs, p1, p2, fun i g hi => ?_, p4⟩
 have o := p3 i g hi
 refine ⟨fun b => ?_, o.sub, o.free⟩
 rcases o.disj b with e | e
 ·cases hb : h b with
  | none => exact .inl rfl
  | some x => rw [hl _ _ hb] at e; cases e
 ·exact .inr e
theorem SH.ext {w' : World} (s : SH K h w A) (hb : Below w.heap.size w w') : SH K h w' A := by
 obtain ⟨gs, p1, p2, p3, p4⟩ := s.parts
 refine ⟨⟨hb.os.trans s.kept.os, hb.tape.trans s.kept.tape, hb.output.trans s.kept.output, Nat.le_trans s.kept.size hb.size, fun b hk => ?_, Nat.le_trans s.kept.drawn hb.drawn⟩, s.sub.ext hb.block, s.fresh, gs, p1, p2, fun i g hi => ⟨(p3 i g hi).disj, (p3 i g hi).sub.ext hb.block, (p3 i g hi).free⟩, p4⟩
 rw [hb.block b (Nat.lt_of_lt_of_le (K.lt b hk) s.kept.size)]
 exact s.kept.block b hk
theorem SH.drop {X : Asrt} (s : SH K h w (X :: A)) : SH K h w A := by
 obtain ⟨gs, p1, p2, p3, p4⟩ := s.parts
 cases gs with
 | nil => simp at p1
 | cons g gs =>
  refine ⟨s.kept, s.sub, s.fresh, gs, by simpa using p1, fun i g1 Y hi hY => p2 (i + 1) g1 Y (by simpa using hi) (by simpa using hY), fun i g1 hi => p3 (i + 1) g1 (by simpa using hi), fun i j g1 g2 hij hi hj => p4 (i + 1) (j + 1) g1 g2 (by omega) (by simpa using hi) (by simpa using hj)⟩
end
section
variable {P : Program} {K : Kp} {n : Fr}
def J (P : Program) (K : Kp) (n : Fr) (c : Code) (Q : Exit → Act → World → Prop) (s : St) (A : List Asrt) (h : FH) : Prop :=
 ∀ a w, Holds n s a → SH K h w A → WC P n.ro c Q a w
def JL (P : Program) (K : Kp) (n : Fr) (ops : Array Oper) (l : List Oper) (Q : Exit → Act → World → Prop) (s : St) (A : List Asrt) (h : FH) : Prop :=
 ∀ a w, Holds n s a → SH K h w A → WL P n.ro ops Q l a w
def E (K : Kp) (n : Fr) (Q : Exit → Act → World → Prop) (e : Exit) (s : St) (A : List Asrt) (h : FH) : Prop :=
 ∀ a w, Holds n s a → SH K h w A → Q e a w
variable {Q : Exit → Act → World → Prop} {s s' : St} {A : List Asrt} {h h' : FH}
theorem J.up (hl : FH.le h h') {c : Code} (j : J P K n c Q s A h) : J P K n c Q s A h' := fun a w H S => j a w H (S.anti hl)
theorem J.sub (hs : SubSt s' s) {c : Code} (j : J P K n c Q s' A h) : J P K n c Q s A h := fun a w H S => j a w (H.sub hs) S
theorem J.drop {c : Code} {X : Asrt} (j : J P K n c Q s A h) : J P K n c Q s (X :: A) h := fun a w H S => j a w H S.drop
theorem J.seq {x y : Code} (j : J P K n x (Exit.then (fun a w => WC P n.ro y Q a w) Q) s A h) : J P K n (.seq x y) Q s A h := by
 obtain ⟨m, ro, dl⟩ := n
 cases ro with
 | none => exact fun a w H S => wp_seq (j a w H S)
 | some l => exact fun a w H S => wpIn_seq (j a w H S)
theorem J.cond {c : Operand} {x y : Code} {b : Bool} (hc : ev s c = some (.bool b)) (ht : b = true → J P K n x Q s A h) (hf : b = false → J P K n y Q s A h) : J P K n (.cond c x y) Q s A h := by
 obtain ⟨m, ro, dl⟩ := n
 cases ro with
 | none => exact fun a w H S => wp_cond_split (H.ev hc) (fun e => ht e a w H S) (fun e => hf e a w H S)
 | some l => exact fun a w H S => wpIn_cond_split (H.ev hc) (fun e => ht e a w H S) (fun e => hf e a w H S)
theorem J.block {id : Nat} {c : Code} (j : J P K n c (Exit.inBlock id Q) s A h) : J P K n (.block id c) Q s A h := by
 obtain ⟨m, ro, dl⟩ := n
 cases ro with
 | none => exact fun a w H S => wp_block (j a w H S)
 | some l => exact fun a w H S => wpIn_block (j a w H S)
theorem J.region {id : Nat} {l : List Oper} (j : JL P K n l.toArray l Q s A h) : J P K n (.region id l.toArray false) Q s A h := by
 obtain ⟨m, ro, dl⟩ := n
 cases ro with
 | none => exact fun a w H S => wp_region_lit (j a w H S)
 | some l => exact fun a w H S => wpIn_region_lit (j a w H S)
theorem J.skip (j : E K n Q .normal s A h) : J P K n .skip Q s A h := by
 obtain ⟨m, ro, dl⟩ := n
 cases ro with
 | none => exact fun a w H S => wp_skip (j a w H S)
 | some l => exact fun a w H S => wpIn_skip (j a w H S)
theorem J.exit {id : Nat} (j : E K n Q (.exit id) s A h) : J P K n (.exit id) Q s A h := by
 obtain ⟨m, ro, dl⟩ := n
 cases ro with
 | none => exact fun a w H S => wp_exit (j a w H S)
 | some l => exact fun a w H S => wpIn_exit (j a w H S)
theorem J.ret (j : E K n Q .ret s A h) : J P K n .ret Q s A h := by
 obtain ⟨m, ro, dl⟩ := n
 cases ro with
 | none => exact fun a w H S => wp_ret (j a w H S)
 | some l => exact fun a w H S => wpIn_ret (j a w H S)
theorem JL.nil {ops : Array Oper} (j : E K n Q .normal s A h) : JL P K n ops [] Q s A h := by
 obtain ⟨m, ro, dl⟩ := n
 cases ro with
 | none => exact fun a w H S => wpList_nil (P := P) (ops := ops) (j a w H S)
 | some l => exact fun a w H S => wpListIn_nil (F := FR l) (n := 0) (P := P) (ops := ops) (j a w H S)
theorem JL.up (hl : FH.le h h') {ops : Array Oper} {l : List Oper} (j : JL P K n ops l Q s A h) : JL P K n ops l Q s A h' := fun a w H S => j a w H (S.anti hl)
theorem JL.sub (hs : SubSt s' s) {ops : Array Oper} {l : List Oper} (j : JL P K n ops l Q s' A h) : JL P K n ops l Q s A h := fun a w H S => j a w (H.sub hs) S
theorem JL.drop {ops : Array Oper} {l : List Oper} {X : Asrt} (j : JL P K n ops l Q s A h) : JL P K n ops l Q s (X :: A) h := fun a w H S => j a w H S.drop
theorem E.up {e : Exit} (hl : FH.le h h') (j : E K n Q e s A h) : E K n Q e s A h' := fun a w H S => j a w H (S.anti hl)
theorem E.sub {e : Exit} (hs : SubSt s' s) (j : E K n Q e s' A h) : E K n Q e s A h := fun a w H S => j a w (H.sub hs) S
theorem E.drop {e : Exit} {X : Asrt} (j : E K n Q e s A h) : E K n Q e s (X :: A) h := fun a w H S => j a w H S.drop
theorem E.seqN {y : Code} (j : J P K n y Q s A h) : E K n (Exit.then (fun a w => WC P n.ro y Q a w) Q) .normal s A h := j
theorem E.seqR {F : Act → World → Prop} (j : E K n Q .ret s A h) : E K n (Exit.then F Q) .ret s A h := j
theorem E.seqX {F : Act → World → Prop} {i : Nat} (j : E K n Q (.exit i) s A h) : E K n (Exit.then F Q) (.exit i) s A h := j
theorem E.blkN {id : Nat} (j : E K n Q .normal s A h) : E K n (Exit.inBlock id Q) .normal s A h := j
theorem E.blkR {id : Nat} (j : E K n Q .ret s A h) : E K n (Exit.inBlock id Q) .ret s A h := j
theorem E.blkX {id : Nat} (j : E K n Q .normal s A h) : E K n (Exit.inBlock id Q) (.exit id) s A h := fun a w H S => by
 simp only [Exit.inBlock, if_true]; exact j a w H S
theorem J.loopN {σ : Type} (I : σ → Prop) (μ : σ → Nat) (N : σ → Fr) (S : σ → St) (M : σ → List Asrt) (F : σ → FH) {c : Code} (x0 : σ) (hI : I x0) (hn : ∀ x, (N x).ro = n.ro) (h0 : N x0 = n)
  (round : ∀ x, I x → J P K (N x) c (Exit.then (fun a w => ∃ y, I y ∧ μ y < μ x ∧ Holds (N y) (S y) a ∧ SH K (F y) w (M y)) Q) (S x) (M x) (F x)) :
  J P K n (.loop c) Q (S x0) (M x0) (F x0) := fun a w H Sh => by
 refine WC.loop (fun a w => ∃ x, I x ∧ Holds (N x) (S x) a ∧ SH K (F x) w (M x)) (fun a w => leastOf fun k => ∃ x, μ x = k ∧ I x ∧ Holds (N x) (S x) a ∧ SH K (F x) w (M x)) ⟨x0, hI, by rw [h0]; exact H, Sh⟩ ?_
 intro a w hx
 have he : ∃ k, ∃ x, μ x = k ∧ I x ∧ Holds (N x) (S x) a ∧ SH K (F x) w (M x) := by obtain ⟨x, h⟩ := hx; exact ⟨μ x, x, rfl, h⟩
 obtain ⟨⟨x, h0, h1, h2, h3⟩, _⟩ := leastOf_spec he
 have hr := round x h1 a w h2 h3
 rw [hn] at hr
 refine WC.mono (fun e a' w' q => ?_) hr
 cases e with
 | normal =>
  obtain ⟨y, y1, y2, y3, y4⟩ := q
  refine ⟨⟨y, y1, y3, y4⟩, ?_⟩
  have hl := (leastOf_spec (p := fun k => ∃ x, μ x = k ∧ I x ∧ Holds (N x) (S x) a' ∧ SH K (F x) w' (M x)) ⟨μ y, y, rfl, y1, y3, y4⟩).2 (μ y) ⟨y, rfl, y1, y3, y4⟩
  exact Nat.lt_of_le_of_lt hl (by rw [← h0]; exact y2)
 | exit id => exact q
 | goto l => exact q
 | ret => exact q
 | panic ch => exact q
 | outgrown => exact q
theorem J.loop {σ : Type} (I : σ → Prop) (μ : σ → Nat) (S : σ → St) (M : σ → List Asrt) (F : σ → FH) {c : Code} (x0 : σ) (hI : I x0)
  (round : ∀ x, I x → J P K n c (Exit.then (fun a w => ∃ y, I y ∧ μ y < μ x ∧ Holds n (S y) a ∧ SH K (F y) w (M y)) Q) (S x) (M x) (F x)) :
  J P K n (.loop c) Q (S x0) (M x0) (F x0) := J.loopN I μ (fun _ => n) S M F x0 hI (fun _ => rfl) rfl round
theorem E.round {σ : Type} {I : σ → Prop} {μ : σ → Nat} {S : σ → St} {M : σ → List Asrt} {F : σ → FH} {m : Nat} (y : σ) (hI : I y) (hμ : μ y < m) (hs : SubSt (S y) s) (hm : M y = A) (hf : FH.le (F y) h) :
  E K n (Exit.then (fun a w => ∃ y, I y ∧ μ y < m ∧ Holds n (S y) a ∧ SH K (F y) w (M y)) Q) .normal s A h :=
 fun a w H Sh => ⟨y, hI, hμ, H.sub hs, by rw [hm]; exact Sh.anti hf⟩
end
section
variable {P : Program}
variable {K : Kp} {n : Fr} {ops : Array Oper} {Q : Exit → Act → World → Prop} {s : St} {A : List Asrt} {h : FH} {rest : List Oper}
def VF (P : Program) (K : Kp) (n : Fr) (s : St) (A : List Asrt) (h : FH) (o : Oper) (v : Value) : Prop := ∀ a w, Holds n s a → SH K h w A → (execOp a.eval o).run P w = .ok (.value v) w
def CF (P : Program) (K : Kp) (n : Fr) (s : St) (A : List Asrt) (h : FH) (o : Oper) (v : Value) : Prop := ∀ a w, Holds n s a → SH K h w A →
 ∃ f args, (execOp a.eval o).run P w = .ok (.enter f args) w ∧ Calls P f args w fun e w' => e = .returned v ∧ Below w.heap.size w w'
theorem JL.v {o : Oper} {d : Nat} {v : Value} (hx : VF P K n s A h o v) (hg : o.guard = none) (hd : o.dst = some d) (hn : Nat.blt d n.sz = true)
  (k : JL P K n ops rest Q ((d, v) :: s) A h) : JL P K n ops (o :: rest) Q s A h :=
 fun a w H S => WL.val hg (hx a w H S) (k _ w (by rw [hd]; exact H.put v hn) S)
theorem JL.c {o : Oper} {d : Nat} {v : Value} (hx : CF P K n s A h o v) (hg : o.guard = none) (hd : o.dst = some d) (hn : Nat.blt d n.sz = true)
  (k : JL P K n ops rest Q ((d, v) :: s) A h) : JL P K n ops (o :: rest) Q s A h :=
 fun a w H S => by
  obtain ⟨f, args, hr, hc⟩ := hx a w H S
  exact WL.enter hg hr (hc.mono fun e w' ⟨he, hb⟩ => ⟨v, he, k _ w' (by rw [hd]; exact H.put v hn) (S.ext hb)⟩)
section ops
variable {dd : Option Tmp} {gd : Option (Nat × Bool)} {ty : TypeId} {pos : String} {af : Array Edge}
theorem mv {x : Operand} {v : Value} (hx : ev s x = some v) : VF P K n s A h ⟨dd, .move x, ty, pos, af, gd⟩ (v) :=
 (fun a w H _ => by simp [execOp, H.ev hx])
theorem asg {x : Operand} {v : Value} (hx : ev s x = some v) : VF P K n s A h ⟨dd, .assign x, ty, pos, af, gd⟩ (v) :=
 (fun a w H _ => by simp [execOp, H.ev hx])
theorem bi {op : BinOp} {x y : Operand} {t t' : TypeId} {ki : IntKind} {i j : Int} {v : Value} (hx : ev s x = some (.int ki i)) (hy : ev s y = some (.int ki j)) (hv : ibin op ki i j = some v) : VF P K n s A h ⟨dd, .binOp op t x y t', ty, pos, af, gd⟩ (v) :=
 (fun a w H _ => by
  obtain ⟨e1, e2⟩ := run_ibin (P := P) hv x y t w
  simp [execOp, H.ev hx, H.ev hy, e1, e2])
theorem ix {x y : Operand} {t e : TypeId} {a : Option Addr} {len cap sz by_ : Nat} {zs : List Value} {ki : IntKind} {i : Int} (hx : ev s x = some (.slice a len cap)) (hy : ev s y = some (.int ki i)) (ht : TSl P t e sz by_ zs) (ha : a ≠ none) (hi : 0 ≤ i ∧ i < len) : VF P K n s A h ⟨dd, .indexAddr t x y, ty, pos, af, gd⟩ (.pointer (some (ead a (i.toNat * sz)))) :=
 (fun ac w H _ => by
  obtain ⟨ii, z, h1, h2, h3, h4, h5⟩ := ht.info
  cases a with
  | none => exact absurd rfl ha
  | some p => simp [execOp, H.ev hx, H.ev hy, Instr.indexAt, asIntOf, run_underlying ht.und, sizeOf, typeInfo, h1, h3, hi, ead])
theorem ln {x : Operand} {t : TypeId} {a : Option Addr} {len cap : Nat} (hx : ev s x = some (.slice a len cap)) (ht : TIsSl P t) : VF P K n s A h ⟨dd, .call { callee := .builtin .len, args := #[x], argTypes := #[t] }, ty, pos, af, gd⟩ (.int .i64 (len : Int)) :=
 (fun ac w H _ => by
  obtain ⟨e, he⟩ := ht
  simp [execOp, resolve, invoke, builtin, H.ev hx, Builtin.len_, run_underlying he, goInt])
theorem ext {x : Operand} {vs : Array Value} {i : Nat} {v : Value} (hx : ev s x = some (.tuple vs)) (hv : vs[i]? = some v) : VF P K n s A h ⟨dd, .extract x i, ty, pos, af, gd⟩ (v) :=
 (fun ac w H _ => by simp [execOp, H.ev hx, Instr.extract, hv])
end ops
end
section
variable {P : Program} {K : Kp} {n : Fr} {ops : Array Oper} {Q : Exit → Act → World → Prop} {s : St} {A : List Asrt} {h : FH} {rest : List Oper} {d : Nat} {dd : Option Tmp} {gd : Option (Nat × Bool)} {ty : TypeId} {pos : String} {af : Array Edge}
theorem ld1 {x : Operand} {t : TypeId} {p : Addr} {v : Value} (hx : ev s x = some (.pointer (some p))) (ht : TOne P t) (hc : ∀ w, SH K h w A → w.cell? p = some v) : VF P K n s A h ⟨dd, .load t x, ty, pos, af, gd⟩ (v) :=
 (fun ac w H S => by
  simp [execOp, H.ev hx, Instr.loadAt, Instr.sureAddr, loadVar, (ht w).1, run_load, hc w S])
theorem cellH {p : Addr} {v : Value} (hv : h.cell p = some v) : ∀ w, SH K h w A → w.cell? p = some v := fun _ S => S.sub.cell hv
theorem cl {f : FuncId} {x : Operand} {xs : Array Operand} {ts : Array TypeId} {first cap : Array Value} {vs : List Value} {v : Value} (hf : ∀ args w, (callFunc f args).run P w = .ok (.enter f args) w)
  (hx : ev s x = some (.func (.func f) first cap)) (hv : evs s xs.toList = some vs) (hc : ∀ w, SH K h w A → Calls P f (first.toList ++ vs ++ cap.toList).toArray w fun e w' => e = .returned v ∧ Below w.heap.size w w') : CF P K n s A h ⟨dd, .call { callee := .value x, args := xs, argTypes := ts }, ty, pos, af, gd⟩ v :=
 fun _ w H S => ⟨f, _, call_exec H hf hx hv rfl, hc w S⟩
end
section
variable {P : Program} {K : Kp} {n : Fr} {s : St} {A : List Asrt} {h : FH} {fn : Func} {R : Ending → World → Prop}
def RV (P : Program) (K : Kp) (n : Fr) (s : St) (A : List Asrt) (h : FH) (r : ResultVar) (v : Value) : Prop := ∀ a w, Holds n s a → SH K h w A →
 (resOne a.tmps r).run P w = .ok v w
theorem rvT {t : Nat} {v : Value} (hv : get s t = some v) : RV P K n s A h (.tmp t) v := fun a w H _ => by simp only [resOne, H.getD hv]; rfl
theorem E.res1 {m_ : Nat} {ro_ : Option (Option Nat)} {r : ResultVar} {v : Value} (hr : fn.results = #[r]) (h1 : RV P K ⟨m_, ro_, []⟩ s A h r v) (k : ∀ w, SH K h w A → R (.returned v) w) : E K ⟨m_, ro_, []⟩ (bodyPost P fn R) .ret s A h := fun a w H S => by
 refine ⟨H.defers, v, ?_, k w S⟩
 have e1 := h1 a w H S
 simp only [results_eq, hr, Sem.run_bind, List.mapM_toArray, List.mapM_cons, List.mapM_nil, e1, Sem.run_map, Result.andThen_ok, Sem.run_pure]
 rfl
theorem enter {f : FuncId} {c : Code} {args : List Value} {w : World} (hf : P.funcs[f]? = some fn) (hb : fn.body = some c) {n : Nat} (hn : fn.ntmps = n) (hle : Nat.ble args.length n = true) (hs : Sub h w)
  (j : J P (Kp.all w h) ⟨n, none, []⟩ c (bodyPost P fn R) (start 0 args) [] h) : Calls P f args.toArray w R := by
 have hl : args.length ≤ n := by simpa using hle
 refine calls_of_wp hf hb (j _ w ⟨rfl, ?_, fun t v e => ?_⟩ (SH.start w h hs))
 ·simp [hn]; omega
 ·obtain ⟨_, h2⟩ := get_start 0 args t v e
  simp only [Nat.sub_zero] at h2
  have hlt : t < args.length := (List.getElem?_eq_some_iff.1 h2).1
  rw [Array.getElem?_append_left (by simpa using hlt)]
  simpa using h2
end
section
variable {P : Program} {K : Kp} {n : Fr} {ops : Array Oper} {Q : Exit → Act → World → Prop} {s : St} {A : List Asrt} {h : FH}
theorem J.loop' {σ : Type} (I : σ → Prop) (μ : σ → Nat) (S : σ → St) (M : σ → List Asrt) (F : σ → FH) {c : Code} (x0 : σ) (hI : I x0) (hs : SubSt (S x0) s) (hm : M x0 = A) (hf : FH.le (F x0) h)
  (round : ∀ x, I x → J P K n c (Exit.then (fun a w => ∃ y, I y ∧ μ y < μ x ∧ Holds n (S y) a ∧ SH K (F y) w (M y)) Q) (S x) (M x) (F x)) :
  J P K n (.loop c) Q s A h := by
 subst hm
 exact .up hf (.sub hs (.loop I μ S M F x0 hI round))
end
section
variable {P : Program} {K : Kp} {n : Fr} {ops : Array Oper} {Q : Exit → Act → World → Prop} {s : St} {A : List Asrt} {h : FH} {rest : List Oper} {R : Act → Prop}
def QL (P : Program) (K : Kp) (n : Fr) (ops : Array Oper) (l : List Oper) (R : Act → Prop) (s : St) (A : List Asrt) (h : FH) : Prop := ∀ a, Holds n s a → wpQuiet P ops (fun w => SH K h w A) R l a
theorem QL.nil (hr : ∀ a, Holds n s a → R a) : QL P K n ops [] R s A h := fun a H => wpQuiet_nil (hr a H)
theorem QL.v {o : Oper} {d : Nat} {v : Value} (hx : VF P K n s A h o v) (hg : o.guard = none) (hd : o.dst = some d) (hn : Nat.blt d n.sz = true) (k : QL P K n ops rest R ((d, v) :: s) A h) : QL P K n ops (o :: rest) R s A h :=
 fun a H => wpQuiet_step fun Kc hK => by
  rw [if_pos (by simp [Region.wanted, hg])]
  refine ⟨v, fun w hw => ?_, hK _ (k _ ?_)⟩
  ·unfold Oper.quietAt; rw [hx a w H hw]; exact ⟨rfl, rfl⟩
  ·rw [hd]; exact H.put v hn
theorem QL.c {o : Oper} {d : Nat} {v : Value} (hx : CF P K n s A h o v) (hg : o.guard = none) (hd : o.dst = some d) (hn : Nat.blt d n.sz = true) (k : QL P K n ops rest R ((d, v) :: s) A h) : QL P K n ops (o :: rest) R s A h :=
 fun a H => wpQuiet_step fun Kc hK => by
  rw [if_pos (by simp [Region.wanted, hg])]
  refine ⟨v, fun w hw => ?_, hK _ (k _ ?_)⟩
  ·obtain ⟨f, args, hr, hc⟩ := hx a w H hw
   unfold Oper.quietAt; rw [hr]
   exact ⟨rfl, hc.mono fun e w' ⟨he, hb⟩ => ⟨he, SH.ext hw hb⟩⟩
  ·rw [hd]; exact H.put v hn
theorem SH.drew {w : World} (S : SH K h w A) : SH K h { w with drawn := w.drawn + 1 } A := S.ext ((Below.refl _ _).drew)
end
section
variable {P : Program} {K : Kp} {n : Fr} {ops : Array Oper} {Q : Exit → Act → World → Prop} {s : St} {A A' : List Asrt} {h : FH} {l : List Oper} {c : Code} {ex : Exit}
theorem SH.move {w : World} {X : Asrt} (S : SH K h w (X :: A)) (k : Nat) : SH K h w (A.set k X) := by
 obtain ⟨gs, p1, p2, p3, p4⟩ := S.parts
 cases gs with
 | nil => simp at p1
 | cons g0 gs =>
  have hl : gs.length = A.length := by simpa using p1
  refine ⟨S.kept, S.sub, S.fresh, gs.set k g0, by simp [hl], fun i g Y hi hY => ?_, fun i g hi => ?_, fun i j g g2 hij hi hj => ?_⟩
  ·rcases list_set_get hi with ⟨rfl, rfl, _⟩ | ⟨hne, hi'⟩
   ·rcases list_set_get hY with ⟨_, rfl, _⟩ | ⟨hne, _⟩
    ·exact p2 0 g Y rfl rfl
    ·exact absurd rfl hne
   ·rcases list_set_get hY with ⟨rfl, _, _⟩ | ⟨_, hY'⟩
    ·exact absurd rfl hne
    ·exact p2 (i + 1) g Y (by simpa using hi') (by simpa using hY')
  ·rcases list_set_get hi with ⟨rfl, rfl, _⟩ | ⟨hne, hi'⟩
   ·exact p3 0 g rfl
   ·exact p3 (i + 1) g (by simpa using hi')
  ·rcases list_set_get hi with ⟨rfl, rfl, _⟩ | ⟨hne, hi'⟩
   ·rcases list_set_get hj with ⟨rfl, rfl, _⟩ | ⟨hne2, hj'⟩
    ·exact absurd rfl hij
    ·exact p4 0 (j + 1) g g2 (by omega) rfl (by simpa using hj')
   ·rcases list_set_get hj with ⟨rfl, rfl, _⟩ | ⟨hne2, hj'⟩
    ·exact p4 (i + 1) 0 g g2 (by omega) (by simpa using hi') rfl
    ·exact p4 (i + 1) (j + 1) g g2 (by omega) (by simpa using hi') (by simpa using hj')
theorem JL.move {X : Asrt} (k : Nat) (j : JL P K n ops l Q s (A.set k X) h) : JL P K n ops l Q s (X :: A) h := fun a w H S => j a w H (S.move k)
end
section
variable {P : Program} {K : Kp} {n : Fr} {ops : Array Oper} {Q : Exit → Act → World → Prop} {s : St} {A A' : List Asrt} {h : FH} {rest : List Oper}
theorem SH.none {w : World} (S : SH K h w A) : SH K h w [] := by
 induction A with
 | nil => exact S
 | cons x r ih => exact ih S.drop
end
section
variable {P : Program} {K : Kp} {m_ : Nat} {dl_ : List Nat} {ops : Array Oper} {Q : Exit → Act → World → Prop} {s : St} {A : List Asrt} {h : FH}
def JA (P : Program) (K : Kp) (n : Fr) (ops : Array Oper) (Q : Exit → Act → World → Prop) (X D C : List Nat) (val s0 : St) (A : List Asrt) (h : FH) : Prop :=
 dstOk ops (s0.map (·.1)) X = true → ∀ (fuel : Nat) (listed : Array Bool) (a : Act) (w : World) (sL : St), Known ops D C val s0 listed sL → listed.toList.count false ≤ fuel → Holds n sL a → SH K h w A → wpAny P .any ops Q fuel listed a w
def QA (P : Program) (K : Kp) (n : Fr) (ops : Array Oper) (val s0 : St) (A : List Asrt) (h : FH) (C : List Nat) : Prop :=
 ∀ i ∈ C, ∃ o d v si, ops[i]? = some o ∧ o.dst = some d ∧ Nat.blt d n.sz = true ∧ get val i = some v ∧ dl ops val o = si ∧ ((gdT ops si o ∧ ((∀ sL, VF P K n (si ++ (s0 ++ sL)) A h o v) ∨ (∀ sL, CF P K n (si ++ (s0 ++ sL)) A h o v))) ∨ (gdF ops si o ∧ v = undef))
section
variable {val s0 : St} {i d g t : Nat} {C : List Nat} {o : Oper} {u : Value} {want b : Bool}
theorem QA.nil : QA P K ⟨m_, none, dl_⟩ ops val s0 A h [] := fun i hi => by cases hi
theorem QA.cons (si : St) (ho : ops[i]? = some o) (hd : o.dst = some d) (hn : Nat.blt d m_ = true) (hv : get val i = some u) (hs : dl ops val o = si) (hx : (gdT ops si o ∧ ((∀ sL, VF P K ⟨m_, none, dl_⟩ (si ++ (s0 ++ sL)) A h o u) ∨ (∀ sL, CF P K ⟨m_, none, dl_⟩ (si ++ (s0 ++ sL)) A h o u))) ∨ (gdF ops si o ∧ u = undef)) (r : QA P K ⟨m_, none, dl_⟩ ops val s0 A h C) : QA P K ⟨m_, none, dl_⟩ ops val s0 A h (i :: C) := fun j hj => by
 rcases List.mem_cons.1 hj with rfl | hj
 ·exact ⟨o, d, u, si, ho, hd, hn, hv, hs, hx⟩
 ·exact r j hj
theorem QA.v (si : St) (ho : ops[i]? = some o) (hg : o.guard = none) (hd : o.dst = some d) (hn : Nat.blt d m_ = true) (hv : get val i = some u) (hs : dl ops val o = si) (hx : ∀ sL, VF P K ⟨m_, none, dl_⟩ (si ++ (s0 ++ sL)) A h o u) (r : QA P K ⟨m_, none, dl_⟩ ops val s0 A h C) : QA P K ⟨m_, none, dl_⟩ ops val s0 A h (i :: C) :=
 .cons si ho hd hn hv hs (.inl ⟨gdT_none hg, .inl hx⟩) r
theorem QA.c (si : St) (ho : ops[i]? = some o) (hg : o.guard = none) (hd : o.dst = some d) (hn : Nat.blt d m_ = true) (hv : get val i = some u) (hs : dl ops val o = si) (hx : ∀ sL, CF P K ⟨m_, none, dl_⟩ (si ++ (s0 ++ sL)) A h o u) (r : QA P K ⟨m_, none, dl_⟩ ops val s0 A h C) : QA P K ⟨m_, none, dl_⟩ ops val s0 A h (i :: C) :=
 .cons si ho hd hn hv hs (.inl ⟨gdT_none hg, .inr hx⟩) r
end
def After (P : Program) (K : Kp) (n : Fr) (ops : Array Oper) (Q : Exit → Act → World → Prop) (X D C : List Nat) (val s0 : St) (i : Nat) (o : Oper) (sL : St) : Act → World → Prop := fun a w =>
 ∃ (M C' : List Nat) (pre s1 : St) (A' : List Asrt) (h' : FH), ((∀ t v, get s1 t = some v → get s0 t = some v) ∧ (∀ d, o.dst = some d → ∀ p ∈ s1, Nat.beq p.1 d = false) ∧ dstOk ops (s1.map (·.1)) X = true) ∧ ancOk ops [i] M = true ∧ (∀ j ∈ C, j ∈ M ∨ j ∈ C') ∧ (∀ j, j ∈ D ∨ j ∈ C → get (pre ++ val) j = get val j) ∧
  (match o.dst with | some d => ∃ v, get (pre ++ val) i = some v ∧ Holds n ((d, v) :: sL) a | none => Holds n sL a) ∧ SH K h' w A' ∧ JA P K n ops Q X (i :: (M ++ D)) C' (pre ++ val) s1 A' h'
def HA (P : Program) (K : Kp) (n : Fr) (ops : Array Oper) (Q : Exit → Act → World → Prop) (X D C : List Nat) (val s0 : St) (A : List Asrt) (h : FH) (H : List Nat) : Prop :=
 ∀ i ∈ H, ∃ o si, ops[i]? = some o ∧ dl ops val o = si ∧ ∀ sL, (∀ t v, get (si ++ s0) t = some v → get sL t = some v) → JL P K n ops [o] (Exit.then (After P K n ops Q X D C val s0 i o sL) Q) (si ++ (s0 ++ sL)) A h
theorem HA.nil {X D C : List Nat} {val s0 : St} : HA P K ⟨m_, none, dl_⟩ ops Q X D C val s0 A h [] := fun i hi => by cases hi
theorem HA.cons {X D C H : List Nat} {val s0 : St} {i : Nat} {o : Oper} (si : St) (ho : ops[i]? = some o) (hs : dl ops val o = si) (hx : ∀ sL, (∀ t v, get (si ++ s0) t = some v → get sL t = some v) → JL P K ⟨m_, none, dl_⟩ ops [o] (Exit.then (After P K ⟨m_, none, dl_⟩ ops Q X D C val s0 i o sL) Q) (si ++ (s0 ++ sL)) A h) (r : HA P K ⟨m_, none, dl_⟩ ops Q X D C val s0 A h H) : HA P K ⟨m_, none, dl_⟩ ops Q X D C val s0 A h (i :: H) := fun j hj => by
 rcases List.mem_cons.1 hj with rfl | hj
 ·exact ⟨o, si, ho, hs, hx⟩
 ·exact r j hj
end
section
variable {P : Program} {K : Kp} {n : Fr} {ops : Array Oper} {Q : Exit → Act → World → Prop} {s : St} {A : List Asrt} {h : FH} {rest : List Oper} {fn : Func} {R : Ending → World → Prop}
end
theorem w_isNaN1 {h : FH} {w : World} (hs : Sub h w) (x : Int) (K : Bool → Prop) (hF : F_isNaN1 x K) : Calls Tryz.prog 122 #[.int .i64 x] w fun e w' => ∃ r : Bool, K r ∧ e = .returned (.bool r) ∧ Below w.heap.size w w' := by
 refine enter (args := [.int .i64 x]) Tryz.func122 rfl Tryz.ntmps122 rfl hs ?_
 refine .seq ?_
 refine .region ?_
 refine .v (asg rfl) rfl rfl rfl ?_
 refine .nil ?_
 refine .seqN ?_
 refine .seq ?_
 refine .region ?_
 refine .v (mv rfl) rfl rfl rfl ?_
 refine .v (mv rfl) rfl rfl rfl ?_
 refine .v (bi rfl rfl rfl) rfl rfl rfl ?_
 refine .v (asg rfl) rfl rfl rfl ?_
 refine .nil ?_
 refine .seqN ?_
 refine .ret ?_
 refine .res1 rfl (rvT rfl) (fun w' S => ⟨x != x, hF, rfl, S.below⟩)
theorem c_isNaN1 {h : FH} {w : World} (hs : Sub h w) (x : Int) : Calls Tryz.prog 122 #[.int .i64 x] w fun e w' => e = .returned (.bool (sp_isNaN1 x)) ∧ Below w.heap.size w w' :=
 (w_isNaN1 hs x (fun r => r = sp_isNaN1 x) (ok_isNaN1 x)).mono fun _ _ ⟨_, hk, he, hb⟩ => ⟨by rw [he, hk], hb⟩
theorem w_compare {h : FH} {w : World} (hs : Sub h w) (x : Int) (y : Int) (K : Int → Prop) (hF : F_compare x y K) : Calls Tryz.prog 111 #[.int .i64 x, .int .i64 y] w fun e w' => ∃ r : Int, K r ∧ e = .returned (.int .i64 r) ∧ Below w.heap.size w w' := by
 refine enter (args := [.int .i64 x, .int .i64 y]) Tryz.func111 rfl Tryz.ntmps111 rfl hs ?_
 refine .seq ?_
 refine .region ?_
 refine .v (asg rfl) rfl rfl rfl ?_
 refine .nil ?_
 refine .seqN ?_
 refine .seq ?_
 refine .region ?_
 refine .v (mv rfl) rfl rfl rfl ?_
 obtain ⟨r2, q1⟩ : ∃ y_ : Bool, y_ = sp_isNaN1 x := ⟨_, rfl⟩
 replace hF := hF r2 q1
 refine .c (cl (v := .bool r2) Tryz.call122 rfl rfl (fun w S => (by rw [q1]; exact c_isNaN1 S.sub x ))) rfl rfl rfl ?_
 refine .v (asg rfl) rfl rfl rfl ?_
 refine .nil ?_
 refine .seqN ?_
 refine .seq ?_
 refine .region ?_
 refine .v (mv rfl) rfl rfl rfl ?_
 obtain ⟨r3, q2⟩ : ∃ y_ : Bool, y_ = sp_isNaN1 y := ⟨_, rfl⟩
 replace hF := hF r3 q2
 refine .c (cl (v := .bool r3) Tryz.call122 rfl rfl (fun w S => (by rw [q2]; exact c_isNaN1 S.sub y ))) rfl rfl rfl ?_
 refine .v (asg rfl) rfl rfl rfl ?_
 refine .nil ?_
 refine .seqN ?_
 refine .seq ?_
 refine .seq ?_
 refine .region ?_
 refine .v (mv rfl) rfl rfl rfl ?_
 refine .nil ?_
 refine .seqN ?_
 refine .cond rfl (fun q6 => ?_) (fun q6 => ?_)
 ·replace hF := hF.1 q6
  refine .seq ?_
  refine .seq ?_
  refine .region ?_
  refine .v (mv rfl) rfl rfl rfl ?_
  refine .nil ?_
  refine .seqN ?_
  refine .cond rfl (fun q8 => ?_) (fun q8 => ?_)
  ·replace hF := hF.1 q8
   refine .seq ?_
   refine .region ?_
   refine .v (asg rfl) rfl rfl rfl ?_
   refine .nil ?_
   refine .seqN ?_
   refine .ret ?_
   refine .seqR ?_
   refine .seqR ?_
   refine .res1 rfl (rvT rfl) (fun w' S => ⟨0, hF, rfl, S.below⟩)
  replace hF := hF.2 q8
  refine .skip ?_
  refine .seqN ?_
  refine .seq ?_
  refine .region ?_
  refine .v (asg rfl) rfl rfl rfl ?_
  refine .nil ?_
  refine .seqN ?_
  refine .ret ?_
  refine .seqR ?_
  refine .res1 rfl (rvT rfl) (fun w' S => ⟨(-1), hF, rfl, S.below⟩)
 replace hF := hF.2 q6
 refine .skip ?_
 refine .seqN ?_
 refine .seq ?_
 refine .seq ?_
 refine .region ?_
 refine .v (mv rfl) rfl rfl rfl ?_
 refine .nil ?_
 refine .seqN ?_
 refine .cond rfl (fun q10 => ?_) (fun q10 => ?_)
 ·replace hF := hF.1 q10
  refine .seq ?_
  refine .region ?_
  refine .v (asg rfl) rfl rfl rfl ?_
  refine .nil ?_
  refine .seqN ?_
  refine .ret ?_
  refine .seqR ?_
  refine .res1 rfl (rvT rfl) (fun w' S => ⟨1, hF, rfl, S.below⟩)
 replace hF := hF.2 q10
 refine .skip ?_
 refine .seqN ?_
 refine .seq ?_
 refine .seq ?_
 refine .region ?_
 refine .v (mv rfl) rfl rfl rfl ?_
 refine .v (mv rfl) rfl rfl rfl ?_
 refine .v (bi rfl rfl rfl) rfl rfl rfl ?_
 refine .nil ?_
 refine .seqN ?_
 refine .cond rfl (fun q12 => ?_) (fun q12 => ?_)
 ·replace hF := hF.1 q12
  refine .seq ?_
  refine .region ?_
  refine .v (asg rfl) rfl rfl rfl ?_
  refine .nil ?_
  refine .seqN ?_
  refine .ret ?_
  refine .seqR ?_
  refine .res1 rfl (rvT rfl) (fun w' S => ⟨(-1), hF, rfl, S.below⟩)
 replace hF := hF.2 q12
 refine .skip ?_
 refine .seqN ?_
 refine .seq ?_
 refine .seq ?_
 refine .region ?_
 refine .v (mv rfl) rfl rfl rfl ?_
 refine .v (mv rfl) rfl rfl rfl ?_
 refine .v (bi rfl rfl rfl) rfl rfl rfl ?_
 refine .nil ?_
 refine .seqN ?_
 refine .cond rfl (fun q14 => ?_) (fun q14 => ?_)
 ·replace hF := hF.1 q14
  refine .seq ?_
  refine .region ?_
  refine .v (asg rfl) rfl rfl rfl ?_
  refine .nil ?_
  refine .seqN ?_
  refine .ret ?_
  refine .seqR ?_
  refine .res1 rfl (rvT rfl) (fun w' S => ⟨1, hF, rfl, S.below⟩)
 replace hF := hF.2 q14
 refine .skip ?_
 refine .seqN ?_
 refine .seq ?_
 refine .region ?_
 refine .v (asg rfl) rfl rfl rfl ?_
 refine .nil ?_
 refine .seqN ?_
 refine .ret ?_
 refine .res1 rfl (rvT rfl) (fun w' S => ⟨0, hF, rfl, S.below⟩)
theorem c_compare {h : FH} {w : World} (hs : Sub h w) (x : Int) (y : Int) : Calls Tryz.prog 111 #[.int .i64 x, .int .i64 y] w fun e w' => e = .returned (.int .i64 (sp_compare x y)) ∧ Below w.heap.size w w' :=
 (w_compare hs x y (fun r => r = sp_compare x y) (ok_compare x y)).mono fun _ _ ⟨_, hk, he, hb⟩ => ⟨by rw [he, hk], hb⟩
set_option maxHeartbeats 8000000 in
theorem w_scompare {h : FH} {w : World} (hs : Sub h w) (s1 : List Int) (as1 : Option Addr) (cs1 : Nat) (_q1 : RSl h as1 s1) (_q2 : s1.length ≤ cs1) (s2 : List Int) (as2 : Option Addr) (cs2 : Nat) (_q3 : RSl h as2 s2) (_q4 : s2.length ≤ cs2) (K : Int → Prop) (hF : F_scompare s1 s2 K) : Calls Tryz.prog 92 #[.slice as1 s1.length cs1, .slice as2 s2.length cs2] w fun e w' => ∃ r : Int, K r ∧ e = .returned (.int .i64 r) ∧ Below w.heap.size w w' := by
 refine enter (args := [.slice as1 s1.length cs1, .slice as2 s2.length cs2]) Tryz.func92 rfl Tryz.ntmps92 rfl hs ?_
 refine .seq ?_
 refine .region ?_
 refine .v (asg rfl) rfl rfl rfl ?_
 refine .nil ?_
 refine .seqN ?_
 refine .seq ?_
 refine .seq ?_
 refine .region ?_
 refine .v (mv rfl) rfl rfl rfl ?_
 refine .v (ln rfl tS22.is) rfl rfl rfl ?_
 refine .v (mv rfl) rfl rfl rfl ?_
 refine .nil ?_
 refine .seqN ?_
 refine .block ?_
 obtain ⟨I1, μ1, q112, q113⟩ := hF
 refine .loop' (σ := Int) (fun z => I1 z) (fun z => μ1 z) (fun z => [(0, .slice as1 s1.length cs1), (1, .slice as2 s2.length cs2), (9, .slice as1 s1.length cs1), (10, .int .i64 ((s1.length : Nat) : Int)), (11, .int .i64 z)]) (fun _ => []) (fun _ => h) 0 q112 (.cons rfl (.cons rfl (.cons rfl (.cons rfl (.cons rfl (.nil)))))) rfl (FH.le_refl _) ?_
 rintro t11 q112
 have hF := q113 t11 q112
 show J _ _ _ _ _ [(0, .slice as1 s1.length cs1), (1, .slice as2 s2.length cs2), (9, .slice as1 s1.length cs1), (10, .int .i64 ((s1.length : Nat) : Int)), (11, .int .i64 t11)] [] h
 refine .seq ?_
 refine .region ?_
 refine .v (bi rfl rfl rfl) rfl rfl rfl ?_
 refine .nil ?_
 refine .seqN ?_
 refine .seq ?_
 refine .cond rfl (fun q116 => ?_) (fun q116 => ?_)
 ·replace hF := hF.1 q116
  refine .skip ?_
  refine .seqN ?_
  refine .seq ?_
  refine .block ?_
  refine .seq ?_
  refine .region ?_
  refine .v (mv rfl) rfl rfl rfl ?_
  obtain ⟨q129, hF⟩ := hF
  refine .v (ix rfl rfl tS22 (_q1.ne (by decide) (inb_pos q129)) q129) rfl rfl rfl ?_
  refine .v (ld1 (v := .int .i64 (gt s1 t11)) rfl tO3 (cellH (_q1.elemF q129 (by decide) 0 _ rfl))) rfl rfl rfl ?_
  refine .v (asg rfl) rfl rfl rfl ?_
  refine .v (asg rfl) rfl rfl rfl ?_
  refine .nil ?_
  refine .seqN ?_
  refine .seq ?_
  refine .seq ?_
  refine .region ?_
  refine .v (mv rfl) rfl rfl rfl ?_
  refine .v (mv rfl) rfl rfl rfl ?_
  refine .v (ln rfl tS22.is) rfl rfl rfl ?_
  refine .v (bi rfl rfl rfl) rfl rfl rfl ?_
  refine .nil ?_
  refine .seqN ?_
  refine .cond rfl (fun q131 => ?_) (fun q131 => ?_)
  ·replace hF := hF.1 q131
   refine .seq ?_
   refine .region ?_
   refine .v (asg rfl) rfl rfl rfl ?_
   refine .nil ?_
   refine .seqN ?_
   refine .ret ?_
   refine .seqR ?_
   refine .blkR ?_
   refine .seqR ?_
   refine .seqR ?_
   refine .blkR ?_
   refine .seqR ?_
   refine .res1 rfl (rvT rfl) (fun w' S => ⟨1, hF, rfl, S.below⟩)
  replace hF := hF.2 q131
  refine .skip ?_
  refine .seqN ?_
  refine .seq ?_
  refine .region ?_
  refine .v (mv rfl) rfl rfl rfl ?_
  refine .v (mv rfl) rfl rfl rfl ?_
  obtain ⟨q132, hF⟩ := hF
  refine .v (ix rfl rfl tS22 (_q3.ne (by decide) (inb_pos q132)) q132) rfl rfl rfl ?_
  refine .v (ld1 (v := .int .i64 (gt s2 t11)) rfl tO3 (cellH (_q3.elemF q132 (by decide) 0 _ rfl))) rfl rfl rfl ?_
  refine .v (asg rfl) rfl rfl rfl ?_
  refine .nil ?_
  refine .seqN ?_
  refine .seq ?_
  refine .region ?_
  refine .v (mv rfl) rfl rfl rfl ?_
  refine .v (mv rfl) rfl rfl rfl ?_
  obtain ⟨r2, q133⟩ : ∃ y_ : Int, y_ = sp_compare (gt s1 t11) (gt s2 t11) := ⟨_, rfl⟩
  replace hF := hF r2 q133
  refine .c (cl (v := .int .i64 r2) Tryz.call111 rfl rfl (fun w S => (by rw [q133]; exact c_compare S.sub (gt s1 t11) (gt s2 t11) ))) rfl rfl rfl ?_
  refine .v (asg rfl) rfl rfl rfl ?_
  refine .nil ?_
  refine .seqN ?_
  refine .seq ?_
  refine .region ?_
  refine .v (mv rfl) rfl rfl rfl ?_
  refine .v (bi rfl rfl rfl) rfl rfl rfl ?_
  refine .nil ?_
  refine .seqN ?_
  refine .cond rfl (fun q134 => ?_) (fun q134 => ?_)
  ·replace hF := hF.1 q134
   refine .seq ?_
   refine .region ?_
   refine .v (mv rfl) rfl rfl rfl ?_
   refine .v (asg rfl) rfl rfl rfl ?_
   refine .nil ?_
   refine .seqN ?_
   refine .ret ?_
   refine .blkR ?_
   refine .seqR ?_
   refine .seqR ?_
   refine .blkR ?_
   refine .seqR ?_
   refine .res1 rfl (rvT rfl) (fun w' S => ⟨r2, hF, rfl, S.below⟩)
  replace hF := hF.2 q134
  refine .skip ?_
  refine .blkN ?_
  refine .seqN ?_
  refine .region ?_
  refine .v (bi rfl rfl rfl) rfl rfl rfl ?_
  refine .v (mv rfl) rfl rfl rfl ?_
  refine .nil ?_
  exact .round (IntKind.i64.wrap (t11 + 1)) hF.1 hF.2 (.cons rfl (.cons rfl (.cons rfl (.cons rfl (.cons rfl (.nil)))))) rfl (FH.le_refl _)
 replace hF := hF.2 q116
 refine .exit ?_
 refine .seqX ?_
 refine .seqX ?_
 refine .blkX ?_
 refine .seqN ?_
 refine .seq ?_
 refine .seq ?_
 refine .region ?_
 refine .v (mv rfl) rfl rfl rfl ?_
 refine .v (ln rfl tS22.is) rfl rfl rfl ?_
 refine .v (mv rfl) rfl rfl rfl ?_
 refine .v (ln rfl tS22.is) rfl rfl rfl ?_
 refine .v (bi rfl rfl rfl) rfl rfl rfl ?_
 refine .nil ?_
 refine .seqN ?_
 refine .cond rfl (fun q136 => ?_) (fun q136 => ?_)
 ·replace hF := hF.1 q136
  refine .seq ?_
  refine .region ?_
  refine .v (asg rfl) rfl rfl rfl ?_
  refine .nil ?_
  refine .seqN ?_
  refine .ret ?_
  refine .seqR ?_
  refine .res1 rfl (rvT rfl) (fun w' S => ⟨(-1), hF, rfl, S.below⟩)
 replace hF := hF.2 q136
 refine .skip ?_
 refine .seqN ?_
 refine .seq ?_
 refine .region ?_
 refine .v (asg rfl) rfl rfl rfl ?_
 refine .nil ?_
 refine .seqN ?_
 refine .ret ?_
 refine .res1 rfl (rvT rfl) (fun w' S => ⟨0, hF, rfl, S.below⟩)
theorem c_scompare {h : FH} {w : World} (hs : Sub h w) (s1 : List Int) (as1 : Option Addr) (cs1 : Nat) (_q1 : RSl h as1 s1) (_q2 : s1.length ≤ cs1) (s2 : List Int) (as2 : Option Addr) (cs2 : Nat) (_q3 : RSl h as2 s2) (_q4 : s2.length ≤ cs2) (hp : pre_scompare s1 s2) : Calls Tryz.prog 92 #[.slice as1 s1.length cs1, .slice as2 s2.length cs2] w fun e w' => e = .returned (.int .i64 (sp_scompare s1 s2)) ∧ Below w.heap.size w w' :=
 (w_scompare hs s1 as1 cs1 _q1 _q2 s2 as2 cs2 _q3 _q4 (fun r => r = sp_scompare s1 s2) (ok_scompare s1 s2 hp)).mono fun _ _ ⟨_, hk, he, hb⟩ => ⟨by rw [he, hk], hb⟩
end Go.Proofs.YtojoehfldbimpaaGreatDoor.Pl.Pd

namespace Go.Proofs
open Go.Shelf
def YtojoehfldbimpaaGreatDoor.laysSR_ren : Go.Shelf.Ren := ⟨fun | 6 => 107 | 15 => 119 | 14 => 120 | 28 => 134 | 29 => 135 | 20 => 136 | 21 => 137 | 22 => 138 | 23 => 139 | 24 => 140 | 25 => 141 | 26 => 142 | 27 => 143 | 46 => 155 | 47 => 151 | 48 => 152 | 49 => 156 | 50 => 157 | 57 => 163 | n => n, fun | 22 => 35 | 24 => 22 | 25 => 116 | 3 => 3 | 39 => 131 | 0 => 0 | 53 => 148 | 55 => 137 | 4 => 4 | 46 => 142 | 45 => 141 | 50 => 123 | 5 => 5 | 9 => 9 | 66 => 161 | 70 => 165 | 76 => 173 | 77 => 174 | n => n, fun | n => n⟩
theorem YtojoehfldbimpaaGreatDoor.laysSR : Go.Proofs.SlLaysF.n6 Tryz.prog YtojoehfldbimpaaGreatDoor.laysSR_ren := {
  mixed := by kernel_rfl
  f6 := ⟨Tryz.f107.name, by decide, Tryz.func107.trans (congrArg some (by kernel_rfl))⟩
  f14 := ⟨Tryz.f120.name, by decide, Tryz.func120.trans (congrArg some (by kernel_rfl))⟩
  f15 := Tryz.func119.trans (congrArg some (by kernel_rfl))
  f20 := ⟨Tryz.f136.name, by decide, Tryz.func136.trans (congrArg some (by kernel_rfl))⟩
  f21 := ⟨Tryz.f137.name, by decide, Tryz.func137.trans (congrArg some (by kernel_rfl))⟩
  f22 := ⟨Tryz.f138.name, by decide, Tryz.func138.trans (congrArg some (by kernel_rfl))⟩
  f23 := ⟨Tryz.f139.name, by decide, Tryz.func139.trans (congrArg some (by kernel_rfl))⟩
  f24 := ⟨Tryz.f140.name, by decide, Tryz.func140.trans (congrArg some (by kernel_rfl))⟩
  f25 := ⟨Tryz.f141.name, by decide, Tryz.func141.trans (congrArg some (by kernel_rfl))⟩
  f26 := ⟨Tryz.f142.name, by decide, Tryz.func142.trans (congrArg some (by kernel_rfl))⟩
  f27 := ⟨Tryz.f143.name, by decide, Tryz.func143.trans (congrArg some (by kernel_rfl))⟩
  f28 := Tryz.func134.trans (congrArg some (by kernel_rfl))
  f29 := Tryz.func135.trans (congrArg some (by kernel_rfl))
  f46 := ⟨Tryz.f155.name, by decide, Tryz.func155.trans (congrArg some (by kernel_rfl))⟩
  f47 := Tryz.func151.trans (congrArg some (by kernel_rfl))
  f48 := Tryz.func152.trans (congrArg some (by kernel_rfl))
  f49 := ⟨Tryz.f156.name, by decide, Tryz.func156.trans (congrArg some (by kernel_rfl))⟩
  f50 := ⟨Tryz.f157.name, by decide, Tryz.func157.trans (congrArg some (by kernel_rfl))⟩
  f57 := ⟨Tryz.f163.name, by decide, Tryz.func163.trans (congrArg some (by kernel_rfl))⟩
  t0 := Tryz.underlying0
  a0 := Tryz.isAgg0
  z0 := Tryz.sizeOf0
  v0 := Tryz.zeroValue0
  t3 := Tryz.underlying3
  a3 := Tryz.isAgg3
  z3 := Tryz.sizeOf3
  v3 := Tryz.zeroValue3
  t4 := Tryz.underlying4
  a4 := Tryz.isAgg4
  z4 := Tryz.sizeOf4
  v4 := Tryz.zeroValue4
  t5 := Tryz.underlying5
  a5 := Tryz.isAgg5
  z5 := Tryz.sizeOf5
  v5 := Tryz.zeroValue5
  t9 := Tryz.underlying9
  a9 := Tryz.isAgg9
  z9 := Tryz.sizeOf9
  v9 := Tryz.zeroValue9
  t22 := Tryz.underlying35
  a22 := Tryz.isAgg35
  z22 := Tryz.sizeOf35
  v22 := Tryz.zeroValue35
  a24 := Tryz.isAgg22
  z24 := Tryz.sizeOf22
  t25 := Tryz.underlying116
  a25 := Tryz.isAgg116
  z25 := Tryz.sizeOf116
  v25 := Tryz.zeroValue116
  t39 := Tryz.underlying131
  a39 := Tryz.isAgg131
  z39 := Tryz.sizeOf131
  v39 := Tryz.zeroValue131
  t45 := Tryz.underlying141
  a45 := Tryz.isAgg141
  z45 := Tryz.sizeOf141
  v45 := Tryz.zeroValue141
  t46 := Tryz.underlying142
  a46 := Tryz.isAgg142
  z46 := Tryz.sizeOf142
  v46 := Tryz.zeroValue142
  t50 := Tryz.underlying123
  a50 := Tryz.isAgg123
  z50 := Tryz.sizeOf123
  v50 := Tryz.zeroValue123
  t53 := Tryz.underlying148
  a53 := Tryz.isAgg148
  z53 := Tryz.sizeOf148
  v53 := Tryz.zeroValue148
  t55 := Tryz.underlying137
  a55 := Tryz.isAgg137
  z55 := Tryz.sizeOf137
  v55 := Tryz.zeroValue137
  t66 := Tryz.underlying161
  a66 := Tryz.isAgg161
  z66 := Tryz.sizeOf161
  v66 := Tryz.zeroValue161
  t70 := Tryz.underlying165
  a70 := Tryz.isAgg165
  z70 := Tryz.sizeOf165
  v70 := Tryz.zeroValue165
  t76 := Tryz.underlying173
  a76 := Tryz.isAgg173
  z76 := Tryz.sizeOf173
  v76 := Tryz.zeroValue173
  t77 := Tryz.underlying174
  a77 := Tryz.isAgg174
  z77 := Tryz.sizeOf174
  v77 := Tryz.zeroValue174 }
end Go.Proofs
namespace Go.Proofs.YtojoehfldbimpaaGreatDoor.Pl
open Go Go.RowKit Go.Sort
theorem grow_of_drawn {W w' : World} (hb : Pd.Below W.heap.size W w') : ∃ q os', w' = grow (W.drewN q) os' := by
 refine ⟨w'.drawn - W.drawn, w'.heap.extract W.heap.size w'.heap.size, ?_⟩
 have h1 : w'.heap = W.heap ++ w'.heap.extract W.heap.size w'.heap.size := by
  refine Array.ext_getElem? fun i => ?_
  rw [Array.getElem?_append]
  split
  ·rename_i h; exact hb.block i h
  ·rename_i h
   rw [Array.getElem?_extract]
   split
   ·congr 1; omega
   ·exact Array.getElem?_eq_none (by omega)
 have h2 : w'.drawn = W.drawn + (w'.drawn - W.drawn) := by have h0 : W.drawn ≤ w'.drawn := hb.drawn; omega
 have h3 := hb.os
 have h4 := hb.tape
 have h5 := hb.output
 generalize w'.heap.extract W.heap.size w'.heap.size = os at h1
 generalize w'.drawn - W.drawn = q at h2
 cases w'
 simp only at h1 h2 h3 h4 h5
 subst h1; subst h2; subst h3; subst h4; subst h5
 rfl
theorem putG {w : World} {h : FH} {b c m sz q : Nat} {cur : Array Value} {e : TypeId} {ds : List Value} {os : Array Obj} (hs : Sub h w) (sg : Sub (FH.one b (.cells cur e (0, 0))) w) (hd : Disj h (FH.one b (.cells cur e (0, 0)))) (hmax : c ≤ maxLen) (hsz : cur.size = c * sz) (hds : ds.length = m * sz) (hm : m ≤ c) :
  SH (Kp.ex w h (FH.one b (.cells cur e (0, 0)))) h (grow (putRow id (Sort.ahead w q) b 0 ds.toArray) os) [OwnSl e sz (some ⟨b, 0, none⟩) m c ds] := by
 have hb : w.heap[b]? = some (.cells cur e (0, 0)) := sg b _ (FH.one_self _ _)
 have hlt : b < w.heap.size := sg.lt (FH.one_self _ _)
 have hheap : ∀ i, i < w.heap.size → (grow (putRow id (Sort.ahead w q) b 0 ds.toArray) os).heap[i]? = if b = i then some (.cells (putCells id 0 ds.toArray cur) e (0, 0)) else w.heap[i]? := fun i hi => by
  show ((w.heap.modify b (onCells (putCells id 0 ds.toArray))) ++ os)[i]? = _
  rw [Array.getElem?_append_left (by rw [Array.size_modify]; exact hi), Array.getElem?_modify]
  by_cases q : b = i
  ·subst q
   rw [if_pos rfl, if_pos rfl, hb]; rfl
  ·rw [if_neg q, if_neg q]
 have hsize : w.heap.size ≤ (grow (putRow id (Sort.ahead w q) b 0 ds.toArray) os).heap.size := by
  show w.heap.size ≤ ((w.heap.modify b (onCells (putCells id 0 ds.toArray))) ++ os).size
  rw [Array.size_append, Array.size_modify]; omega
 have hone : ∀ i, FH.one b (.cells cur e (0, 0)) i = none → b ≠ i := fun i g q => by
  subst q
  rw [FH.one_self] at g; cases g
 have hnb : ∀ i, h i ≠ none → b ≠ i := fun i hi => hone i ((hd i).resolve_left hi)
 refine ⟨⟨rfl, rfl, rfl, hsize, fun i hi => ?_, (by unfold dr; first | exact Nat.le_add_right _ _ | exact Nat.le_refl _)⟩, fun i o ho => ?_, fun i hi => .inl hi, [FH.one b (.cells (putCells id 0 ds.toArray cur) e (0, 0))], rfl, ?_, ?_, ?_⟩
 ·rw [hheap i hi.1, if_neg (hone i hi.2)]; rfl
 ·rw [hheap i (hs.lt ho), if_neg (hnb i (by rw [ho]; simp))]; exact hs i o ho
 ·intro i g X hi hX
  cases i with
  | succ i => simp at hi
  | zero =>
   simp at hi hX
   subst hi; subst hX
   have hle : m * sz ≤ c * sz := Nat.mul_le_mul_right sz hm
   refine ⟨hds, .inr ⟨b, _, rfl, rfl, hm, hmax, by simp [putCells, hsz], ?_⟩⟩
   refine List.ext_getElem? fun k => ?_
   rw [List.getElem?_take]
   by_cases g : k < m * sz
   ·have g2 : k < ds.length := by omega
    have g3 : k < cur.size := by omega
    rw [if_pos g, Array.getElem?_toList]
    simp [putCells, g2, g3]
   ·rw [if_neg g, List.getElem?_eq_none (by omega)]
 ·intro i g hi
  cases i with
  | succ i => simp at hi
  | zero =>
   simp at hi
   subst hi
   refine ⟨fun j => ?_, Sub.one ?_, fun j hj hk => ?_⟩
   ·by_cases g : h j = none
    ·exact .inl g
    ·exact .inr (by unfold FH.one; rw [if_neg (fun e => hnb j g e.symm)])
   ·rw [hheap b hlt, if_pos rfl]
   ·exact hone j hk.2 (FH.one_ne hj).symm
 ·intro i j g g' hij hi hj
  cases i with
  | succ i => simp at hi
  | zero => cases j with
   | zero => exact absurd rfl hij
   | succ j => simp at hj
theorem ownHoldsG {w : World} {b m : Nat} {cur : Array Value} {e : TypeId} {ds : List Value} (hb : w.heap[b]? = some (.cells cur e (0, 0))) (hl : ds.length = m) (ht : cur.toList.take m = ds) : Go.Sort.Holds id w b 0 ds.toArray := fun j hj => by
 have hj' : j < ds.length := by simpa using hj
 refine ⟨?_, ?_⟩
 ·unfold World.cell?
  rw [hb]
  show (if (none : Option _).isSome = true then none else cur[0 + j]?) = _
  have h1 := congrArg (fun l => l[j]?) ht
  simp only [List.getElem?_take, show j < m by omega, if_true] at h1
  rw [Array.getElem?_toList, List.getElem?_eq_getElem hj'] at h1
  rw [Nat.zero_add]
  simp [h1, hj']
 ·unfold World.frozen?
  rw [hb]
  simp
abbrev RowA (h : FH) := {p : List Int × Value // Rep.rep h p.1 [p.2] ∧ p.1.length ≤ 1000}
instance (h : FH) : Inhabited (RowA h) := ⟨⟨([], .slice none 0 0), ⟨none, 0, rfl, Nat.le_refl 0, RSl.nil_⟩, by simp⟩⟩
def encA {h : FH} (p : RowA h) : Value := p.1.2
def cfA {h : FH} (p q : RowA h) : Int := sp_scompare p.1.1 q.1.1
theorem rows_of {h : FH} : ∀ (l : Bel) (cs : List Value), RepL h l cs → (∀ x ∈ l, x.length ≤ 1000) → ∃ ds : List (RowA h), ds.map (·.1.1) = l ∧ ds.map encA = cs
 | [], cs, r, _ => ⟨[], rfl, (show cs = [] from r).symm⟩
 | x :: l, cs, ⟨c, r, e, h1, h2⟩, hx => by
  obtain ⟨ds, d1, d2⟩ := rows_of l r h2 fun y hy => hx y (List.mem_cons_of_mem _ hy)
  have hl := Rep.len h1
  match c, hl with
  | [v], _ => exact ⟨⟨(x, v), h1, hx x List.mem_cons_self⟩ :: ds, by rw [List.map_cons, d1], by rw [List.map_cons, d2, e]; rfl⟩
theorem rep_rows {h : FH} : ∀ ds : List (RowA h), RepL h (ds.map (·.1.1)) (ds.map encA)
 | [] => rfl
 | p :: ds => ⟨[p.1.2], ds.map encA, rfl, p.2.1, rep_rows ds⟩
theorem ltA {h : FH} (p q : RowA h) : ltOf cfA p q = sp_before p.1.1 q.1.1 := by
 unfold ltOf cfA
 rw [Bool.eq_iff_iff, decide_eq_true_eq]
 exact (scompare_before _ _).1
theorem swoA {h : FH} : SWO (ltOf (cfA (h := h))) := ⟨fun x => by rw [ltA]; exact before_irr _, fun x y z h1 h2 => by
 rw [ltA] at *; exact before_trans _ _ _ h1 h2, fun x y z h1 h2 => by
 rw [ltA] at *; exact nle_trans (y := y.1.1) h2 h1⟩
theorem putRow_map {α : Type} [Inhabited α] (enc : α → Value) (w : World) (b : Nat) (d : Array α) : putRow enc w b 0 d = putRow id w b 0 (d.map enc) := by
 unfold putRow
 congr 1
 funext c
 unfold putCells
 apply Array.ext
 ·simp
 ·intro i h1 h2
  simp only [Array.getElem_mapIdx, Array.size_map, id]
  split
  ·rename_i hi
   have hlt : i - 0 < d.size := by omega
   rw [getElem!_pos d _ hlt, getElem!_pos (d.map enc) _ (by simpa using hlt), Array.getElem_map]
  ·rfl
theorem holds_map {α : Type} [Inhabited α] (enc : α → Value) {w : World} {b : Nat} {d : Array α} (h : Go.Sort.Holds id w b 0 (d.map enc)) : Go.Sort.Holds enc w b 0 d := fun j hj => by
 have := h j (by simpa using hj)
 rwa [getElem!_pos (d.map enc) j (by simpa using hj), Array.getElem_map, ← getElem!_pos d j hj] at this
theorem c_sortR {h : FH} {w : World} (hs : Sub h w) (x : List (List Int)) (a : Option Addr) (c : Nat) {cs : List Value} (rep : RepL h x cs) {gX : FH} (ownX : OwnSl 22 1 a x.length c cs gX) (subX : Sub gX w) (disX : Disj h gX) (hp : pre_sortR x) :
  Calls Tryz.prog 107 #[.slice a x.length c, .func (.func 92) #[] #[]] w fun e w' => e = .returned (.tuple #[]) ∧ SH (Kp.ex w h gX) h w' [OwnPX h 22 1 a c (sp_sortR x)] := by
 have own0 := ownX
 obtain ⟨h1, ⟨rfl, h2, rfl, rfl⟩ | ⟨b, cur, rfl, rfl, h4, h5, h6, h7⟩⟩ := ownX
 ·have e : x = [] := List.length_eq_zero_iff.1 h2
  subst e
  refine (AnyF.slices_SortFunc_none { YtojoehfldbimpaaGreatDoor.laysSR with } none 0 _ w).mono fun e w' ⟨he, hw⟩ => ⟨he, ?_⟩
  subst hw
  rw [show sp_sortR [] = [] by simp [sp_sortR]]
  exact SH.startX (X := OwnPX h 22 1 none 0 ([] : Bel)) hs subX disX ⟨cs, rep, own0⟩
 ·obtain ⟨ds, d1, d2⟩ := rows_of x cs rep hp.2
  have hdl : ds.length = x.length := by rw [← d1, List.length_map]
  have hb := subX b _ (FH.one_self _ _)
  have hlt := subX.lt (FH.one_self _ _)
  have hnb : ∀ i, h i ≠ none → b ≠ i := fun i hi q => by
   subst q
   rcases disX b with g | g
   ·exact hi g
   ·rw [FH.one_self] at g; cases g
  have hcmp : CmpLays1 Tryz.prog 92 #[] (encA (h := h)) cfA b 0 ds.toArray.size w := fun m os dk _ u v => by
   have hsW : Sub h (sortWorld encA w b 0 m dk os) := fun i o ho => by
    have hi := hs.lt ho
    show ((w.heap.modify b (onCells (putCells encA 0 dk))) ++ os)[i]? = _
    rw [Array.getElem?_append_left (by rw [Array.size_modify]; exact hi), Array.getElem?_modify, if_neg (hnb i (by rw [ho]; simp))]
    exact hs i o ho
   obtain ⟨⟨u1, u2⟩, ⟨ua, uc, ue, ul, ur⟩, un⟩ := u
   obtain ⟨⟨v1, v2⟩, ⟨va, vc, ve, vl, vr⟩, vn⟩ := v
   simp only [List.cons.injEq, and_true] at ue ve
   subst ue; subst ve
   exact (Pd.c_scompare hsW u1 ua uc ur ul v1 va vc vr vl ⟨un, vn⟩).mono fun e w' ⟨he, hb⟩ => ⟨he, grow_of_drawn hb⟩
  have hH : Go.Sort.Holds encA w b 0 ds.toArray := holds_map encA (by
   rw [List.map_toArray, d2]
   exact ownHoldsG hb h1 h7)
  have hsz : ds.toArray.size = x.length := by simpa using hdl
  have key := Any.slices_SortFunc YtojoehfldbimpaaGreatDoor.laysSR (encA (h := h)) (fun p => by
   obtain ⟨⟨p1, p2⟩, ⟨pa, pc, pe, _⟩, _⟩ := p
   simp only [List.cons.injEq, and_true] at pe
   subst pe; rfl) cfA swoA 92 #[] b 0 c ds.toArray w Tryz.call92 hcmp hH hlt (by rw [hsz]; have := hp.1; omega)
  rw [hsz] at key
  refine key.mono fun e w' ⟨he, d', n, os, hp', hs', hw⟩ => ⟨he, ?_⟩
  subst hw
  obtain ⟨p1, _, p3⟩ := hp'
  have hx1 : d'.extract 0 x.length = d' := by rw [← hsz, ← p1]; exact Array.extract_size
  have hx2 : ds.toArray.extract 0 x.length = ds.toArray := by rw [← hsz]; exact Array.extract_size
  rw [hx1, hx2] at p3
  have hsort : sp_sortR x = d'.toList.map (·.1.1) := by
   refine sorted_perm _ _ (sortR_sorted x) ?_ ?_
   ·rw [List.pairwise_map, List.pairwise_iff_getElem]
    intro i j hi hj hij
    have hsz' : d'.size = x.length := by rw [p1, hsz]
    have hj' : j < d'.size := by simpa using hj
    have := hs' i j (Nat.zero_le _) hij (by omega)
    rw [ltA, getElem!_pos d' j hj', getElem!_pos d' i (by omega)] at this
    exact this
   ·refine (sortR_perm x).trans ?_
    have := (p3.map (fun p : RowA h => p.1.1)).symm
    rw [List.toList_toArray, d1] at this
    exact this
  have hrep := rep_rows d'.toList
  rw [← hsort] at hrep
  have hlen : (d'.toList.map (encA (h := h))).length = x.length * 1 := by
   rw [List.length_map, Array.length_toList, p1, hsz, Nat.mul_one]
  have big := putG (q := n) (os := os) (ds := d'.toList.map (encA (h := h))) (m := x.length) (sz := 1) hs subX disX h5 h6 hlen h4
  have hlen2 := sortR_len x
  unfold sortWorld
  rw [putRow_map]
  have e5 : d'.map (encA (h := h)) = (d'.toList.map encA).toArray := by
   apply Array.toList_inj.1; simp
  rw [e5]
  exact big.weaken (k := 0) (X := OwnSl 22 1 (some ⟨b, 0, none⟩) x.length c (d'.toList.map encA)) (Y := OwnPX h 22 1 (some ⟨b, 0, none⟩) c (sp_sortR x)) rfl fun g hx => ⟨_, hrep, by rw [hlen2]; exact hx⟩
end Go.Proofs.YtojoehfldbimpaaGreatDoor.Pl

