/- The library's sorting and compacting of whole numbers, laid at this program, in the words of the walks. No condition. -/
import Derived.Shelf.Lay
import Derived.Shelf.Sort.Plain
import Derived.Shelf.Slices.In.SortNone
import Derived.Shelf.Slices.CompactI
import Derived.Lib.RowBridge
import Derived.Ground.Names2Prog
import Derived.Test.YtojoehfldbimpaaGreatDoorT
namespace Go.Proofs
open Go.Shelf
shelf_lay Lays.n189 Nm 189 at Tryz as YtojoehfldbimpaaGreatDoor.lays189
shelf_lay Lays2.n20 Nm2 20 at Tryz as YtojoehfldbimpaaGreatDoor.lays220
end Go.Proofs
namespace Go.Proofs.YtojoehfldbimpaaGreatDoor.Pl
open Go Go.RowKit Go.Sort
theorem flL_int (xs : List Int) : flL xs = xs.map (Value.int .i64) := by
  induction xs with
  | nil => rfl
  | cons x r ih => rw [List.map_cons, ← ih]; rfl
/-- a row that is laid anew -/
theorem putX {w : World} {h : FH} {b c m q : Nat} {cur : Array Value} {e : TypeId} {ds : List Int} {os : Array Obj} (hs : Sub h w) (sg : Sub (FH.one b (.cells cur e (0, 0))) w) (hd : Disj h (FH.one b (.cells cur e (0, 0)))) (hmax : c ≤ maxLen) (hsz : cur.size = c * 1) (hds : ds.length ≤ c) (hm : m ≤ ds.length) :
    SH (Kp.ex w h (FH.one b (.cells cur e (0, 0)))) h (grow (putRow (Value.int .i64) (Sort.ahead w q) b 0 ds.toArray) os) [OwnSl e 1 (some ⟨b, 0, none⟩) m c (flL (ds.take m))] := by
  have hb : w.heap[b]? = some (.cells cur e (0, 0)) := sg b _ (FH.one_self _ _)
  have hlt : b < w.heap.size := sg.lt (FH.one_self _ _)
  have hheap : ∀ i, i < w.heap.size → (grow (putRow (Value.int .i64) (Sort.ahead w q) b 0 ds.toArray) os).heap[i]? = if b = i then some (.cells (putCells (Value.int .i64) 0 ds.toArray cur) e (0, 0)) else w.heap[i]? := fun i hi => by
    show ((w.heap.modify b (onCells (putCells (Value.int .i64) 0 ds.toArray))) ++ os)[i]? = _
    rw [Array.getElem?_append_left (by rw [Array.size_modify]; exact hi), Array.getElem?_modify]
    by_cases q : b = i
    · subst q
      rw [if_pos rfl, if_pos rfl, hb]; rfl
    · rw [if_neg q, if_neg q]
  have hsize : w.heap.size ≤ (grow (putRow (Value.int .i64) (Sort.ahead w q) b 0 ds.toArray) os).heap.size := by
    show w.heap.size ≤ ((w.heap.modify b (onCells (putCells (Value.int .i64) 0 ds.toArray))) ++ os).size
    rw [Array.size_append, Array.size_modify]; omega
  have hone : ∀ i, FH.one b (.cells cur e (0, 0)) i = none → b ≠ i := fun i g q => by
    subst q
    rw [FH.one_self] at g; cases g
  have hnb : ∀ i, h i ≠ none → b ≠ i := fun i hi => hone i ((hd i).resolve_left hi)
  refine ⟨⟨rfl, rfl, rfl, hsize, fun i hi => ?_, (by unfold dr; first | exact Nat.le_add_right _ _ | exact Nat.le_refl _)⟩, fun i o ho => ?_, fun i hi => .inl hi, [FH.one b (.cells (putCells (Value.int .i64) 0 ds.toArray cur) e (0, 0))], rfl, ?_, ?_, ?_⟩
  · rw [hheap i hi.1, if_neg (hone i hi.2)]; rfl
  · rw [hheap i (hs.lt ho), if_neg (hnb i (by rw [ho]; simp))]; exact hs i o ho
  · intro i g X hi hX
    cases i with
    | succ i => simp at hi
    | zero =>
      simp at hi hX
      subst hi; subst hX
      refine ⟨by rw [flL_len]; simp [Flat.sz, hm], .inr ⟨b, _, rfl, rfl, by omega, hmax, by simp [putCells, hsz], ?_⟩⟩
      rw [flL_int, Nat.mul_one]
      refine List.ext_getElem? fun k => ?_
      rw [List.getElem?_take, List.getElem?_map, List.getElem?_take]
      by_cases g : k < m
      · have g2 : k < ds.length := by omega
        have g3 : k < cur.size := by omega
        rw [if_pos g, if_pos g, Array.getElem?_toList]
        simp [putCells, g2, g3]
      · rw [if_neg g, if_neg g]; rfl
  · intro i g hi
    cases i with
    | succ i => simp at hi
    | zero =>
      simp at hi
      subst hi
      refine ⟨fun j => ?_, Sub.one ?_, fun j hj hk => ?_⟩
      · by_cases g : h j = none
        · exact .inl g
        · exact .inr (by unfold FH.one; rw [if_neg (fun e => hnb j g e.symm)])
      · rw [hheap b hlt, if_pos rfl]
      · exact hone j hk.2 (FH.one_ne hj).symm
  · intro i j g g' hij hi hj
    cases i with
    | succ i => simp at hi
    | zero => cases j with
      | zero => exact absurd rfl hij
      | succ j => simp at hj
theorem ownHolds {w : World} {b : Nat} {cur : Array Value} {e : TypeId} {xs : List Int} (hb : w.heap[b]? = some (.cells cur e (0, 0))) (ht : cur.toList.take (xs.length * 1) = flL xs) : Go.Sort.Holds (Value.int .i64) w b 0 xs.toArray := fun j hj => by
  have hj' : j < xs.length := by simpa using hj
  refine ⟨?_, ?_⟩
  · unfold World.cell?
    rw [hb]
    show (if (none : Option _).isSome = true then none else cur[0 + j]?) = _
    rw [flL_int, Nat.mul_one] at ht
    have h1 := congrArg (fun l => l[j]?) ht
    simp only [List.getElem?_take, hj', if_true, List.getElem?_map] at h1
    rw [Array.getElem?_toList, List.getElem?_eq_getElem hj'] at h1
    rw [Nat.zero_add]
    simp [h1, hj']
  · unfold World.frozen?
    rw [hb]
    simp
theorem sort_len (xs : List Int) : (sp_sort xs).length = xs.length := List.length_mergeSort _
theorem c_sort {h : FH} {w : World} (hs : Sub h w) (s_ : List Int) (a : Option Addr) (c : Nat) {gX : FH} (ownX : OwnSl 3 1 a s_.length c (flL s_) gX) (subX : Sub gX w) (disX : Disj h gX) (hp : pre_sort s_) : Calls Tryz.prog 105 #[.slice a s_.length c] w fun e w' => e = .returned (.tuple #[]) ∧ SH (Kp.ex w h gX) h w' [OwnSl 3 1 a s_.length c (flL (sp_sort s_))] := by
  have own0 := ownX
  obtain ⟨h1, ⟨rfl, h2, rfl, rfl⟩ | ⟨b, cur, rfl, rfl, h4, h5, h6, h7⟩⟩ := ownX
  · have e : s_ = [] := List.length_eq_zero_iff.1 h2
    subst e
    refine (Any.slices_Sort_int_none YtojoehfldbimpaaGreatDoor.lays189 none 0 w).mono fun e w' ⟨he, hw⟩ => ⟨he, ?_⟩
    subst hw
    rw [show sp_sort [] = [] by simp [sp_sort]]
    exact SH.startX hs subX disX own0
  · have hb := subX b _ (FH.one_self _ _)
    refine (Any.slices_Sort_int YtojoehfldbimpaaGreatDoor.lays189 b 0 c s_ w (ownHolds hb h7) (subX.lt (FH.one_self _ _)) (Nat.lt_of_le_of_lt hp (by decide))).mono fun e w' ⟨he, n, os, hw⟩ => ⟨he, ?_⟩
    subst hw
    have := putX (q := n) (os := os) (ds := sp_sort s_) (m := s_.length) hs subX disX h5 h6 (by rw [sort_len]; exact h4) (by rw [sort_len]; exact Nat.le_refl _)
    rwa [List.take_of_length_le (by rw [sort_len]; exact Nat.le_refl _)] at this
theorem compact_len (xs : List Int) : (sp_compact xs).length ≤ xs.length := Lib.compact_length_le xs
theorem c_compact {h : FH} {w : World} (hs : Sub h w) (s_ : List Int) (a : Option Addr) (c : Nat) {gX : FH} (ownX : OwnSl 3 1 a s_.length c (flL s_) gX) (subX : Sub gX w) (disX : Disj h gX) (hp : pre_compact s_) : Calls Tryz.prog 106 #[.slice a s_.length c] w fun e w' => e = .returned (.slice a (sp_compact s_).length c) ∧ SH (Kp.ex w h gX) h w' [OwnSl 3 1 a (sp_compact s_).length c (flL (sp_compact s_))] := by
  have own0 := ownX
  obtain ⟨h1, ⟨rfl, h2, rfl, rfl⟩ | ⟨b, cur, rfl, rfl, h4, h5, h6, h7⟩⟩ := ownX
  · have e : s_ = [] := List.length_eq_zero_iff.1 h2
    subst e
    refine (Any.slices_Compact_int_empty YtojoehfldbimpaaGreatDoor.lays220 none 0 w).mono fun e w' ⟨he, hw⟩ => ⟨he, ?_⟩
    subst hw
    exact SH.startX hs subX disX own0
  · have hb := subX b _ (FH.one_self _ _)
    have hl := compact_len s_
    unfold pre_compact at hp
    refine (Any.slices_Compact_int YtojoehfldbimpaaGreatDoor.lays220 b 0 c s_ w (ownHolds hb h7) (by omega) h4).mono fun e w' ⟨he, n, hw⟩ => ⟨he, ?_⟩
    subst hw
    have e2 : (sp_compact s_ ++ List.replicate (s_.length - (sp_compact s_).length) 0).length = s_.length := by rw [List.length_append, List.length_replicate]; omega
    have := putX (q := n) (os := #[]) (ds := sp_compact s_ ++ List.replicate (s_.length - (sp_compact s_).length) 0) (m := (sp_compact s_).length) hs subX disX h5 h6 (by rw [e2]; exact h4) (by rw [e2]; exact hl)
    rw [List.take_left, grow_empty] at this
    exact this
end Go.Proofs.YtojoehfldbimpaaGreatDoor.Pl

