/- The library's sorting and compacting of whole numbers, laid at this program, in the words of the walks. No condition. -/
import Derived.Shelf.Sort.Plain
import Derived.Shelf.Slices.In.SortNone
import Derived.Shelf.Slices.CompactI
import Derived.Lib.RowBridge
import Derived.Ground.Names2Prog
import Derived.Test.YtojoehfldbimpaaDoorT
namespace Go.Proofs
open Go.Shelf
def YtojoehfldbimpaaDoor.lays189_ren : Go.Shelf.Ren := ⟨fun | 189 => 43 | 125 => 59 | 257 => 58 | 128 => 74 | 129 => 75 | 294 => 66 | 295 => 67 | 296 => 68 | 297 => 69 | 298 => 70 | 299 => 71 | 216 => 56 | 300 => 72 | 301 => 73 | 328 => 89 | 329 => 90 | 330 => 91 | 331 => 92 | 332 => 93 | 215 => 65 | 343 => 101 | n => n, fun | 28 => 22 | 3 => 3 | 46 => 86 | 0 => 0 | 51 => 104 | 53 => 93 | 4 => 4 | 183 => 98 | 182 => 97 | 131 => 76 | 5 => 5 | 9 => 9 | 218 => 117 | 222 => 121 | 228 => 129 | 229 => 130 | n => n, fun | n => n⟩
theorem YtojoehfldbimpaaDoor.lays189 : Go.Proofs.Lays.n189 Tryd.prog YtojoehfldbimpaaDoor.lays189_ren := {
  mixed := by kernel_rfl
  f125 := Tryd.func59.trans (congrArg some (by kernel_rfl))
  f128 := Tryd.func74.trans (congrArg some (by kernel_rfl))
  f129 := Tryd.func75.trans (congrArg some (by kernel_rfl))
  f189 := Tryd.func43.trans (congrArg some (by kernel_rfl))
  f215 := Tryd.func65.trans (congrArg some (by kernel_rfl))
  f216 := Tryd.func56.trans (congrArg some (by kernel_rfl))
  f257 := Tryd.func58.trans (congrArg some (by kernel_rfl))
  f294 := Tryd.func66.trans (congrArg some (by kernel_rfl))
  f295 := Tryd.func67.trans (congrArg some (by kernel_rfl))
  f296 := Tryd.func68.trans (congrArg some (by kernel_rfl))
  f297 := Tryd.func69.trans (congrArg some (by kernel_rfl))
  f298 := Tryd.func70.trans (congrArg some (by kernel_rfl))
  f299 := Tryd.func71.trans (congrArg some (by kernel_rfl))
  f300 := Tryd.func72.trans (congrArg some (by kernel_rfl))
  f301 := Tryd.func73.trans (congrArg some (by kernel_rfl))
  f328 := Tryd.func89.trans (congrArg some (by kernel_rfl))
  f329 := Tryd.func90.trans (congrArg some (by kernel_rfl))
  f330 := Tryd.func91.trans (congrArg some (by kernel_rfl))
  f331 := Tryd.func92.trans (congrArg some (by kernel_rfl))
  f332 := Tryd.func93.trans (congrArg some (by kernel_rfl))
  f343 := Tryd.func101.trans (congrArg some (by kernel_rfl))
  t0 := Tryd.underlying0
  a0 := Tryd.isAgg0
  z0 := Tryd.sizeOf0
  v0 := Tryd.zeroValue0
  t3 := Tryd.underlying3
  a3 := Tryd.isAgg3
  z3 := Tryd.sizeOf3
  v3 := Tryd.zeroValue3
  t4 := Tryd.underlying4
  a4 := Tryd.isAgg4
  z4 := Tryd.sizeOf4
  v4 := Tryd.zeroValue4
  t5 := Tryd.underlying5
  a5 := Tryd.isAgg5
  z5 := Tryd.sizeOf5
  v5 := Tryd.zeroValue5
  t9 := Tryd.underlying9
  a9 := Tryd.isAgg9
  z9 := Tryd.sizeOf9
  v9 := Tryd.zeroValue9
  t28 := Tryd.underlying22
  a28 := Tryd.isAgg22
  z28 := Tryd.sizeOf22
  v28 := Tryd.zeroValue22
  t46 := Tryd.underlying86
  a46 := Tryd.isAgg86
  z46 := Tryd.sizeOf86
  v46 := Tryd.zeroValue86
  t51 := Tryd.underlying104
  a51 := Tryd.isAgg104
  z51 := Tryd.sizeOf104
  v51 := Tryd.zeroValue104
  t53 := Tryd.underlying93
  a53 := Tryd.isAgg93
  z53 := Tryd.sizeOf93
  v53 := Tryd.zeroValue93
  t131 := Tryd.underlying76
  a131 := Tryd.isAgg76
  z131 := Tryd.sizeOf76
  v131 := Tryd.zeroValue76
  t182 := Tryd.underlying97
  a182 := Tryd.isAgg97
  z182 := Tryd.sizeOf97
  v182 := Tryd.zeroValue97
  t183 := Tryd.underlying98
  a183 := Tryd.isAgg98
  z183 := Tryd.sizeOf98
  v183 := Tryd.zeroValue98
  t218 := Tryd.underlying117
  a218 := Tryd.isAgg117
  z218 := Tryd.sizeOf117
  v218 := Tryd.zeroValue117
  t222 := Tryd.underlying121
  a222 := Tryd.isAgg121
  z222 := Tryd.sizeOf121
  v222 := Tryd.zeroValue121
  t228 := Tryd.underlying129
  a228 := Tryd.isAgg129
  z228 := Tryd.sizeOf129
  v228 := Tryd.zeroValue129
  t229 := Tryd.underlying130
  a229 := Tryd.isAgg130
  z229 := Tryd.sizeOf130
  v229 := Tryd.zeroValue130 }
def YtojoehfldbimpaaDoor.lays220_ren : Go.Shelf.Ren := ⟨fun | 20 => 44 | n => n, fun | 22 => 22 | 3 => 3 | 4 => 4 | 0 => 0 | n => n, fun | n => n⟩
theorem YtojoehfldbimpaaDoor.lays220 : Go.Proofs.Lays2.n20 Tryd.prog YtojoehfldbimpaaDoor.lays220_ren := {
  mixed := by kernel_rfl
  f20 := Tryd.func44.trans (congrArg some (by kernel_rfl))
  t0 := Tryd.underlying0
  a0 := Tryd.isAgg0
  z0 := Tryd.sizeOf0
  v0 := Tryd.zeroValue0
  t3 := Tryd.underlying3
  a3 := Tryd.isAgg3
  z3 := Tryd.sizeOf3
  v3 := Tryd.zeroValue3
  t4 := Tryd.underlying4
  a4 := Tryd.isAgg4
  z4 := Tryd.sizeOf4
  v4 := Tryd.zeroValue4
  t22 := Tryd.underlying22
  a22 := Tryd.isAgg22
  z22 := Tryd.sizeOf22
  v22 := Tryd.zeroValue22
  i3 := by kernel_rfl }
end Go.Proofs
namespace Go.Proofs.YtojoehfldbimpaaDoor.Pl
open Go Go.RowKit Go.Sort
theorem flL_int (xs : List Int) : flL xs = xs.map (Value.int .i64) := by
  induction xs with
  | nil => rfl
  | cons x r ih => rw [List.map_cons, ← ih]; rfl
/-- a row that is laid anew -/
theorem putX {w : World} {h : FH} {b c m q : Nat} {cur : Array Value} {e : TypeId} {ds : List Int} {os : Array Obj} (hs : Sub h w) (sg : Sub (FH.one b (.cells cur e (0, 0))) w) (hd : Disj h (FH.one b (.cells cur e (0, 0)))) (hmax : c ≤ maxLen) (hsz : cur.size = c * 1) (hds : ds.length ≤ c) (hm : m ≤ ds.length) :
    SH (Kp.ex w h (FH.one b (.cells cur e (0, 0)))) h (grow (putRow (Value.int .i64) (Sort.ahead w q) b 0 ds.toArray) os) [OwnSl e 1 (some ⟨b, 0, none⟩) m c (flL (ds.take m))] := by
  have hb : w.heap[b]? = some (.cells cur e (0, 0)) := sg b _ (FH.one_self _ _)
  have hlt : b < w.heap.size := sg.lt (FH.one_self _ _)
  have hheap : ∀ i, i < w.heap.size → (grow (putRow (Value.int .i64) (Sort.ahead w q) b 0 ds.toArray) os).heap[i]? = if b = i then some (.cells (putCells (Value.int .i64) 0 ds.toArray cur) e (0, 0)) else w.heap[i]? := fun i hi => by
    show ((w.heap.modify b (onCells (putCells (Value.int .i64) 0 ds.toArray))) ++ os)[i]? = _
    rw [Array.getElem?_append_left (by rw [Array.size_modify]; exact hi), Array.getElem?_modify]
    by_cases q : b = i
    · subst q
      rw [if_pos rfl, if_pos rfl, hb]; rfl
    · rw [if_neg q, if_neg q]
  have hsize : w.heap.size ≤ (grow (putRow (Value.int .i64) (Sort.ahead w q) b 0 ds.toArray) os).heap.size := by
    show w.heap.size ≤ ((w.heap.modify b (onCells (putCells (Value.int .i64) 0 ds.toArray))) ++ os).size
    rw [Array.size_append, Array.size_modify]; omega
  have hone : ∀ i, FH.one b (.cells cur e (0, 0)) i = none → b ≠ i := fun i g q => by
    subst q
    rw [FH.one_self] at g; cases g
  have hnb : ∀ i, h i ≠ none → b ≠ i := fun i hi => hone i ((hd i).resolve_left hi)
  refine ⟨⟨rfl, rfl, rfl, hsize, fun i hi => ?_, (by unfold dr; first | exact Nat.le_add_right _ _ | exact Nat.le_refl _)⟩, fun i o ho => ?_, fun i hi => .inl hi, [FH.one b (.cells (putCells (Value.int .i64) 0 ds.toArray cur) e (0, 0))], rfl, ?_, ?_, ?_⟩
  · rw [hheap i hi.1, if_neg (hone i hi.2)]; rfl
  · rw [hheap i (hs.lt ho), if_neg (hnb i (by rw [ho]; simp))]; exact hs i o ho
  · intro i g X hi hX
    cases i with
    | succ i => simp at hi
    | zero =>
      simp at hi hX
      subst hi; subst hX
      refine ⟨by rw [flL_len]; simp [Flat.sz, hm], .inr ⟨b, _, rfl, rfl, by omega, hmax, by simp [putCells, hsz], ?_⟩⟩
      rw [flL_int, Nat.mul_one]
      refine List.ext_getElem? fun k => ?_
      rw [List.getElem?_take, List.getElem?_map, List.getElem?_take]
      by_cases g : k < m
      · have g2 : k < ds.length := by omega
        have g3 : k < cur.size := by omega
        rw [if_pos g, if_pos g, Array.getElem?_toList]
        simp [putCells, g2, g3]
      · rw [if_neg g, if_neg g]; rfl
  · intro i g hi
    cases i with
    | succ i => simp at hi
    | zero =>
      simp at hi
      subst hi
      refine ⟨fun j => ?_, Sub.one ?_, fun j hj hk => ?_⟩
      · by_cases g : h j = none
        · exact .inl g
        · exact .inr (by unfold FH.one; rw [if_neg (fun e => hnb j g e.symm)])
      · rw [hheap b hlt, if_pos rfl]
      · exact hone j hk.2 (FH.one_ne hj).symm
  · intro i j g g' hij hi hj
    cases i with
    | succ i => simp at hi
    | zero => cases j with
      | zero => exact absurd rfl hij
      | succ j => simp at hj
theorem ownHolds {w : World} {b : Nat} {cur : Array Value} {e : TypeId} {xs : List Int} (hb : w.heap[b]? = some (.cells cur e (0, 0))) (ht : cur.toList.take (xs.length * 1) = flL xs) : Go.Sort.Holds (Value.int .i64) w b 0 xs.toArray := fun j hj => by
  have hj' : j < xs.length := by simpa using hj
  refine ⟨?_, ?_⟩
  · unfold World.cell?
    rw [hb]
    show (if (none : Option _).isSome = true then none else cur[0 + j]?) = _
    rw [flL_int, Nat.mul_one] at ht
    have h1 := congrArg (fun l => l[j]?) ht
    simp only [List.getElem?_take, hj', if_true, List.getElem?_map] at h1
    rw [Array.getElem?_toList, List.getElem?_eq_getElem hj'] at h1
    rw [Nat.zero_add]
    simp [h1, hj']
  · unfold World.frozen?
    rw [hb]
    simp
theorem sort_len (xs : List Int) : (sp_sort xs).length = xs.length := List.length_mergeSort _
theorem c_sort {h : FH} {w : World} (hs : Sub h w) (s_ : List Int) (a : Option Addr) (c : Nat) {gX : FH} (ownX : OwnSl 3 1 a s_.length c (flL s_) gX) (subX : Sub gX w) (disX : Disj h gX) (hp : pre_sort s_) : Calls Tryd.prog 43 #[.slice a s_.length c] w fun e w' => e = .returned (.tuple #[]) ∧ SH (Kp.ex w h gX) h w' [OwnSl 3 1 a s_.length c (flL (sp_sort s_))] := by
  have own0 := ownX
  obtain ⟨h1, ⟨rfl, h2, rfl, rfl⟩ | ⟨b, cur, rfl, rfl, h4, h5, h6, h7⟩⟩ := ownX
  · have e : s_ = [] := List.length_eq_zero_iff.1 h2
    subst e
    refine (Any.slices_Sort_int_none YtojoehfldbimpaaDoor.lays189 none 0 w).mono fun e w' ⟨he, hw⟩ => ⟨he, ?_⟩
    subst hw
    rw [show sp_sort [] = [] by simp [sp_sort]]
    exact SH.startX hs subX disX own0
  · have hb := subX b _ (FH.one_self _ _)
    refine (Any.slices_Sort_int YtojoehfldbimpaaDoor.lays189 b 0 c s_ w (ownHolds hb h7) (subX.lt (FH.one_self _ _)) (Nat.lt_of_le_of_lt hp (by decide))).mono fun e w' ⟨he, n, os, hw⟩ => ⟨he, ?_⟩
    subst hw
    have := putX (q := n) (os := os) (ds := sp_sort s_) (m := s_.length) hs subX disX h5 h6 (by rw [sort_len]; exact h4) (by rw [sort_len]; exact Nat.le_refl _)
    rwa [List.take_of_length_le (by rw [sort_len]; exact Nat.le_refl _)] at this
theorem compact_len (xs : List Int) : (sp_compact xs).length ≤ xs.length := Lib.compact_length_le xs
theorem c_compact {h : FH} {w : World} (hs : Sub h w) (s_ : List Int) (a : Option Addr) (c : Nat) {gX : FH} (ownX : OwnSl 3 1 a s_.length c (flL s_) gX) (subX : Sub gX w) (disX : Disj h gX) (hp : pre_compact s_) : Calls Tryd.prog 44 #[.slice a s_.length c] w fun e w' => e = .returned (.slice a (sp_compact s_).length c) ∧ SH (Kp.ex w h gX) h w' [OwnSl 3 1 a (sp_compact s_).length c (flL (sp_compact s_))] := by
  have own0 := ownX
  obtain ⟨h1, ⟨rfl, h2, rfl, rfl⟩ | ⟨b, cur, rfl, rfl, h4, h5, h6, h7⟩⟩ := ownX
  · have e : s_ = [] := List.length_eq_zero_iff.1 h2
    subst e
    refine (Any.slices_Compact_int_empty YtojoehfldbimpaaDoor.lays220 none 0 w).mono fun e w' ⟨he, hw⟩ => ⟨he, ?_⟩
    subst hw
    exact SH.startX hs subX disX own0
  · have hb := subX b _ (FH.one_self _ _)
    have hl := compact_len s_
    unfold pre_compact at hp
    refine (Any.slices_Compact_int YtojoehfldbimpaaDoor.lays220 b 0 c s_ w (ownHolds hb h7) (by omega) h4).mono fun e w' ⟨he, n, hw⟩ => ⟨he, ?_⟩
    subst hw
    have e2 : (sp_compact s_ ++ List.replicate (s_.length - (sp_compact s_).length) 0).length = s_.length := by rw [List.length_append, List.length_replicate]; omega
    have := putX (q := n) (os := #[]) (ds := sp_compact s_ ++ List.replicate (s_.length - (sp_compact s_).length) 0) (m := (sp_compact s_).length) hs subX disX h5 h6 (by rw [e2]; exact h4) (by rw [e2]; exact hl)
    rw [List.take_left, grow_empty] at this
    exact this
end Go.Proofs.YtojoehfldbimpaaDoor.Pl
