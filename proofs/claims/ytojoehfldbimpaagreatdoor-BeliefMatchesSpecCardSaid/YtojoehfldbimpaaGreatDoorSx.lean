/- The library's sorting and compacting of whole numbers, laid at this program, in the words of the walks. No condition. -/
import Derived.Shelf.Sort.Plain
import Derived.Shelf.Slices.In.SortNone
import Derived.Shelf.Slices.CompactI
import Derived.Lib.RowBridge
import Derived.Ground.Names2Prog
import Derived.Test.YtojoehfldbimpaaGreatDoorT
namespace Go.Proofs
open Go.Shelf
def YtojoehfldbimpaaGreatDoor.lays189_ren : Go.Shelf.Ren := ⟨fun | 189 => 105 | 125 => 119 | 257 => 118 | 128 => 134 | 129 => 135 | 294 => 126 | 295 => 127 | 296 => 128 | 297 => 129 | 298 => 130 | 299 => 131 | 216 => 116 | 300 => 132 | 301 => 133 | 328 => 150 | 329 => 151 | 330 => 152 | 331 => 153 | 332 => 154 | 215 => 122 | 343 => 162 | n => n, fun | 28 => 22 | 3 => 3 | 46 => 131 | 0 => 0 | 51 => 148 | 53 => 137 | 4 => 4 | 183 => 142 | 182 => 141 | 131 => 123 | 5 => 5 | 9 => 9 | 218 => 161 | 222 => 165 | 228 => 173 | 229 => 174 | n => n, fun | n => n⟩
theorem YtojoehfldbimpaaGreatDoor.lays189 : Go.Proofs.Lays.n189 Tryz.prog YtojoehfldbimpaaGreatDoor.lays189_ren := {
  mixed := by kernel_rfl
  f125 := Tryz.func119.trans (congrArg some (by kernel_rfl))
  f128 := Tryz.func134.trans (congrArg some (by kernel_rfl))
  f129 := Tryz.func135.trans (congrArg some (by kernel_rfl))
  f189 := Tryz.func105.trans (congrArg some (by kernel_rfl))
  f215 := Tryz.func122.trans (congrArg some (by kernel_rfl))
  f216 := Tryz.func116.trans (congrArg some (by kernel_rfl))
  f257 := Tryz.func118.trans (congrArg some (by kernel_rfl))
  f294 := Tryz.func126.trans (congrArg some (by kernel_rfl))
  f295 := Tryz.func127.trans (congrArg some (by kernel_rfl))
  f296 := Tryz.func128.trans (congrArg some (by kernel_rfl))
  f297 := Tryz.func129.trans (congrArg some (by kernel_rfl))
  f298 := Tryz.func130.trans (congrArg some (by kernel_rfl))
  f299 := Tryz.func131.trans (congrArg some (by kernel_rfl))
  f300 := Tryz.func132.trans (congrArg some (by kernel_rfl))
  f301 := Tryz.func133.trans (congrArg some (by kernel_rfl))
  f328 := Tryz.func150.trans (congrArg some (by kernel_rfl))
  f329 := Tryz.func151.trans (congrArg some (by kernel_rfl))
  f330 := Tryz.func152.trans (congrArg some (by kernel_rfl))
  f331 := Tryz.func153.trans (congrArg some (by kernel_rfl))
  f332 := Tryz.func154.trans (congrArg some (by kernel_rfl))
  f343 := Tryz.func162.trans (congrArg some (by kernel_rfl))
  t0 := Tryz.underlying0
  a0 := Tryz.isAgg0
  z0 := Tryz.sizeOf0
  v0 := Tryz.zeroValue0
  t3 := Tryz.underlying3
  a3 := Tryz.isAgg3
  z3 := Tryz.sizeOf3
  v3 := Tryz.zeroValue3
  t4 := Tryz.underlying4
  a4 := Tryz.isAgg4
  z4 := Tryz.sizeOf4
  v4 := Tryz.zeroValue4
  t5 := Tryz.underlying5
  a5 := Tryz.isAgg5
  z5 := Tryz.sizeOf5
  v5 := Tryz.zeroValue5
  t9 := Tryz.underlying9
  a9 := Tryz.isAgg9
  z9 := Tryz.sizeOf9
  v9 := Tryz.zeroValue9
  t28 := Tryz.underlying22
  a28 := Tryz.isAgg22
  z28 := Tryz.sizeOf22
  v28 := Tryz.zeroValue22
  t46 := Tryz.underlying131
  a46 := Tryz.isAgg131
  z46 := Tryz.sizeOf131
  v46 := Tryz.zeroValue131
  t51 := Tryz.underlying148
  a51 := Tryz.isAgg148
  z51 := Tryz.sizeOf148
  v51 := Tryz.zeroValue148
  t53 := Tryz.underlying137
  a53 := Tryz.isAgg137
  z53 := Tryz.sizeOf137
  v53 := Tryz.zeroValue137
  t131 := Tryz.underlying123
  a131 := Tryz.isAgg123
  z131 := Tryz.sizeOf123
  v131 := Tryz.zeroValue123
  t182 := Tryz.underlying141
  a182 := Tryz.isAgg141
  z182 := Tryz.sizeOf141
  v182 := Tryz.zeroValue141
  t183 := Tryz.underlying142
  a183 := Tryz.isAgg142
  z183 := Tryz.sizeOf142
  v183 := Tryz.zeroValue142
  t218 := Tryz.underlying161
  a218 := Tryz.isAgg161
  z218 := Tryz.sizeOf161
  v218 := Tryz.zeroValue161
  t222 := Tryz.underlying165
  a222 := Tryz.isAgg165
  z222 := Tryz.sizeOf165
  v222 := Tryz.zeroValue165
  t228 := Tryz.underlying173
  a228 := Tryz.isAgg173
  z228 := Tryz.sizeOf173
  v228 := Tryz.zeroValue173
  t229 := Tryz.underlying174
  a229 := Tryz.isAgg174
  z229 := Tryz.sizeOf174
  v229 := Tryz.zeroValue174 }
def YtojoehfldbimpaaGreatDoor.lays220_ren : Go.Shelf.Ren := ⟨fun | 20 => 106 | n => n, fun | 22 => 22 | 3 => 3 | 4 => 4 | 0 => 0 | n => n, fun | n => n⟩
theorem YtojoehfldbimpaaGreatDoor.lays220 : Go.Proofs.Lays2.n20 Tryz.prog YtojoehfldbimpaaGreatDoor.lays220_ren := {
  mixed := by kernel_rfl
  f20 := Tryz.func106.trans (congrArg some (by kernel_rfl))
  t0 := Tryz.underlying0
  a0 := Tryz.isAgg0
  z0 := Tryz.sizeOf0
  v0 := Tryz.zeroValue0
  t3 := Tryz.underlying3
  a3 := Tryz.isAgg3
  z3 := Tryz.sizeOf3
  v3 := Tryz.zeroValue3
  t4 := Tryz.underlying4
  a4 := Tryz.isAgg4
  z4 := Tryz.sizeOf4
  v4 := Tryz.zeroValue4
  t22 := Tryz.underlying22
  a22 := Tryz.isAgg22
  z22 := Tryz.sizeOf22
  v22 := Tryz.zeroValue22
  i3 := by kernel_rfl }
end Go.Proofs
namespace Go.Proofs.YtojoehfldbimpaaGreatDoor.Pl
open Go Go.RowKit Go.Sort
theorem flL_int (xs : List Int) : flL xs = xs.map (Value.int .i64) := by
  induction xs with
  | nil => rfl
  | cons x r ih => rw [List.map_cons, ← ih]; rfl
/-- a row that is laid anew -/
theorem putX {w : World} {h : FH} {b c m q : Nat} {cur : Array Value} {e : TypeId} {ds : List Int} {os : Array Obj} (hs : Sub h w) (sg : Sub (FH.one b (.cells cur e (0, 0))) w) (hd : Disj h (FH.one b (.cells cur e (0, 0)))) (hmax : c ≤ maxLen) (hsz : cur.size = c * 1) (hds : ds.length ≤ c) (hm : m ≤ ds.length) :
    SH (Kp.ex w h (FH.one b (.cells cur e (0, 0)))) h (grow (putRow (Value.int .i64) (Sort.ahead w q) b 0 ds.toArray) os) [OwnSl e 1 (some ⟨b, 0, none⟩) m c (flL (ds.take m))] := by
  have hb : w.heap[b]? = some (.cells cur e (0, 0)) := sg b _ (FH.one_self _ _)
  have hlt : b < w.heap.size := sg.lt (FH.one_self _ _)
  have hheap : ∀ i, i < w.heap.size → (grow (putRow (Value.int .i64) (Sort.ahead w q) b 0 ds.toArray) os).heap[i]? = if b = i then some (.cells (putCells (Value.int .i64) 0 ds.toArray cur) e (0, 0)) else w.heap[i]? := fun i hi => by
    show ((w.heap.modify b (onCells (putCells (Value.int .i64) 0 ds.toArray))) ++ os)[i]? = _
    rw [Array.getElem?_append_left (by rw [Array.size_modify]; exact hi), Array.getElem?_modify]
    by_cases q : b = i
    · subst q
      rw [if_pos rfl, if_pos rfl, hb]; rfl
    · rw [if_neg q, if_neg q]
  have hsize : w.heap.size ≤ (grow (putRow (Value.int .i64) (Sort.ahead w q) b 0 ds.toArray) os).heap.size := by
    show w.heap.size ≤ ((w.heap.modify b (onCells (putCells (Value.int .i64) 0 ds.toArray))) ++ os).size
    rw [Array.size_append, Array.size_modify]; omega
  have hone : ∀ i, FH.one b (.cells cur e (0, 0)) i = none → b ≠ i := fun i g q => by
    subst q
    rw [FH.one_self] at g; cases g
  have hnb : ∀ i, h i ≠ none → b ≠ i := fun i hi => hone i ((hd i).resolve_left hi)
  refine ⟨⟨rfl, rfl, rfl, hsize, fun i hi => ?_, (by unfold dr; first | exact Nat.le_add_right _ _ | exact Nat.le_refl _)⟩, fun i o ho => ?_, fun i hi => .inl hi, [FH.one b (.cells (putCells (Value.int .i64) 0 ds.toArray cur) e (0, 0))], rfl, ?_, ?_, ?_⟩
  · rw [hheap i hi.1, if_neg (hone i hi.2)]; rfl
  · rw [hheap i (hs.lt ho), if_neg (hnb i (by rw [ho]; simp))]; exact hs i o ho
  · intro i g X hi hX
    cases i with
    | succ i => simp at hi
    | zero =>
      simp at hi hX
      subst hi; subst hX
      refine ⟨by rw [flL_len]; simp [Flat.sz, hm], .inr ⟨b, _, rfl, rfl, by omega, hmax, by simp [putCells, hsz], ?_⟩⟩
      rw [flL_int, Nat.mul_one]
      refine List.ext_getElem? fun k => ?_
      rw [List.getElem?_take, List.getElem?_map, List.getElem?_take]
      by_cases g : k < m
      · have g2 : k < ds.length := by omega
        have g3 : k < cur.size := by omega
        rw [if_pos g, if_pos g, Array.getElem?_toList]
        simp [putCells, g2, g3]
      · rw [if_neg g, if_neg g]; rfl
  · intro i g hi
    cases i with
    | succ i => simp at hi
    | zero =>
      simp at hi
      subst hi
      refine ⟨fun j => ?_, Sub.one ?_, fun j hj hk => ?_⟩
      · by_cases g : h j = none
        · exact .inl g
        · exact .inr (by unfold FH.one; rw [if_neg (fun e => hnb j g e.symm)])
      · rw [hheap b hlt, if_pos rfl]
      · exact hone j hk.2 (FH.one_ne hj).symm
  · intro i j g g' hij hi hj
    cases i with
    | succ i => simp at hi
    | zero => cases j with
      | zero => exact absurd rfl hij
      | succ j => simp at hj
theorem ownHolds {w : World} {b : Nat} {cur : Array Value} {e : TypeId} {xs : List Int} (hb : w.heap[b]? = some (.cells cur e (0, 0))) (ht : cur.toList.take (xs.length * 1) = flL xs) : Go.Sort.Holds (Value.int .i64) w b 0 xs.toArray := fun j hj => by
  have hj' : j < xs.length := by simpa using hj
  refine ⟨?_, ?_⟩
  · unfold World.cell?
    rw [hb]
    show (if (none : Option _).isSome = true then none else cur[0 + j]?) = _
    rw [flL_int, Nat.mul_one] at ht
    have h1 := congrArg (fun l => l[j]?) ht
    simp only [List.getElem?_take, hj', if_true, List.getElem?_map] at h1
    rw [Array.getElem?_toList, List.getElem?_eq_getElem hj'] at h1
    rw [Nat.zero_add]
    simp [h1, hj']
  · unfold World.frozen?
    rw [hb]
    simp
theorem sort_len (xs : List Int) : (sp_sort xs).length = xs.length := List.length_mergeSort _
theorem c_sort {h : FH} {w : World} (hs : Sub h w) (s_ : List Int) (a : Option Addr) (c : Nat) {gX : FH} (ownX : OwnSl 3 1 a s_.length c (flL s_) gX) (subX : Sub gX w) (disX : Disj h gX) (hp : pre_sort s_) : Calls Tryz.prog 105 #[.slice a s_.length c] w fun e w' => e = .returned (.tuple #[]) ∧ SH (Kp.ex w h gX) h w' [OwnSl 3 1 a s_.length c (flL (sp_sort s_))] := by
  have own0 := ownX
  obtain ⟨h1, ⟨rfl, h2, rfl, rfl⟩ | ⟨b, cur, rfl, rfl, h4, h5, h6, h7⟩⟩ := ownX
  · have e : s_ = [] := List.length_eq_zero_iff.1 h2
    subst e
    refine (Any.slices_Sort_int_none YtojoehfldbimpaaGreatDoor.lays189 none 0 w).mono fun e w' ⟨he, hw⟩ => ⟨he, ?_⟩
    subst hw
    rw [show sp_sort [] = [] by simp [sp_sort]]
    exact SH.startX hs subX disX own0
  · have hb := subX b _ (FH.one_self _ _)
    refine (Any.slices_Sort_int YtojoehfldbimpaaGreatDoor.lays189 b 0 c s_ w (ownHolds hb h7) (subX.lt (FH.one_self _ _)) (Nat.lt_of_le_of_lt hp (by decide))).mono fun e w' ⟨he, n, os, hw⟩ => ⟨he, ?_⟩
    subst hw
    have := putX (q := n) (os := os) (ds := sp_sort s_) (m := s_.length) hs subX disX h5 h6 (by rw [sort_len]; exact h4) (by rw [sort_len]; exact Nat.le_refl _)
    rwa [List.take_of_length_le (by rw [sort_len]; exact Nat.le_refl _)] at this
theorem compact_len (xs : List Int) : (sp_compact xs).length ≤ xs.length := Lib.compact_length_le xs
theorem c_compact {h : FH} {w : World} (hs : Sub h w) (s_ : List Int) (a : Option Addr) (c : Nat) {gX : FH} (ownX : OwnSl 3 1 a s_.length c (flL s_) gX) (subX : Sub gX w) (disX : Disj h gX) (hp : pre_compact s_) : Calls Tryz.prog 106 #[.slice a s_.length c] w fun e w' => e = .returned (.slice a (sp_compact s_).length c) ∧ SH (Kp.ex w h gX) h w' [OwnSl 3 1 a (sp_compact s_).length c (flL (sp_compact s_))] := by
  have own0 := ownX
  obtain ⟨h1, ⟨rfl, h2, rfl, rfl⟩ | ⟨b, cur, rfl, rfl, h4, h5, h6, h7⟩⟩ := ownX
  · have e : s_ = [] := List.length_eq_zero_iff.1 h2
    subst e
    refine (Any.slices_Compact_int_empty YtojoehfldbimpaaGreatDoor.lays220 none 0 w).mono fun e w' ⟨he, hw⟩ => ⟨he, ?_⟩
    subst hw
    exact SH.startX hs subX disX own0
  · have hb := subX b _ (FH.one_self _ _)
    have hl := compact_len s_
    unfold pre_compact at hp
    refine (Any.slices_Compact_int YtojoehfldbimpaaGreatDoor.lays220 b 0 c s_ w (ownHolds hb h7) (by omega) h4).mono fun e w' ⟨he, n, hw⟩ => ⟨he, ?_⟩
    subst hw
    have e2 : (sp_compact s_ ++ List.replicate (s_.length - (sp_compact s_).length) 0).length = s_.length := by rw [List.length_append, List.length_replicate]; omega
    have := putX (q := n) (os := #[]) (ds := sp_compact s_ ++ List.replicate (s_.length - (sp_compact s_).length) 0) (m := (sp_compact s_).length) hs subX disX h5 h6 (by rw [e2]; exact h4) (by rw [e2]; exact hl)
    rw [List.take_left, grow_empty] at this
    exact this
end Go.Proofs.YtojoehfldbimpaaGreatDoor.Pl

