/- The library's sorting of lists of numbers by slices.Compare, laid at this program, in the words of the walks. No condition. -/
import Derived.Ground.SlsfProg
import Derived.Test.YtojoehfldbimpaaGreatDoorPd
namespace Go.Proofs
open Go.Shelf
def YtojoehfldbimpaaGreatDoor.laysSR_ren : Go.Shelf.Ren := ⟨fun | 6 => 107 | 15 => 119 | 14 => 120 | 28 => 134 | 29 => 135 | 20 => 136 | 21 => 137 | 22 => 138 | 23 => 139 | 24 => 140 | 25 => 141 | 26 => 142 | 27 => 143 | 46 => 155 | 47 => 151 | 48 => 152 | 49 => 156 | 50 => 157 | 57 => 163 | n => n, fun | 22 => 35 | 24 => 22 | 25 => 116 | 3 => 3 | 39 => 131 | 0 => 0 | 53 => 148 | 55 => 137 | 4 => 4 | 46 => 142 | 45 => 141 | 50 => 123 | 5 => 5 | 9 => 9 | 66 => 161 | 70 => 165 | 76 => 173 | 77 => 174 | n => n, fun | n => n⟩
theorem YtojoehfldbimpaaGreatDoor.laysSR : Go.Proofs.SlLaysF.n6 Tryz.prog YtojoehfldbimpaaGreatDoor.laysSR_ren := {
  mixed := by kernel_rfl
  f6 := ⟨Tryz.f107.name, by decide, Tryz.func107.trans (congrArg some (by kernel_rfl))⟩
  f14 := ⟨Tryz.f120.name, by decide, Tryz.func120.trans (congrArg some (by kernel_rfl))⟩
  f15 := Tryz.func119.trans (congrArg some (by kernel_rfl))
  f20 := ⟨Tryz.f136.name, by decide, Tryz.func136.trans (congrArg some (by kernel_rfl))⟩
  f21 := ⟨Tryz.f137.name, by decide, Tryz.func137.trans (congrArg some (by kernel_rfl))⟩
  f22 := ⟨Tryz.f138.name, by decide, Tryz.func138.trans (congrArg some (by kernel_rfl))⟩
  f23 := ⟨Tryz.f139.name, by decide, Tryz.func139.trans (congrArg some (by kernel_rfl))⟩
  f24 := ⟨Tryz.f140.name, by decide, Tryz.func140.trans (congrArg some (by kernel_rfl))⟩
  f25 := ⟨Tryz.f141.name, by decide, Tryz.func141.trans (congrArg some (by kernel_rfl))⟩
  f26 := ⟨Tryz.f142.name, by decide, Tryz.func142.trans (congrArg some (by kernel_rfl))⟩
  f27 := ⟨Tryz.f143.name, by decide, Tryz.func143.trans (congrArg some (by kernel_rfl))⟩
  f28 := Tryz.func134.trans (congrArg some (by kernel_rfl))
  f29 := Tryz.func135.trans (congrArg some (by kernel_rfl))
  f46 := ⟨Tryz.f155.name, by decide, Tryz.func155.trans (congrArg some (by kernel_rfl))⟩
  f47 := Tryz.func151.trans (congrArg some (by kernel_rfl))
  f48 := Tryz.func152.trans (congrArg some (by kernel_rfl))
  f49 := ⟨Tryz.f156.name, by decide, Tryz.func156.trans (congrArg some (by kernel_rfl))⟩
  f50 := ⟨Tryz.f157.name, by decide, Tryz.func157.trans (congrArg some (by kernel_rfl))⟩
  f57 := ⟨Tryz.f163.name, by decide, Tryz.func163.trans (congrArg some (by kernel_rfl))⟩
  t0 := Tryz.underlying0
  a0 := Tryz.isAgg0
  z0 := Tryz.sizeOf0
  v0 := Tryz.zeroValue0
  t3 := Tryz.underlying3
  a3 := Tryz.isAgg3
  z3 := Tryz.sizeOf3
  v3 := Tryz.zeroValue3
  t4 := Tryz.underlying4
  a4 := Tryz.isAgg4
  z4 := Tryz.sizeOf4
  v4 := Tryz.zeroValue4
  t5 := Tryz.underlying5
  a5 := Tryz.isAgg5
  z5 := Tryz.sizeOf5
  v5 := Tryz.zeroValue5
  t9 := Tryz.underlying9
  a9 := Tryz.isAgg9
  z9 := Tryz.sizeOf9
  v9 := Tryz.zeroValue9
  t22 := Tryz.underlying35
  a22 := Tryz.isAgg35
  z22 := Tryz.sizeOf35
  v22 := Tryz.zeroValue35
  a24 := Tryz.isAgg22
  z24 := Tryz.sizeOf22
  t25 := Tryz.underlying116
  a25 := Tryz.isAgg116
  z25 := Tryz.sizeOf116
  v25 := Tryz.zeroValue116
  t39 := Tryz.underlying131
  a39 := Tryz.isAgg131
  z39 := Tryz.sizeOf131
  v39 := Tryz.zeroValue131
  t45 := Tryz.underlying141
  a45 := Tryz.isAgg141
  z45 := Tryz.sizeOf141
  v45 := Tryz.zeroValue141
  t46 := Tryz.underlying142
  a46 := Tryz.isAgg142
  z46 := Tryz.sizeOf142
  v46 := Tryz.zeroValue142
  t50 := Tryz.underlying123
  a50 := Tryz.isAgg123
  z50 := Tryz.sizeOf123
  v50 := Tryz.zeroValue123
  t53 := Tryz.underlying148
  a53 := Tryz.isAgg148
  z53 := Tryz.sizeOf148
  v53 := Tryz.zeroValue148
  t55 := Tryz.underlying137
  a55 := Tryz.isAgg137
  z55 := Tryz.sizeOf137
  v55 := Tryz.zeroValue137
  t66 := Tryz.underlying161
  a66 := Tryz.isAgg161
  z66 := Tryz.sizeOf161
  v66 := Tryz.zeroValue161
  t70 := Tryz.underlying165
  a70 := Tryz.isAgg165
  z70 := Tryz.sizeOf165
  v70 := Tryz.zeroValue165
  t76 := Tryz.underlying173
  a76 := Tryz.isAgg173
  z76 := Tryz.sizeOf173
  v76 := Tryz.zeroValue173
  t77 := Tryz.underlying174
  a77 := Tryz.isAgg174
  z77 := Tryz.sizeOf174
  v77 := Tryz.zeroValue174 }
end Go.Proofs
namespace Go.Proofs.YtojoehfldbimpaaGreatDoor.Pl
open Go Go.RowKit Go.Sort
theorem grow_of_drawn {W w' : World} (hb : Pd.Below W.heap.size W w') : ∃ q os', w' = grow (W.drewN q) os' := by
  refine ⟨w'.drawn - W.drawn, w'.heap.extract W.heap.size w'.heap.size, ?_⟩
  have h1 : w'.heap = W.heap ++ w'.heap.extract W.heap.size w'.heap.size := by
    refine Array.ext_getElem? fun i => ?_
    rw [Array.getElem?_append]
    split
    · rename_i h; exact hb.block i h
    · rename_i h
      rw [Array.getElem?_extract]
      split
      · congr 1; omega
      · exact Array.getElem?_eq_none (by omega)
  have h2 : w'.drawn = W.drawn + (w'.drawn - W.drawn) := by have h0 : W.drawn ≤ w'.drawn := hb.drawn; omega
  have h3 := hb.os
  have h4 := hb.tape
  have h5 := hb.output
  generalize w'.heap.extract W.heap.size w'.heap.size = os at h1
  generalize w'.drawn - W.drawn = q at h2
  cases w'
  simp only at h1 h2 h3 h4 h5
  subst h1; subst h2; subst h3; subst h4; subst h5
  rfl
theorem putG {w : World} {h : FH} {b c m sz q : Nat} {cur : Array Value} {e : TypeId} {ds : List Value} {os : Array Obj} (hs : Sub h w) (sg : Sub (FH.one b (.cells cur e (0, 0))) w) (hd : Disj h (FH.one b (.cells cur e (0, 0)))) (hmax : c ≤ maxLen) (hsz : cur.size = c * sz) (hds : ds.length = m * sz) (hm : m ≤ c) :
    SH (Kp.ex w h (FH.one b (.cells cur e (0, 0)))) h (grow (putRow id (Sort.ahead w q) b 0 ds.toArray) os) [OwnSl e sz (some ⟨b, 0, none⟩) m c ds] := by
  have hb : w.heap[b]? = some (.cells cur e (0, 0)) := sg b _ (FH.one_self _ _)
  have hlt : b < w.heap.size := sg.lt (FH.one_self _ _)
  have hheap : ∀ i, i < w.heap.size → (grow (putRow id (Sort.ahead w q) b 0 ds.toArray) os).heap[i]? = if b = i then some (.cells (putCells id 0 ds.toArray cur) e (0, 0)) else w.heap[i]? := fun i hi => by
    show ((w.heap.modify b (onCells (putCells id 0 ds.toArray))) ++ os)[i]? = _
    rw [Array.getElem?_append_left (by rw [Array.size_modify]; exact hi), Array.getElem?_modify]
    by_cases q : b = i
    · subst q
      rw [if_pos rfl, if_pos rfl, hb]; rfl
    · rw [if_neg q, if_neg q]
  have hsize : w.heap.size ≤ (grow (putRow id (Sort.ahead w q) b 0 ds.toArray) os).heap.size := by
    show w.heap.size ≤ ((w.heap.modify b (onCells (putCells id 0 ds.toArray))) ++ os).size
    rw [Array.size_append, Array.size_modify]; omega
  have hone : ∀ i, FH.one b (.cells cur e (0, 0)) i = none → b ≠ i := fun i g q => by
    subst q
    rw [FH.one_self] at g; cases g
  have hnb : ∀ i, h i ≠ none → b ≠ i := fun i hi => hone i ((hd i).resolve_left hi)
  refine ⟨⟨rfl, rfl, rfl, hsize, fun i hi => ?_, (by unfold dr; first | exact Nat.le_add_right _ _ | exact Nat.le_refl _)⟩, fun i o ho => ?_, fun i hi => .inl hi, [FH.one b (.cells (putCells id 0 ds.toArray cur) e (0, 0))], rfl, ?_, ?_, ?_⟩
  · rw [hheap i hi.1, if_neg (hone i hi.2)]; rfl
  · rw [hheap i (hs.lt ho), if_neg (hnb i (by rw [ho]; simp))]; exact hs i o ho
  · intro i g X hi hX
    cases i with
    | succ i => simp at hi
    | zero =>
      simp at hi hX
      subst hi; subst hX
      have hle : m * sz ≤ c * sz := Nat.mul_le_mul_right sz hm
      refine ⟨hds, .inr ⟨b, _, rfl, rfl, hm, hmax, by simp [putCells, hsz], ?_⟩⟩
      refine List.ext_getElem? fun k => ?_
      rw [List.getElem?_take]
      by_cases g : k < m * sz
      · have g2 : k < ds.length := by omega
        have g3 : k < cur.size := by omega
        rw [if_pos g, Array.getElem?_toList]
        simp [putCells, g2, g3]
      · rw [if_neg g, List.getElem?_eq_none (by omega)]
  · intro i g hi
    cases i with
    | succ i => simp at hi
    | zero =>
      simp at hi
      subst hi
      refine ⟨fun j => ?_, Sub.one ?_, fun j hj hk => ?_⟩
      · by_cases g : h j = none
        · exact .inl g
        · exact .inr (by unfold FH.one; rw [if_neg (fun e => hnb j g e.symm)])
      · rw [hheap b hlt, if_pos rfl]
      · exact hone j hk.2 (FH.one_ne hj).symm
  · intro i j g g' hij hi hj
    cases i with
    | succ i => simp at hi
    | zero => cases j with
      | zero => exact absurd rfl hij
      | succ j => simp at hj
theorem ownHoldsG {w : World} {b m : Nat} {cur : Array Value} {e : TypeId} {ds : List Value} (hb : w.heap[b]? = some (.cells cur e (0, 0))) (hl : ds.length = m) (ht : cur.toList.take m = ds) : Go.Sort.Holds id w b 0 ds.toArray := fun j hj => by
  have hj' : j < ds.length := by simpa using hj
  refine ⟨?_, ?_⟩
  · unfold World.cell?
    rw [hb]
    show (if (none : Option _).isSome = true then none else cur[0 + j]?) = _
    have h1 := congrArg (fun l => l[j]?) ht
    simp only [List.getElem?_take, show j < m by omega, if_true] at h1
    rw [Array.getElem?_toList, List.getElem?_eq_getElem hj'] at h1
    rw [Nat.zero_add]
    simp [h1, hj']
  · unfold World.frozen?
    rw [hb]
    simp
/-- a list of numbers, with a slice that holds it -/
abbrev RowA (h : FH) := {p : List Int × Value // Rep.rep h p.1 [p.2] ∧ p.1.length ≤ 1000}
instance (h : FH) : Inhabited (RowA h) := ⟨⟨([], .slice none 0 0), ⟨none, 0, rfl, Nat.le_refl 0, RSl.nil_⟩, by simp⟩⟩
def encA {h : FH} (p : RowA h) : Value := p.1.2
def cfA {h : FH} (p q : RowA h) : Int := sp_scompare p.1.1 q.1.1
theorem rows_of {h : FH} : ∀ (l : Bel) (cs : List Value), RepL h l cs → (∀ x ∈ l, x.length ≤ 1000) → ∃ ds : List (RowA h), ds.map (·.1.1) = l ∧ ds.map encA = cs
  | [], cs, r, _ => ⟨[], rfl, (show cs = [] from r).symm⟩
  | x :: l, cs, ⟨c, r, e, h1, h2⟩, hx => by
    obtain ⟨ds, d1, d2⟩ := rows_of l r h2 fun y hy => hx y (List.mem_cons_of_mem _ hy)
    have hl := Rep.len h1
    match c, hl with
    | [v], _ => exact ⟨⟨(x, v), h1, hx x List.mem_cons_self⟩ :: ds, by rw [List.map_cons, d1], by rw [List.map_cons, d2, e]; rfl⟩
theorem rep_rows {h : FH} : ∀ ds : List (RowA h), RepL h (ds.map (·.1.1)) (ds.map encA)
  | [] => rfl
  | p :: ds => ⟨[p.1.2], ds.map encA, rfl, p.2.1, rep_rows ds⟩
theorem ltA {h : FH} (p q : RowA h) : ltOf cfA p q = sp_before p.1.1 q.1.1 := by
  unfold ltOf cfA
  rw [Bool.eq_iff_iff, decide_eq_true_eq]
  exact (scompare_before _ _).1
theorem swoA {h : FH} : SWO (ltOf (cfA (h := h))) := ⟨fun x => by rw [ltA]; exact before_irr _, fun x y z h1 h2 => by
  rw [ltA] at *; exact before_trans _ _ _ h1 h2, fun x y z h1 h2 => by
  rw [ltA] at *; exact nle_trans (y := y.1.1) h2 h1⟩
theorem putRow_map {α : Type} [Inhabited α] (enc : α → Value) (w : World) (b : Nat) (d : Array α) : putRow enc w b 0 d = putRow id w b 0 (d.map enc) := by
  unfold putRow
  congr 1
  funext c
  unfold putCells
  apply Array.ext
  · simp
  · intro i h1 h2
    simp only [Array.getElem_mapIdx, Array.size_map, id]
    split
    · rename_i hi
      have hlt : i - 0 < d.size := by omega
      rw [getElem!_pos d _ hlt, getElem!_pos (d.map enc) _ (by simpa using hlt), Array.getElem_map]
    · rfl
theorem holds_map {α : Type} [Inhabited α] (enc : α → Value) {w : World} {b : Nat} {d : Array α} (h : Go.Sort.Holds id w b 0 (d.map enc)) : Go.Sort.Holds enc w b 0 d := fun j hj => by
  have := h j (by simpa using hj)
  rwa [getElem!_pos (d.map enc) j (by simpa using hj), Array.getElem_map, ← getElem!_pos d j hj] at this
theorem c_sortR {h : FH} {w : World} (hs : Sub h w) (x : List (List Int)) (a : Option Addr) (c : Nat) {cs : List Value} (rep : RepL h x cs) {gX : FH} (ownX : OwnSl 22 1 a x.length c cs gX) (subX : Sub gX w) (disX : Disj h gX) (hp : pre_sortR x) :
    Calls Tryz.prog 107 #[.slice a x.length c, .func (.func 92) #[] #[]] w fun e w' => e = .returned (.tuple #[]) ∧ SH (Kp.ex w h gX) h w' [OwnPX h 22 1 a c (sp_sortR x)] := by
  have own0 := ownX
  obtain ⟨h1, ⟨rfl, h2, rfl, rfl⟩ | ⟨b, cur, rfl, rfl, h4, h5, h6, h7⟩⟩ := ownX
  · have e : x = [] := List.length_eq_zero_iff.1 h2
    subst e
    refine (AnyF.slices_SortFunc_none { YtojoehfldbimpaaGreatDoor.laysSR with } none 0 _ w).mono fun e w' ⟨he, hw⟩ => ⟨he, ?_⟩
    subst hw
    rw [show sp_sortR [] = [] by simp [sp_sortR]]
    exact SH.startX (X := OwnPX h 22 1 none 0 ([] : Bel)) hs subX disX ⟨cs, rep, own0⟩
  · obtain ⟨ds, d1, d2⟩ := rows_of x cs rep hp.2
    have hdl : ds.length = x.length := by rw [← d1, List.length_map]
    have hb := subX b _ (FH.one_self _ _)
    have hlt := subX.lt (FH.one_self _ _)
    have hnb : ∀ i, h i ≠ none → b ≠ i := fun i hi q => by
      subst q
      rcases disX b with g | g
      · exact hi g
      · rw [FH.one_self] at g; cases g
    have hcmp : CmpLays1 Tryz.prog 92 #[] (encA (h := h)) cfA b 0 ds.toArray.size w := fun m os dk _ u v => by
      have hsW : Sub h (sortWorld encA w b 0 m dk os) := fun i o ho => by
        have hi := hs.lt ho
        show ((w.heap.modify b (onCells (putCells encA 0 dk))) ++ os)[i]? = _
        rw [Array.getElem?_append_left (by rw [Array.size_modify]; exact hi), Array.getElem?_modify, if_neg (hnb i (by rw [ho]; simp))]
        exact hs i o ho
      obtain ⟨⟨u1, u2⟩, ⟨ua, uc, ue, ul, ur⟩, un⟩ := u
      obtain ⟨⟨v1, v2⟩, ⟨va, vc, ve, vl, vr⟩, vn⟩ := v
      simp only [List.cons.injEq, and_true] at ue ve
      subst ue; subst ve
      exact (Pd.c_scompare hsW u1 ua uc ur ul v1 va vc vr vl ⟨un, vn⟩).mono fun e w' ⟨he, hb⟩ => ⟨he, grow_of_drawn hb⟩
    have hH : Go.Sort.Holds encA w b 0 ds.toArray := holds_map encA (by
      rw [List.map_toArray, d2]
      exact ownHoldsG hb h1 h7)
    have hsz : ds.toArray.size = x.length := by simpa using hdl
    have key := Any.slices_SortFunc YtojoehfldbimpaaGreatDoor.laysSR (encA (h := h)) (fun p => by
      obtain ⟨⟨p1, p2⟩, ⟨pa, pc, pe, _⟩, _⟩ := p
      simp only [List.cons.injEq, and_true] at pe
      subst pe; rfl) cfA swoA 92 #[] b 0 c ds.toArray w Tryz.call92 hcmp hH hlt (by rw [hsz]; have := hp.1; omega)
    rw [hsz] at key
    refine key.mono fun e w' ⟨he, d', n, os, hp', hs', hw⟩ => ⟨he, ?_⟩
    subst hw
    obtain ⟨p1, _, p3⟩ := hp'
    have hx1 : d'.extract 0 x.length = d' := by rw [← hsz, ← p1]; exact Array.extract_size
    have hx2 : ds.toArray.extract 0 x.length = ds.toArray := by rw [← hsz]; exact Array.extract_size
    rw [hx1, hx2] at p3
    have hsort : sp_sortR x = d'.toList.map (·.1.1) := by
      refine sorted_perm _ _ (sortR_sorted x) ?_ ?_
      · rw [List.pairwise_map, List.pairwise_iff_getElem]
        intro i j hi hj hij
        have hsz' : d'.size = x.length := by rw [p1, hsz]
        have hj' : j < d'.size := by simpa using hj
        have := hs' i j (Nat.zero_le _) hij (by omega)
        rw [ltA, getElem!_pos d' j hj', getElem!_pos d' i (by omega)] at this
        exact this
      · refine (sortR_perm x).trans ?_
        have := (p3.map (fun p : RowA h => p.1.1)).symm
        rw [List.toList_toArray, d1] at this
        exact this
    have hrep := rep_rows d'.toList
    rw [← hsort] at hrep
    have hlen : (d'.toList.map (encA (h := h))).length = x.length * 1 := by
      rw [List.length_map, Array.length_toList, p1, hsz, Nat.mul_one]
    have big := putG (q := n) (os := os) (ds := d'.toList.map (encA (h := h))) (m := x.length) (sz := 1) hs subX disX h5 h6 hlen h4
    have hlen2 := sortR_len x
    unfold sortWorld
    rw [putRow_map]
    have e5 : d'.map (encA (h := h)) = (d'.toList.map encA).toArray := by
      apply Array.toList_inj.1; simp
    rw [e5]
    exact big.weaken (k := 0) (X := OwnSl 22 1 (some ⟨b, 0, none⟩) x.length c (d'.toList.map encA)) (Y := OwnPX h 22 1 (some ⟨b, 0, none⟩) c (sp_sortR x)) rfl fun g hx => ⟨_, hrep, by rw [hlen2]; exact hx⟩
end Go.Proofs.YtojoehfldbimpaaGreatDoor.Pl

