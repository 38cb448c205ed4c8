/- The library's sorting of lists of numbers by slices.Compare, laid at this program, in the words of the walks. No condition. -/
import Derived.Ground.SlsfProg
import Derived.Test.YtojoehfldbimpaaDoorPd
namespace Go.Proofs
open Go.Shelf
def YtojoehfldbimpaaDoor.laysSR_ren : Go.Shelf.Ren := ⟨fun | 6 => 45 | 15 => 59 | 14 => 60 | 28 => 74 | 29 => 75 | 20 => 76 | 21 => 77 | 22 => 78 | 23 => 79 | 24 => 80 | 25 => 81 | 26 => 82 | 27 => 83 | 46 => 94 | 47 => 90 | 48 => 91 | 49 => 95 | 50 => 96 | 57 => 102 | n => n, fun | 22 => 41 | 24 => 22 | 25 => 80 | 3 => 3 | 39 => 86 | 0 => 0 | 53 => 104 | 55 => 93 | 4 => 4 | 46 => 98 | 45 => 97 | 50 => 76 | 5 => 5 | 9 => 9 | 66 => 117 | 70 => 121 | 76 => 129 | 77 => 130 | n => n, fun | n => n⟩
theorem YtojoehfldbimpaaDoor.laysSR : Go.Proofs.SlLaysF.n6 Tryd.prog YtojoehfldbimpaaDoor.laysSR_ren := {
  mixed := by kernel_rfl
  f6 := ⟨Tryd.f45.name, by decide, Tryd.func45.trans (congrArg some (by kernel_rfl))⟩
  f14 := ⟨Tryd.f60.name, by decide, Tryd.func60.trans (congrArg some (by kernel_rfl))⟩
  f15 := Tryd.func59.trans (congrArg some (by kernel_rfl))
  f20 := ⟨Tryd.f76.name, by decide, Tryd.func76.trans (congrArg some (by kernel_rfl))⟩
  f21 := ⟨Tryd.f77.name, by decide, Tryd.func77.trans (congrArg some (by kernel_rfl))⟩
  f22 := ⟨Tryd.f78.name, by decide, Tryd.func78.trans (congrArg some (by kernel_rfl))⟩
  f23 := ⟨Tryd.f79.name, by decide, Tryd.func79.trans (congrArg some (by kernel_rfl))⟩
  f24 := ⟨Tryd.f80.name, by decide, Tryd.func80.trans (congrArg some (by kernel_rfl))⟩
  f25 := ⟨Tryd.f81.name, by decide, Tryd.func81.trans (congrArg some (by kernel_rfl))⟩
  f26 := ⟨Tryd.f82.name, by decide, Tryd.func82.trans (congrArg some (by kernel_rfl))⟩
  f27 := ⟨Tryd.f83.name, by decide, Tryd.func83.trans (congrArg some (by kernel_rfl))⟩
  f28 := Tryd.func74.trans (congrArg some (by kernel_rfl))
  f29 := Tryd.func75.trans (congrArg some (by kernel_rfl))
  f46 := ⟨Tryd.f94.name, by decide, Tryd.func94.trans (congrArg some (by kernel_rfl))⟩
  f47 := Tryd.func90.trans (congrArg some (by kernel_rfl))
  f48 := Tryd.func91.trans (congrArg some (by kernel_rfl))
  f49 := ⟨Tryd.f95.name, by decide, Tryd.func95.trans (congrArg some (by kernel_rfl))⟩
  f50 := ⟨Tryd.f96.name, by decide, Tryd.func96.trans (congrArg some (by kernel_rfl))⟩
  f57 := ⟨Tryd.f102.name, by decide, Tryd.func102.trans (congrArg some (by kernel_rfl))⟩
  t0 := Tryd.underlying0
  a0 := Tryd.isAgg0
  z0 := Tryd.sizeOf0
  v0 := Tryd.zeroValue0
  t3 := Tryd.underlying3
  a3 := Tryd.isAgg3
  z3 := Tryd.sizeOf3
  v3 := Tryd.zeroValue3
  t4 := Tryd.underlying4
  a4 := Tryd.isAgg4
  z4 := Tryd.sizeOf4
  v4 := Tryd.zeroValue4
  t5 := Tryd.underlying5
  a5 := Tryd.isAgg5
  z5 := Tryd.sizeOf5
  v5 := Tryd.zeroValue5
  t9 := Tryd.underlying9
  a9 := Tryd.isAgg9
  z9 := Tryd.sizeOf9
  v9 := Tryd.zeroValue9
  t22 := Tryd.underlying41
  a22 := Tryd.isAgg41
  z22 := Tryd.sizeOf41
  v22 := Tryd.zeroValue41
  a24 := Tryd.isAgg22
  z24 := Tryd.sizeOf22
  t25 := Tryd.underlying80
  a25 := Tryd.isAgg80
  z25 := Tryd.sizeOf80
  v25 := Tryd.zeroValue80
  t39 := Tryd.underlying86
  a39 := Tryd.isAgg86
  z39 := Tryd.sizeOf86
  v39 := Tryd.zeroValue86
  t45 := Tryd.underlying97
  a45 := Tryd.isAgg97
  z45 := Tryd.sizeOf97
  v45 := Tryd.zeroValue97
  t46 := Tryd.underlying98
  a46 := Tryd.isAgg98
  z46 := Tryd.sizeOf98
  v46 := Tryd.zeroValue98
  t50 := Tryd.underlying76
  a50 := Tryd.isAgg76
  z50 := Tryd.sizeOf76
  v50 := Tryd.zeroValue76
  t53 := Tryd.underlying104
  a53 := Tryd.isAgg104
  z53 := Tryd.sizeOf104
  v53 := Tryd.zeroValue104
  t55 := Tryd.underlying93
  a55 := Tryd.isAgg93
  z55 := Tryd.sizeOf93
  v55 := Tryd.zeroValue93
  t66 := Tryd.underlying117
  a66 := Tryd.isAgg117
  z66 := Tryd.sizeOf117
  v66 := Tryd.zeroValue117
  t70 := Tryd.underlying121
  a70 := Tryd.isAgg121
  z70 := Tryd.sizeOf121
  v70 := Tryd.zeroValue121
  t76 := Tryd.underlying129
  a76 := Tryd.isAgg129
  z76 := Tryd.sizeOf129
  v76 := Tryd.zeroValue129
  t77 := Tryd.underlying130
  a77 := Tryd.isAgg130
  z77 := Tryd.sizeOf130
  v77 := Tryd.zeroValue130 }
end Go.Proofs
namespace Go.Proofs.YtojoehfldbimpaaDoor.Pl
open Go Go.RowKit Go.Sort
theorem grow_of_drawn {W w' : World} (hb : Pd.Below W.heap.size W w') : ∃ q os', w' = grow (W.drewN q) os' := by
  refine ⟨w'.drawn - W.drawn, w'.heap.extract W.heap.size w'.heap.size, ?_⟩
  have h1 : w'.heap = W.heap ++ w'.heap.extract W.heap.size w'.heap.size := by
    refine Array.ext_getElem? fun i => ?_
    rw [Array.getElem?_append]
    split
    · rename_i h; exact hb.block i h
    · rename_i h
      rw [Array.getElem?_extract]
      split
      · congr 1; omega
      · exact Array.getElem?_eq_none (by omega)
  have h2 : w'.drawn = W.drawn + (w'.drawn - W.drawn) := by have h0 : W.drawn ≤ w'.drawn := hb.drawn; omega
  have h3 := hb.os
  have h4 := hb.tape
  have h5 := hb.output
  generalize w'.heap.extract W.heap.size w'.heap.size = os at h1
  generalize w'.drawn - W.drawn = q at h2
  cases w'
  simp only at h1 h2 h3 h4 h5
  subst h1; subst h2; subst h3; subst h4; subst h5
  rfl
theorem putG {w : World} {h : FH} {b c m sz q : Nat} {cur : Array Value} {e : TypeId} {ds : List Value} {os : Array Obj} (hs : Sub h w) (sg : Sub (FH.one b (.cells cur e (0, 0))) w) (hd : Disj h (FH.one b (.cells cur e (0, 0)))) (hmax : c ≤ maxLen) (hsz : cur.size = c * sz) (hds : ds.length = m * sz) (hm : m ≤ c) :
    SH (Kp.ex w h (FH.one b (.cells cur e (0, 0)))) h (grow (putRow id (Sort.ahead w q) b 0 ds.toArray) os) [OwnSl e sz (some ⟨b, 0, none⟩) m c ds] := by
  have hb : w.heap[b]? = some (.cells cur e (0, 0)) := sg b _ (FH.one_self _ _)
  have hlt : b < w.heap.size := sg.lt (FH.one_self _ _)
  have hheap : ∀ i, i < w.heap.size → (grow (putRow id (Sort.ahead w q) b 0 ds.toArray) os).heap[i]? = if b = i then some (.cells (putCells id 0 ds.toArray cur) e (0, 0)) else w.heap[i]? := fun i hi => by
    show ((w.heap.modify b (onCells (putCells id 0 ds.toArray))) ++ os)[i]? = _
    rw [Array.getElem?_append_left (by rw [Array.size_modify]; exact hi), Array.getElem?_modify]
    by_cases q : b = i
    · subst q
      rw [if_pos rfl, if_pos rfl, hb]; rfl
    · rw [if_neg q, if_neg q]
  have hsize : w.heap.size ≤ (grow (putRow id (Sort.ahead w q) b 0 ds.toArray) os).heap.size := by
    show w.heap.size ≤ ((w.heap.modify b (onCells (putCells id 0 ds.toArray))) ++ os).size
    rw [Array.size_append, Array.size_modify]; omega
  have hone : ∀ i, FH.one b (.cells cur e (0, 0)) i = none → b ≠ i := fun i g q => by
    subst q
    rw [FH.one_self] at g; cases g
  have hnb : ∀ i, h i ≠ none → b ≠ i := fun i hi => hone i ((hd i).resolve_left hi)
  refine ⟨⟨rfl, rfl, rfl, hsize, fun i hi => ?_, (by unfold dr; first | exact Nat.le_add_right _ _ | exact Nat.le_refl _)⟩, fun i o ho => ?_, fun i hi => .inl hi, [FH.one b (.cells (putCells id 0 ds.toArray cur) e (0, 0))], rfl, ?_, ?_, ?_⟩
  · rw [hheap i hi.1, if_neg (hone i hi.2)]; rfl
  · rw [hheap i (hs.lt ho), if_neg (hnb i (by rw [ho]; simp))]; exact hs i o ho
  · intro i g X hi hX
    cases i with
    | succ i => simp at hi
    | zero =>
      simp at hi hX
      subst hi; subst hX
      have hle : m * sz ≤ c * sz := Nat.mul_le_mul_right sz hm
      refine ⟨hds, .inr ⟨b, _, rfl, rfl, hm, hmax, by simp [putCells, hsz], ?_⟩⟩
      refine List.ext_getElem? fun k => ?_
      rw [List.getElem?_take]
      by_cases g : k < m * sz
      · have g2 : k < ds.length := by omega
        have g3 : k < cur.size := by omega
        rw [if_pos g, Array.getElem?_toList]
        simp [putCells, g2, g3]
      · rw [if_neg g, List.getElem?_eq_none (by omega)]
  · intro i g hi
    cases i with
    | succ i => simp at hi
    | zero =>
      simp at hi
      subst hi
      refine ⟨fun j => ?_, Sub.one ?_, fun j hj hk => ?_⟩
      · by_cases g : h j = none
        · exact .inl g
        · exact .inr (by unfold FH.one; rw [if_neg (fun e => hnb j g e.symm)])
      · rw [hheap b hlt, if_pos rfl]
      · exact hone j hk.2 (FH.one_ne hj).symm
  · intro i j g g' hij hi hj
    cases i with
    | succ i => simp at hi
    | zero => cases j with
      | zero => exact absurd rfl hij
      | succ j => simp at hj
theorem ownHoldsG {w : World} {b m : Nat} {cur : Array Value} {e : TypeId} {ds : List Value} (hb : w.heap[b]? = some (.cells cur e (0, 0))) (hl : ds.length = m) (ht : cur.toList.take m = ds) : Go.Sort.Holds id w b 0 ds.toArray := fun j hj => by
  have hj' : j < ds.length := by simpa using hj
  refine ⟨?_, ?_⟩
  · unfold World.cell?
    rw [hb]
    show (if (none : Option _).isSome = true then none else cur[0 + j]?) = _
    have h1 := congrArg (fun l => l[j]?) ht
    simp only [List.getElem?_take, show j < m by omega, if_true] at h1
    rw [Array.getElem?_toList, List.getElem?_eq_getElem hj'] at h1
    rw [Nat.zero_add]
    simp [h1, hj']
  · unfold World.frozen?
    rw [hb]
    simp
/-- a list of numbers, with a slice that holds it -/
abbrev RowA (h : FH) := {p : List Int × Value // Rep.rep h p.1 [p.2] ∧ p.1.length ≤ 1000}
instance (h : FH) : Inhabited (RowA h) := ⟨⟨([], .slice none 0 0), ⟨none, 0, rfl, Nat.le_refl 0, RSl.nil_⟩, by simp⟩⟩
def encA {h : FH} (p : RowA h) : Value := p.1.2
def cfA {h : FH} (p q : RowA h) : Int := sp_scompare p.1.1 q.1.1
theorem rows_of {h : FH} : ∀ (l : Bel) (cs : List Value), RepL h l cs → (∀ x ∈ l, x.length ≤ 1000) → ∃ ds : List (RowA h), ds.map (·.1.1) = l ∧ ds.map encA = cs
  | [], cs, r, _ => ⟨[], rfl, (show cs = [] from r).symm⟩
  | x :: l, cs, ⟨c, r, e, h1, h2⟩, hx => by
    obtain ⟨ds, d1, d2⟩ := rows_of l r h2 fun y hy => hx y (List.mem_cons_of_mem _ hy)
    have hl := Rep.len h1
    match c, hl with
    | [v], _ => exact ⟨⟨(x, v), h1, hx x List.mem_cons_self⟩ :: ds, by rw [List.map_cons, d1], by rw [List.map_cons, d2, e]; rfl⟩
theorem rep_rows {h : FH} : ∀ ds : List (RowA h), RepL h (ds.map (·.1.1)) (ds.map encA)
  | [] => rfl
  | p :: ds => ⟨[p.1.2], ds.map encA, rfl, p.2.1, rep_rows ds⟩
theorem ltA {h : FH} (p q : RowA h) : ltOf cfA p q = sp_before p.1.1 q.1.1 := by
  unfold ltOf cfA
  rw [Bool.eq_iff_iff, decide_eq_true_eq]
  exact (scompare_before _ _).1
theorem swoA {h : FH} : SWO (ltOf (cfA (h := h))) := ⟨fun x => by rw [ltA]; exact before_irr _, fun x y z h1 h2 => by
  rw [ltA] at *; exact before_trans _ _ _ h1 h2, fun x y z h1 h2 => by
  rw [ltA] at *; exact nle_trans (y := y.1.1) h2 h1⟩
theorem putRow_map {α : Type} [Inhabited α] (enc : α → Value) (w : World) (b : Nat) (d : Array α) : putRow enc w b 0 d = putRow id w b 0 (d.map enc) := by
  unfold putRow
  congr 1
  funext c
  unfold putCells
  apply Array.ext
  · simp
  · intro i h1 h2
    simp only [Array.getElem_mapIdx, Array.size_map, id]
    split
    · rename_i hi
      have hlt : i - 0 < d.size := by omega
      rw [getElem!_pos d _ hlt, getElem!_pos (d.map enc) _ (by simpa using hlt), Array.getElem_map]
    · rfl
theorem holds_map {α : Type} [Inhabited α] (enc : α → Value) {w : World} {b : Nat} {d : Array α} (h : Go.Sort.Holds id w b 0 (d.map enc)) : Go.Sort.Holds enc w b 0 d := fun j hj => by
  have := h j (by simpa using hj)
  rwa [getElem!_pos (d.map enc) j (by simpa using hj), Array.getElem_map, ← getElem!_pos d j hj] at this
theorem c_sortR {h : FH} {w : World} (hs : Sub h w) (x : List (List Int)) (a : Option Addr) (c : Nat) {cs : List Value} (rep : RepL h x cs) {gX : FH} (ownX : OwnSl 22 1 a x.length c cs gX) (subX : Sub gX w) (disX : Disj h gX) (hp : pre_sortR x) :
    Calls Tryd.prog 45 #[.slice a x.length c, .func (.func 46) #[] #[]] w fun e w' => e = .returned (.tuple #[]) ∧ SH (Kp.ex w h gX) h w' [OwnPX h 22 1 a c (sp_sortR x)] := by
  have own0 := ownX
  obtain ⟨h1, ⟨rfl, h2, rfl, rfl⟩ | ⟨b, cur, rfl, rfl, h4, h5, h6, h7⟩⟩ := ownX
  · have e : x = [] := List.length_eq_zero_iff.1 h2
    subst e
    refine (AnyF.slices_SortFunc_none { YtojoehfldbimpaaDoor.laysSR with } none 0 _ w).mono fun e w' ⟨he, hw⟩ => ⟨he, ?_⟩
    subst hw
    rw [show sp_sortR [] = [] by simp [sp_sortR]]
    exact SH.startX (X := OwnPX h 22 1 none 0 ([] : Bel)) hs subX disX ⟨cs, rep, own0⟩
  · obtain ⟨ds, d1, d2⟩ := rows_of x cs rep hp.2
    have hdl : ds.length = x.length := by rw [← d1, List.length_map]
    have hb := subX b _ (FH.one_self _ _)
    have hlt := subX.lt (FH.one_self _ _)
    have hnb : ∀ i, h i ≠ none → b ≠ i := fun i hi q => by
      subst q
      rcases disX b with g | g
      · exact hi g
      · rw [FH.one_self] at g; cases g
    have hcmp : CmpLays1 Tryd.prog 46 #[] (encA (h := h)) cfA b 0 ds.toArray.size w := fun m os dk _ u v => by
      have hsW : Sub h (sortWorld encA w b 0 m dk os) := fun i o ho => by
        have hi := hs.lt ho
        show ((w.heap.modify b (onCells (putCells encA 0 dk))) ++ os)[i]? = _
        rw [Array.getElem?_append_left (by rw [Array.size_modify]; exact hi), Array.getElem?_modify, if_neg (hnb i (by rw [ho]; simp))]
        exact hs i o ho
      obtain ⟨⟨u1, u2⟩, ⟨ua, uc, ue, ul, ur⟩, un⟩ := u
      obtain ⟨⟨v1, v2⟩, ⟨va, vc, ve, vl, vr⟩, vn⟩ := v
      simp only [List.cons.injEq, and_true] at ue ve
      subst ue; subst ve
      exact (Pd.c_scompare hsW u1 ua uc ur ul v1 va vc vr vl ⟨un, vn⟩).mono fun e w' ⟨he, hb⟩ => ⟨he, grow_of_drawn hb⟩
    have hH : Go.Sort.Holds encA w b 0 ds.toArray := holds_map encA (by
      rw [List.map_toArray, d2]
      exact ownHoldsG hb h1 h7)
    have hsz : ds.toArray.size = x.length := by simpa using hdl
    have key := Any.slices_SortFunc YtojoehfldbimpaaDoor.laysSR (encA (h := h)) (fun p => by
      obtain ⟨⟨p1, p2⟩, ⟨pa, pc, pe, _⟩, _⟩ := p
      simp only [List.cons.injEq, and_true] at pe
      subst pe; rfl) cfA swoA 46 #[] b 0 c ds.toArray w Tryd.call46 hcmp hH hlt (by rw [hsz]; have := hp.1; omega)
    rw [hsz] at key
    refine key.mono fun e w' ⟨he, d', n, os, hp', hs', hw⟩ => ⟨he, ?_⟩
    subst hw
    obtain ⟨p1, _, p3⟩ := hp'
    have hx1 : d'.extract 0 x.length = d' := by rw [← hsz, ← p1]; exact Array.extract_size
    have hx2 : ds.toArray.extract 0 x.length = ds.toArray := by rw [← hsz]; exact Array.extract_size
    rw [hx1, hx2] at p3
    have hsort : sp_sortR x = d'.toList.map (·.1.1) := by
      refine sorted_perm _ _ (sortR_sorted x) ?_ ?_
      · rw [List.pairwise_map, List.pairwise_iff_getElem]
        intro i j hi hj hij
        have hsz' : d'.size = x.length := by rw [p1, hsz]
        have hj' : j < d'.size := by simpa using hj
        have := hs' i j (Nat.zero_le _) hij (by omega)
        rw [ltA, getElem!_pos d' j hj', getElem!_pos d' i (by omega)] at this
        exact this
      · refine (sortR_perm x).trans ?_
        have := (p3.map (fun p : RowA h => p.1.1)).symm
        rw [List.toList_toArray, d1] at this
        exact this
    have hrep := rep_rows d'.toList
    rw [← hsort] at hrep
    have hlen : (d'.toList.map (encA (h := h))).length = x.length * 1 := by
      rw [List.length_map, Array.length_toList, p1, hsz, Nat.mul_one]
    have big := putG (q := n) (os := os) (ds := d'.toList.map (encA (h := h))) (m := x.length) (sz := 1) hs subX disX h5 h6 hlen h4
    have hlen2 := sortR_len x
    unfold sortWorld
    rw [putRow_map]
    have e5 : d'.map (encA (h := h)) = (d'.toList.map encA).toArray := by
      apply Array.toList_inj.1; simp
    rw [e5]
    exact big.weaken (k := 0) (X := OwnSl 22 1 (some ⟨b, 0, none⟩) x.length c (d'.toList.map encA)) (Y := OwnPX h 22 1 (some ⟨b, 0, none⟩) c (sp_sortR x)) rfl fun g hx => ⟨_, hrep, by rw [hlen2]; exact hx⟩
end Go.Proofs.YtojoehfldbimpaaDoor.Pl
