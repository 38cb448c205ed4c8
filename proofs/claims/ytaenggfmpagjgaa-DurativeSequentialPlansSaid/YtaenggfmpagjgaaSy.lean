/- The library's sorting of what happens by a comparing function, laid at this program, in the words of the walks. No condition. -/
import Derived.Shelf.SlSortCmp.NoneTotal
import Derived.Ground.SlsfProg
import Derived.Test.YtaenggfmpagjgaaW1
namespace Go.Proofs
open Go.Shelf
def Ytaenggfmpagjgaa.laysSF_ren : Go.Shelf.Ren := ⟨fun | 6 => 45 | 15 => 57 | 14 => 56 | 28 => 73 | 29 => 74 | 20 => 65 | 21 => 66 | 22 => 67 | 23 => 68 | 24 => 69 | 25 => 70 | 26 => 71 | 27 => 72 | 46 => 83 | 47 => 84 | 48 => 85 | 49 => 86 | 50 => 87 | 57 => 91 | n => n, fun | 22 => 60 | 24 => 63 | 25 => 81 | 3 => 3 | 39 => 91 | 0 => 0 | 53 => 105 | 55 => 107 | 4 => 4 | 46 => 99 | 45 => 98 | 50 => 34 | 5 => 5 | 9 => 9 | 66 => 113 | 70 => 117 | 76 => 121 | 77 => 122 | n => n, fun | n => n⟩
theorem Ytaenggfmpagjgaa.laysSF : Go.Proofs.SlLaysF0.n6 Try.prog Ytaenggfmpagjgaa.laysSF_ren := {
  mixed := by kernel_rfl
  f6 := ⟨Try.f45.name, by decide, Try.func45.trans (congrArg some (by kernel_rfl))⟩
  f14 := ⟨Try.f56.name, by decide, Try.func56.trans (congrArg some (by kernel_rfl))⟩
  f15 := Try.func57.trans (congrArg some (by kernel_rfl))
  f20 := ⟨Try.f65.name, by decide, Try.func65.trans (congrArg some (by kernel_rfl))⟩
  f21 := ⟨Try.f66.name, by decide, Try.func66.trans (congrArg some (by kernel_rfl))⟩
  f22 := ⟨Try.f67.name, by decide, Try.func67.trans (congrArg some (by kernel_rfl))⟩
  f23 := ⟨Try.f68.name, by decide, Try.func68.trans (congrArg some (by kernel_rfl))⟩
  f24 := ⟨Try.f69.name, by decide, Try.func69.trans (congrArg some (by kernel_rfl))⟩
  f25 := ⟨Try.f70.name, by decide, Try.func70.trans (congrArg some (by kernel_rfl))⟩
  f26 := ⟨Try.f71.name, by decide, Try.func71.trans (congrArg some (by kernel_rfl))⟩
  f27 := ⟨Try.f72.name, by decide, Try.func72.trans (congrArg some (by kernel_rfl))⟩
  f28 := Try.func73.trans (congrArg some (by kernel_rfl))
  f29 := Try.func74.trans (congrArg some (by kernel_rfl))
  f46 := ⟨Try.f83.name, by decide, Try.func83.trans (congrArg some (by kernel_rfl))⟩
  f47 := Try.func84.trans (congrArg some (by kernel_rfl))
  f48 := Try.func85.trans (congrArg some (by kernel_rfl))
  f49 := ⟨Try.f86.name, by decide, Try.func86.trans (congrArg some (by kernel_rfl))⟩
  f50 := ⟨Try.f87.name, by decide, Try.func87.trans (congrArg some (by kernel_rfl))⟩
  f57 := ⟨Try.f91.name, by decide, Try.func91.trans (congrArg some (by kernel_rfl))⟩
  t0 := Try.underlying0
  a0 := Try.isAgg0
  z0 := Try.sizeOf0
  v0 := Try.zeroValue0
  t3 := Try.underlying3
  a3 := Try.isAgg3
  z3 := Try.sizeOf3
  v3 := Try.zeroValue3
  t4 := Try.underlying4
  a4 := Try.isAgg4
  z4 := Try.sizeOf4
  v4 := Try.zeroValue4
  t5 := Try.underlying5
  a5 := Try.isAgg5
  z5 := Try.sizeOf5
  v5 := Try.zeroValue5
  t9 := Try.underlying9
  a9 := Try.isAgg9
  z9 := Try.sizeOf9
  v9 := Try.zeroValue9
  t22 := Try.underlying60
  a22 := Try.isAgg60
  z22 := Try.sizeOf60
  v22 := Try.zeroValue60
  t25 := Try.underlying81
  a25 := Try.isAgg81
  z25 := Try.sizeOf81
  v25 := Try.zeroValue81
  t39 := Try.underlying91
  a39 := Try.isAgg91
  z39 := Try.sizeOf91
  v39 := Try.zeroValue91
  t45 := Try.underlying98
  a45 := Try.isAgg98
  z45 := Try.sizeOf98
  v45 := Try.zeroValue98
  t46 := Try.underlying99
  a46 := Try.isAgg99
  z46 := Try.sizeOf99
  v46 := Try.zeroValue99
  t50 := Try.underlying34
  a50 := Try.isAgg34
  z50 := Try.sizeOf34
  v50 := Try.zeroValue34
  t53 := Try.underlying105
  a53 := Try.isAgg105
  z53 := Try.sizeOf105
  v53 := Try.zeroValue105
  t55 := Try.underlying107
  a55 := Try.isAgg107
  z55 := Try.sizeOf107
  v55 := Try.zeroValue107
  t66 := Try.underlying113
  a66 := Try.isAgg113
  z66 := Try.sizeOf113
  v66 := Try.zeroValue113
  t70 := Try.underlying117
  a70 := Try.isAgg117
  z70 := Try.sizeOf117
  v70 := Try.zeroValue117
  t76 := Try.underlying121
  a76 := Try.isAgg121
  z76 := Try.sizeOf121
  v76 := Try.zeroValue121
  t77 := Try.underlying122
  a77 := Try.isAgg122
  z77 := Try.sizeOf122
  v77 := Try.zeroValue122 }
end Go.Proofs
namespace Go.Proofs.Ytaenggfmpagjgaa.Pl
open Go Go.RowKit Go.Sort
theorem grow_of_below {W w' : World} (hb : Below W.heap.size W w') : ∃ q os', w' = grow (W.drewN q) os' := by
  refine ⟨w'.drawn - W.drawn, w'.heap.extract W.heap.size w'.heap.size, ?_⟩
  have h1 : w'.heap = W.heap ++ w'.heap.extract W.heap.size w'.heap.size := by
    refine Array.ext_getElem? fun i => ?_
    rw [Array.getElem?_append]
    split
    · rename_i h; exact hb.block i h
    · rename_i h
      rw [Array.getElem?_extract]
      split
      · congr 1; omega
      · exact Array.getElem?_eq_none (by omega)
  have h2 : w'.drawn = W.drawn + (w'.drawn - W.drawn) := by have := hb.drawn; omega
  have h3 := hb.os
  have h4 := hb.tape
  have h5 := hb.output
  generalize w'.heap.extract W.heap.size w'.heap.size = os at h1
  generalize w'.drawn - W.drawn = q at h2
  cases w'
  simp only at h1 h2 h3 h4 h5
  subst h1; subst h2; subst h3; subst h4; subst h5
  rfl
theorem flatK_fl {α : Type} [Flat α] [Inhabited α] (xs : List α) (hz : 0 < Flat.sz α) : flatK Flat.fl (Flat.sz α) xs.toArray = (flL xs).toArray := by
  refine Array.ext (by rw [size_flatK]; simp [flL_len]) fun t h1 h2 => ?_
  have h3 : t < xs.length * Flat.sz α := by simpa [size_flatK] using h1
  have h4 : t / Flat.sz α < xs.length := Nat.div_lt_of_lt_mul (by rw [Nat.mul_comm]; exact h3)
  have h5 : t % Flat.sz α < (Flat.fl (gt xs ((t / Flat.sz α : Nat) : Int))).length := by rw [Flat.len]; exact Nat.mod_lt _ hz
  have h6 := flL_get (xs := xs) (i := ((t / Flat.sz α : Nat) : Int)) ⟨Int.natCast_nonneg _, Int.ofNat_lt.2 h4⟩ (List.getElem?_eq_getElem h5)
  rw [Int.toNat_natCast, Nat.div_add_mod'] at h6
  have h7 := get_flatK (Flat.fl (α := α)) (Flat.sz α) xs.toArray t (by simpa using h3)
  rw [getElem!_pos _ t h1] at h7
  rw [h7]
  have h8 : xs.toArray[t / Flat.sz α]! = gt xs ((t / Flat.sz α : Nat) : Int) := by
    rw [gt_of ⟨Int.natCast_nonneg _, Int.ofNat_lt.2 h4⟩]; simp only [Int.toNat_natCast]; simp [h4]
  rw [h8, getElem!_pos (Flat.fl (gt xs ((t / Flat.sz α : Nat) : Int))) (t % Flat.sz α) h5]
  have h9 : t < (flL xs).length := by rw [flL_len]; exact h3
  rw [List.getElem?_eq_getElem h9] at h6
  simpa using (Option.some.inj h6).symm
theorem putG {w : World} {h : FH} {b c m sz q : Nat} {cur : Array Value} {e : TypeId} {ds : List Value} {os : Array Obj} (hs : Sub h w) (sg : Sub (FH.one b (.cells cur e (0, 0))) w) (hd : Disj h (FH.one b (.cells cur e (0, 0)))) (hmax : c ≤ maxLen) (hsz : cur.size = c * sz) (hds : ds.length = m * sz) (hm : m ≤ c) :
    SH (Kp.ex w h (FH.one b (.cells cur e (0, 0)))) h (grow (putRow id (Sort.ahead w q) b 0 ds.toArray) os) [OwnSl e sz (some ⟨b, 0, none⟩) m c ds] := by
  have hb : w.heap[b]? = some (.cells cur e (0, 0)) := sg b _ (FH.one_self _ _)
  have hlt : b < w.heap.size := sg.lt (FH.one_self _ _)
  have hheap : ∀ i, i < w.heap.size → (grow (putRow id (Sort.ahead w q) b 0 ds.toArray) os).heap[i]? = if b = i then some (.cells (putCells id 0 ds.toArray cur) e (0, 0)) else w.heap[i]? := fun i hi => by
    show ((w.heap.modify b (onCells (putCells id 0 ds.toArray))) ++ os)[i]? = _
    rw [Array.getElem?_append_left (by rw [Array.size_modify]; exact hi), Array.getElem?_modify]
    by_cases q : b = i
    · subst q
      rw [if_pos rfl, if_pos rfl, hb]; rfl
    · rw [if_neg q, if_neg q]
  have hsize : w.heap.size ≤ (grow (putRow id (Sort.ahead w q) b 0 ds.toArray) os).heap.size := by
    show w.heap.size ≤ ((w.heap.modify b (onCells (putCells id 0 ds.toArray))) ++ os).size
    rw [Array.size_append, Array.size_modify]; omega
  have hone : ∀ i, FH.one b (.cells cur e (0, 0)) i = none → b ≠ i := fun i g q => by
    subst q
    rw [FH.one_self] at g; cases g
  have hnb : ∀ i, h i ≠ none → b ≠ i := fun i hi => hone i ((hd i).resolve_left hi)
  refine ⟨⟨rfl, rfl, rfl, hsize, fun i hi => ?_, Nat.le_add_right _ _⟩, fun i o ho => ?_, fun i hi => .inl hi, [FH.one b (.cells (putCells id 0 ds.toArray cur) e (0, 0))], rfl, ?_, ?_, ?_⟩
  · rw [hheap i hi.1, if_neg (hone i hi.2)]; rfl
  · rw [hheap i (hs.lt ho), if_neg (hnb i (by rw [ho]; simp))]; exact hs i o ho
  · intro i g X hi hX
    cases i with
    | succ i => simp at hi
    | zero =>
      simp at hi hX
      subst hi; subst hX
      have hle : m * sz ≤ c * sz := Nat.mul_le_mul_right sz hm
      refine ⟨hds, .inr ⟨b, _, rfl, rfl, hm, hmax, by simp [putCells, hsz], ?_⟩⟩
      refine List.ext_getElem? fun k => ?_
      rw [List.getElem?_take]
      by_cases g : k < m * sz
      · have g2 : k < ds.length := by omega
        have g3 : k < cur.size := by omega
        rw [if_pos g, Array.getElem?_toList]
        simp [putCells, g2, g3]
      · rw [if_neg g, List.getElem?_eq_none (by omega)]
  · intro i g hi
    cases i with
    | succ i => simp at hi
    | zero =>
      simp at hi
      subst hi
      refine ⟨fun j => ?_, Sub.one ?_, fun j hj hk => ?_⟩
      · by_cases g : h j = none
        · exact .inl g
        · exact .inr (by unfold FH.one; rw [if_neg (fun e => hnb j g e.symm)])
      · rw [hheap b hlt, if_pos rfl]
      · exact hone j hk.2 (FH.one_ne hj).symm
  · intro i j g g' hij hi hj
    cases i with
    | succ i => simp at hi
    | zero => cases j with
      | zero => exact absurd rfl hij
      | succ j => simp at hj
theorem ownHoldsG {w : World} {b m : Nat} {cur : Array Value} {e : TypeId} {ds : List Value} (hb : w.heap[b]? = some (.cells cur e (0, 0))) (hl : ds.length = m) (ht : cur.toList.take m = ds) : Go.Sort.Holds id w b 0 ds.toArray := fun j hj => by
  have hj' : j < ds.length := by simpa using hj
  refine ⟨?_, ?_⟩
  · unfold World.cell?
    rw [hb]
    show (if (none : Option _).isSome = true then none else cur[0 + j]?) = _
    have h1 := congrArg (fun l => l[j]?) ht
    simp only [List.getElem?_take, show j < m by omega, if_true] at h1
    rw [Array.getElem?_toList, List.getElem?_eq_getElem hj'] at h1
    rw [Nat.zero_add]
    simp [h1, hj']
  · unfold World.frozen?
    rw [hb]
    simp
theorem sortHap_swo : SWO (ltOf sp_hcmp) := by
  have e : ∀ x y, ltOf sp_hcmp x y = true ↔ hlt x y := fun x y => by unfold ltOf hlt; rw [decide_eq_true_eq]
  have e2 : ∀ x y, ltOf sp_hcmp x y = false ↔ ¬ hlt x y := fun x y => by rw [← e]; simp
  refine ⟨fun x => (e2 x x).2 (hlt_irr x), fun x y z h1 h2 => (e x z).2 (hlt_trans ((e x y).1 h1) ((e y z).1 h2)), fun x y z h1 h2 => (e2 x z).2 fun h => ?_⟩
  rw [e2] at h1 h2
  rcases hlt_tri x y with g | g | g
  · exact h1 g
  · subst g; exact h2 h
  · exact h2 (hlt_trans g h)
theorem sortHap_tot (x y : Hap) (h1 : ltOf sp_hcmp x y = false) (h2 : ltOf sp_hcmp y x = false) : x = y := by
  unfold ltOf at h1 h2
  rcases hlt_tri x y with g | g | g
  · exact absurd g (show ¬ sp_hcmp x y < 0 from of_decide_eq_false h1)
  · exact g
  · exact absurd g (show ¬ sp_hcmp y x < 0 from of_decide_eq_false h2)
theorem c_sortHap {h : FH} {w : World} (hs : Sub h w) (x : List Hap) (a : Option Addr) (c : Nat) {gX : FH} (ownX : OwnSl 63 3 a x.length c (flL x) gX) (subX : Sub gX w) (disX : Disj h gX) (pc : Addr) (hq : CellsAt h pc [.func (.func 44) #[] #[]]) (hp : pre_sortHap x) :
    Calls Try.prog 45 #[.slice a x.length c, .func (.func 46) #[] #[.pointer (some pc)]] w fun e w' => e = .returned (.tuple #[]) ∧ SH (Kp.ex w h gX) h w' [OwnSl 63 3 a x.length c (flL (sp_sortHap x))] := by
  have own0 := ownX
  obtain ⟨h1, ⟨rfl, h2, rfl, rfl⟩ | ⟨b, cur, rfl, rfl, h4, h5, h6, h7⟩⟩ := ownX
  · have e : x = [] := List.length_eq_zero_iff.1 h2
    subst e
    refine (AnyF.slices_SortFunc_none Ytaenggfmpagjgaa.laysSF none 0 _ w).mono fun e w' ⟨he, hw⟩ => ⟨he, ?_⟩
    subst hw
    rw [show sp_sortHap [] = [] by simp [sp_sortHap]]
    exact SH.startX hs subX disX own0
  · have hb := subX b _ (FH.one_self _ _)
    have hlt := subX.lt (FH.one_self _ _)
    have hfl : ∀ xs : List Hap, flatK Flat.fl 3 xs.toArray = (flL xs).toArray := fun xs => flatK_fl xs (by decide)
    have hnb : ∀ i, h i ≠ none → b ≠ i := fun i hi q => by
      subst q
      rcases disX b with g | g
      · exact hi g
      · rw [FH.one_self] at g; cases g
    have hcmp : CmpLays Try.prog 46 #[.pointer (some pc)] (Flat.fl (α := Hap)) 3 sp_hcmp b 0 x.toArray.size w := fun m os dk _ u v => by
      have hsW : Sub h (sortWorldK (Flat.fl (α := Hap)) 3 w b 0 m dk os) := fun i o ho => by
        have hi := hs.lt ho
        show ((w.heap.modify b (onCells (putCells id 0 (flatK Flat.fl 3 dk)))) ++ os)[i]? = _
        rw [Array.getElem?_append_left (by rw [Array.size_modify]; exact hi), Array.getElem?_modify, if_neg (hnb i (by rw [ho]; simp))]
        exact hs i o ho
      exact (c_hcmp hsW u v pc hq).mono fun e w' ⟨he, hb⟩ => ⟨he, grow_of_below hb⟩
    refine (AnyQ.slices_SortFunc_total Ytaenggfmpagjgaa.laysSF 3 (fun w => (tA63 w).1) (fun w => (tA63 w).2) (Flat.fl (α := Hap)) Flat.len Flat.one sp_hcmp sortHap_swo 46 #[.pointer (some pc)] b 0 c x.toArray w Try.call46 hcmp ?_ hlt ?_ sortHap_tot).mono fun e w' ⟨he, n, os, hw⟩ => ⟨he, ?_⟩
    · unfold HoldsK
      rw [hfl]
      exact ownHoldsG hb h1 h7
    · unfold pre_sortHap at hp
      simp only [List.size_toArray]
      omega
    · subst hw
      have := putG (q := n) (os := os) (ds := flL (sp_sortHap x)) (m := x.length) (sz := 3) hs subX disX h5 h6 (by rw [flL_len, sortHap_len]; rfl) h4
      rw [← hfl] at this
      exact this
end Go.Proofs.Ytaenggfmpagjgaa.Pl
