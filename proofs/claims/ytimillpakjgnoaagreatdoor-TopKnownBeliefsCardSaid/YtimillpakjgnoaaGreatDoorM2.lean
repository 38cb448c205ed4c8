import Derived.Test.YtimillpakjgnoaaGreatDoorM1
import Derived.Deep.AppendSrc
import Derived.Lib.SlicesCompact
import Derived.Test.YtimillpakjgnoaaGreatDoorRows
import Derived.ChangeKeysEq
import Derived.Laws.Bits64
import Derived.Shelf.Sort.Plain
import Derived.Shelf.Slices.In.SortNone
import Derived.Shelf.Slices.CompactI
import Derived.Lib.RowBridge
import Derived.Ground.Names2Prog
namespace Go.Proofs.YtimillpakjgnoaaGreatDoor.Pl
open Go Go.RowKit
def W32 := Int
instance : Inhabited W32 := inferInstanceAs (Inhabited Int)
instance : Flat W32 := ⟨1, fun x => [.int .u32 x], fun _ => rfl, fun x v hv => by simp at hv; subst hv; rfl⟩
theorem rawE {cs ce : List Value} {i : Nat} (h : (cs.drop i).take ce.length = ce) : ∀ (j : Nat) (v : Value), ce[j]? = some v → cs[i + j]? = some v := fun j v e => by
 have hj : j < ce.length := (List.getElem?_eq_some_iff.1 e).1
 rw [← h, List.getElem?_take, if_pos hj, List.getElem?_drop] at e
 exact e
theorem oneAll {l : List Value} (h : l.all Value.oneCell' = true) : ∀ u ∈ l, u.oneCell' = true := List.all_eq_true.1 h
def OwnTl (e : TypeId) (sz : Nat) (a : Option Addr) (n c : Nat) (cs : List Value) : Asrt := fun g =>
 cs.length = n * sz ∧ ((a = none ∧ n = 0 ∧ c = 0 ∧ g = fun _ => none) ∨
  ∃ b o cur, a = some ⟨b, o, none⟩ ∧ g = FH.one b (.cells cur e (0, 0)) ∧ n ≤ c ∧ c ≤ maxLen ∧ o + c * sz ≤ cur.size ∧ (cur.toList.drop o).take (n * sz) = cs)
theorem OwnSl.toTl {e : TypeId} {sz : Nat} {a : Option Addr} {n c : Nat} {cs : List Value} {g : FH} (h : OwnSl e sz a n c cs g) : OwnTl e sz a n c cs g := by
 obtain ⟨hl, h | ⟨b, cur, h1, h2, h3, h4, h5, h6⟩⟩ := h
 ·exact ⟨hl, .inl h⟩
 ·exact ⟨hl, .inr ⟨b, 0, cur, h1, h2, h3, h4, by omega, by rw [List.drop_zero]; exact h6⟩⟩
theorem add_off (b o i : Nat) : (⟨b, o, none⟩ : Addr).add i = ⟨b, o + i, none⟩ := by
 rw [← add_lit b o, add_add, add_lit]
theorem OwnTl.cells {e : TypeId} {sz : Nat} {a : Option Addr} {n c : Nat} {cs : List Value} {g : FH} (h : OwnTl e sz a n c cs g) : RawSl g a cs := by
 obtain ⟨hl, ⟨rfl, rfl, rfl, rfl⟩ | ⟨b, o, cur, rfl, rfl, h1, h2, h3, h4⟩⟩ := h
 ·intro j v e
  have : cs = [] := List.eq_nil_of_length_eq_zero (by simpa using hl)
  subst this
  simp at e
 ·intro j v e
  refine ⟨by simp, ?_⟩
  show (FH.one b _).cell ((⟨b, o, none⟩ : Addr).add j) = _
  rw [add_off, one_cell]
  rw [← h4, List.getElem?_take] at e
  split at e
  ·rw [List.getElem?_drop] at e; simpa using e
  ·cases e
theorem OwnTl.ne {e : TypeId} {sz m c : Nat} {a : Option Addr} {cs : List Value} {g : FH} (hx : OwnTl e sz a m c cs g) (hm : 0 < m) : a ≠ none := by
 rcases hx.2 with ⟨_, rfl, _⟩ | ⟨b, o, cur, rfl, _⟩
 ·omega
 ·simp
section
variable {P : Program} {K : Kp} {n : Fr} {ops : Array Oper} {Q : Exit → Act → World → Prop} {s : St} {A : List Asrt} {h : FH} {rest : List Oper} {d : Nat} {dd : Option Tmp} {gd : Option (Nat × Bool)} {ty : TypeId} {pos : String} {af : Array Edge}
theorem JL.toTl {l : List Oper} {k : Nat} {e : TypeId} {sz m c : Nat} {a : Option Addr} {cs : List Value} (hk : A[k]? = some (OwnSl e sz a m c cs)) (j : JL P K n ops l Q s (A.set k (OwnTl e sz a m c cs)) h) : JL P K n ops l Q s A h := fun ac w H S => j ac w H (S.weaken hk fun _ => OwnSl.toTl)
theorem J.toTl {l : Code} {k : Nat} {e : TypeId} {sz m c : Nat} {a : Option Addr} {cs : List Value} (hk : A[k]? = some (OwnSl e sz a m c cs)) (j : J P K n l Q s (A.set k (OwnTl e sz a m c cs)) h) : J P K n l Q s A h := fun ac w H S => j ac w H (S.weaken hk fun _ => OwnSl.toTl)
theorem E.toTl {ex : Exit} {k : Nat} {e : TypeId} {sz m c : Nat} {a : Option Addr} {cs : List Value} (hk : A[k]? = some (OwnSl e sz a m c cs)) (j : E K n Q ex s (A.set k (OwnTl e sz a m c cs)) h) : E K n Q ex s A h := fun ac w H S => j ac w H (S.weaken hk fun _ => OwnSl.toTl)
theorem cellT {k : Nat} {e : TypeId} {sz m c : Nat} {a : Option Addr} {cs : List Value} {i : Nat} {v : Value} (hk : A[k]? = some (OwnTl e sz a m c cs)) (hv : cs[i]? = some v) : ∀ w, SH K h w A → w.cell? (ead a i) = some v := fun w S => by
 obtain ⟨g, hx, own, _⟩ := S.upd hk
 exact own.sub.cell (hx.cells i v hv).2
theorem ixT {x y : Operand} {t e e' : TypeId} {a : Option Addr} {k len cap sz sz' by_ : Nat} {zs cs : List Value} {ki : IntKind} {i : Int} (hx : ev s x = some (.slice a len cap)) (hy : ev s y = some (.int ki i)) (ht : TSl P t e sz by_ zs) (hk : A[k]? = some (OwnTl e' sz' a len cap cs)) (hi : 0 ≤ i ∧ i < len) : VF P K n s A h ⟨dd, .indexAddr t x y, ty, pos, af, gd⟩ (.pointer (some (ead a (i.toNat * sz)))) :=
 fun ac w H S => by
  obtain ⟨g, hX, _⟩ := S.upd hk
  exact ix hx hy ht (hX.ne (by omega)) hi ac w H S
theorem OwnTl.drop_ {e : TypeId} {sz m c k : Nat} {a : Option Addr} {cs : List Value} {g : FH} (hx : OwnTl e sz a m c cs g) (h : k ≤ m) : OwnTl e sz (sla a c k sz) (m - k) (c - k) (cs.drop (k * sz)) g := by
 have hlen : (cs.drop (k * sz)).length = (m - k) * sz := by rw [List.length_drop, hx.1, Nat.sub_mul]
 obtain ⟨hl, ⟨rfl, rfl, rfl, rfl⟩ | ⟨b, o, cur, rfl, rfl, q1, q2, q3, q4⟩⟩ := hx
 ·have : k = 0 := by omega
  subst this
  exact ⟨hlen, .inl ⟨by unfold sla; rw [if_pos rfl], rfl, rfl, rfl⟩⟩
 ·refine ⟨hlen, ?_⟩
  by_cases hc : c = k
  ·have hm : m = k := by omega
   subst hc; subst hm
   refine .inr ⟨b, o, cur, by unfold sla; rw [if_pos rfl], rfl, by omega, by omega, by simp; omega, ?_⟩
   rw [Nat.sub_self, Nat.zero_mul, List.take_zero]
   exact (List.eq_nil_of_length_eq_zero (by rw [hlen]; simp)).symm
  ·have hmul : k * sz + (c - k) * sz = c * sz := by rw [← Nat.add_mul]; congr 1; omega
   refine .inr ⟨b, o + k * sz, cur, by unfold sla; rw [if_neg hc]; simp only [Option.map_some, add_off], rfl, by omega, by omega, by omega, ?_⟩
   rw [← q4, List.drop_take, List.drop_drop, Nat.sub_mul]
theorem dropTl {k nn c lo : Nat} {e : TypeId} {sz : Nat} {a : Option Addr} {cs cs' : List Value} {l : List Oper} (hk : A[k]? = some (OwnTl e sz a nn c cs)) (hlo : lo ≤ nn) (hc : cs.drop (lo * sz) = cs') (j : JL P K n ops l Q s (A.set k (OwnTl e sz (sla a c lo sz) (nn - lo) (c - lo) cs')) h) : JL P K n ops l Q s A h := fun ac w H S => by
 subst hc
 exact j ac w H (S.weaken hk fun g hx => hx.drop_ hlo)
theorem append_tl {w : World} {t e : TypeId} {k sz by_ nn c m c2 : Nat} {a a2 : Option Addr} {zs cs news : List Value} (S : SH K h w A) (ht : TSl P t e sz by_ zs) (hsz : zs.length = sz) (hpos : 0 < sz) (hk : A[k]? = some (OwnTl e sz a nn c cs))
  (hl : news.length = m * sz) (hm : 0 < m) (hne : a2 ≠ none) (hnews : ∀ j u, news[j]? = some u → w.cell? (ead a2 j) = some u) (h1 : ∀ u ∈ news, u.oneCell' = true) (h63 : nn + m ≤ maxLen) (hb : (nn + m) * by_ ≤ 140737488355328) (ty : TypeId) :
  ∃ a' c' w', (Builtin.append_ #[t, t] ty #[.slice a nn c, .slice a2 m c2]).run P w = .ok (.slice a' (nn + m) c') w' ∧ SH K h w' (A.set k (OwnTl e sz a' (nn + m) c' (cs ++ news))) := by
 obtain ⟨i, z, i1, i2, i3, i4, i5⟩ := ht.info
 subst i3; subst i4
 obtain ⟨g, hX, own, up⟩ := S.upd hk
 have hzs : z.cells.size = i.size := by rw [← Array.length_toList, i5, hsz]
 obtain ⟨ad, rfl⟩ := Option.ne_none_iff_exists'.1 hne
 have hlen : (cs ++ news).length = (nn + m) * i.size := by rw [List.length_append, hX.1, hl, Nat.add_mul]
 have hsmall : nn + m ≤ 9223372036854775807 := by simp only [maxLen] at h63; omega
 have src : Src P i.size t (.slice (some ad) m c2) m news w := Src.ofSlice w ht.und ad m c2 news hl hnews h1
 have grow : ∀ (hc : c < nn + m) (hold : (Builtin.firstCells i.size nn (.slice a nn c)).run P w.drew = .ok cs.toArray w.drew),
   ∃ a' c' w', (Builtin.append_ #[t, t] ty #[.slice a nn c, .slice (some ad) m c2]).run P w = .ok (.slice a' (nn + m) c') w' ∧ SH K h w' (A.set k (OwnTl e i.size a' (nn + m) c' (cs ++ news))) := fun hc hold => by
  have hr := run_append_grow_src (P := P) w t t ty e i z ht.und i1 i2 a nn c cs hold (.slice (some ad) m c2) m news src hc (by omega) (growslice_fits (by omega) hb)
  refine ⟨_, _, _, hr, up _ (FH.one w.heap.size (.cells ((cs ++ news).toArray ++ Builtin.zeroCells z.cells (grownCap w (nn + m) c e - (nn + m))) e (0, 0))) _ ⟨hlen, .inr ⟨w.heap.size, 0, _, rfl, rfl, grownCap_ge w (nn + m) c e, grownCap_le_maxLen w (nn + m) c e h63, ?_, ?_⟩⟩ (Sub.one (heap_alloc_new w.drew _)) (fun b hb' => ?_) (fun b hb' _ => (below_drew_alloc w _).block b hb') rfl rfl rfl (by simp) (dr_drew w)⟩
  ·have := grownCap_ge w (nn + m) c e
   simp only [Array.size_append, List.size_toArray, size_zeroCells, hzs, hlen, Nat.zero_add, ← Nat.add_mul]
   exact Nat.mul_le_mul_right _ (by omega)
  ·rw [List.drop_zero, Array.toList_append, ← hlen]
   exact List.take_left
  ·rw [FH.one_ne hb']; exact .inr (Nat.le_refl _)
 obtain ⟨hxl, ⟨rfl, rfl, rfl, rfl⟩ | ⟨b, o, cur, rfl, rfl, q1, q2, q3, q4⟩⟩ := hX
 ·refine grow (by omega) ?_
  have hn : cs = [] := List.eq_nil_of_length_eq_zero (by simpa using hxl)
  subst hn
  exact run_firstCells_none w.drew i.size 0 0 0
 ·have hbk := one_sub own.sub
  by_cases hroom : nn + m ≤ c
  ·have hmul : (nn + m) * i.size ≤ c * i.size := Nat.mul_le_mul_right _ hroom
   have hnm : nn * i.size + m * i.size = (nn + m) * i.size := (Nat.add_mul _ _ _).symm
   have hst : (storeCells ⟨b, o + nn * i.size, none⟩ news 0).run P w = _ := run_storeCells_at P b (o + nn * i.size) e news 0 cur w hbk (by omega) h1
   simp only [Nat.add_zero] at hst
   have hr : (Builtin.append_ #[t, t] ty #[.slice (some ⟨b, o, none⟩) nn c, .slice (some ad) m c2]).run P w = .ok (.slice (some ⟨b, o, none⟩) (nn + m) c) (w.setRow b (wrL cur.toList (o + nn * i.size) news).toArray) := by
    simp only [wrL, List.append_assoc]
    simp [Builtin.append_, run_underlying ht.und, sizeOf, typeInfo, i1, src.len, hroom, src.cells, add_off, hst]
   refine ⟨_, _, _, hr, SH.wr up hbk _ (OwnTl e i.size (some ⟨b, o, none⟩) (nn + m) c (cs ++ news)) ⟨hlen, .inr ⟨b, o, _, rfl, rfl, hroom, q2, ?_, ?_⟩⟩⟩
   ·simp [wrL]; omega
   ·have e1 : (cur.toList.take (o + nn * i.size)).drop o = cs := by
     rw [List.drop_take, ← q4]; congr 1; omega
    have e2 : o ≤ (cur.toList.take (o + nn * i.size)).length := by rw [List.length_take, Array.length_toList]; omega
    show ((wrL cur.toList (o + nn * i.size) news).drop o).take ((nn + m) * i.size) = cs ++ news
    rw [wrL, List.append_assoc, List.drop_append_of_le_length e2, e1, ← List.append_assoc, ← hlen]
    exact List.take_left
  ·refine grow (by omega) ?_
   refine run_firstCells_some w.drew i.size nn ⟨b, o, none⟩ nn c cs hxl fun j u hu => ?_
   have := own.sub.cell ((OwnTl.cells (e := e) (sz := i.size) ⟨hxl, .inr ⟨b, o, cur, rfl, rfl, q1, q2, q3, q4⟩⟩) j u hu).2
   exact this
theorem appT {t e : TypeId} {x y : Operand} {k sz by_ nn c m c2 nm : Nat} {a a2 : Option Addr} {zs cs news cs' : List Value} (ht : TSl P t e sz by_ zs) (hsz : zs.length = sz) (hpos : 0 < sz) (hx : ev s x = some (.slice a nn c)) (hy : ev s y = some (.slice a2 m c2)) (hk : A[k]? = some (OwnTl e sz a nn c cs))
  (hl : news.length = m * sz) (hm : 0 < m) (hnews : ∀ w, SH K h w A → (0 < m → a2 ≠ none) ∧ ∀ j u, news[j]? = some u → w.cell? (ead a2 j) = some u) (h1 : ∀ u ∈ news, u.oneCell' = true) (h63 : nn + m ≤ maxLen) (hb : (nn + m) * by_ ≤ 140737488355328) (hnm : nn + m = nm) (hcs : cs ++ news = cs') (hn : Nat.blt d n.sz = true)
  (kk : ∀ a' c', JL P K n ops rest Q ((d, .slice a' nm c') :: s) (A.set k (OwnTl e sz a' nm c' cs')) h) : JL P K n ops (⟨some d, .call { callee := .builtin .append, args := #[x, y], argTypes := #[t, t] }, ty, pos, af, none⟩ :: rest) Q s A h :=
 JL.valW rfl rfl hn (fun ac w H S => by
  subst hnm; subst hcs
  obtain ⟨a', c', w', hr, hs⟩ := append_tl (c2 := c2) S ht hsz hpos hk hl hm ((hnews w S).1 hm) (hnews w S).2 h1 h63 hb ty
  refine ⟨_, w', _, h, ?_, hs, kk a' c'⟩
  simp only [execOp, resolve, invoke, builtin, Sem.run_bind, Sem.run_pure, Result.andThen_ok, List.map_toArray, List.map_cons, List.map_nil, H.ev hx, H.ev hy, hr])
theorem len_drop {α : Type} {xs : List α} {k m : Nat} (h : xs.length = m) : (xs.drop k).length = m - k := by rw [List.length_drop, h]
end
end Go.Proofs.YtimillpakjgnoaaGreatDoor.Pl

namespace Go.Proofs.YtimillpakjgnoaaGreatDoor.Pl
def lexlt : List Int → List Int → Prop
 | [], _ => False
 | _ :: _, [] => False
 | x :: r, y :: q => x < y ∨ (x = y ∧ lexlt r q)
def slt (p q : List Int) : Prop := p.length < q.length ∨ (p.length = q.length ∧ lexlt p q)
def sle (p q : List Int) : Prop := p = q ∨ slt p q
theorem lexlt_irr : ∀ p : List Int, ¬ lexlt p p
 | [], h => h
 | x :: r, h => by
  rcases h with h | ⟨_, h⟩
  ·exact absurd h (Int.lt_irrefl _)
  ·exact lexlt_irr r h
theorem lexlt_trans : ∀ p q r : List Int, lexlt p q → lexlt q r → lexlt p r
 | [], _, _, h, _ => h.elim
 | _ :: _, [], _, h, _ => h.elim
 | _ :: _, _ :: _, [], _, h => h.elim
 | x :: a, y :: b, z :: c, h, g => by
  rcases h with h | ⟨rfl, h⟩
  ·rcases g with g | ⟨rfl, g⟩
   ·exact .inl (Int.lt_trans h g)
   ·exact .inl h
  ·rcases g with g | ⟨rfl, g⟩
   ·exact .inl g
   ·exact .inr ⟨rfl, lexlt_trans a b c h g⟩
theorem lexlt_app : ∀ p q r s : List Int, lexlt p q → lexlt (p ++ r) (q ++ s)
 | [], _, _, _, h => h.elim
 | _ :: _, [], _, _, h => h.elim
 | _ :: a, _ :: b, r, s, h => h.imp id fun ⟨e, k⟩ => ⟨e, lexlt_app a b r s k⟩
theorem lexlt_same : ∀ (p r s : List Int), lexlt r s → lexlt (p ++ r) (p ++ s)
 | [], _, _, h => h
 | _ :: a, r, s, h => .inr ⟨rfl, lexlt_same a r s h⟩
theorem slt_irr (p : List Int) : ¬ slt p p := fun h => by
 rcases h with h | ⟨_, h⟩
 ·omega
 ·exact lexlt_irr p h
theorem slt_trans {p q r : List Int} (h : slt p q) (g : slt q r) : slt p r := by
 rcases h with h | ⟨e, h⟩
 ·rcases g with g | ⟨e', _⟩ <;> exact .inl (by omega)
 ·rcases g with g | ⟨e', g⟩
  ·exact .inl (by omega)
  ·exact .inr ⟨by omega, lexlt_trans _ _ _ h g⟩
theorem sle_refl (p : List Int) : sle p p := .inl rfl
theorem sle_trans {p q r : List Int} (h : sle p q) (g : sle q r) : sle p r := by
 rcases h with rfl | h
 ·exact g
 ·rcases g with rfl | g
  ·exact .inr h
  ·exact .inr (slt_trans h g)
theorem sle_antisymm {p q : List Int} (h : sle p q) (g : sle q p) : p = q := by
 rcases h with h | h
 ·exact h
 ·rcases g with g | g
  ·exact g.symm
  ·exact absurd (slt_trans h g) (slt_irr p)
theorem sle_len {p q : List Int} (h : sle p q) : p.length ≤ q.length := by
 rcases h with rfl | h | ⟨h, _⟩ <;> omega
theorem slt_snoc {p q : List Int} (x y : Int) (h : slt p q) : slt (p ++ [x]) (q ++ [y]) := by
 rcases h with h | ⟨e, h⟩
 ·exact .inl (by simp; omega)
 ·exact .inr ⟨by simp [e], lexlt_app _ _ _ _ h⟩
theorem slt_snoc_same (p : List Int) {x y : Int} (h : x < y) : slt (p ++ [x]) (p ++ [y]) := .inr ⟨by simp, lexlt_same p _ _ (.inl h)⟩
theorem sle_snoc {p q : List Int} (x : Int) (h : sle p q) : sle (p ++ [x]) (q ++ [x]) := by
 rcases h with rfl | h
 ·exact sle_refl _
 ·exact .inr (slt_snoc x x h)
theorem sle_app (p r : List Int) : sle p (p ++ r) := by
 cases r with
 | nil => exact .inl (by simp)
 | cons x q => exact .inr (.inl (by simp))
section
variable {N : Type}
structure Ent (N : Type) where
 node : N
 from_ : Int
 step : Int
 deriving DecidableEq, Inhabited
def backR (q : List (Ent N)) : Nat → Int → List Int
 | 0, _ => []
 | k + 1, i => match q[i.toNat]? with
  | some e => if e.from_ < 0 then [] else e.step :: backR q k e.from_
  | none => []
def pathTo (q : List (Ent N)) (i : Nat) : List Int := (backR q (i + 1) i).reverse
def Way (succ : N → List (Int × N)) : N → List Int → N → Prop
 | u, [], v => u = v
 | u, o :: p, v => ∃ x, (o, x) ∈ succ u ∧ Way succ x p v
theorem Way.snoc {succ : N → List (Int × N)} : ∀ {p : List Int} {u v x : N} {o : Int}, Way succ u p v → (o, x) ∈ succ v → Way succ u (p ++ [o]) x
 | [], _, _, x, _, h, g => ⟨x, h ▸ g, rfl⟩
 | _ :: _, _, _, _, _, ⟨y, h1, h2⟩, g => ⟨y, h1, h2.snoc g⟩
theorem Way.unsnoc {succ : N → List (Int × N)} : ∀ {p : List Int} {u x : N} {o : Int}, Way succ u (p ++ [o]) x → ∃ v, Way succ u p v ∧ (o, x) ∈ succ v
 | [], u, x, o, ⟨y, h1, h2⟩ => ⟨u, rfl, h2 ▸ h1⟩
 | _ :: _, _, _, _, ⟨y, h1, h2⟩ => by
  obtain ⟨v, g1, g2⟩ := Way.unsnoc h2
  exact ⟨v, ⟨y, h1, g1⟩, g2⟩
structure Shape (succ : N → List (Int × N)) (start : N) (q : List (Ent N)) : Prop where
 head : q[0]? = some ⟨start, -1, 0⟩
 link : ∀ i e, q[i]? = some e → 0 < i → ∃ (j : Nat) (u : Ent N), e.from_ = (j : Int) ∧ j < i ∧ q[j]? = some u ∧ (e.step, e.node) ∈ succ u.node
 nodup : (q.map (·.node)).Nodup
theorem Shape.len {succ : N → List (Int × N)} {start : N} {q : List (Ent N)} (h : Shape succ start q) : 0 < q.length := by
 have := h.head
 cases q with
 | nil => simp at this
 | cons a r => simp
theorem Shape.start (succ : N → List (Int × N)) (start : N) : Shape succ start [⟨start, -1, 0⟩] :=
 ⟨rfl, fun i e h hi => by cases i with
  | zero => omega
  | succ i => simp at h, by simp⟩
theorem backR_fuel {succ : N → List (Int × N)} {start : N} {q : List (Ent N)} (h : Shape succ start q) : ∀ (i k : Nat), i < q.length → i < k → backR q k i = backR q (i + 1) i := by
 intro i
 induction i using Nat.strongRecOn with
 | _ i ih =>
  intro k hi hk
  obtain ⟨k, rfl⟩ : ∃ k', k = k' + 1 := ⟨k - 1, by omega⟩
  have hq : q[((i : Nat) : Int).toNat]? = some q[i] := by simp [hi]
  simp only [backR, hq]
  split
  ·rfl
  ·rename_i hf
   by_cases h0 : 0 < i
   ·obtain ⟨j, u, e1, e2, e3, _⟩ := h.link i q[i] (List.getElem?_eq_getElem hi) h0
    rw [e1, ih j e2 k (by omega) (by omega), ih j e2 i (by omega) (by omega)]
   ·have : i = 0 := by omega
    subst this
    have h1 := h.head
    rw [List.getElem?_eq_getElem hi] at h1
    obtain e := Option.some.inj h1
    rw [e] at hf
    exact absurd (by decide : (-1 : Int) < 0) hf
theorem path_zero {succ : N → List (Int × N)} {start : N} {q : List (Ent N)} (h : Shape succ start q) : pathTo q 0 = [] := by
 unfold pathTo
 have : q[((0 : Nat) : Int).toNat]? = some ⟨start, -1, 0⟩ := h.head
 simp only [backR, this]
 rfl
theorem path_link {succ : N → List (Int × N)} {start : N} {q : List (Ent N)} (h : Shape succ start q) {i j : Nat} {e : Ent N} (hi : q[i]? = some e) (hf : e.from_ = (j : Int)) (hj : j < i) : pathTo q i = pathTo q j ++ [e.step] := by
 have hil := (List.getElem?_eq_some_iff.1 hi).1
 unfold pathTo
 have e1 : backR q (i + 1) i = e.step :: backR q i j := by
  have : q[((i : Nat) : Int).toNat]? = some e := by simpa using hi
  simp only [backR, this, hf]
  rw [if_neg (by omega)]
 rw [e1, backR_fuel h j i (by omega) hj]
 simp
theorem path_way {succ : N → List (Int × N)} {start : N} {q : List (Ent N)} (h : Shape succ start q) : ∀ (i : Nat) (e : Ent N), q[i]? = some e → Way succ start (pathTo q i) e.node := by
 intro i
 induction i using Nat.strongRecOn with
 | _ i ih =>
  intro e hi
  by_cases h0 : 0 < i
  ·obtain ⟨j, u, e1, e2, e3, e4⟩ := h.link i e hi h0
   rw [path_link h hi e1 e2]
   exact (ih j e2 u e3).snoc e4
  ·have : i = 0 := by omega
   subst this
   rw [h.head] at hi
   cases hi
   rw [path_zero h]
   rfl
theorem backR_app {succ : N → List (Int × N)} {start : N} {q : List (Ent N)} (h : Shape succ start q) (r : List (Ent N)) : ∀ (k i : Nat), i < q.length → backR (q ++ r) k i = backR q k i := by
 intro k
 induction k with
 | zero => intros; rfl
 | succ k ih =>
  intro i hi
  have e1 : (q ++ r)[((i : Nat) : Int).toNat]? = q[((i : Nat) : Int).toNat]? := List.getElem?_append_left (by simpa using hi)
  simp only [backR, e1]
  have hq : q[((i : Nat) : Int).toNat]? = some q[i] := by simp [hi]
  simp only [hq]
  split
  ·rfl
  ·rename_i hf
   by_cases h0 : 0 < i
   ·obtain ⟨j, u, e1, e2, e3, _⟩ := h.link i q[i] (List.getElem?_eq_getElem hi) h0
    rw [e1, ih j (by omega)]
   ·have : i = 0 := by omega
    subst this
    have h1 := h.head
    rw [List.getElem?_eq_getElem hi] at h1
    rw [Option.some.inj h1] at hf
    exact absurd (by decide : (-1 : Int) < 0) hf
theorem path_app {succ : N → List (Int × N)} {start : N} {q : List (Ent N)} (h : Shape succ start q) (r : List (Ent N)) {i : Nat} (hi : i < q.length) : pathTo (q ++ r) i = pathTo q i := by
 unfold pathTo
 rw [backR_app h r _ _ hi]
theorem Shape.push {succ : N → List (Int × N)} {start : N} {q : List (Ent N)} (h : Shape succ start q) {j : Nat} {u : Ent N} {s : Int} {n : N} (hj : q[j]? = some u) (hs : (s, n) ∈ succ u.node) (hn : n ∉ q.map (·.node)) : Shape succ start (q ++ [⟨n, j, s⟩]) := by
 have hl := h.len
 refine ⟨by rw [List.getElem?_append_left hl]; exact h.head, fun i e hi h0 => ?_, ?_⟩
 ·by_cases hlt : i < q.length
  ·rw [List.getElem?_append_left hlt] at hi
   obtain ⟨a, b, e1, e2, e3, e4⟩ := h.link i e hi h0
   exact ⟨a, b, e1, e2, by rw [List.getElem?_append_left (by omega)]; exact e3, e4⟩
  ·rw [List.getElem?_append_right (by omega)] at hi
   have hjl := (List.getElem?_eq_some_iff.1 hj).1
   have : i - q.length = 0 := by
    have := (List.getElem?_eq_some_iff.1 hi).1
    simp at this; omega
   rw [this] at hi
   simp at hi
   subst hi
   exact ⟨j, u, rfl, by omega, by rw [List.getElem?_append_left hjl]; exact hj, hs⟩
 ·rw [List.map_append, List.nodup_append]
  refine ⟨h.nodup, by simp, fun a ha b hb => ?_⟩
  simp at hb
  subst hb
  exact fun e => hn (e ▸ ha)
def expand [DecidableEq N] (at_ : Int) : List (Int × N) → List (Ent N) → Option (List (Ent N))
 | [], q => some q
 | (s, n) :: r, q => if n ∈ q.map (·.node) then expand at_ r q else if q.length = 2000 then none else expand at_ r (q ++ [⟨n, at_, s⟩])
def bfs [DecidableEq N] (succ : N → List (Int × N)) (done : N → Bool) : Nat → List (Ent N) → Nat → List Int × Bool × Bool
 | 0, _, _ => ([], false, true)
 | k + 1, q, i => match q[i]? with
  | none => ([], false, true)
  | some e => if done e.node = true then (pathTo q i, true, true) else match expand i (succ e.node) q with
   | none => ([], false, false)
   | some q' => bfs succ done k q' (i + 1)
def search [DecidableEq N] (succ : N → List (Int × N)) (done : N → Bool) (start : N) : List Int × Bool × Bool := bfs succ done 2001 [⟨start, -1, 0⟩] 0
theorem expand_spec [DecidableEq N] {succ : N → List (Int × N)} {start : N} {i : Nat} {u : Ent N} : ∀ (l : List (Int × N)) (q q' : List (Ent N)), Shape succ start q → q[i]? = some u → (∀ x ∈ l, x ∈ succ u.node) → q.length ≤ 2000 → expand i l q = some q' → Shape succ start q' ∧ (∃ r, q' = q ++ r) ∧ (∀ x ∈ l, x.2 ∈ q'.map (·.node)) ∧ q'.length ≤ 2000
 | [], q, q', h, _, _, h2, he => by
  cases he
  exact ⟨h, ⟨[], by simp⟩, by simp, h2⟩
 | (s, n) :: l, q, q', h, hu, hl, h2, he => by
  simp only [expand] at he
  split at he
  ·rename_i hn
   obtain ⟨g1, ⟨r, rfl⟩, g3, g4⟩ := expand_spec l q q' h hu (fun x hx => hl x (List.mem_cons_of_mem _ hx)) h2 he
   refine ⟨g1, ⟨r, rfl⟩, fun x hx => ?_, g4⟩
   rcases List.mem_cons.1 hx with rfl | hx
   ·rw [List.map_append]; exact List.mem_append_left _ hn
   ·exact g3 x hx
  ·rename_i hn
   split at he
   ·cases he
   ·rename_i h2000
    have hil := (List.getElem?_eq_some_iff.1 hu).1
    have h' := h.push hu (hl _ List.mem_cons_self) hn
    obtain ⟨g1, ⟨r, rfl⟩, g3, g4⟩ := expand_spec l _ q' h' (by rw [List.getElem?_append_left hil]; exact hu) (fun x hx => hl x (List.mem_cons_of_mem _ hx)) (by simp; omega) he
    refine ⟨g1, ⟨[⟨n, i, s⟩] ++ r, by simp⟩, fun x hx => ?_, g4⟩
    rcases List.mem_cons.1 hx with rfl | hx
    ·simp
    ·exact g3 x hx
structure Ord (succ : N → List (Int × N)) (start : N) (i : Nat) (o : Int → Prop) (q : List (Ent N)) : Prop where
 shape : Shape succ start q
 inc : ∀ a b, a < b → b < q.length → slt (pathTo q a) (pathTo q b)
 late : ∀ (a : Nat) (e : Ent N), 0 < a → q[a]? = some e → e.from_ ≤ (i : Int) ∧ (e.from_ = (i : Int) → o e.step)
theorem Ord.below {succ : N → List (Int × N)} {start : N} {i : Nat} {o : Int → Prop} {q : List (Ent N)} (h : Ord succ start i o q) (hi : i < q.length) {s : Int} (hs : ∀ x, o x → x < s) {k : Nat} (hk : k < q.length) : slt (pathTo q k) (pathTo q i ++ [s]) := by
 by_cases h0 : 0 < k
 ·obtain ⟨a, u, e1, e2, e3, _⟩ := h.shape.link k q[k] (List.getElem?_eq_getElem hk) h0
  obtain ⟨g1, g2⟩ := h.late k q[k] h0 (List.getElem?_eq_getElem hk)
  rw [path_link h.shape (List.getElem?_eq_getElem hk) e1 e2]
  rw [e1] at g1 g2
  by_cases ha : a < i
  ·exact slt_snoc _ _ (h.inc a i ha hi)
  ·have : a = i := by omega
   subst this
   exact slt_snoc_same _ (hs _ (g2 rfl))
 ·have : k = 0 := by omega
  subst this
  rw [path_zero h.shape]
  exact .inl (by simp)
theorem expand_ord [DecidableEq N] {succ : N → List (Int × N)} {start : N} {i : Nat} {u : Ent N} : ∀ (l : List (Int × N)) (o : Int → Prop) (q q' : List (Ent N)), Ord succ start i o q → q[i]? = some u → (∀ x ∈ l, x ∈ succ u.node) → (l.map (·.1)).Pairwise (· < ·) → (∀ x y, o x → y ∈ l → x < y.1) → q.length ≤ 2000 → expand i l q = some q' →
  Ord succ start i (fun x => o x ∨ x ∈ l.map (·.1)) q' ∧ (∃ r, q' = q ++ r) ∧ (∀ x ∈ l, ∃ (k : Nat) (e : Ent N), q'[k]? = some e ∧ e.node = x.2 ∧ sle (pathTo q' k) (pathTo q' i ++ [x.1]))
 | [], o, q, q', h, _, _, _, _, _, he => by
  cases he
  refine ⟨⟨h.shape, h.inc, fun a e ha hq => ?_⟩, ⟨[], by simp⟩, fun x hx => (by cases hx)⟩
  obtain ⟨g1, g2⟩ := h.late a e ha hq
  exact ⟨g1, fun k => .inl (g2 k)⟩
 | (s, n) :: l, o, q, q', h, hu, hl, hp, ho, h2, he => by
  have hil := (List.getElem?_eq_some_iff.1 hu).1
  have hos : ∀ x, o x → x < s := fun x hx => ho x (s, n) hx List.mem_cons_self
  simp only [List.map_cons, List.pairwise_cons] at hp
  have hw : ∀ {q1 : List (Ent N)}, Ord succ start i o q1 → Ord succ start i (fun x => o x ∨ x = s) q1 := fun h => ⟨h.shape, h.inc, fun a e ha hq => ⟨(h.late a e ha hq).1, fun k => .inl ((h.late a e ha hq).2 k)⟩⟩
  have ho' : ∀ x y, (o x ∨ x = s) → y ∈ l → x < y.1 := fun x y hx hy => by
   rcases hx with hx | rfl
   ·exact ho x y hx (List.mem_cons_of_mem _ hy)
   ·exact hp.1 _ (List.mem_map_of_mem hy)
  have fin : ∀ {q1 : List (Ent N)}, Ord succ start i (fun x => (o x ∨ x = s) ∨ x ∈ l.map (·.1)) q1 → Ord succ start i (fun x => o x ∨ x ∈ ((s, n) :: l).map (·.1)) q1 := fun h => ⟨h.shape, h.inc, fun a e ha hq => ⟨(h.late a e ha hq).1, fun k => by
   rcases (h.late a e ha hq).2 k with (g | g) | g
   ·exact .inl g
   ·exact .inr (by rw [g]; simp)
   ·exact .inr (List.mem_cons_of_mem _ g)⟩⟩
  simp only [expand] at he
  split at he
  ·rename_i hn
   obtain ⟨g1, ⟨r, rfl⟩, g3⟩ := expand_ord l (fun x => o x ∨ x = s) q q' (hw h) hu (fun x hx => hl x (List.mem_cons_of_mem _ hx)) hp.2 ho' h2 he
   refine ⟨fin g1, ⟨r, rfl⟩, fun x hx => ?_⟩
   rcases List.mem_cons.1 hx with rfl | hx
   ·obtain ⟨e, he1, he2⟩ := List.mem_map.1 hn
    obtain ⟨k, hk, rfl⟩ := List.mem_iff_getElem.1 he1
    refine ⟨k, q[k], by rw [List.getElem?_append_left hk]; exact List.getElem?_eq_getElem hk, he2, .inr ?_⟩
    rw [path_app h.shape r hk, path_app h.shape r hil]
    exact h.below hil hos hk
   ·exact g3 x hx
  ·rename_i hn
   split at he
   ·cases he
   ·rename_i h2000
    have h' := h.shape.push hu (hl _ List.mem_cons_self) hn
    have hu' : (q ++ [⟨n, (i : Int), s⟩])[i]? = some u := by rw [List.getElem?_append_left hil]; exact hu
    have hq' : (q ++ [(⟨n, (i : Int), s⟩ : Ent N)])[q.length]? = some ⟨n, (i : Int), s⟩ := by simp
    have hlast : pathTo (q ++ [⟨n, (i : Int), s⟩]) q.length = pathTo q i ++ [s] := by
     rw [path_link h' hq' rfl hil, path_app h.shape _ hil]
    have ord' : Ord succ start i (fun x => o x ∨ x = s) (q ++ [⟨n, (i : Int), s⟩]) := by
     refine ⟨h', fun a b hab hb => ?_, fun a e ha hq => ?_⟩
     ·simp at hb
      rw [path_app h.shape _ (show a < q.length by omega)]
      by_cases hbl : b < q.length
      ·rw [path_app h.shape _ hbl]; exact h.inc a b hab hbl
      ·have : b = q.length := by omega
       subst this
       rw [hlast]
       exact h.below hil hos (by omega)
     ·by_cases hal : a < q.length
      ·rw [List.getElem?_append_left hal] at hq
       exact ⟨(h.late a e ha hq).1, fun k => .inl ((h.late a e ha hq).2 k)⟩
      ·have hal2 := (List.getElem?_eq_some_iff.1 hq).1
       simp at hal2
       have : a = q.length := by omega
       subst this
       rw [hq'] at hq
       cases hq
       exact ⟨Int.le_refl _, fun _ => .inr rfl⟩
    obtain ⟨g1, ⟨r, rfl⟩, g3⟩ := expand_ord l (fun x => o x ∨ x = s) _ q' ord' hu' (fun x hx => hl x (List.mem_cons_of_mem _ hx)) hp.2 ho' (by simp; omega) he
    refine ⟨fin g1, ⟨[⟨n, (i : Int), s⟩] ++ r, by simp⟩, fun x hx => ?_⟩
    rcases List.mem_cons.1 hx with rfl | hx
    ·refine ⟨q.length, ⟨n, (i : Int), s⟩, by rw [List.getElem?_append_left (by simp)]; exact hq', rfl, .inl ?_⟩
     rw [path_app h' r (by simp), hlast, path_app h' r (by simp; omega), path_app h.shape _ hil]
    ·exact g3 x hx
def Comp (succ : N → List (Int × N)) (q : List (Ent N)) (i : Nat) : Prop := ∀ (j : Nat) (u : Ent N), j < i → q[j]? = some u → ∀ x ∈ succ u.node, ∃ (k : Nat) (e : Ent N), q[k]? = some e ∧ e.node = x.2 ∧ sle (pathTo q k) (pathTo q j ++ [x.1])
structure BInv (succ : N → List (Int × N)) (start : N) (q : List (Ent N)) (i : Nat) : Prop where
 ord : Ord succ start i (fun _ => False) q
 comp : Comp succ q i
 len : q.length ≤ 2000
 le : i ≤ q.length
theorem BInv.start (succ : N → List (Int × N)) (start : N) : BInv succ start [⟨start, -1, 0⟩] 0 :=
 ⟨⟨Shape.start succ start, fun a b hab hb => by simp at hb; omega, fun a e ha hq => by cases a with
  | zero => omega
  | succ a => simp at hq⟩, fun j u hj => by omega, by simp, by simp⟩
theorem BInv.next [DecidableEq N] {succ : N → List (Int × N)} (hs : ∀ n, ((succ n).map (·.1)).Pairwise (· < ·)) {start : N} {q q' : List (Ent N)} {i : Nat} {u : Ent N} (h : BInv succ start q i) (hu : q[i]? = some u) (he : expand i (succ u.node) q = some q') : BInv succ start q' (i + 1) ∧ ∃ r, q' = q ++ r := by
 have hil := (List.getElem?_eq_some_iff.1 hu).1
 obtain ⟨g1, ⟨r, rfl⟩, g3⟩ := expand_ord (succ u.node) (fun _ => False) q q' h.ord hu (fun x hx => hx) (hs _) (fun _ _ k => k.elim) h.len he
 obtain ⟨k1, _, _, k4⟩ := expand_spec (succ u.node) q _ h.ord.shape hu (fun x hx => hx) h.len he
 refine ⟨⟨⟨k1, g1.inc, fun a e ha hq => ?_⟩, fun j v hj hv x hx => ?_, k4, by simp; omega⟩, r, rfl⟩
 ·have := (g1.late a e ha hq).1
  exact ⟨by omega, fun k => by omega⟩
 ·by_cases hji : j < i
  ·rw [List.getElem?_append_left (by omega)] at hv
   obtain ⟨k, e, e1, e2, e3⟩ := h.comp j v hji hv x hx
   have hkl := (List.getElem?_eq_some_iff.1 e1).1
   refine ⟨k, e, by rw [List.getElem?_append_left hkl]; exact e1, e2, ?_⟩
   rw [path_app h.ord.shape r hkl, path_app h.ord.shape r (by omega)]
   exact e3
  ·have : j = i := by omega
   subst this
   rw [List.getElem?_append_left hil, hu] at hv
   cases hv
   exact g3 x hx
theorem BInv.reach {succ : N → List (Int × N)} {start : N} {q : List (Ent N)} {i : Nat} (h : BInv succ start q i) : ∀ (m : Nat) (p : List Int) (v : N), p.length = m → Way succ start p v →
  (∃ (k : Nat) (e : Ent N), q[k]? = some e ∧ e.node = v ∧ sle (pathTo q k) p) ∨ (∃ k, i ≤ k ∧ k < q.length ∧ sle (pathTo q k) p)
 | 0, p, v, hm, hw => by
  have : p = [] := List.length_eq_zero_iff.1 hm
  subst this
  refine .inl ⟨0, _, h.ord.shape.head, hw, ?_⟩
  rw [path_zero h.ord.shape]
  exact sle_refl _
 | m + 1, p, v, hm, hw => by
  have hp : p = p.dropLast ++ [p.getLast (by intro e; rw [e] at hm; simp at hm)] := (List.dropLast_concat_getLast _).symm
  generalize p.dropLast = p0 at hp
  generalize p.getLast _ = o at hp
  subst hp
  obtain ⟨v0, w1, w2⟩ := hw.unsnoc
  rcases h.reach m p0 v0 (by simpa using hm) w1 with ⟨k, e, e1, e2, e3⟩ | ⟨k, k1, k2, k3⟩
  ·by_cases hk : k < i
   ·obtain ⟨k', e', f1, f2, f3⟩ := h.comp k e hk e1 (o, v) (e2 ▸ w2)
    exact .inl ⟨k', e', f1, f2, sle_trans f3 (sle_snoc o e3)⟩
   ·exact .inr ⟨k, by omega, (List.getElem?_eq_some_iff.1 e1).1, sle_trans e3 (sle_app _ _)⟩
  ·exact .inr ⟨k, k1, k2, sle_trans k3 (sle_app _ _)⟩
def Least (succ : N → List (Int × N)) (done : N → Bool) (start : N) (p : List Int) : Prop := (∃ v, Way succ start p v ∧ done v = true) ∧ ∀ p' v', Way succ start p' v' → done v' = true → sle p p'
theorem bfs_found [DecidableEq N] {succ : N → List (Int × N)} (hs : ∀ n, ((succ n).map (·.1)).Pairwise (· < ·)) {done : N → Bool} {start : N} : ∀ (k : Nat) (q : List (Ent N)) (i : Nat) (p : List Int) (b : Bool), BInv succ start q i → (∀ (j : Nat) (e : Ent N), j < i → q[j]? = some e → done e.node = false) → bfs succ done k q i = (p, true, b) → b = true ∧ Least succ done start p
 | 0, q, i, p, b, _, _, he => by simp [bfs] at he
 | k + 1, q, i, p, b, h, hd, he => by
  rw [bfs] at he
  split at he
  ·simp at he
  ·rename_i e hu
   have hil := (List.getElem?_eq_some_iff.1 hu).1
   split at he
   ·rename_i hdone
    simp only [Prod.mk.injEq, true_and] at he
    obtain ⟨rfl, rfl⟩ := he
    refine ⟨rfl, ⟨_, path_way h.ord.shape i e hu, hdone⟩, fun p' v' w' d' => ?_⟩
    have up : ∀ j, i ≤ j → j < q.length → sle (pathTo q i) (pathTo q j) := fun j h1 h2 => by
     rcases Nat.lt_or_ge i j with g | g
     ·exact .inr (h.ord.inc i j g h2)
     ·rw [show j = i by omega]; exact sle_refl _
    rcases h.reach _ p' v' rfl w' with ⟨j, e', f1, f2, f3⟩ | ⟨j, j1, j2, j3⟩
    ·refine sle_trans (up j (Nat.le_of_not_lt fun g => ?_) (List.getElem?_eq_some_iff.1 f1).1) f3
     have := hd j e' g f1
     rw [f2, d'] at this
     cases this
    ·exact sle_trans (up j j1 j2) j3
   ·rename_i hdone
    split at he
    ·simp at he
    ·rename_i q' hx
     obtain ⟨g1, r, rfl⟩ := h.next hs hu hx
     refine bfs_found hs k _ (i + 1) p b g1 (fun j e' hj hq => ?_) he
     by_cases hji : j < i
     ·rw [List.getElem?_append_left (by omega)] at hq
      exact hd j e' hji hq
     ·have : j = i := by omega
      subst this
      rw [List.getElem?_append_left hil, hu] at hq
      cases hq
      simpa using hdone
theorem bfs_none [DecidableEq N] {succ : N → List (Int × N)} (hs : ∀ n, ((succ n).map (·.1)).Pairwise (· < ·)) {done : N → Bool} {start : N} : ∀ (k : Nat) (q : List (Ent N)) (i : Nat) (p : List Int), BInv succ start q i → (∀ (j : Nat) (e : Ent N), j < i → q[j]? = some e → done e.node = false) → 2001 ≤ k + i → bfs succ done k q i = (p, false, true) → p = [] ∧ ∀ p' v', Way succ start p' v' → done v' = false
 | 0, q, i, p, h, _, hk, _ => by
  have h1 := h.len
  have h2 := h.le
  omega
 | k + 1, q, i, p, h, hd, hk, he => by
  rw [bfs] at he
  split at he
  ·rename_i hu
   have hl : q.length ≤ i := by simpa using hu
   simp at he
   refine ⟨he, fun p' v' w' => ?_⟩
   rcases h.reach _ p' v' rfl w' with ⟨j, e', f1, f2, _⟩ | ⟨j, j1, j2, _⟩
   ·have := (List.getElem?_eq_some_iff.1 f1).1
    rw [← f2]
    exact hd j e' (by omega) f1
   ·omega
  ·rename_i e hu
   have hil := (List.getElem?_eq_some_iff.1 hu).1
   split at he
   ·simp at he
   ·rename_i hdone
    split at he
    ·simp at he
    ·rename_i q' hx
     obtain ⟨g1, r, rfl⟩ := h.next hs hu hx
     refine bfs_none hs k _ (i + 1) p g1 (fun j e' hj hq => ?_) (by omega) he
     by_cases hji : j < i
     ·rw [List.getElem?_append_left (by omega)] at hq
      exact hd j e' hji hq
     ·have : j = i := by omega
      subst this
      rw [List.getElem?_append_left hil, hu] at hq
      cases hq
      simpa using hdone
theorem bfs_small [DecidableEq N] {succ : N → List (Int × N)} {done : N → Bool} : ∀ (k : Nat) (q : List (Ent N)) (i : Nat), (bfs succ (fun _ => false) k q i).2.2 = true → (bfs succ done k q i).2.2 = true
 | 0, _, _, _ => rfl
 | k + 1, q, i, h => by
  rw [bfs] at h ⊢
  split
  ·rfl
  ·rename_i e hu
   simp only [hu, Bool.false_eq_true, if_false] at h
   split
   ·rfl
   ·split
    ·rename_i hx
     simp [hx] at h
    ·rename_i q' hx
     simp only [hx] at h
     exact bfs_small k _ _ h
theorem nodup_sub_len {α : Type} [DecidableEq α] : ∀ (l m : List α), l.Nodup → (∀ x ∈ l, x ∈ m) → l.length ≤ m.length
 | [], _, _, _ => Nat.zero_le _
 | a :: l, m, hn, hs => by
  obtain ⟨h1, h2⟩ := List.nodup_cons.1 hn
  have ha := hs a List.mem_cons_self
  have := nodup_sub_len l (m.erase a) h2 fun x hx => (List.mem_erase_of_ne (fun e : x = a => h1 (e ▸ hx))).2 (hs x (List.mem_cons_of_mem _ hx))
  rw [List.length_erase_of_mem ha] at this
  have := List.length_pos_of_mem ha
  simp; omega
theorem expand_fits [DecidableEq N] {all : List N} (hall : all.length ≤ 2000) {i : Int} : ∀ (l : List (Int × N)) (q : List (Ent N)), (q.map (·.node)).Nodup → (∀ e ∈ q, e.node ∈ all) → (∀ x ∈ l, x.2 ∈ all) → ∃ q', expand i l q = some q' ∧ (q'.map (·.node)).Nodup ∧ ∀ e ∈ q', e.node ∈ all
 | [], q, h1, h2, _ => ⟨q, rfl, h1, h2⟩
 | (s, n) :: l, q, h1, h2, h3 => by
  simp only [expand]
  by_cases hn : n ∈ q.map (·.node)
  ·rw [if_pos hn]
   exact expand_fits hall l q h1 h2 fun x hx => h3 x (List.mem_cons_of_mem _ hx)
  ·rw [if_neg hn]
   have h1' : ((q ++ [(⟨n, i, s⟩ : Ent N)]).map (·.node)).Nodup := by
    rw [List.map_append, List.nodup_append]
    refine ⟨h1, by simp, fun a ha b hb => ?_⟩
    simp at hb
    subst hb
    exact fun e => hn (e ▸ ha)
   have h2' : ∀ e ∈ q ++ [(⟨n, i, s⟩ : Ent N)], e.node ∈ all := fun e he => by
    rcases List.mem_append.1 he with he | he
    ·exact h2 e he
    ·rw [List.mem_singleton.1 he]; exact h3 (s, n) List.mem_cons_self
   have hl := nodup_sub_len _ all h1' (fun x hx => by
    obtain ⟨e, he, rfl⟩ := List.mem_map.1 hx
    exact h2' e he)
   rw [if_neg (by simp at hl; omega)]
   exact expand_fits hall l _ h1' h2' fun x hx => h3 x (List.mem_cons_of_mem _ hx)
theorem bfs_fits [DecidableEq N] {succ : N → List (Int × N)} {done : N → Bool} {all : List N} (hall : all.length ≤ 2000) (hc : ∀ n ∈ all, ∀ x ∈ succ n, x.2 ∈ all) : ∀ (k : Nat) (q : List (Ent N)) (i : Nat), (q.map (·.node)).Nodup → (∀ e ∈ q, e.node ∈ all) → (bfs succ done k q i).2.2 = true
 | 0, _, _, _, _ => rfl
 | k + 1, q, i, h1, h2 => by
  rw [bfs]
  split
  ·rfl
  ·rename_i e hu
   split
   ·rfl
   ·obtain ⟨q', e1, e2, e3⟩ := expand_fits hall (i := (i : Int)) (succ e.node) q h1 h2 (hc _ (h2 e (List.mem_of_getElem? hu)))
    simp only [e1]
    exact bfs_fits hall hc k q' (i + 1) e2 e3
theorem search_found [DecidableEq N] {succ : N → List (Int × N)} (hs : ∀ n, ((succ n).map (·.1)).Pairwise (· < ·)) {done : N → Bool} {start : N} {p : List Int} {b : Bool} (h : search succ done start = (p, true, b)) : b = true ∧ Least succ done start p :=
 bfs_found hs 2001 _ 0 p b (BInv.start succ start) (fun j e hj => by omega) h
theorem search_none [DecidableEq N] {succ : N → List (Int × N)} (hs : ∀ n, ((succ n).map (·.1)).Pairwise (· < ·)) {done : N → Bool} {start : N} {p : List Int} (h : search succ done start = (p, false, true)) : p = [] ∧ ∀ p' v', Way succ start p' v' → done v' = false :=
 bfs_none hs 2001 _ 0 p (BInv.start succ start) (fun j e hj => by omega) (by omega) h
theorem search_small [DecidableEq N] {succ : N → List (Int × N)} {done : N → Bool} {start : N} (h : (search succ (fun _ => false) start).2.2 = true) : (search succ done start).2.2 = true := bfs_small _ _ _ h
theorem search_fits [DecidableEq N] {succ : N → List (Int × N)} {done : N → Bool} {start : N} {all : List N} (hall : all.length ≤ 2000) (h0 : start ∈ all) (hc : ∀ n ∈ all, ∀ x ∈ succ n, x.2 ∈ all) : (search succ done start).2.2 = true :=
 bfs_fits hall hc _ _ _ (by simp) (by simpa using h0)
theorem Least.unique {succ : N → List (Int × N)} {done : N → Bool} {start : N} {p p' : List Int} (h : Least succ done start p) (h' : Least succ done start p') : p = p' := by
 obtain ⟨⟨v, w, d⟩, m⟩ := h
 obtain ⟨⟨v', w', d'⟩, m'⟩ := h'
 exact sle_antisymm (m _ _ w' d') (m' _ _ w d)
end
abbrev Entry := Ent (List (List Int))
end Go.Proofs.YtimillpakjgnoaaGreatDoor.Pl

namespace Go.Proofs.YtimillpakjgnoaaGreatDoor.Pl
open Go Go.RowKit
structure Operator where
 pre : List Int
 add : List Int
 del : List Int
 cost : Int
 deriving DecidableEq, Inhabited
instance : Rep Operator := ⟨4, fun h x cs => ∃ (a0 : Option Addr) (c0 : Nat) (a1 : Option Addr) (c1 : Nat) (a2 : Option Addr) (c2 : Nat), cs = [.slice a0 x.pre.length c0, .slice a1 x.add.length c1, .slice a2 x.del.length c2, .int .i64 x.cost] ∧ (x.pre.length ≤ c0 ∧ RSl h a0 x.pre) ∧ (x.add.length ≤ c1 ∧ RSl h a1 x.add) ∧ (x.del.length ≤ c2 ∧ RSl h a2 x.del),
 fun ⟨_, _, _, _, _, _, e, _⟩ => by rw [e]; rfl,
 fun hl ⟨a0, c0, a1, c1, a2, c2, e, ⟨l0, r0⟩, ⟨l1, r1⟩, l2, r2⟩ => ⟨a0, c0, a1, c1, a2, c2, e, ⟨l0, r0.mono hl⟩, ⟨l1, r1.mono hl⟩, l2, r2.mono hl⟩,
 fun ⟨_, _, _, _, _, _, e, _⟩ v hv => by
  rw [e] at hv
  simp only [List.mem_cons, List.not_mem_nil, or_false] at hv
  rcases hv with rfl | rfl | rfl | rfl <;> rfl⟩
structure Task where
 facts : Int
 init : List Int
 goal : List Int
 ops : List Operator
 deriving DecidableEq, Inhabited
instance : Rep Task := ⟨4, fun h x cs => ∃ (a0 : Option Addr) (c0 : Nat) (a1 : Option Addr) (c1 : Nat) (a2 : Option Addr) (c2 : Nat), cs = [.int .i64 x.facts, .slice a0 x.init.length c0, .slice a1 x.goal.length c1, .slice a2 x.ops.length c2] ∧ (x.init.length ≤ c0 ∧ RSl h a0 x.init) ∧ (x.goal.length ≤ c1 ∧ RSl h a1 x.goal) ∧ (x.ops.length ≤ c2 ∧ RSl h a2 x.ops),
 fun ⟨_, _, _, _, _, _, e, _⟩ => by rw [e]; rfl,
 fun hl ⟨a0, c0, a1, c1, a2, c2, e, ⟨l0, r0⟩, ⟨l1, r1⟩, l2, r2⟩ => ⟨a0, c0, a1, c1, a2, c2, e, ⟨l0, r0.mono hl⟩, ⟨l1, r1.mono hl⟩, l2, r2.mono hl⟩,
 fun ⟨_, _, _, _, _, _, e, _⟩ v hv => by
  rw [e] at hv
  simp only [List.mem_cons, List.not_mem_nil, or_false] at hv
  rcases hv with rfl | rfl | rfl | rfl <;> rfl⟩
structure Fault where
 code : Int
 index : Int
 deriving DecidableEq, Inhabited
instance : Flat Fault := ⟨2, fun x => [.int .i64 x.code, .int .i64 x.index], fun _ => rfl, fun x v hv => by
 simp only [List.mem_cons, List.not_mem_nil, or_false] at hv; rcases hv with rfl | rfl <;> rfl⟩
instance : Rep Entry := ⟨3, fun h x cs => ∃ (a0 : Option Addr) (c0 : Nat), cs = [.slice a0 x.node.length c0, .int .i64 x.from_, .int .i64 x.step] ∧ (x.node.length ≤ c0 ∧ RSl h a0 x.node),
 fun ⟨_, _, e, _⟩ => by rw [e]; rfl,
 fun hl ⟨a0, c0, e, l0, r0⟩ => ⟨a0, c0, e, l0, r0.mono hl⟩,
 fun ⟨_, _, e, _⟩ v hv => by
  rw [e] at hv
  simp only [List.mem_cons, List.not_mem_nil, or_false] at hv
  rcases hv with rfl | rfl | rfl <;> rfl⟩
structure Need where
 facts : List Int
 never : Bool
 deriving DecidableEq, Inhabited
instance : Rep Need := ⟨2, fun h x cs => ∃ (a0 : Option Addr) (c0 : Nat), cs = [.slice a0 x.facts.length c0, .bool x.never] ∧ (x.facts.length ≤ c0 ∧ RSl h a0 x.facts),
 fun ⟨_, _, e, _⟩ => by rw [e]; rfl,
 fun hl ⟨a0, c0, e, l0, r0⟩ => ⟨a0, c0, e, l0, r0.mono hl⟩,
 fun ⟨_, _, e, _⟩ v hv => by
  rw [e] at hv
  simp only [List.mem_cons, List.not_mem_nil, or_false] at hv
  rcases hv with rfl | rfl <;> rfl⟩
structure Masks where
 pre : Int
 add : Int
 del : Int
 cost : Int
 deriving DecidableEq, Inhabited
instance : Flat Masks := ⟨4, fun x => [.int .u32 x.pre, .int .u32 x.add, .int .u32 x.del, .int .i64 x.cost], fun _ => rfl, fun x v hv => by
 simp only [List.mem_cons, List.not_mem_nil, or_false] at hv; rcases hv with rfl | rfl | rfl | rfl <;> rfl⟩
structure WordsT where
 start : Int
 goal : Int
 ops : List Masks
 deriving DecidableEq, Inhabited
instance : Rep WordsT := ⟨3, fun h x cs => ∃ (a0 : Option Addr) (c0 : Nat), cs = [.int .u32 x.start, .int .u32 x.goal, .slice a0 x.ops.length c0] ∧ (x.ops.length ≤ c0 ∧ RSl h a0 x.ops),
 fun ⟨_, _, e, _⟩ => by rw [e]; rfl,
 fun hl ⟨a0, c0, e, l0, r0⟩ => ⟨a0, c0, e, l0, r0.mono hl⟩,
 fun ⟨_, _, e, _⟩ v hv => by
  rw [e] at hv
  simp only [List.mem_cons, List.not_mem_nil, or_false] at hv
  rcases hv with rfl | rfl | rfl <;> rfl⟩
structure Back where
 from_ : Int
 op : Int
 deriving DecidableEq, Inhabited
instance : Flat Back := ⟨2, fun x => [.int .u32 x.from_, .int .i64 x.op], fun _ => rfl, fun x v hv => by
 simp only [List.mem_cons, List.not_mem_nil, or_false] at hv; rcases hv with rfl | rfl <;> rfl⟩
structure StepT where
 op : Int
 cost : Int
 to_ : Int
 deriving DecidableEq, Inhabited
instance : Flat StepT := ⟨3, fun x => [.int .i64 x.op, .int .i64 x.cost, .int .u32 x.to_], fun _ => rfl, fun x v hv => by
 simp only [List.mem_cons, List.not_mem_nil, or_false] at hv; rcases hv with rfl | rfl | rfl <;> rfl⟩
end Go.Proofs.YtimillpakjgnoaaGreatDoor.Pl

namespace Go.Proofs.YtimillpakjgnoaaGreatDoor.Pl
open Go Go.RowKit
theorem w64 {n : Int} (h : -9223372036854775808 ≤ n ∧ n ≤ 9223372036854775807) : IntKind.i64.wrap n = n := by rw [IntKind.wrap_i64]; omega
theorem gt_of {α : Type} [Inhabited α] {xs : List α} {i : Int} (h : inb xs i) : gt xs i = xs[i.toNat]'(inb_lt h) := by
 have := inb_lt h
 simp [gt, this]
theorem drop_gt {α : Type} [Inhabited α] {xs : List α} {i : Int} (h : inb xs i) : xs.drop i.toNat = gt xs i :: xs.drop (i + 1).toNat := by
 have h1 := inb_lt h
 have h2 : (i + 1).toNat = i.toNat + 1 := by have := h.1; omega
 rw [gt_of h, h2, List.drop_eq_getElem_cons h1]
theorem gt_mem {α : Type} [Inhabited α] {xs : List α} {i : Int} (h : inb xs i) : gt xs i ∈ xs := by rw [gt_of h]; exact List.getElem_mem _
theorem take_gt {α : Type} [Inhabited α] {xs : List α} {i : Int} (h : inb xs i) : xs.take (i + 1).toNat = xs.take i.toNat ++ [gt xs i] := by
 have h1 := inb_lt h
 have h2 : (i + 1).toNat = i.toNat + 1 := by have := h.1; omega
 rw [gt_of h, h2, List.take_succ_eq_append_getElem h1]
theorem gt_memN {α : Type} [Inhabited α] {xs : List α} {i : Nat} (h : i < xs.length) : gt xs (i : Int) ∈ xs := gt_mem ⟨by omega, by omega⟩
theorem mem_gt {α : Type} [Inhabited α] {xs : List α} {x : α} (h : x ∈ xs) : ∃ i : Nat, i < xs.length ∧ gt xs (i : Int) = x := by
 obtain ⟨i, hi, e⟩ := List.mem_iff_getElem.1 h
 exact ⟨i, hi, by rw [gt_of ⟨by omega, by omega⟩]; simpa using e⟩
theorem takeN_gt {α : Type} [Inhabited α] {xs : List α} {k : Nat} (h : k < xs.length) : xs.take (k + 1) = xs.take k ++ [gt xs k] := by
 have := take_gt (xs := xs) (i := (k : Int)) ⟨by omega, by omega⟩
 simpa using this
theorem gt_set {α : Type} [Inhabited α] {xs : List α} {i : Int} {x : α} (h : inb xs i) : gt (xs.set i.toNat x) i = x := by
 have := inb_lt h
 simp [gt, this]
theorem gt_setI {α : Type} [Inhabited α] {xs : List α} {i j : Int} {x : α} (hi : inb xs i) (hj : 0 ≤ j) : gt (xs.set i.toNat x) j = if j = i then x else gt xs j := by
 by_cases e : j = i
 ·subst e; rw [if_pos rfl, gt_set hi]
 ·rw [if_neg e]
  have h1 := hi.1
  unfold gt
  rw [List.getD_eq_getElem?_getD, List.getD_eq_getElem?_getD, List.getElem?_set_ne (by omega)]
theorem ext_gt {a b : List Int} (hl : a.length = b.length) (h : ∀ i : Nat, i < a.length → gt a (i : Int) = gt b (i : Int)) : a = b := by
 refine List.ext_getElem hl fun i h1 h2 => ?_
 have := h i h1
 rw [gt_of ⟨by omega, by omega⟩, gt_of ⟨by omega, by omega⟩] at this
 simpa using this
theorem any_split {α : Type} [Inhabited α] {xs : List α} {p : α → Bool} {t : Int} (h0 : 0 ≤ t) (hp : ∀ x ∈ xs.take t.toNat, p x = false) : (t < xs.length → p (gt xs t) = true → (if xs.any p then (xs.findIdx p : Int) else -1) = t) ∧ (¬ t < xs.length → (if xs.any p then (xs.findIdx p : Int) else -1) = -1) := by
 refine ⟨fun h hq => ?_, fun h => ?_⟩
 ·have hi : inb xs t := ⟨h0, h⟩
  have ha : xs.any p = true := List.any_eq_true.2 ⟨_, gt_mem hi, hq⟩
  rw [if_pos ha]
  have : xs.findIdx p = t.toNat := by
   rw [List.findIdx_eq (inb_lt hi)]
   refine ⟨by rw [← gt_of hi]; exact hq, fun j hj => ?_⟩
   have hjl : j < xs.length := by have := inb_lt hi; omega
   exact hp _ (List.mem_take_iff_getElem.2 ⟨j, by omega, rfl⟩)
  omega
 ·have : xs.any p = false := by
   rw [List.take_of_length_le (by omega)] at hp
   simpa using hp
  simp [this]
theorem any_next {α : Type} [Inhabited α] {xs : List α} {p : α → Bool} {t : Int} (h0 : 0 ≤ t) (hp : ∀ x ∈ xs.take t.toNat, p x = false) (h : t < xs.length) (hq : p (gt xs t) = false) : ∀ x ∈ xs.take (t + 1).toNat, p x = false := fun x hx => by
 rw [take_gt ⟨h0, h⟩] at hx
 rcases List.mem_append.1 hx with hx | hx
 ·exact hp x hx
 ·rw [List.mem_singleton.1 hx]; exact hq
def ffirst (f : Nat → Fault) (n : Nat) : Fault := match (List.range n).find? (fun i => decide (f i ≠ ⟨0, 0⟩)) with
 | some i => f i
 | none => ⟨0, 0⟩
theorem ffirst_hit {f : Nat → Fault} {n i : Nat} (hi : i < n) (hz : ∀ j, j < i → f j = ⟨0, 0⟩) (hf : f i ≠ ⟨0, 0⟩) : ffirst f n = f i := by
 unfold ffirst
 have : (List.range n).find? (fun i => decide (f i ≠ ⟨0, 0⟩)) = some i := by
  rw [List.find?_range_eq_some]
  exact ⟨by simpa using hf, List.mem_range.2 hi, fun j hj => by simpa using hz j hj⟩
 rw [this]
theorem ffirst_none {f : Nat → Fault} {n : Nat} (hz : ∀ j, j < n → f j = ⟨0, 0⟩) : ffirst f n = ⟨0, 0⟩ := by
 unfold ffirst
 have : (List.range n).find? (fun i => decide (f i ≠ ⟨0, 0⟩)) = none := by
  rw [List.find?_eq_none]
  intro x hx
  simpa using hz x (List.mem_range.1 hx)
 rw [this]
theorem ffirst_zero {f : Nat → Fault} {n : Nat} (h : ffirst f n = ⟨0, 0⟩) : ∀ j, j < n → f j = ⟨0, 0⟩ := by
 intro j
 induction j using Nat.strongRecOn with
 | _ j ih =>
  intro hj
  refine Classical.byContradiction fun hf => ?_
  have := ffirst_hit hj (fun k hk => ih k hk (by omega)) hf
  rw [h] at this
  exact hf this.symm
theorem zero_next {f : Nat → Fault} {k : Nat} (h : ∀ j, j < k → f j = ⟨0, 0⟩) (hk : f k = ⟨0, 0⟩) : ∀ j, j < k + 1 → f j = ⟨0, 0⟩ := fun j hj => by
 rcases Nat.lt_succ_iff_lt_or_eq.1 hj with q | rfl
 ·exact h j q
 ·exact hk
theorem fault_mk {c i : Int} (h : c ≠ 0) : (⟨c, i⟩ : Fault) ≠ ⟨0, 0⟩ := fun e => h (congrArg Fault.code e)
theorem fault_ne {f : Fault} : (!((f.code == 0) && (f.index == 0))) = true ↔ f ≠ ⟨0, 0⟩ := by
 obtain ⟨c, i⟩ := f
 simp only [Bool.not_eq_true', Bool.and_eq_false_iff, beq_eq_false_iff_ne, ne_eq, Fault.mk.injEq]
 omega
theorem fault_eq {f : Fault} : (!((f.code == 0) && (f.index == 0))) = false ↔ f = ⟨0, 0⟩ := by
 obtain ⟨c, i⟩ := f
 simp
end Go.Proofs.YtimillpakjgnoaaGreatDoor.Pl

namespace Go.Proofs.YtimillpakjgnoaaGreatDoor.Pl
open Go Go.RowKit
def sp_isNaN1 (_ : Int) : Bool := false
def sp_less (x y : Int) : Bool := decide (x < y)
def sp_bsearch (x : List Int) (t : Int) : Int × Bool := ((x.filter (fun a => decide (a < t))).length, decide (t ∈ x))
def pre_bsearch (x : List Int) (_ : Int) : Prop := x.Pairwise (· < ·) ∧ x.length ≤ 1000
def sp_any {α : Type} (xs : List α) (p : α → Bool) (_ : α → Prop) : Bool := xs.any p
def pre_any {α : Type} (xs : List α) (_ : α → Bool) (D : α → Prop) : Prop := xs.length ≤ 1000 ∧ ∀ x ∈ xs, D x
def sp_indexF {α : Type} (xs : List α) (p : α → Bool) (_ : α → Prop) : Int := if xs.any p then xs.findIdx p else -1
def sp_isSet (l : List Int) (n : Int) : Bool := decide (l.Pairwise (· < ·) ∧ ∀ x ∈ l, 0 ≤ x ∧ x < n)
def pre_isSet (_ : List Int) (n : Int) : Prop := 0 ≤ n ∧ n ≤ 1000
def sp_meets1 (x : Int) (b : List Int) : Bool := decide (x ∈ b)
def pre_meets1 (_ : Int) (b : List Int) : Prop := b.Pairwise (· < ·) ∧ b.length ≤ 1000
def sp_meets (a b : List Int) : Bool := a.any fun x => decide (x ∈ b)
def pre_meets (a b : List Int) : Prop := a.length ≤ 1000 ∧ b.Pairwise (· < ·) ∧ b.length ≤ 1000
def sp_operator (o : Operator) (n : Int) : Int :=
 if sp_isSet o.pre n = true ∧ sp_isSet o.add n = true ∧ sp_isSet o.del n = true ∧ sp_meets o.add o.del = false then
  if 0 ≤ o.cost ∧ o.cost ≤ 100 then 0 else 3
 else 5
def pre_operator (_ : Operator) (n : Int) : Prop := 0 ≤ n ∧ n ≤ 1000
def opFault (t : Task) (i : Nat) : Fault := if sp_operator (gt t.ops i) t.facts = 0 then ⟨0, 0⟩ else ⟨sp_operator (gt t.ops i) t.facts, i⟩
def sp_validate (t : Task) : Fault :=
 if t.facts < 0 ∨ 24 < t.facts then ⟨3, -1⟩
 else if sp_isSet t.init t.facts = false then ⟨5, -2⟩
 else if sp_isSet t.goal t.facts = false then ⟨5, -3⟩
 else if 40 < t.ops.length then ⟨2, -1⟩
 else ffirst (opFault t) t.ops.length
def allS (n : Nat) : List Int := (List.range n).map fun j : Nat => (j : Int)
def sp_subset (a b : List Int) : Bool := a.all fun x => decide (x ∈ b)
def sp_after (t : Task) (s : List Int) (op : Int) : List Int := (allS t.facts.toNat).filter fun p => decide (p ∈ (gt t.ops op).add ∨ (p ∈ s ∧ p ∉ (gt t.ops op).del))
def sp_sort (xs : List Int) : List Int := xs.mergeSort fun x y => decide (x ≤ y)
def pre_sort (xs : List Int) : Prop := xs.length ≤ 100000
def sp_compact (xs : List Int) : List Int := Lib.compact xs
def pre_compact (xs : List Int) : Prop := xs.length ≤ 100000
def sp_clone (s : List Int) : List Int := s
def pre_clone (s : List Int) : Prop := s.length ≤ 1000
def sp_update (s add del : List Int) : List Int := sp_compact (sp_sort (s.filter (fun x => decide (x ∉ del)) ++ add))
def pre_update (s add del : List Int) : Prop := s.length ≤ 1000 ∧ add.length ≤ 1000 ∧ pre_bsearch del 0
def sp_contains2 (s part : List Int) : Bool := sp_subset part s
def pre_contains2 (s part : List Int) : Prop := s.length ≤ 1000 ∧ part.length ≤ 1000 ∧ s.Pairwise (· < ·) ∧ part.Pairwise (· < ·)
def pre_next (t : Task) (s : List Int) (op : Int) : Prop := sp_validate t = ⟨0, 0⟩ ∧ inb t.ops op ∧ sp_isSet s t.facts = true
end Go.Proofs.YtimillpakjgnoaaGreatDoor.Pl

namespace Go.Proofs.YtimillpakjgnoaaGreatDoor.Pl
open Go Go.RowKit
def rowL (s : List Int) : List UInt8 := s.flatMap fun x => Lib.itoa x ++ [44]
def keyL (l : List (List Int)) : List UInt8 := l.flatMap fun s => rowL s ++ [59]
def sp_key (l : List (List Int)) : List UInt8 := keyL l
def pre_key (l : List (List Int)) : Prop := l.length ≤ 1000 ∧ ∀ s ∈ l, s.length ≤ 1000 ∧ ∀ x ∈ s, -9223372036854775808 ≤ x ∧ x ≤ 9223372036854775807
def sp_reverse (s : List Int) : List Int := s.reverse
def pre_reverse (s : List Int) : Prop := s.length ≤ 100000
theorem sp_reverse_len (s : List Int) : (sp_reverse s).length = s.length := List.length_reverse
def sp_compare (x y : Int) : Int := if x < y then -1 else if y < x then 1 else 0
def sp_scompare : List Int → List Int → Int
 | [], [] => 0
 | [], _ :: _ => -1
 | _ :: _, [] => 1
 | x :: r, y :: q => if x < y then -1 else if y < x then 1 else sp_scompare r q
def pre_scompare (a b : List Int) : Prop := a.length ≤ 1000 ∧ b.length ≤ 1000
def sp_sequal (a b : List Int) : Bool := decide (a = b)
def pre_sequal (a b : List Int) : Prop := a.length ≤ 1000 ∧ b.length ≤ 1000
def sp_unknownFault (t : Task) (unknown : List Int) : Fault :=
 if sp_validate t = ⟨0, 0⟩ then if 4 < unknown.length then ⟨2, -8⟩ else if sp_isSet unknown t.facts = true then ⟨0, 0⟩ else ⟨5, -8⟩ else sp_validate t
def sp_sure1 (s x : List Int) : Bool := !sp_contains2 s x
def pre_sure1 (s x : List Int) : Prop := pre_contains2 s x
def sp_sure (worlds : List (List Int)) (facts : List Int) : Bool := !(worlds.any fun s => sp_sure1 s facts)
def pre_sure (worlds : List (List Int)) (facts : List Int) : Prop := worlds.length ≤ 1000 ∧ ∀ s ∈ worlds, pre_sure1 s facts
abbrev Bel := List (List Int)
def sp_before : List Int → List Int → Bool
 | [], [] => false
 | [], _ :: _ => true
 | _ :: _, [] => false
 | x :: r, y :: q => if x = y then sp_before r q else decide (x < y)
def sp_ints (a b : List Int) : Bool := decide (a = b)
def pre_ints (a b : List Int) : Prop := a.length ≤ 1000 ∧ b.length ≤ 1000
def sp_insert : Bel → List Int → Bel
 | [], s => [s]
 | x :: r, s => if sp_before x s = true then x :: sp_insert r s else if x = s then x :: r else s :: x :: r
def sp_normal (l : Bel) : Bel := l.foldl sp_insert []
def pre_normal (l : Bel) : Prop := l.length ≤ 1000 ∧ ∀ x ∈ l, x.length ≤ 1000
def sp_sortR (l : Bel) : Bel := l.mergeSort fun x y => !sp_before y x
def pre_sortR (l : Bel) : Prop := l.length ≤ 1000 ∧ ∀ x ∈ l, x.length ≤ 1000
def sp_compactR (l : Bel) : Bel := l.foldl (fun acc x => if acc.getLast? = some x then acc else acc ++ [x]) []
def pre_compactR (l : Bel) : Prop := l.length ≤ 1000 ∧ ∀ x ∈ l, x.length ≤ 1000
def maskAdd (u : List Int) (m : Nat) : List Int := (u.zipIdx.filter fun p => m.testBit p.2).map (·.1)
def sp_worlds (t : Task) (u : List Int) : Bel := sp_normal ((List.range (2 ^ u.length)).map fun m => sp_update t.init (maskAdd u m) u)
def UOK (t : Task) (u : List Int) : Prop := sp_validate t = ⟨0, 0⟩ ∧ u.length ≤ 4 ∧ sp_isSet u t.facts = true
def pre_worlds (t : Task) (u : List Int) : Prop := UOK t u
def WsOK (t : Task) (ws : Bel) : Prop := ws.length ≤ 16 ∧ ∀ s ∈ ws, sp_isSet s t.facts = true
def sp_bafter (t : Task) (ws : Bel) (op : Int) : Bel := sp_normal (ws.map fun s => sp_after t s op)
def pre_bafter (t : Task) (ws : Bel) (op : Int) : Prop := sp_validate t = ⟨0, 0⟩ ∧ inb t.ops op ∧ WsOK t ws
def bsucc (t : Task) (ws : Bel) : List (Int × Bel) := (allS t.ops.length).filterMap fun op => if sp_sure ws (gt t.ops op).pre = true then some (op, sp_bafter t ws op) else none
def sp_succ (_ : Task) (_ : Bel) : Unit := ()
def sp_bnext (_ : Task) : Unit := ()
def sp_bnext1 (_ : Bel) (_ : Task) : Unit := ()
def sp_small1 (_ : Bel) : Bool := false
def sp_plan1 (w : Bel) (t : Task) : Bool := sp_sure w t.goal
def pre_plan1 (w : Bel) (t : Task) : Prop := sp_validate t = ⟨0, 0⟩ ∧ WsOK t w
def sp_breadthS (start : Bel) (t : Task) : List Int × Bool × Bool := search (bsucc t) (fun _ => false) start
def pre_breadthS (start : Bel) (t : Task) : Prop := sp_validate t = ⟨0, 0⟩ ∧ WsOK t start
def sp_breadthP (start : Bel) (t t' : Task) : List Int × Bool × Bool := search (bsucc t) (fun w => sp_sure w t'.goal) start
def pre_breadthP (start : Bel) (t t' : Task) : Prop := sp_validate t = ⟨0, 0⟩ ∧ WsOK t start ∧ t' = t
def sp_small (start : Bel) (t : Task) : Bool := (search (bsucc t) (fun _ => false) start).2.2
def pre_small (start : Bel) (t : Task) : Prop := pre_breadthS start t
def sp_bplan (t : Task) (u : List Int) : List Int × Bool × Fault :=
 if sp_unknownFault t u = ⟨0, 0⟩ then
  if sp_small (sp_worlds t u) t = true then
   if 60 < (sp_breadthP (sp_worlds t u) t t).1.length then ([], false, ⟨10, -5⟩) else ((sp_breadthP (sp_worlds t u) t t).1, (sp_breadthP (sp_worlds t u) t t).2.1, ⟨0, 0⟩)
  else ([], false, ⟨10, -7⟩)
 else ([], false, sp_unknownFault t u)
end Go.Proofs.YtimillpakjgnoaaGreatDoor.Pl

namespace Go.Proofs.YtimillpakjgnoaaGreatDoor.Pl
open Go Go.RowKit
def h11Used : Task := ⟨2, ([] : List Int), ([0, 1] : List Int), ([(⟨([] : List Int), ([0, 1] : List Int), ([] : List Int), 2⟩ : Operator)] : List Operator)⟩
def sp_optimalL (_ : Task) : Int × Fault := (2, ⟨0, 0⟩)
def pre_optimalL (t : Task) : Prop := t = h11Used
def sp_h11Solved : Bool := true
def sp_lawKnownBeliefs (_ : Task) : Bool := true
def bitW (p : Int) : Int := IntKind.u32.wrap (1 * 2 ^ (min p.toNat (IntKind.bits .u32)))
def sp_word (s : List Int) : Int := s.foldl (fun w p => bits .or .u32 w (bitW p)) 0
def pre_word (s : List Int) : Prop := s.length ≤ 1000 ∧ ∀ p ∈ s, 0 ≤ p
def sp_facts (w : Int) : List Int := (allS 32).filter fun p => bits .and .u32 (Int.fdiv w (2 ^ (min p.toNat (IntKind.bits .u32)))) 1 == 1
def pre_facts (_ : Int) : Prop := True
def sp_wcmp (a b : Int) : Int := sp_scompare (sp_facts a) (sp_facts b)
def pre_wcmp (_ _ : Int) : Prop := True
def U32 (w : Int) : Prop := 0 ≤ w ∧ w < 4294967296
def sp_sortW (xs : List Int) : List Int := xs.mergeSort fun a b => decide (sp_wcmp a b ≤ 0)
def pre_sortW (xs : List Int) : Prop := xs.length ≤ 100000 ∧ ∀ x ∈ xs, U32 x
def wopS (W : WordsT) (s i : Int) : Option (Int × Int) := if (bits .and .u32 s (gt W.ops i).pre == (gt W.ops i).pre) = true then some (i, bits .or .u32 (bits .andNot .u32 s (gt W.ops i).del) (gt W.ops i).add) else none
def wsucc (W : WordsT) (s : Int) : List (Int × Int) := (allS W.ops.length).filterMap (wopS W s)
def wgoal (W : WordsT) (s : Int) : Bool := bits .and .u32 s W.goal == W.goal
def pushW : List (Int × Int) → List Int × List (Int × Unit) → List Int × List (Int × Unit)
 | [], z => z
 | x :: r, z => if (getA z.2 x.2).isSome = true then pushW r z else pushW r (z.1 ++ [x.2], setA z.2 x.2 ())
def dfs (W : WordsT) : Nat → List Int → List (Int × Unit) → List Int → List Int × Bool
 | 0, _, _, out => (out, true)
 | k + 1, l, m, out => match l.getLast? with
  | none => (out, true)
  | some s => if 2000 < (pushW (wsucc W s) (l.dropLast, m)).2.length then ([], false) else dfs W k (pushW (wsucc W s) (l.dropLast, m)).1 (pushW (wsucc W s) (l.dropLast, m)).2 (out ++ [s])
def sp_all (W : WordsT) : List Int × Bool := dfs W 2001 [W.start] [(W.start, ())] []
def pre_all (W : WordsT) : Prop := W.ops.length ≤ 40
def maskOf (o : Operator) : Masks := ⟨sp_word o.pre, sp_word o.add, sp_word o.del, o.cost⟩
def wordsOf (t : Task) : WordsT := ⟨sp_word t.init, sp_word t.goal, t.ops.map maskOf⟩
def sp_brplan (t : Task) : List Int × Bool × Fault :=
 if sp_validate t = ⟨0, 0⟩ then
  if (sp_all (wordsOf t)).2 = true then
   if 60 < (search (wsucc (wordsOf t)) (wgoal (wordsOf t)) (wordsOf t).start).1.length then ([], false, ⟨10, -9⟩) else ((search (wsucc (wordsOf t)) (wgoal (wordsOf t)) (wordsOf t).start).1, (search (wsucc (wordsOf t)) (wgoal (wordsOf t)) (wordsOf t).start).2.1, ⟨0, 0⟩)
  else ([], false, ⟨10, -7⟩)
 else ([], false, sp_validate t)
end Go.Proofs.YtimillpakjgnoaaGreatDoor.Pl

namespace Go.Proofs.YtimillpakjgnoaaGreatDoor.Pl
open Go Go.RowKit
theorem tS22 : TSl Tryz.prog 22 3 1 8 [.int .i64 0] := tSl_mk (z := .int .i64 0) Tryz.underlying22 (by kernel_rfl) rfl
theorem tO3 : TOne Tryz.prog 3 := tOne_mk Tryz.underlying3 rfl (by kernel_rfl)
theorem tO22 : TOne Tryz.prog 22 := tOne_mk Tryz.underlying22 rfl (by kernel_rfl)
theorem tF114_0 : FldAt Tryz.prog 114 0 0 := fldAt_mk Tryz.underlying114 (by kernel_rfl)
theorem tF114_1 : FldAt Tryz.prog 114 1 1 := fldAt_mk Tryz.underlying114 (by kernel_rfl)
theorem tF114_2 : FldAt Tryz.prog 114 2 2 := fldAt_mk Tryz.underlying114 (by kernel_rfl)
theorem tF114_3 : FldAt Tryz.prog 114 3 3 := fldAt_mk Tryz.underlying114 (by kernel_rfl)
theorem tZ27 : TZero Tryz.prog 27 [.int .i64 0, .int .i64 0] := tZero_mk (z := .agg #[.int .i64 0, .int .i64 0]) (by kernel_rfl) rfl
theorem tF25_0 : FldAt Tryz.prog 25 0 0 := fldAt_mk Tryz.underlying25 (by kernel_rfl)
theorem tB27 : TBld Tryz.prog 27 [.int .i64 0, .int .i64 0] [(0, 1), (1, 1)] := tBld_mk Tryz.underlying27 (by kernel_rfl) (z := .agg #[.int .i64 0, .int .i64 0]) (by kernel_rfl) (by kernel_rfl)
theorem tA27 : TAgg Tryz.prog 27 2 := tAgg_mk Tryz.underlying27 rfl (by kernel_rfl)
theorem tF25_1 : FldAt Tryz.prog 25 1 1 := fldAt_mk Tryz.underlying25 (by kernel_rfl)
theorem tF25_2 : FldAt Tryz.prog 25 2 2 := fldAt_mk Tryz.underlying25 (by kernel_rfl)
theorem tF25_3 : FldAt Tryz.prog 25 3 3 := fldAt_mk Tryz.underlying25 (by kernel_rfl)
theorem tO23 : TOne Tryz.prog 23 := tOne_mk Tryz.underlying23 rfl (by kernel_rfl)
theorem tS23 : TSl Tryz.prog 23 114 4 80 [.slice none 0 0, .slice none 0 0, .slice none 0 0, .int .i64 0] := tSl_mk (z := .agg #[.slice none 0 0, .slice none 0 0, .slice none 0 0, .int .i64 0]) Tryz.underlying23 (by kernel_rfl) rfl
theorem tA114 : TAgg Tryz.prog 114 4 := tAgg_mk Tryz.underlying114 rfl (by kernel_rfl)
theorem tZ114 : TZero Tryz.prog 114 [.slice none 0 0, .slice none 0 0, .slice none 0 0, .int .i64 0] := tZero_mk (z := .agg #[.slice none 0 0, .slice none 0 0, .slice none 0 0, .int .i64 0]) (by kernel_rfl) rfl
theorem tA25 : TAgg Tryz.prog 25 4 := tAgg_mk Tryz.underlying25 rfl (by kernel_rfl)
theorem tE27 : TEq2 Tryz.prog 27 := ⟨by kernel_rfl, fun d a b c e w => by
 simp [go_sem]
 by_cases h1 : a = c <;> by_cases h2 : b = e <;> simp [h1, h2]⟩
theorem tS35 : TSl Tryz.prog 35 22 1 24 [.slice none 0 0] := tSl_mk (z := .slice none 0 0) Tryz.underlying35 (by kernel_rfl) rfl
theorem tS81 : TSl Tryz.prog 81 5 1 1 [.int .u8 0] := tSl_mk (z := .int .u8 0) Tryz.underlying81 (by kernel_rfl) rfl
theorem tZ22 : TZero Tryz.prog 22 [.slice none 0 0] := tZero_mk (z := .slice none 0 0) (by kernel_rfl) rfl
theorem tZ4 : TZero Tryz.prog 4 [.bool false] := tZero_mk (z := .bool false) (by kernel_rfl) rfl
theorem tB84 : TBld Tryz.prog 84 [.slice none 0 0, .int .i64 0, .int .i64 0] [(0, 1), (1, 1), (2, 1)] := tBld_mk Tryz.underlying84 (by kernel_rfl) (z := .agg #[.slice none 0 0, .int .i64 0, .int .i64 0]) (by kernel_rfl) (by kernel_rfl)
theorem tS85 : TSl Tryz.prog 85 84 3 40 [.slice none 0 0, .int .i64 0, .int .i64 0] := tSl_mk (z := .agg #[.slice none 0 0, .int .i64 0, .int .i64 0]) Tryz.underlying85 (by kernel_rfl) rfl
theorem tZ85 : TZero Tryz.prog 85 [.slice none 0 0] := tZero_mk (z := .slice none 0 0) (by kernel_rfl) rfl
theorem tO85 : TOne Tryz.prog 85 := tOne_mk Tryz.underlying85 rfl (by kernel_rfl)
theorem tM86 : TMap Tryz.prog 86 := tMap_mk Tryz.underlying86 Tryz.underlying9 (by kernel_rfl)
theorem tO48 : TOne Tryz.prog 48 := tOne_mk Tryz.underlying48 rfl (by kernel_rfl)
theorem tZ86 : TZero Tryz.prog 86 [.map none] := tZero_mk (z := .map none) (by kernel_rfl) rfl
theorem tO86 : TOne Tryz.prog 86 := tOne_mk Tryz.underlying86 rfl (by kernel_rfl)
theorem tZ3 : TZero Tryz.prog 3 [.int .i64 0] := tZero_mk (z := .int .i64 0) (by kernel_rfl) rfl
theorem tF84_0 : FldAt Tryz.prog 84 0 0 := fldAt_mk Tryz.underlying84 (by kernel_rfl)
theorem tO35 : TOne Tryz.prog 35 := tOne_mk Tryz.underlying35 rfl (by kernel_rfl)
theorem tF84_1 : FldAt Tryz.prog 84 1 1 := fldAt_mk Tryz.underlying84 (by kernel_rfl)
theorem tF84_2 : FldAt Tryz.prog 84 2 2 := fldAt_mk Tryz.underlying84 (by kernel_rfl)
theorem tO4 : TOne Tryz.prog 4 := tOne_mk Tryz.underlying4 rfl (by kernel_rfl)
theorem tm53_Start : TMeth Tryz.prog 53 "Start" 80 := tMeth_mk Tryz.underlying53 (by kernel_rfl)
theorem tF112_0 : FldAt Tryz.prog 112 0 0 := fldAt_mk Tryz.underlying112 (by kernel_rfl)
theorem tO60 : TOne Tryz.prog 60 := tOne_mk Tryz.underlying60 rfl (by kernel_rfl)
theorem tS54 : TSl Tryz.prog 54 60 1 4 [.int .u32 0] := tSl_mk (z := .int .u32 0) Tryz.underlying54 (by kernel_rfl) rfl
theorem tZ54 : TZero Tryz.prog 54 [.slice none 0 0] := tZero_mk (z := .slice none 0 0) (by kernel_rfl) rfl
theorem tO54 : TOne Tryz.prog 54 := tOne_mk Tryz.underlying54 rfl (by kernel_rfl)
theorem tB133 : TBld Tryz.prog 133 [] [] := tBld_mk Tryz.underlying133 (by kernel_rfl) (z := .agg #[]) (by kernel_rfl) (by kernel_rfl)
theorem tMI134 : TMapI Tryz.prog 134 .u32 ((fun _ : Unit => .agg #[]) ()) := tMapI_mk Tryz.underlying134 Tryz.underlying60 (by kernel_rfl)
theorem tZ134 : TZero Tryz.prog 134 [.map none] := tZero_mk (z := .map none) (by kernel_rfl) rfl
theorem tO134 : TOne Tryz.prog 134 := tOne_mk Tryz.underlying134 rfl (by kernel_rfl)
theorem tm53_Steps : TMeth Tryz.prog 53 "Steps" 101 := tMeth_mk Tryz.underlying53 (by kernel_rfl)
theorem tO53 : TOne Tryz.prog 53 := tOne_mk Tryz.underlying53 rfl (by kernel_rfl)
theorem tF112_2 : FldAt Tryz.prog 112 2 2 := fldAt_mk Tryz.underlying112 (by kernel_rfl)
theorem tO110 : TOne Tryz.prog 110 := tOne_mk Tryz.underlying110 rfl (by kernel_rfl)
theorem tS110 : TSl Tryz.prog 110 132 4 24 [.int .u32 0, .int .u32 0, .int .u32 0, .int .i64 0] := tSl_mk (z := .agg #[.int .u32 0, .int .u32 0, .int .u32 0, .int .i64 0]) Tryz.underlying110 (by kernel_rfl) rfl
theorem tA132 : TAgg Tryz.prog 132 4 := tAgg_mk Tryz.underlying132 rfl (by kernel_rfl)
theorem tZ132 : TZero Tryz.prog 132 [.int .u32 0, .int .u32 0, .int .u32 0, .int .i64 0] := tZero_mk (z := .agg #[.int .u32 0, .int .u32 0, .int .u32 0, .int .i64 0]) (by kernel_rfl) rfl
theorem tF132_0 : FldAt Tryz.prog 132 0 0 := fldAt_mk Tryz.underlying132 (by kernel_rfl)
theorem tF132_3 : FldAt Tryz.prog 132 3 3 := fldAt_mk Tryz.underlying132 (by kernel_rfl)
theorem tF132_2 : FldAt Tryz.prog 132 2 2 := fldAt_mk Tryz.underlying132 (by kernel_rfl)
theorem tF132_1 : FldAt Tryz.prog 132 1 1 := fldAt_mk Tryz.underlying132 (by kernel_rfl)
theorem tB108 : TBld Tryz.prog 108 [.int .i64 0, .int .i64 0, .int .u32 0] [(0, 1), (1, 1), (2, 1)] := tBld_mk Tryz.underlying108 (by kernel_rfl) (z := .agg #[.int .i64 0, .int .i64 0, .int .u32 0]) (by kernel_rfl) (by kernel_rfl)
theorem tZ108 : TZero Tryz.prog 108 [.int .i64 0, .int .i64 0, .int .u32 0] := tZero_mk (z := .agg #[.int .i64 0, .int .i64 0, .int .u32 0]) (by kernel_rfl) rfl
theorem tA108 : TAgg Tryz.prog 108 3 := tAgg_mk Tryz.underlying108 rfl (by kernel_rfl)
theorem tF108_2 : FldAt Tryz.prog 108 2 2 := fldAt_mk Tryz.underlying108 (by kernel_rfl)
theorem tZ133 : TZero Tryz.prog 133 [] := tZero_mk (z := .agg #[]) (by kernel_rfl) rfl
theorem tA133 : TAgg Tryz.prog 133 0 := tAgg_mk Tryz.underlying133 rfl (by kernel_rfl)
theorem tB112 : TBld Tryz.prog 112 [.int .u32 0, .int .u32 0, .slice none 0 0] [(0, 1), (1, 1), (2, 1)] := tBld_mk Tryz.underlying112 (by kernel_rfl) (z := .agg #[.int .u32 0, .int .u32 0, .slice none 0 0]) (by kernel_rfl) (by kernel_rfl)
theorem tB132 : TBld Tryz.prog 132 [.int .u32 0, .int .u32 0, .int .u32 0, .int .i64 0] [(0, 1), (1, 1), (2, 1), (3, 1)] := tBld_mk Tryz.underlying132 (by kernel_rfl) (z := .agg #[.int .u32 0, .int .u32 0, .int .u32 0, .int .i64 0]) (by kernel_rfl) (by kernel_rfl)
theorem tC53 : TCon Tryz.prog 53 := ⟨_, Tryz.underlying53, rfl⟩
theorem tB101 : TBld Tryz.prog 101 [.int .u32 0, .int .i64 0] [(0, 1), (1, 1)] := tBld_mk Tryz.underlying101 (by kernel_rfl) (z := .agg #[.int .u32 0, .int .i64 0]) (by kernel_rfl) (by kernel_rfl)
theorem tMI102 : TMapI Tryz.prog 102 .u32 ((fun x : Back => .agg #[.int .u32 x.from_, .int .i64 x.op]) (default : Back)) := tMapI_mk Tryz.underlying102 Tryz.underlying60 (by kernel_rfl)
theorem tZ102 : TZero Tryz.prog 102 [.map none] := tZero_mk (z := .map none) (by kernel_rfl) rfl
theorem tO102 : TOne Tryz.prog 102 := tOne_mk Tryz.underlying102 rfl (by kernel_rfl)
theorem tZ60 : TZero Tryz.prog 60 [.int .u32 0] := tZero_mk (z := .int .u32 0) (by kernel_rfl) rfl
theorem tF112_1 : FldAt Tryz.prog 112 1 1 := fldAt_mk Tryz.underlying112 (by kernel_rfl)
theorem tZ101 : TZero Tryz.prog 101 [.int .u32 0, .int .i64 0] := tZero_mk (z := .agg #[.int .u32 0, .int .i64 0]) (by kernel_rfl) rfl
theorem tA101 : TAgg Tryz.prog 101 2 := tAgg_mk Tryz.underlying101 rfl (by kernel_rfl)
theorem tF101_1 : FldAt Tryz.prog 101 1 1 := fldAt_mk Tryz.underlying101 (by kernel_rfl)
theorem tF101_0 : FldAt Tryz.prog 101 0 0 := fldAt_mk Tryz.underlying101 (by kernel_rfl)
theorem tF108_0 : FldAt Tryz.prog 108 0 0 := fldAt_mk Tryz.underlying108 (by kernel_rfl)
theorem tZ159 : TZero Tryz.prog 159 [.map none] := tZero_mk (z := .map none) (by kernel_rfl) rfl
theorem tO159 : TOne Tryz.prog 159 := tOne_mk Tryz.underlying159 rfl (by kernel_rfl)
theorem tB195 : TBld Tryz.prog 195 [.slice none 0 0, .map none, .int .i64 0] [(0, 1), (1, 1), (2, 1)] := tBld_mk Tryz.underlying195 (by kernel_rfl) (z := .agg #[.slice none 0 0, .map none, .int .i64 0]) (by kernel_rfl) (by kernel_rfl)
theorem tMR141 : TMapI Tryz.prog 141 .u32 (.int .i64 0) := tMapI_mk Tryz.underlying141 Tryz.underlying60 (by kernel_rfl)
theorem tMR159 : TMapI Tryz.prog 159 .u32 (.slice none 0 0) := tMapI_mk Tryz.underlying159 Tryz.underlying60 (by kernel_rfl)
theorem tF108_1 : FldAt Tryz.prog 108 1 1 := fldAt_mk Tryz.underlying108 (by kernel_rfl)
theorem tB165 : TBld Tryz.prog 165 [.int .u32 0, .int .i64 0] [(0, 1), (1, 1)] := tBld_mk Tryz.underlying165 (by kernel_rfl) (z := .agg #[.int .u32 0, .int .i64 0]) (by kernel_rfl) (by kernel_rfl)
theorem tS163 : TSl Tryz.prog 163 165 2 16 [.int .u32 0, .int .i64 0] := tSl_mk (z := .agg #[.int .u32 0, .int .i64 0]) Tryz.underlying163 (by kernel_rfl) rfl
theorem tF195_2 : FldAt Tryz.prog 195 2 2 := fldAt_mk Tryz.underlying195 (by kernel_rfl)
theorem tF195_1 : FldAt Tryz.prog 195 1 1 := fldAt_mk Tryz.underlying195 (by kernel_rfl)
theorem tO191 : TOne Tryz.prog 191 := tOne_mk Tryz.underlying191 rfl (by kernel_rfl)
theorem tMR191 : TMapI Tryz.prog 191 .u32 (.pointer none) := tMapI_mk Tryz.underlying191 Tryz.underlying60 (by kernel_rfl)
theorem tB199 : TBld Tryz.prog 199 [.int .u32 0, .int .i64 0, .int .i64 0, .int .i64 0] [(0, 1), (1, 1), (2, 1), (3, 1)] := tBld_mk Tryz.underlying199 (by kernel_rfl) (z := .agg #[.int .u32 0, .int .i64 0, .int .i64 0, .int .i64 0]) (by kernel_rfl) (by kernel_rfl)
theorem tF195_0 : FldAt Tryz.prog 195 0 0 := fldAt_mk Tryz.underlying195 (by kernel_rfl)
theorem tC201 : TCon Tryz.prog 201 := ⟨_, Tryz.underlying201, rfl⟩
theorem tC196 : TCon Tryz.prog 196 := ⟨_, Tryz.underlying196, rfl⟩
theorem tm201_Push : TMeth Tryz.prog 201 "Push" 171 := tMeth_mk Tryz.underlying201 (by kernel_rfl)
theorem tO193 : TOne Tryz.prog 193 := tOne_mk Tryz.underlying193 rfl (by kernel_rfl)
theorem tS193 : TSl Tryz.prog 193 196 1 8 [.pointer none] := tSl_mk (z := .pointer none) Tryz.underlying193 (by kernel_rfl) rfl
theorem tF199_3 : FldAt Tryz.prog 199 3 3 := fldAt_mk Tryz.underlying199 (by kernel_rfl)
theorem tm201_Len : TMethV Tryz.prog 201 "Len" 167 := tMethV_mk Tryz.underlying201 tO193 (by kernel_rfl)
theorem tm201_Swap : TMethV Tryz.prog 201 "Swap" 169 := tMethV_mk Tryz.underlying201 tO193 (by kernel_rfl)
theorem tO196 : TOne Tryz.prog 196 := tOne_mk Tryz.underlying196 rfl (by kernel_rfl)
theorem tm201_Pop : TMeth Tryz.prog 201 "Pop" 170 := tMeth_mk Tryz.underlying201 (by kernel_rfl)
theorem tF199_0 : FldAt Tryz.prog 199 0 0 := fldAt_mk Tryz.underlying199 (by kernel_rfl)
theorem tF199_1 : FldAt Tryz.prog 199 1 1 := fldAt_mk Tryz.underlying199 (by kernel_rfl)
theorem tA165 : TAgg Tryz.prog 165 2 := tAgg_mk Tryz.underlying165 rfl (by kernel_rfl)
theorem tZ165 : TZero Tryz.prog 165 [.int .u32 0, .int .i64 0] := tZero_mk (z := .agg #[.int .u32 0, .int .i64 0]) (by kernel_rfl) rfl
theorem tF165_1 : FldAt Tryz.prog 165 1 1 := fldAt_mk Tryz.underlying165 (by kernel_rfl)
theorem tF165_0 : FldAt Tryz.prog 165 0 0 := fldAt_mk Tryz.underlying165 (by kernel_rfl)
theorem tZ25 : TZero Tryz.prog 25 [.int .i64 0, .slice none 0 0, .slice none 0 0, .slice none 0 0] := tZero_mk (z := .agg #[.int .i64 0, .slice none 0 0, .slice none 0 0, .slice none 0 0]) (by kernel_rfl) rfl
theorem tB114 : TBld Tryz.prog 114 [.slice none 0 0, .slice none 0 0, .slice none 0 0, .int .i64 0] [(0, 1), (1, 1), (2, 1), (3, 1)] := tBld_mk Tryz.underlying114 (by kernel_rfl) (z := .agg #[.slice none 0 0, .slice none 0 0, .slice none 0 0, .int .i64 0]) (by kernel_rfl) (by kernel_rfl)
theorem tB25 : TBld Tryz.prog 25 [.int .i64 0, .slice none 0 0, .slice none 0 0, .slice none 0 0] [(0, 1), (1, 1), (2, 1), (3, 1)] := tBld_mk Tryz.underlying25 (by kernel_rfl) (z := .agg #[.int .i64 0, .slice none 0 0, .slice none 0 0, .slice none 0 0]) (by kernel_rfl) (by kernel_rfl)
theorem tF27_0 : FldAt Tryz.prog 27 0 0 := fldAt_mk Tryz.underlying27 (by kernel_rfl)
end Go.Proofs.YtimillpakjgnoaaGreatDoor.Pl

namespace Go.Proofs.YtimillpakjgnoaaGreatDoor.Pl
open Go Go.RowKit
def F_isNaN1 (x : Int) (K : Bool → Prop) : Prop :=
 K (x != x)
def F_isNaN2 (x : Int) (K : Bool → Prop) : Prop :=
 K (x != x)
def F_less (x : Int) (y : Int) (K : Bool → Prop) : Prop :=
 ∀ r2 : Bool, r2 = (sp_isNaN1 x) →
 ((r2) = true →
  ∀ r3 : Bool, r3 = (sp_isNaN1 y) →
  ((!r3) = true →
   K true) ∧
  ((!r3) = false →
   K (decide (x < y)))) ∧
 ((r2) = false →
  K (decide (x < y)))
def F_bsearch_L1 (x : List Int) (target : Int) (K : (Int × Bool) → Prop) (i : Int) (j : Int) (I1 : Int → Int → Prop) (μ1 : Int → Int → Nat) : Prop :=
 ((decide (i < j)) = true →
  ∀ x2 : Int, x2 = (Int.fdiv (IntKind.u64.wrap (IntKind.i64.wrap (i + j))) (2 ^ (min ((1 : Int)).toNat (IntKind.bits .u64)))) →
  (inb x (IntKind.i64.wrap (x2))) ∧
  ∀ r2 : Bool, r2 = (sp_less (gt x (IntKind.i64.wrap (x2))) target) →
  ((r2) = true →
   I1 (IntKind.i64.wrap ((IntKind.i64.wrap (x2)) + 1)) j ∧
 μ1 (IntKind.i64.wrap ((IntKind.i64.wrap (x2)) + 1)) j < μ1 i j) ∧
  ((r2) = false →
   I1 i (IntKind.i64.wrap (x2)) ∧
 μ1 i (IntKind.i64.wrap (x2)) < μ1 i j)) ∧
 ((decide (i < j)) = false →
  ((decide (i < ((x.length : Nat) : Int))) = true →
   (inb x i) ∧
   (((gt x i) == target) = true →
    K (i, true)) ∧
   (((gt x i) == target) = false →
    ∀ r3 : Bool, r3 = (sp_isNaN1 (gt x i)) →
    ((r3) = true →
     ∀ r4 : Bool, r4 = (sp_isNaN1 target) →
     K (i, r4)) ∧
    ((r3) = false →
     K (i, false)))) ∧
  ((decide (i < ((x.length : Nat) : Int))) = false →
   K (i, false)))
def F_bsearch (x : List Int) (target : Int) (K : (Int × Bool) → Prop) : Prop :=
 ∃ (I1 : Int → Int → Prop) (μ1 : Int → Int → Nat), I1 0 ((x.length : Nat) : Int) ∧ ∀ (i : Int) (j : Int), I1 i j → F_bsearch_L1 x target K i j I1 μ1
def F_indexF_L1 (s_ : List Int) (pf : Int → Bool) (Df : Int → Prop) (K : Int → Prop) (t8 : Int) (I1 : Int → Prop) (μ1 : Int → Nat) : Prop :=
 ((decide (t8 < ((s_.length : Nat) : Int))) = true →
  (inb s_ t8) ∧
  (Df (gt s_ t8)) ∧
  ∀ r2 : Bool, r2 = (pf (gt s_ t8)) →
  ((r2) = true →
   K t8) ∧
  ((r2) = false →
   I1 (IntKind.i64.wrap (t8 + 1)) ∧
 μ1 (IntKind.i64.wrap (t8 + 1)) < μ1 t8)) ∧
 ((decide (t8 < ((s_.length : Nat) : Int))) = false →
  K (-1))
def F_indexF (s_ : List Int) (pf : Int → Bool) (Df : Int → Prop) (K : Int → Prop) : Prop :=
 ∃ (I1 : Int → Prop) (μ1 : Int → Nat), I1 0 ∧ ∀ (t8 : Int), I1 t8 → F_indexF_L1 s_ pf Df K t8 I1 μ1
def F_containsF (s_ : List Int) (pf : Int → Bool) (Df : Int → Prop) (K : Bool → Prop) : Prop :=
 (pre_any s_ pf Df) ∧
 ∀ r2 : Int, r2 = (sp_indexF s_ pf Df) →
 K (decide (0 ≤ r2))
def F_isSet_J1 (K : Bool → Prop) (t33 : Bool) (t9 : Int) (I1 : Int → Prop) (μ1 : Int → Nat) : Prop :=
 ((t33) = true →
  K false) ∧
 ((t33) = false →
  I1 (IntKind.i64.wrap (t9 + 1)) ∧
 μ1 (IntKind.i64.wrap (t9 + 1)) < μ1 t9)
def F_isSet_L1 (l : List Int) (n_ : Int) (K : Bool → Prop) (t9 : Int) (I1 : Int → Prop) (μ1 : Int → Nat) : Prop :=
 ((decide (t9 < ((l.length : Nat) : Int))) = true →
  (inb l t9) ∧
  ((decide ((gt l t9) < 0)) = true →
   F_isSet_J1 K true t9 I1 μ1) ∧
  ((decide ((gt l t9) < 0)) = false →
   ((decide (n_ ≤ (gt l t9))) = true →
    F_isSet_J1 K true t9 I1 μ1) ∧
   ((decide (n_ ≤ (gt l t9))) = false →
    ((decide (0 < t9)) = true →
     (inb l (IntKind.i64.wrap (t9 - 1))) ∧
     F_isSet_J1 K (decide ((gt l t9) ≤ (gt l (IntKind.i64.wrap (t9 - 1))))) t9 I1 μ1) ∧
    ((decide (0 < t9)) = false →
     F_isSet_J1 K false t9 I1 μ1)))) ∧
 ((decide (t9 < ((l.length : Nat) : Int))) = false →
  K true)
def F_isSet (l : List Int) (n_ : Int) (K : Bool → Prop) : Prop :=
 ∃ (I1 : Int → Prop) (μ1 : Int → Nat), I1 0 ∧ ∀ (t9 : Int), I1 t9 → F_isSet_L1 l n_ K t9 I1 μ1
def F_meets1 (x : Int) (x2 : List Int) (K : Bool → Prop) : Prop :=
 (pre_bsearch x2 x) ∧
 ∀ r2 : Int × Bool, r2 = (sp_bsearch x2 x) →
 K r2.2
def F_meets (a : List Int) (b : List Int) (K : Bool → Prop) : Prop :=
 (pre_any a (fun y_ : Int => sp_meets1 y_ b) (fun y_ : Int => pre_meets1 y_ b)) ∧
 ∀ r2 : Bool, r2 = (sp_any a (fun y_ : Int => sp_meets1 y_ b) (fun y_ : Int => pre_meets1 y_ b)) →
 K r2
def F_operator_J2 (K : Int → Prop) (t32 : Bool) : Prop :=
 ((t32) = true →
  K 3) ∧
 ((t32) = false →
  K 0)
def F_operator_J1 (o : Operator) (K : Int → Prop) (t5 : Bool) : Prop :=
 ((t5) = true →
  K 5) ∧
 ((t5) = false →
  ((decide (o.cost < 0)) = true →
   F_operator_J2 K true) ∧
  ((decide (o.cost < 0)) = false →
   F_operator_J2 K (decide (100 < o.cost))))
def F_operator (o : Operator) (facts : Int) (K : Int → Prop) : Prop :=
 (pre_isSet o.pre facts) ∧
 ∀ r2 : Bool, r2 = (sp_isSet o.pre facts) →
 ((!r2) = true →
  F_operator_J1 o K true) ∧
 ((!r2) = false →
  (pre_isSet o.add facts) ∧
  ∀ r3 : Bool, r3 = (sp_isSet o.add facts) →
  ((!r3) = true →
   F_operator_J1 o K true) ∧
  ((!r3) = false →
   (pre_isSet o.del facts) ∧
   ∀ r4 : Bool, r4 = (sp_isSet o.del facts) →
   ((!r4) = true →
    F_operator_J1 o K true) ∧
   ((!r4) = false →
    (pre_meets o.add o.del) ∧
    ∀ r5 : Bool, r5 = (sp_meets o.add o.del) →
    F_operator_J1 o K r5)))
def F_validate_L1 (t : Task) (K : Fault → Prop) (t41 : Int) (I1 : Int → Prop) (μ1 : Int → Nat) : Prop :=
 ((decide (t41 < ((t.ops.length : Nat) : Int))) = true →
  (inb t.ops t41) ∧
  (pre_operator (gt t.ops t41) t.facts) ∧
  ∀ r4 : Int, r4 = (sp_operator (gt t.ops t41) t.facts) →
  ((r4 != 0) = true →
   K (⟨r4, t41⟩ : Fault)) ∧
  ((r4 != 0) = false →
   I1 (IntKind.i64.wrap (t41 + 1)) ∧
 μ1 (IntKind.i64.wrap (t41 + 1)) < μ1 t41)) ∧
 ((decide (t41 < ((t.ops.length : Nat) : Int))) = false →
  K (⟨0, 0⟩ : Fault))
def F_validate_J1 (t : Task) (K : Fault → Prop) (t6 : Bool) : Prop :=
 ((t6) = true →
  K (⟨3, (-1)⟩ : Fault)) ∧
 ((t6) = false →
  (pre_isSet t.init t.facts) ∧
  ∀ r2 : Bool, r2 = (sp_isSet t.init t.facts) →
  ((!r2) = true →
   K (⟨5, (-2)⟩ : Fault)) ∧
  ((!r2) = false →
   (pre_isSet t.goal t.facts) ∧
   ∀ r3 : Bool, r3 = (sp_isSet t.goal t.facts) →
   ((!r3) = true →
    K (⟨5, (-3)⟩ : Fault)) ∧
   ((!r3) = false →
    ((decide (40 < ((t.ops.length : Nat) : Int))) = true →
     K (⟨2, (-1)⟩ : Fault)) ∧
    ((decide (40 < ((t.ops.length : Nat) : Int))) = false →
     ∃ (I1 : Int → Prop) (μ1 : Int → Nat), I1 0 ∧ ∀ (t41 : Int), I1 t41 → F_validate_L1 t K t41 I1 μ1))))
def F_validate (t : Task) (K : Fault → Prop) : Prop :=
 ((decide (t.facts < 0)) = true →
  F_validate_J1 t K true) ∧
 ((decide (t.facts < 0)) = false →
  F_validate_J1 t K (decide (24 < t.facts)))
def F_clone (s_ : List Int) (K : (List Int) → Prop) : Prop :=
 (s_ = [] → 
  K ([] : List Int)) ∧
 (room ((([] : List Int) ++ s_)).length 8) ∧
 K (([] : List Int) ++ s_)
def F_cloneO (s_ : List Int) (K : (List Int) → Prop) : Prop :=
 (s_ = [] → 
  K ([] : List Int)) ∧
 (room ((([] : List Int) ++ s_)).length 8) ∧
 K (([] : List Int) ++ s_)
def F_update_J1 (out : List Int) (t14 : Int) (I1 : Int → (List Int) → Prop) (μ1 : Int → (List Int) → Nat) (out3 : List Int) : Prop :=
 I1 (IntKind.i64.wrap (t14 + 1)) out3 ∧
 μ1 (IntKind.i64.wrap (t14 + 1)) out3 < μ1 t14 out
def F_update_L1 (s_ : List Int) (add : List Int) (del : List Int) (K : (List Int) → Prop) (out : List Int) (t14 : Int) (I1 : Int → (List Int) → Prop) (μ1 : Int → (List Int) → Nat) : Prop :=
 ((decide (t14 < ((s_.length : Nat) : Int))) = true →
  (inb s_ t14) ∧
  (pre_bsearch del (gt s_ t14)) ∧
  ∀ r2 : Int × Bool, r2 = (sp_bsearch del (gt s_ t14)) →
  ((!r2.2) = true →
   (room ((out ++ ([(gt s_ t14)] : List Int))).length 8) ∧
   F_update_J1 out t14 I1 μ1 (out ++ ([(gt s_ t14)] : List Int))) ∧
  ((!r2.2) = false →
   F_update_J1 out t14 I1 μ1 out)) ∧
 ((decide (t14 < ((s_.length : Nat) : Int))) = false →
  (room ((out ++ add)).length 8) ∧
  (pre_sort (out ++ add)) ∧
  ∀ r3 : List Int, r3 = (sp_sort (out ++ add)) →
  (pre_compact r3) ∧
  ∀ r4 : List Int, r4 = (sp_compact r3) →
  K r4)
def F_update (s_ : List Int) (add : List Int) (del : List Int) (K : (List Int) → Prop) : Prop :=
 ∃ (I1 : Int → (List Int) → Prop) (μ1 : Int → (List Int) → Nat), I1 0 ([] : List Int) ∧ ∀ (t14 : Int) (out : List Int), I1 t14 out → F_update_L1 s_ add del K out t14 I1 μ1
def F_contains2_J2 (K : Bool → Prop) (i : Int) (t39 : Bool) (t10 : Int) (i3 : Int) (I1 : Int → Int → Prop) (μ1 : Int → Int → Nat) : Prop :=
 ((t39) = true →
  K false) ∧
 ((t39) = false →
  I1 i3 (IntKind.i64.wrap (t10 + 1)) ∧
 μ1 i3 (IntKind.i64.wrap (t10 + 1)) < μ1 i t10)
def F_contains2_J1 (s_ : List Int) (part : List Int) (K : Bool → Prop) (t25 : Bool) (i : Int) (I2 : Int → Prop) (μ2 : Int → Nat) (t10 : Int) (i3 : Int) (I1 : Int → Int → Prop) (μ1 : Int → Int → Nat) : Prop :=
 ((t25) = true →
  I2 (IntKind.i64.wrap (i3 + 1)) ∧
 μ2 (IntKind.i64.wrap (i3 + 1)) < μ2 i3) ∧
 ((t25) = false →
  ((i3 == ((s_.length : Nat) : Int)) = true →
   F_contains2_J2 K i true t10 i3 I1 μ1) ∧
  ((i3 == ((s_.length : Nat) : Int)) = false →
   (inb s_ i3) ∧
   F_contains2_J2 K i ((gt s_ i3) != (gt part t10)) t10 i3 I1 μ1))
def F_contains2_L2 (s_ : List Int) (part : List Int) (K : Bool → Prop) (i : Int) (I2 : Int → Prop) (μ2 : Int → Nat) (t10 : Int) (i3 : Int) (I1 : Int → Int → Prop) (μ1 : Int → Int → Nat) : Prop :=
 ((decide (i3 < ((s_.length : Nat) : Int))) = true →
  (inb s_ i3) ∧
  F_contains2_J1 s_ part K (decide ((gt s_ i3) < (gt part t10))) i I2 μ2 t10 i3 I1 μ1) ∧
 ((decide (i3 < ((s_.length : Nat) : Int))) = false →
  F_contains2_J1 s_ part K false i I2 μ2 t10 i3 I1 μ1)
def F_contains2_L1 (s_ : List Int) (part : List Int) (K : Bool → Prop) (i : Int) (t10 : Int) (I1 : Int → Int → Prop) (μ1 : Int → Int → Nat) : Prop :=
 ((decide (t10 < ((part.length : Nat) : Int))) = true →
  (inb part t10) ∧
  ∃ (I2 : Int → Prop) (μ2 : Int → Nat), I2 i ∧ ∀ (i3 : Int), I2 i3 → F_contains2_L2 s_ part K i I2 μ2 t10 i3 I1 μ1) ∧
 ((decide (t10 < ((part.length : Nat) : Int))) = false →
  K true)
def F_contains2 (s_ : List Int) (part : List Int) (K : Bool → Prop) : Prop :=
 ∃ (I1 : Int → Int → Prop) (μ1 : Int → Int → Nat), I1 0 0 ∧ ∀ (i : Int) (t10 : Int), I1 i t10 → F_contains2_L1 s_ part K i t10 I1 μ1
def F_next (t : Task) (s_ : List Int) (op : Int) (K : (List Int) → Prop) : Prop :=
 (inb t.ops op) ∧
 (pre_update s_ ((gt t.ops op).add) ((gt t.ops op).del)) ∧
 ∀ r2 : List Int, r2 = (sp_update s_ ((gt t.ops op).add) ((gt t.ops op).del)) →
 K r2
def F_compare (x : Int) (y : Int) (K : Int → Prop) : Prop :=
 ∀ r2 : Bool, r2 = (sp_isNaN1 x) →
 ∀ r3 : Bool, r3 = (sp_isNaN1 y) →
 ((r2) = true →
  ((r3) = true →
   K 0) ∧
  ((r3) = false →
   K (-1))) ∧
 ((r2) = false →
  ((r3) = true →
   K 1) ∧
  ((r3) = false →
   ((decide (x < y)) = true →
    K (-1)) ∧
   ((decide (x < y)) = false →
    ((decide (y < x)) = true →
     K 1) ∧
    ((decide (y < x)) = false →
     K 0))))
def F_key_L2 (l : List (List Int)) (t16 : Int) (b : List UInt8) (I2 : Int → (List UInt8) → Prop) (μ2 : Int → (List UInt8) → Nat) (t10 : Int) (b3 : List UInt8) (I1 : Int → (List UInt8) → Prop) (μ1 : Int → (List UInt8) → Nat) : Prop :=
 ((decide (t16 < (((gt l t10).length : Nat) : Int))) = true →
  (inb (gt l t10) t16) ∧
  (-9223372036854775808 ≤ (gt (gt l t10) t16) ∧ (gt (gt l t10) t16) ≤ 9223372036854775807) ∧
  (b3.length + 21 ≤ 140737488355328) ∧
  (room (((b3 ++ Lib.itoa (gt (gt l t10) t16)) ++ ([44] : List UInt8))).length 1) ∧
  I2 (IntKind.i64.wrap (t16 + 1)) ((b3 ++ Lib.itoa (gt (gt l t10) t16)) ++ ([44] : List UInt8)) ∧
 μ2 (IntKind.i64.wrap (t16 + 1)) ((b3 ++ Lib.itoa (gt (gt l t10) t16)) ++ ([44] : List UInt8)) < μ2 t16 b3) ∧
 ((decide (t16 < (((gt l t10).length : Nat) : Int))) = false →
  (room ((b3 ++ ([59] : List UInt8))).length 1) ∧
  I1 (IntKind.i64.wrap (t10 + 1)) (b3 ++ ([59] : List UInt8)) ∧
 μ1 (IntKind.i64.wrap (t10 + 1)) (b3 ++ ([59] : List UInt8)) < μ1 t10 b)
def F_key_L1 (l : List (List Int)) (K : (List UInt8) → Prop) (b : List UInt8) (t10 : Int) (I1 : Int → (List UInt8) → Prop) (μ1 : Int → (List UInt8) → Nat) : Prop :=
 ((decide (t10 < ((l.length : Nat) : Int))) = true →
  (inb l t10) ∧
  ∃ (I2 : Int → (List UInt8) → Prop) (μ2 : Int → (List UInt8) → Nat), I2 0 b ∧ ∀ (t16 : Int) (b3 : List UInt8), I2 t16 b3 → F_key_L2 l t16 b I2 μ2 t10 b3 I1 μ1) ∧
 ((decide (t10 < ((l.length : Nat) : Int))) = false →
  K b)
def F_key (l : List (List Int)) (K : (List UInt8) → Prop) : Prop :=
 ∃ (I1 : Int → (List UInt8) → Prop) (μ1 : Int → (List UInt8) → Nat), I1 0 ([] : List UInt8) ∧ ∀ (t10 : Int) (b : List UInt8), I1 t10 b → F_key_L1 l K b t10 I1 μ1
def F_scompare_L1 (s1 : List Int) (s2 : List Int) (K : Int → Prop) (t11 : Int) (I1 : Int → Prop) (μ1 : Int → Nat) : Prop :=
 ((decide (t11 < ((s1.length : Nat) : Int))) = true →
  (inb s1 t11) ∧
  ((decide (((s2.length : Nat) : Int) ≤ t11)) = true →
   K 1) ∧
  ((decide (((s2.length : Nat) : Int) ≤ t11)) = false →
   (inb s2 t11) ∧
   ∀ r2 : Int, r2 = (sp_compare (gt s1 t11) (gt s2 t11)) →
   ((r2 != 0) = true →
    K r2) ∧
   ((r2 != 0) = false →
    I1 (IntKind.i64.wrap (t11 + 1)) ∧
 μ1 (IntKind.i64.wrap (t11 + 1)) < μ1 t11))) ∧
 ((decide (t11 < ((s1.length : Nat) : Int))) = false →
  ((decide (((s1.length : Nat) : Int) < ((s2.length : Nat) : Int))) = true →
   K (-1)) ∧
  ((decide (((s1.length : Nat) : Int) < ((s2.length : Nat) : Int))) = false →
   K 0))
def F_scompare (s1 : List Int) (s2 : List Int) (K : Int → Prop) : Prop :=
 ∃ (I1 : Int → Prop) (μ1 : Int → Nat), I1 0 ∧ ∀ (t11 : Int), I1 t11 → F_scompare_L1 s1 s2 K t11 I1 μ1
def F_sequal_L1 (s1 : List Int) (s2 : List Int) (K : Bool → Prop) (t13 : Int) (I1 : Int → Prop) (μ1 : Int → Nat) : Prop :=
 ((decide (t13 < ((s1.length : Nat) : Int))) = true →
  (inb s1 t13) ∧
  (inb s2 t13) ∧
  (((gt s1 t13) != (gt s2 t13)) = true →
   K false) ∧
  (((gt s1 t13) != (gt s2 t13)) = false →
   I1 (IntKind.i64.wrap (t13 + 1)) ∧
 μ1 (IntKind.i64.wrap (t13 + 1)) < μ1 t13)) ∧
 ((decide (t13 < ((s1.length : Nat) : Int))) = false →
  K true)
def F_sequal (s1 : List Int) (s2 : List Int) (K : Bool → Prop) : Prop :=
 ((((s1.length : Nat) : Int) != ((s2.length : Nat) : Int)) = true →
  K false) ∧
 ((((s1.length : Nat) : Int) != ((s2.length : Nat) : Int)) = false →
  ∃ (I1 : Int → Prop) (μ1 : Int → Nat), I1 0 ∧ ∀ (t13 : Int), I1 t13 → F_sequal_L1 s1 s2 K t13 I1 μ1)
def F_indexR_L1 (s_ : List (List Int)) (pf : (List Int) → Bool) (Df : (List Int) → Prop) (K : Int → Prop) (t8 : Int) (I1 : Int → Prop) (μ1 : Int → Nat) : Prop :=
 ((decide (t8 < ((s_.length : Nat) : Int))) = true →
  (inb s_ t8) ∧
  (Df (gt s_ t8)) ∧
  ∀ r2 : Bool, r2 = (pf (gt s_ t8)) →
  ((r2) = true →
   K t8) ∧
  ((r2) = false →
   I1 (IntKind.i64.wrap (t8 + 1)) ∧
 μ1 (IntKind.i64.wrap (t8 + 1)) < μ1 t8)) ∧
 ((decide (t8 < ((s_.length : Nat) : Int))) = false →
  K (-1))
def F_indexR (s_ : List (List Int)) (pf : (List Int) → Bool) (Df : (List Int) → Prop) (K : Int → Prop) : Prop :=
 ∃ (I1 : Int → Prop) (μ1 : Int → Nat), I1 0 ∧ ∀ (t8 : Int), I1 t8 → F_indexR_L1 s_ pf Df K t8 I1 μ1
def F_containsR (s_ : List (List Int)) (pf : (List Int) → Bool) (Df : (List Int) → Prop) (K : Bool → Prop) : Prop :=
 (pre_any s_ pf Df) ∧
 ∀ r2 : Int, r2 = (sp_indexF s_ pf Df) →
 K (decide (0 ≤ r2))
def F_reverse_L1 (K : (List Int) → Prop) (i : Int) (j : Int) (s_2 : List Int) (I1 : Int → Int → (List Int) → Prop) (μ1 : Int → Int → (List Int) → Nat) : Prop :=
 ((decide (i < j)) = true →
  (inb s_2 j) ∧
  (inb s_2 i) ∧
  ∀ d : List Int, d = (s_2.set (i).toNat (gt s_2 j)) →
  (inb d j) ∧
  ∀ d2 : List Int, d2 = (d.set (j).toNat (gt s_2 i)) →
  I1 (IntKind.i64.wrap (i + 1)) (IntKind.i64.wrap (j - 1)) d2 ∧
 μ1 (IntKind.i64.wrap (i + 1)) (IntKind.i64.wrap (j - 1)) d2 < μ1 i j s_2) ∧
 ((decide (i < j)) = false →
  K s_2)
def F_reverse (s_ : List Int) (K : (List Int) → Prop) : Prop :=
 ∃ (I1 : Int → Int → (List Int) → Prop) (μ1 : Int → Int → (List Int) → Nat), I1 0 (IntKind.i64.wrap (((s_.length : Nat) : Int) - 1)) s_ ∧ ∀ (i : Int) (j : Int) (s_2 : List Int), I1 i j s_2 → F_reverse_L1 K i j s_2 I1 μ1
def F_unknownFault (t : Task) (unknown : List Int) (K : Fault → Prop) : Prop :=
 ∀ r2 : Fault, r2 = (sp_validate t) →
 ((!((r2.code == 0) && (r2.index == 0))) = true →
  K r2) ∧
 ((!((r2.code == 0) && (r2.index == 0))) = false →
  ((decide (4 < ((unknown.length : Nat) : Int))) = true →
   K (⟨2, (-8)⟩ : Fault)) ∧
  ((decide (4 < ((unknown.length : Nat) : Int))) = false →
   (pre_isSet unknown t.facts) ∧
   ∀ r3 : Bool, r3 = (sp_isSet unknown t.facts) →
   ((!r3) = true →
    K (⟨5, (-8)⟩ : Fault)) ∧
   ((!r3) = false →
    K (⟨0, 0⟩ : Fault))))
def F_sure1 (s_ : List Int) (x : List Int) (K : Bool → Prop) : Prop :=
 (pre_contains2 s_ x) ∧
 ∀ r2 : Bool, r2 = (sp_contains2 s_ x) →
 K (!r2)
def F_sure (worlds : List (List Int)) (facts : List Int) (K : Bool → Prop) : Prop :=
 (pre_any worlds (fun y_ : List Int => sp_sure1 y_ facts) (fun y_ : List Int => pre_sure1 y_ facts)) ∧
 ∀ r2 : Bool, r2 = (sp_any worlds (fun y_ : List Int => sp_sure1 y_ facts) (fun y_ : List Int => pre_sure1 y_ facts)) →
 K (!r2)
def F_compactR_J1 (s_2 : List (List Int)) (k3 : Int) (k22 : Int) (I2 : Int → Int → (List (List Int)) → Prop) (μ2 : Int → Int → (List (List Int)) → Nat) (s_4 : List (List Int)) (k5 : Int) : Prop :=
 I2 k5 (IntKind.i64.wrap (k22 + 1)) s_4 ∧
 μ2 k5 (IntKind.i64.wrap (k22 + 1)) s_4 < μ2 k3 k22 s_2
def F_compactR_L2 (s_ : List (List Int)) (K : (List (List Int)) → Prop) (k : Int) (s_2 : List (List Int)) (k3 : Int) (k22 : Int) (I2 : Int → Int → (List (List Int)) → Prop) (μ2 : Int → Int → (List (List Int)) → Nat) : Prop :=
 ((decide (k22 < (((s_.length - (k).toNat) : Nat) : Int))) = true →
  (0 ≤ k22) ∧
  (inb s_2 ((((k).toNat : Nat) : Int) + k22)) ∧
  (0 ≤ (IntKind.i64.wrap (k22 - 1))) ∧
  (inb s_2 ((((k).toNat : Nat) : Int) + (IntKind.i64.wrap (k22 - 1)))) ∧
  (pre_sequal (gt s_2 ((((k).toNat : Nat) : Int) + k22)) (gt s_2 ((((k).toNat : Nat) : Int) + (IntKind.i64.wrap (k22 - 1))))) ∧
  ∀ r3 : Bool, r3 = (sp_sequal (gt s_2 ((((k).toNat : Nat) : Int) + k22)) (gt s_2 ((((k).toNat : Nat) : Int) + (IntKind.i64.wrap (k22 - 1))))) →
  ((!r3) = true →
   (inb s_2 k3) ∧
   ∀ d : List (List Int), d = (s_2.set (k3).toNat (gt s_2 ((((k).toNat : Nat) : Int) + k22))) →
   F_compactR_J1 s_2 k3 k22 I2 μ2 d (IntKind.i64.wrap (k3 + 1))) ∧
  ((!r3) = false →
   F_compactR_J1 s_2 k3 k22 I2 μ2 s_2 k3)) ∧
 ((decide (k22 < (((s_.length - (k).toNat) : Nat) : Int))) = false →
  (0 ≤ k3 ∧ k3 ≤ ((s_.length : Nat) : Int)) ∧
  K ((s_2.take (k3).toNat ++ List.replicate (s_.length - (k3).toNat) []).take ((k3).toNat)))
def F_compactR_L1 (s_ : List (List Int)) (K : (List (List Int)) → Prop) (k : Int) (I1 : Int → Prop) (μ1 : Int → Nat) : Prop :=
 ((decide (k < ((s_.length : Nat) : Int))) = true →
  (inb s_ k) ∧
  (inb s_ (IntKind.i64.wrap (k - 1))) ∧
  (pre_sequal (gt s_ k) (gt s_ (IntKind.i64.wrap (k - 1)))) ∧
  ∀ r2 : Bool, r2 = (sp_sequal (gt s_ k) (gt s_ (IntKind.i64.wrap (k - 1)))) →
  ((r2) = true →
   (0 ≤ k ∧ k ≤ ((s_.length : Nat) : Int)) ∧
   ∃ (I2 : Int → Int → (List (List Int)) → Prop) (μ2 : Int → Int → (List (List Int)) → Nat), I2 k 1 s_ ∧ ∀ (k3 : Int) (k22 : Int) (s_2 : List (List Int)), I2 k3 k22 s_2 → F_compactR_L2 s_ K k s_2 k3 k22 I2 μ2) ∧
  ((r2) = false →
   I1 (IntKind.i64.wrap (k + 1)) ∧
 μ1 (IntKind.i64.wrap (k + 1)) < μ1 k)) ∧
 ((decide (k < ((s_.length : Nat) : Int))) = false →
  K s_)
def F_compactR (s_ : List (List Int)) (K : (List (List Int)) → Prop) : Prop :=
 ((decide (((s_.length : Nat) : Int) < 2)) = true →
  K s_) ∧
 ((decide (((s_.length : Nat) : Int) < 2)) = false →
  ∃ (I1 : Int → Prop) (μ1 : Int → Nat), I1 1 ∧ ∀ (k : Int), I1 k → F_compactR_L1 s_ K k I1 μ1)
def F_normal (l : List (List Int)) (K : (List (List Int)) → Prop) : Prop :=
 (pre_sortR l) ∧
 ∀ r2 : List (List Int), r2 = (sp_sortR l) →
 (pre_compactR r2) ∧
 ∀ r3 : List (List Int), r3 = (sp_compactR r2) →
 K r3
def F_worlds_J1 (add : List Int) (t18 : Int) (I2 : Int → (List Int) → Prop) (μ2 : Int → (List Int) → Nat) (add3 : List Int) : Prop :=
 I2 (IntKind.i64.wrap (t18 + 1)) add3 ∧
 μ2 (IntKind.i64.wrap (t18 + 1)) add3 < μ2 t18 add
def F_worlds_L2 (t : Task) (unknown : List Int) (add : List Int) (t18 : Int) (I2 : Int → (List Int) → Prop) (μ2 : Int → (List Int) → Nat) (t13 : Int) (out : List (List Int)) (I1 : Int → (List (List Int)) → Prop) (μ1 : Int → (List (List Int)) → Nat) : Prop :=
 ((decide (t18 < ((unknown.length : Nat) : Int))) = true →
  (inb unknown t18) ∧
  (0 ≤ t18) ∧
  ∀ x2 : Int, x2 = (bits .and .i64 (Int.fdiv t13 (2 ^ (min ((t18 : Int)).toNat (IntKind.bits .i64)))) 1) →
  ((x2 == 1) = true →
   (room ((add ++ ([(gt unknown t18)] : List Int))).length 8) ∧
   F_worlds_J1 add t18 I2 μ2 (add ++ ([(gt unknown t18)] : List Int))) ∧
  ((x2 == 1) = false →
   F_worlds_J1 add t18 I2 μ2 add)) ∧
 ((decide (t18 < ((unknown.length : Nat) : Int))) = false →
  (pre_update t.init add unknown) ∧
  ∀ r2 : List Int, r2 = (sp_update t.init add unknown) →
  (room ((out ++ ([r2] : List (List Int)))).length 24) ∧
  I1 (IntKind.i64.wrap (t13 + 1)) (out ++ ([r2] : List (List Int))) ∧
 μ1 (IntKind.i64.wrap (t13 + 1)) (out ++ ([r2] : List (List Int))) < μ1 t13 out)
def F_worlds_L1 (t : Task) (unknown : List Int) (K : (List (List Int)) → Prop) (x : Int) (t13 : Int) (out : List (List Int)) (I1 : Int → (List (List Int)) → Prop) (μ1 : Int → (List (List Int)) → Nat) : Prop :=
 ((decide (t13 < x)) = true →
  ∃ (I2 : Int → (List Int) → Prop) (μ2 : Int → (List Int) → Nat), I2 0 ([] : List Int) ∧ ∀ (t18 : Int) (add : List Int), I2 t18 add → F_worlds_L2 t unknown add t18 I2 μ2 t13 out I1 μ1) ∧
 ((decide (t13 < x)) = false →
  (pre_normal out) ∧
  ∀ r3 : List (List Int), r3 = (sp_normal out) →
  K r3)
def F_worlds (t : Task) (unknown : List Int) (K : (List (List Int)) → Prop) : Prop :=
 (0 ≤ ((unknown.length : Nat) : Int)) ∧
 ∀ x : Int, x = (IntKind.i64.wrap (1 * 2 ^ (min ((((unknown.length : Nat) : Int) : Int)).toNat (IntKind.bits .i64)))) →
 ∃ (I1 : Int → (List (List Int)) → Prop) (μ1 : Int → (List (List Int)) → Nat), I1 0 ([] : List (List Int)) ∧ ∀ (t13 : Int) (out : List (List Int)), I1 t13 out → F_worlds_L1 t unknown K x t13 out I1 μ1
def F_bafter_L1 (t : Task) (worlds : List (List Int)) (op : Int) (K : (List (List Int)) → Prop) (t12 : Int) (out : List (List Int)) (I1 : Int → (List (List Int)) → Prop) (μ1 : Int → (List (List Int)) → Nat) : Prop :=
 ((decide (t12 < ((worlds.length : Nat) : Int))) = true →
  (inb worlds t12) ∧
  (pre_next t (gt worlds t12) op) ∧
  ∀ r2 : List Int, r2 = (sp_after t (gt worlds t12) op) →
  (room ((out ++ ([r2] : List (List Int)))).length 24) ∧
  I1 (IntKind.i64.wrap (t12 + 1)) (out ++ ([r2] : List (List Int))) ∧
 μ1 (IntKind.i64.wrap (t12 + 1)) (out ++ ([r2] : List (List Int))) < μ1 t12 out) ∧
 ((decide (t12 < ((worlds.length : Nat) : Int))) = false →
  (pre_normal out) ∧
  ∀ r3 : List (List Int), r3 = (sp_normal out) →
  K r3)
def F_bafter (t : Task) (worlds : List (List Int)) (op : Int) (K : (List (List Int)) → Prop) : Prop :=
 ∃ (I1 : Int → (List (List Int)) → Prop) (μ1 : Int → (List (List Int)) → Nat), I1 0 ([] : List (List Int)) ∧ ∀ (t12 : Int) (out : List (List Int)), I1 t12 out → F_bafter_L1 t worlds op K t12 out I1 μ1
def F_succ (_ : Task) (_ : List (List Int)) (K : Unit → Prop) : Prop :=
 K ()
def F_bnext (_ : Task) (K : Unit → Prop) : Prop :=
 K ()
def F_bnext1 (worlds : List (List Int)) (x : Task) (K : Unit → Prop) : Prop :=
 ∀ r2 : Unit, r2 = (sp_succ x worlds) →
 K ()
def F_small1 (_ : List (List Int)) (K : Bool → Prop) : Prop :=
 K false
def F_plan1 (w_ : List (List Int)) (x : Task) (K : Bool → Prop) : Prop :=
 (pre_sure w_ x.goal) ∧
 ∀ r2 : Bool, r2 = (sp_sure w_ x.goal) →
 K r2
def F_breadthS_L2 (K : (List Int × Bool × Bool) → Prop) (i : Int) (out : List Int) (I2 : Int → (List Int) → Prop) (μ2 : Int → (List Int) → Nat) (l : List Entry) : Prop :=
 (inb l i) ∧
 ((decide (0 ≤ ((gt l i).from_))) = true →
  (room ((out ++ ([(gt l i).step] : List Int))).length 8) ∧
  I2 ((gt l i).from_) (out ++ ([(gt l i).step] : List Int)) ∧
 μ2 ((gt l i).from_) (out ++ ([(gt l i).step] : List Int)) < μ2 i out) ∧
 ((decide (0 ≤ ((gt l i).from_))) = false →
  (pre_reverse out) ∧
  ∀ r4 : List Int, r4 = (sp_reverse out) →
  K (r4, true, true))
def F_breadthS_J1 (t9 : Int) (I3 : Int → (List Entry) → (List UInt8 → Int) → Prop) (μ3 : Int → (List Entry) → (List UInt8 → Int) → Nat) (l4 : List Entry) (m3 : List UInt8 → Int) (l6 : List Entry) (m5 : List UInt8 → Int) : Prop :=
 I3 (IntKind.i64.wrap (t9 + 1)) l6 m5 ∧
 μ3 (IntKind.i64.wrap (t9 + 1)) l6 m5 < μ3 t9 l4 m3
def F_breadthS_L3 (x : Task) (K : (List Int × Bool × Bool) → Prop) (x2 : Int) (m : List UInt8 → Int) (t9 : Int) (I3 : Int → (List Entry) → (List UInt8 → Int) → Prop) (μ3 : Int → (List Entry) → (List UInt8 → Int) → Nat) (l4 : List Entry) (m3 : List UInt8 → Int) (l : List Entry) (I1 : Int → (List Entry) → (List UInt8 → Int) → Prop) (μ1 : Int → (List Entry) → (List UInt8 → Int) → Nat) : Prop :=
 ((decide (t9 < ((x.ops.length : Nat) : Int))) = true →
  (inb x.ops t9) ∧
  (pre_sure ((gt l x2).node) ((gt x.ops t9).pre)) ∧
  ∀ r6 : Bool, r6 = (sp_sure ((gt l x2).node) ((gt x.ops t9).pre)) →
  ((r6) = true →
   (pre_bafter x ((gt l x2).node) t9) ∧
   ∀ r7 : List (List Int), r7 = (sp_bafter x ((gt l x2).node) t9) →
   (pre_key r7) ∧
   ∀ r8 : List UInt8, r8 = (sp_key r7) →
   ((decide (0 < (m3 r8))) = true →
    F_breadthS_J1 t9 I3 μ3 l4 m3 l4 m3) ∧
   ((decide (0 < (m3 r8))) = false →
    ((((l4.length : Nat) : Int) == 2000) = true →
     K (([] : List Int), false, false)) ∧
    ((((l4.length : Nat) : Int) == 2000) = false →
     (room ((l4 ++ ([(⟨r7, x2, t9⟩ : Entry)] : List Entry))).length 40) ∧
     F_breadthS_J1 t9 I3 μ3 l4 m3 (l4 ++ ([(⟨r7, x2, t9⟩ : Entry)] : List Entry)) (upd m3 r8 1)))) ∧
  ((r6) = false →
   F_breadthS_J1 t9 I3 μ3 l4 m3 l4 m3)) ∧
 ((decide (t9 < ((x.ops.length : Nat) : Int))) = false →
  I1 (IntKind.i64.wrap (x2 + 1)) l4 m3 ∧
 μ1 (IntKind.i64.wrap (x2 + 1)) l4 m3 < μ1 x2 l m)
def F_breadthS_L1 (x : Task) (K : (List Int × Bool × Bool) → Prop) (x2 : Int) (m : List UInt8 → Int) (l : List Entry) (I1 : Int → (List Entry) → (List UInt8 → Int) → Prop) (μ1 : Int → (List Entry) → (List UInt8 → Int) → Nat) : Prop :=
 ((decide (x2 < ((l.length : Nat) : Int))) = true →
  (inb l x2) ∧
  ∀ r3 : Bool, r3 = (sp_small1 ((gt l x2).node)) →
  ((r3) = true →
   ∃ (I2 : Int → (List Int) → Prop) (μ2 : Int → (List Int) → Nat), I2 x2 ([] : List Int) ∧ ∀ (i : Int) (out : List Int), I2 i out → F_breadthS_L2 K i out I2 μ2 l) ∧
  ((r3) = false →
   ∀ r5 : Unit, r5 = (sp_bnext1 ((gt l x2).node) x) →
   ∃ (I3 : Int → (List Entry) → (List UInt8 → Int) → Prop) (μ3 : Int → (List Entry) → (List UInt8 → Int) → Nat), I3 0 l m ∧ ∀ (t9 : Int) (l4 : List Entry) (m3 : List UInt8 → Int), I3 t9 l4 m3 → F_breadthS_L3 x K x2 m t9 I3 μ3 l4 m3 l I1 μ1)) ∧
 ((decide (x2 < ((l.length : Nat) : Int))) = false →
  K (([] : List Int), false, true))
def F_breadthS (start2 : List (List Int)) (x : Task) (K : (List Int × Bool × Bool) → Prop) : Prop :=
 (pre_key start2) ∧
 ∀ r2 : List UInt8, r2 = (sp_key start2) →
 ∃ (I1 : Int → (List Entry) → (List UInt8 → Int) → Prop) (μ1 : Int → (List Entry) → (List UInt8 → Int) → Nat), I1 0 ([(⟨start2, (-1), 0⟩ : Entry)] : List Entry) (upd (fun _ => 0) r2 1) ∧ ∀ (x2 : Int) (l : List Entry) (m : List UInt8 → Int), I1 x2 l m → F_breadthS_L1 x K x2 m l I1 μ1
def F_breadthP_L2 (K : (List Int × Bool × Bool) → Prop) (i : Int) (out : List Int) (I2 : Int → (List Int) → Prop) (μ2 : Int → (List Int) → Nat) (l : List Entry) : Prop :=
 (inb l i) ∧
 ((decide (0 ≤ ((gt l i).from_))) = true →
  (room ((out ++ ([(gt l i).step] : List Int))).length 8) ∧
  I2 ((gt l i).from_) (out ++ ([(gt l i).step] : List Int)) ∧
 μ2 ((gt l i).from_) (out ++ ([(gt l i).step] : List Int)) < μ2 i out) ∧
 ((decide (0 ≤ ((gt l i).from_))) = false →
  (pre_reverse out) ∧
  ∀ r4 : List Int, r4 = (sp_reverse out) →
  K (r4, true, true))
def F_breadthP_J1 (t9 : Int) (I3 : Int → (List Entry) → (List UInt8 → Int) → Prop) (μ3 : Int → (List Entry) → (List UInt8 → Int) → Nat) (l4 : List Entry) (m3 : List UInt8 → Int) (l6 : List Entry) (m5 : List UInt8 → Int) : Prop :=
 I3 (IntKind.i64.wrap (t9 + 1)) l6 m5 ∧
 μ3 (IntKind.i64.wrap (t9 + 1)) l6 m5 < μ3 t9 l4 m3
def F_breadthP_L3 (x : Task) (K : (List Int × Bool × Bool) → Prop) (x3 : Int) (m : List UInt8 → Int) (t9 : Int) (I3 : Int → (List Entry) → (List UInt8 → Int) → Prop) (μ3 : Int → (List Entry) → (List UInt8 → Int) → Nat) (l4 : List Entry) (m3 : List UInt8 → Int) (l : List Entry) (I1 : Int → (List Entry) → (List UInt8 → Int) → Prop) (μ1 : Int → (List Entry) → (List UInt8 → Int) → Nat) : Prop :=
 ((decide (t9 < ((x.ops.length : Nat) : Int))) = true →
  (inb x.ops t9) ∧
  (pre_sure ((gt l x3).node) ((gt x.ops t9).pre)) ∧
  ∀ r6 : Bool, r6 = (sp_sure ((gt l x3).node) ((gt x.ops t9).pre)) →
  ((r6) = true →
   (pre_bafter x ((gt l x3).node) t9) ∧
   ∀ r7 : List (List Int), r7 = (sp_bafter x ((gt l x3).node) t9) →
   (pre_key r7) ∧
   ∀ r8 : List UInt8, r8 = (sp_key r7) →
   ((decide (0 < (m3 r8))) = true →
    F_breadthP_J1 t9 I3 μ3 l4 m3 l4 m3) ∧
   ((decide (0 < (m3 r8))) = false →
    ((((l4.length : Nat) : Int) == 2000) = true →
     K (([] : List Int), false, false)) ∧
    ((((l4.length : Nat) : Int) == 2000) = false →
     (room ((l4 ++ ([(⟨r7, x3, t9⟩ : Entry)] : List Entry))).length 40) ∧
     F_breadthP_J1 t9 I3 μ3 l4 m3 (l4 ++ ([(⟨r7, x3, t9⟩ : Entry)] : List Entry)) (upd m3 r8 1)))) ∧
  ((r6) = false →
   F_breadthP_J1 t9 I3 μ3 l4 m3 l4 m3)) ∧
 ((decide (t9 < ((x.ops.length : Nat) : Int))) = false →
  I1 (IntKind.i64.wrap (x3 + 1)) l4 m3 ∧
 μ1 (IntKind.i64.wrap (x3 + 1)) l4 m3 < μ1 x3 l m)
def F_breadthP_L1 (x : Task) (x2 : Task) (K : (List Int × Bool × Bool) → Prop) (x3 : Int) (m : List UInt8 → Int) (l : List Entry) (I1 : Int → (List Entry) → (List UInt8 → Int) → Prop) (μ1 : Int → (List Entry) → (List UInt8 → Int) → Nat) : Prop :=
 ((decide (x3 < ((l.length : Nat) : Int))) = true →
  (inb l x3) ∧
  (pre_plan1 ((gt l x3).node) x2) ∧
  ∀ r3 : Bool, r3 = (sp_plan1 ((gt l x3).node) x2) →
  ((r3) = true →
   ∃ (I2 : Int → (List Int) → Prop) (μ2 : Int → (List Int) → Nat), I2 x3 ([] : List Int) ∧ ∀ (i : Int) (out : List Int), I2 i out → F_breadthP_L2 K i out I2 μ2 l) ∧
  ((r3) = false →
   ∀ r5 : Unit, r5 = (sp_bnext1 ((gt l x3).node) x) →
   ∃ (I3 : Int → (List Entry) → (List UInt8 → Int) → Prop) (μ3 : Int → (List Entry) → (List UInt8 → Int) → Nat), I3 0 l m ∧ ∀ (t9 : Int) (l4 : List Entry) (m3 : List UInt8 → Int), I3 t9 l4 m3 → F_breadthP_L3 x K x3 m t9 I3 μ3 l4 m3 l I1 μ1)) ∧
 ((decide (x3 < ((l.length : Nat) : Int))) = false →
  K (([] : List Int), false, true))
def F_breadthP (start2 : List (List Int)) (x : Task) (x2 : Task) (K : (List Int × Bool × Bool) → Prop) : Prop :=
 (pre_key start2) ∧
 ∀ r2 : List UInt8, r2 = (sp_key start2) →
 ∃ (I1 : Int → (List Entry) → (List UInt8 → Int) → Prop) (μ1 : Int → (List Entry) → (List UInt8 → Int) → Nat), I1 0 ([(⟨start2, (-1), 0⟩ : Entry)] : List Entry) (upd (fun _ => 0) r2 1) ∧ ∀ (x3 : Int) (l : List Entry) (m : List UInt8 → Int), I1 x3 l m → F_breadthP_L1 x x2 K x3 m l I1 μ1
def F_small (start2 : List (List Int)) (x : Task) (K : Bool → Prop) : Prop :=
 (pre_breadthS start2 x) ∧
 ∀ r2 : List Int × Bool × Bool, r2 = (sp_breadthS start2 x) →
 K r2.2.2
def F_bplan (t : Task) (unknown : List Int) (K : (List Int × Bool × Fault) → Prop) : Prop :=
 ∀ r2 : Fault, r2 = (sp_unknownFault t unknown) →
 ((!((r2.code == 0) && (r2.index == 0))) = true →
  K (([] : List Int), false, r2)) ∧
 ((!((r2.code == 0) && (r2.index == 0))) = false →
  ∀ r3 : Unit, r3 = (sp_bnext t) →
  (pre_worlds t unknown) ∧
  ∀ r4 : List (List Int), r4 = (sp_worlds t unknown) →
  (pre_small r4 t) ∧
  ∀ r5 : Bool, r5 = (sp_small r4 t) →
  ((!r5) = true →
   K (([] : List Int), false, (⟨10, (-7)⟩ : Fault))) ∧
  ((!r5) = false →
   ∀ r6 : List (List Int), r6 = (sp_worlds t unknown) →
   (pre_breadthP r6 t t) ∧
   ∀ r7 : List Int × Bool × Bool, r7 = (sp_breadthP r6 t t) →
   ((decide (60 < ((r7.1.length : Nat) : Int))) = true →
    K (([] : List Int), false, (⟨10, (-5)⟩ : Fault))) ∧
   ((decide (60 < ((r7.1.length : Nat) : Int))) = false →
    K (r7.1, r7.2.1, (⟨0, 0⟩ : Fault)))))
def F_ints_L1 (a : List Int) (b : List Int) (K : Bool → Prop) (i : Int) (I1 : Int → Prop) (μ1 : Int → Nat) : Prop :=
 ((decide (i < ((a.length : Nat) : Int))) = true →
  (inb a i) ∧
  (inb b i) ∧
  (((gt a i) != (gt b i)) = true →
   K false) ∧
  (((gt a i) != (gt b i)) = false →
   I1 (IntKind.i64.wrap (i + 1)) ∧
 μ1 (IntKind.i64.wrap (i + 1)) < μ1 i)) ∧
 ((decide (i < ((a.length : Nat) : Int))) = false →
  K true)
def F_ints (a : List Int) (b : List Int) (K : Bool → Prop) : Prop :=
 ((((a.length : Nat) : Int) != ((b.length : Nat) : Int)) = true →
  K false) ∧
 ((((a.length : Nat) : Int) != ((b.length : Nat) : Int)) = false →
  ∃ (I1 : Int → Prop) (μ1 : Int → Nat), I1 0 ∧ ∀ (i : Int), I1 i → F_ints_L1 a b K i I1 μ1)
def F_word_L1 (s_ : List Int) (K : Int → Prop) (w_ : Int) (t8 : Int) (I1 : Int → Int → Prop) (μ1 : Int → Int → Nat) : Prop :=
 ((decide (t8 < ((s_.length : Nat) : Int))) = true →
  (inb s_ t8) ∧
  (0 ≤ (gt s_ t8)) ∧
  ∀ x : Int, x = (IntKind.u32.wrap (1 * 2 ^ (min (((gt s_ t8) : Int)).toNat (IntKind.bits .u32)))) →
  I1 (bits .or .u32 w_ x) (IntKind.i64.wrap (t8 + 1)) ∧
 μ1 (bits .or .u32 w_ x) (IntKind.i64.wrap (t8 + 1)) < μ1 w_ t8) ∧
 ((decide (t8 < ((s_.length : Nat) : Int))) = false →
  K w_)
def F_word (s_ : List Int) (K : Int → Prop) : Prop :=
 ∃ (I1 : Int → Int → Prop) (μ1 : Int → Int → Nat), I1 0 0 ∧ ∀ (w_ : Int) (t8 : Int), I1 w_ t8 → F_word_L1 s_ K w_ t8 I1 μ1
def F_facts_J1 (out : List Int) (t5 : Int) (I1 : Int → (List Int) → Prop) (μ1 : Int → (List Int) → Nat) (out3 : List Int) : Prop :=
 I1 (IntKind.i64.wrap (t5 + 1)) out3 ∧
 μ1 (IntKind.i64.wrap (t5 + 1)) out3 < μ1 t5 out
def F_facts_L1 (w_ : Int) (K : (List Int) → Prop) (out : List Int) (t5 : Int) (I1 : Int → (List Int) → Prop) (μ1 : Int → (List Int) → Nat) : Prop :=
 ((decide (t5 < 32)) = true →
  (0 ≤ t5) ∧
  ∀ x : Int, x = (bits .and .u32 (Int.fdiv w_ (2 ^ (min ((t5 : Int)).toNat (IntKind.bits .u32)))) 1) →
  ((x == 1) = true →
   (room ((out ++ ([t5] : List Int))).length 8) ∧
   F_facts_J1 out t5 I1 μ1 (out ++ ([t5] : List Int))) ∧
  ((x == 1) = false →
   F_facts_J1 out t5 I1 μ1 out)) ∧
 ((decide (t5 < 32)) = false →
  K out)
def F_facts (w_ : Int) (K : (List Int) → Prop) : Prop :=
 ∃ (I1 : Int → (List Int) → Prop) (μ1 : Int → (List Int) → Nat), I1 0 ([] : List Int) ∧ ∀ (t5 : Int) (out : List Int), I1 t5 out → F_facts_L1 w_ K out t5 I1 μ1
def F_wcmp (a : Int) (b : Int) (K : Int → Prop) : Prop :=
 (pre_facts a) ∧
 ∀ r2 : List Int, r2 = (sp_facts a) →
 (pre_facts b) ∧
 ∀ r3 : List Int, r3 = (sp_facts b) →
 (pre_scompare r2 r3) ∧
 ∀ r4 : Int, r4 = (sp_scompare r2 r3) →
 K r4
def F_all_J1 (t11 : Int) (m4 : List (Int × Unit)) (I2 : Int → (List Int) → (List (Int × Unit)) → Prop) (μ2 : Int → (List Int) → (List (Int × Unit)) → Nat) (l4 : List Int) (m6 : List (Int × Unit)) (l6 : List Int) : Prop :=
 I2 (IntKind.i64.wrap (t11 + 1)) l6 m6 ∧
 μ2 (IntKind.i64.wrap (t11 + 1)) l6 m6 < μ2 t11 l4 m4
def F_all_L2 (x : WordsT) (K : (List Int × Bool) → Prop) (m2 : List (Int × Unit)) (t11 : Int) (m4 : List (Int × Unit)) (I2 : Int → (List Int) → (List (Int × Unit)) → Prop) (μ2 : Int → (List Int) → (List (Int × Unit)) → Nat) (l4 : List Int) (out : List Int) (l : List Int) (I1 : (List Int) → (List Int) → (List (Int × Unit)) → Prop) (μ1 : (List Int) → (List Int) → (List (Int × Unit)) → Nat) : Prop :=
 ((decide (t11 < ((x.ops.length : Nat) : Int))) = true →
  (inb x.ops t11) ∧
  ∀ x2 : Int, x2 = (bits .and .u32 (gt l (IntKind.i64.wrap (((l.length : Nat) : Int) - 1))) ((gt x.ops t11).pre)) →
  ((x2 == ((gt x.ops t11).pre)) = true →
   ∀ x3 : Int, x3 = (bits .andNot .u32 (gt l (IntKind.i64.wrap (((l.length : Nat) : Int) - 1))) ((gt x.ops t11).del)) →
   ((!((getA m4 (bits .or .u32 x3 ((gt x.ops t11).add))).isSome)) = true →
    ∀ m7 : List (Int × Unit), m7 = (setA m4 (bits .or .u32 x3 ((gt x.ops t11).add)) ()) →
    (room ((l4 ++ ([bits .or .u32 x3 ((gt x.ops t11).add)] : List Int))).length 4) ∧
    F_all_J1 t11 m4 I2 μ2 l4 m7 (l4 ++ ([bits .or .u32 x3 ((gt x.ops t11).add)] : List Int))) ∧
   ((!((getA m4 (bits .or .u32 x3 ((gt x.ops t11).add))).isSome)) = false →
    F_all_J1 t11 m4 I2 μ2 l4 m4 l4)) ∧
  ((x2 == ((gt x.ops t11).pre)) = false →
   F_all_J1 t11 m4 I2 μ2 l4 m4 l4)) ∧
 ((decide (t11 < ((x.ops.length : Nat) : Int))) = false →
  ((decide (2000 < ((m4.length : Nat) : Int))) = true →
   K (([] : List Int), false)) ∧
  ((decide (2000 < ((m4.length : Nat) : Int))) = false →
   I1 (out ++ ([(gt l (IntKind.i64.wrap (((l.length : Nat) : Int) - 1)))] : List Int)) l4 m4 ∧
 μ1 (out ++ ([(gt l (IntKind.i64.wrap (((l.length : Nat) : Int) - 1)))] : List Int)) l4 m4 < μ1 out l m2))
def F_all_L1 (x : WordsT) (K : (List Int × Bool) → Prop) (m2 : List (Int × Unit)) (out : List Int) (l : List Int) (I1 : (List Int) → (List Int) → (List (Int × Unit)) → Prop) (μ1 : (List Int) → (List Int) → (List (Int × Unit)) → Nat) : Prop :=
 ((decide (0 < ((l.length : Nat) : Int))) = true →
  (inb l (IntKind.i64.wrap (((l.length : Nat) : Int) - 1))) ∧
  (0 ≤ (IntKind.i64.wrap (((l.length : Nat) : Int) - 1)) ∧ (IntKind.i64.wrap (((l.length : Nat) : Int) - 1)) ≤ ((l.length : Nat) : Int)) ∧
  ∀ d : List Int, d = (l.take (IntKind.i64.wrap (((l.length : Nat) : Int) - 1)).toNat) →
  (room ((out ++ ([(gt l (IntKind.i64.wrap (((l.length : Nat) : Int) - 1)))] : List Int))).length 4) ∧
  ∃ (I2 : Int → (List Int) → (List (Int × Unit)) → Prop) (μ2 : Int → (List Int) → (List (Int × Unit)) → Nat), I2 0 d m2 ∧ ∀ (t11 : Int) (l4 : List Int) (m4 : List (Int × Unit)), I2 t11 l4 m4 → F_all_L2 x K m2 t11 m4 I2 μ2 l4 out l I1 μ1) ∧
 ((decide (0 < ((l.length : Nat) : Int))) = false →
  K (out, true))
def F_all (x : WordsT) (K : (List Int × Bool) → Prop) : Prop :=
 ∀ m : List (Int × Unit), m = (setA ([] : List (Int × Unit)) x.start ()) →
 ∃ (I1 : (List Int) → (List Int) → (List (Int × Unit)) → Prop) (μ1 : (List Int) → (List Int) → (List (Int × Unit)) → Nat), I1 ([] : List Int) ([x.start] : List Int) m ∧ ∀ (out : List Int) (l : List Int) (m2 : List (Int × Unit)), I1 out l m2 → F_all_L1 x K m2 out l I1 μ1
def F_brplan_L3 (K : (List Int × Bool × Fault) → Prop) (r3 : Int) (s_ : Int) (out : List Int) (I3 : Int → (List Int) → Prop) (μ3 : Int → (List Int) → Nat) (m2 : List (Int × Back)) : Prop :=
 ((s_ != r3) = true →
  (room ((out ++ ([((getA m2 s_).getD (default : Back)).op] : List Int))).length 8) ∧
  I3 (((getA m2 s_).getD (default : Back)).from_) (out ++ ([((getA m2 s_).getD (default : Back)).op] : List Int)) ∧
 μ3 (((getA m2 s_).getD (default : Back)).from_) (out ++ ([((getA m2 s_).getD (default : Back)).op] : List Int)) < μ3 s_ out) ∧
 ((s_ != r3) = false →
  (pre_reverse out) ∧
  ∀ r10 : List Int, r10 = (sp_reverse out) →
  ((decide (60 < ((out.length : Nat) : Int))) = true →
   K (([] : List Int), false, (⟨10, (-9)⟩ : Fault))) ∧
  ((decide (60 < ((out.length : Nat) : Int))) = false →
   K (r10, true, (⟨0, 0⟩ : Fault))))
def F_brplan_J1 (v : Int) (m4 : List (Int × Back)) (I4 : Int → (List (Int × Back)) → (List Int) → Prop) (μ4 : Int → (List (Int × Back)) → (List Int) → Nat) (l6 : List Int) (m6 : List (Int × Back)) (l8 : List Int) : Prop :=
 I4 (IntKind.i64.wrap (v + 1)) m6 l8 ∧
 μ4 (IntKind.i64.wrap (v + 1)) m6 l8 < μ4 v m4 l6
def F_brplan_L4 (l : List Masks) (m2 : List (Int × Back)) (v : Int) (m4 : List (Int × Back)) (I4 : Int → (List (Int × Back)) → (List Int) → Prop) (μ4 : Int → (List (Int × Back)) → (List Int) → Nat) (l6 : List Int) (l3 : List Int) (I2 : (List (Int × Back)) → (List Int) → Prop) (μ2 : (List (Int × Back)) → (List Int) → Nat) : Prop :=
 ((decide (v < ((l.length : Nat) : Int))) = true →
  (inb l v) ∧
  ∀ x : Bool, x = ((bits .and .u32 (gt l3 (0 : Int)) ((gt l v).pre)) == ((gt l v).pre)) →
  ((x) = true →
   ∀ x2 : Int, x2 = (bits .or .u32 (bits .andNot .u32 (gt l3 (0 : Int)) ((gt l v).del)) ((gt l v).add)) →
   ((!((getA m4 x2).isSome)) = true →
    ∀ m7 : List (Int × Back), m7 = (setA m4 x2 (⟨(gt l3 (0 : Int)), v⟩ : Back)) →
    (room ((l6 ++ ([x2] : List Int))).length 4) ∧
    F_brplan_J1 v m4 I4 μ4 l6 m7 (l6 ++ ([x2] : List Int))) ∧
   ((!((getA m4 x2).isSome)) = false →
    F_brplan_J1 v m4 I4 μ4 l6 m4 l6)) ∧
  ((x) = false →
   F_brplan_J1 v m4 I4 μ4 l6 m4 l6)) ∧
 ((decide (v < ((l.length : Nat) : Int))) = false →
  I2 m4 l6 ∧
 μ2 m4 l6 < μ2 m2 l3)
def F_brplan_L2 (K : (List Int × Bool × Fault) → Prop) (r3 : Int) (r4 : Int) (l : List Masks) (m2 : List (Int × Back)) (l3 : List Int) (I2 : (List (Int × Back)) → (List Int) → Prop) (μ2 : (List (Int × Back)) → (List Int) → Nat) : Prop :=
 ((decide (0 < ((l3.length : Nat) : Int))) = true →
  (inb l3 (0 : Int)) ∧
  (0 ≤ (1 : Int) ∧ (1 : Int) ≤ ((l3.length : Nat) : Int)) ∧
  ∀ d : List Int, d = (l3.drop ((1 : Int)).toNat) →
  (((bits .and .u32 (gt l3 (0 : Int)) r4) == r4) = true →
   ∃ (I3 : Int → (List Int) → Prop) (μ3 : Int → (List Int) → Nat), I3 (gt l3 (0 : Int)) ([] : List Int) ∧ ∀ (s_ : Int) (out : List Int), I3 s_ out → F_brplan_L3 K r3 s_ out I3 μ3 m2) ∧
  (((bits .and .u32 (gt l3 (0 : Int)) r4) == r4) = false →
   ∃ (I4 : Int → (List (Int × Back)) → (List Int) → Prop) (μ4 : Int → (List (Int × Back)) → (List Int) → Nat), I4 0 m2 d ∧ ∀ (v : Int) (m4 : List (Int × Back)) (l6 : List Int), I4 v m4 l6 → F_brplan_L4 l m2 v m4 I4 μ4 l6 l3 I2 μ2)) ∧
 ((decide (0 < ((l3.length : Nat) : Int))) = false →
  ((decide (60 < ((0 : Nat) : Int))) = true →
   K (([] : List Int), false, (⟨10, (-9)⟩ : Fault))) ∧
  ((decide (60 < ((0 : Nat) : Int))) = false →
   K (([] : List Int), false, (⟨0, 0⟩ : Fault))))
def F_brplan_L1 (t : Task) (K : (List Int × Bool × Fault) → Prop) (r3 : Int) (r4 : Int) (t17 : Int) (l : List Masks) (I1 : Int → (List Masks) → Prop) (μ1 : Int → (List Masks) → Nat) : Prop :=
 ((decide (t17 < ((t.ops.length : Nat) : Int))) = true →
  (inb t.ops t17) ∧
  (pre_word ((gt t.ops t17).pre)) ∧
  ∀ r5 : Int, r5 = (sp_word ((gt t.ops t17).pre)) →
  (pre_word ((gt t.ops t17).add)) ∧
  ∀ r6 : Int, r6 = (sp_word ((gt t.ops t17).add)) →
  (pre_word ((gt t.ops t17).del)) ∧
  ∀ r7 : Int, r7 = (sp_word ((gt t.ops t17).del)) →
  (room ((l ++ ([(⟨r5, r6, r7, (gt t.ops t17).cost⟩ : Masks)] : List Masks))).length 24) ∧
  I1 (IntKind.i64.wrap (t17 + 1)) (l ++ ([(⟨r5, r6, r7, (gt t.ops t17).cost⟩ : Masks)] : List Masks)) ∧
 μ1 (IntKind.i64.wrap (t17 + 1)) (l ++ ([(⟨r5, r6, r7, (gt t.ops t17).cost⟩ : Masks)] : List Masks)) < μ1 t17 l) ∧
 ((decide (t17 < ((t.ops.length : Nat) : Int))) = false →
  (pre_all (⟨r3, r4, l⟩ : WordsT)) ∧
  ∀ r8 : List Int × Bool, r8 = (sp_all (⟨r3, r4, l⟩ : WordsT)) →
  ((!r8.2) = true →
   K (([] : List Int), false, (⟨10, (-7)⟩ : Fault))) ∧
  ((!r8.2) = false →
   (pre_sortW r8.1) ∧
   ∀ r9 : List Int, r9 = (sp_sortW r8.1) →
   ∀ m : List (Int × Back), m = (setA ([] : List (Int × Back)) r3 (⟨r3, 0⟩ : Back)) →
   ∃ (I2 : (List (Int × Back)) → (List Int) → Prop) (μ2 : (List (Int × Back)) → (List Int) → Nat), I2 m ([r3] : List Int) ∧ ∀ (m2 : List (Int × Back)) (l3 : List Int), I2 m2 l3 → F_brplan_L2 K r3 r4 l m2 l3 I2 μ2))
def F_brplan (t : Task) (K : (List Int × Bool × Fault) → Prop) : Prop :=
 ∀ r2 : Fault, r2 = (sp_validate t) →
 ((!((r2.code == 0) && (r2.index == 0))) = true →
  K (([] : List Int), false, r2)) ∧
 ((!((r2.code == 0) && (r2.index == 0))) = false →
  (pre_word t.init) ∧
  ∀ r3 : Int, r3 = (sp_word t.init) →
  (pre_word t.goal) ∧
  ∀ r4 : Int, r4 = (sp_word t.goal) →
  ∃ (I1 : Int → (List Masks) → Prop) (μ1 : Int → (List Masks) → Nat), I1 0 ([] : List Masks) ∧ ∀ (t17 : Int) (l : List Masks), I1 t17 l → F_brplan_L1 t K r3 r4 t17 l I1 μ1)
def F_optimalL (t : Task) (K : (Int × Fault) → Prop) : Prop :=
 (t = (⟨2, ([] : List Int), ([0, 1] : List Int), ([(⟨([] : List Int), ([0, 1] : List Int), ([] : List Int), 2⟩ : Operator)] : List Operator)⟩ : Task)) ∧
 ∀ r2 : Fault, r2 = (sp_validate (⟨2, ([] : List Int), ([0, 1] : List Int), ([(⟨([] : List Int), ([0, 1] : List Int), ([] : List Int), 2⟩ : Operator)] : List Operator)⟩ : Task)) →
 (pre_word ([] : List Int)) ∧
 ∀ r3 : Int, r3 = (sp_word ([] : List Int)) →
 (pre_word ([0, 1] : List Int)) ∧
 ∀ r4 : Int, r4 = (sp_word ([0, 1] : List Int)) →
 ∀ r5 : Int, r5 = (sp_word ([] : List Int)) →
 ∀ r6 : Int, r6 = (sp_word ([0, 1] : List Int)) →
 ∀ r7 : Int, r7 = (sp_word ([] : List Int)) →
 (pre_all (⟨0, 3, ([(⟨0, 3, 0, 2⟩ : Masks)] : List Masks)⟩ : WordsT)) ∧
 ∀ r8 : List Int × Bool, r8 = (sp_all (⟨0, 3, ([(⟨0, 3, 0, 2⟩ : Masks)] : List Masks)⟩ : WordsT)) →
 (pre_sortW ([0, 3] : List Int)) ∧
 ∀ r9 : List Int, r9 = (sp_sortW ([0, 3] : List Int)) →
 K (2, (⟨0, 0⟩ : Fault))
def F_h11Solved (K : Bool → Prop) : Prop :=
 ∀ r2 : List Int × Bool × Fault, r2 = (sp_bplan (⟨1, [], ([0] : List Int), ([(⟨[], ([0] : List Int), [], 2⟩ : Operator)] : List Operator)⟩ : Task) []) →
 ∀ r3 : Fault, r3 = (sp_validate (⟨1, [], ([0] : List Int), ([(⟨[], ([0] : List Int), [], 2⟩ : Operator)] : List Operator)⟩ : Task)) →
 ∀ r4 : Fault, r4 = (sp_validate (⟨1, [], ([0] : List Int), ([(⟨[], ([0] : List Int), [], 2⟩ : Operator)] : List Operator)⟩ : Task)) →
 (pre_clone []) ∧
 ∀ r5 : List Int, r5 = (sp_clone []) →
 (pre_clone ([0] : List Int)) ∧
 ∀ r6 : List Int, r6 = (sp_clone ([0] : List Int)) →
 (pre_clone ([] : List Int)) ∧
 ∀ r7 : List Int, r7 = (sp_clone ([] : List Int)) →
 ∀ r8 : List Int, r8 = (sp_clone ([0] : List Int)) →
 ∀ r9 : List Int, r9 = (sp_clone ([] : List Int)) →
 (pre_optimalL (⟨2, ([] : List Int), ([0, 1] : List Int), ([(⟨([] : List Int), ([0, 1] : List Int), ([] : List Int), 2⟩ : Operator)] : List Operator)⟩ : Task)) ∧
 ∀ r10 : Int × Fault, r10 = (sp_optimalL (⟨2, ([] : List Int), ([0, 1] : List Int), ([(⟨([] : List Int), ([0, 1] : List Int), ([] : List Int), 2⟩ : Operator)] : List Operator)⟩ : Task)) →
 (pre_ints ([0] : List Int) ([0] : List Int)) ∧
 ∀ r11 : Bool, r11 = (sp_ints ([0] : List Int) ([0] : List Int)) →
 K true
def F_lawKnownBeliefs_J1 (K : Bool → Prop) (r2 : List Int × Bool × Fault) (r3 : List Int × Bool × Fault) (t28 : Bool) : Prop :=
 ((t28) = true →
  ∀ r4 : Bool, r4 = sp_h11Solved →
  K r4) ∧
 ((t28) = false →
  ((r2.2.1 == r3.2.1) = true →
   ((((r2.1.length : Nat) : Int) == ((r3.1.length : Nat) : Int)) = true →
    ∀ r5 : Bool, r5 = sp_h11Solved →
    K r5) ∧
   ((((r2.1.length : Nat) : Int) == ((r3.1.length : Nat) : Int)) = false →
    K false)) ∧
  ((r2.2.1 == r3.2.1) = false →
   K false))
def F_lawKnownBeliefs (t : Task) (K : Bool → Prop) : Prop :=
 ∀ r2 : List Int × Bool × Fault, r2 = (sp_bplan t []) →
 ∀ r3 : List Int × Bool × Fault, r3 = (sp_brplan t) →
 ((r2.2.2.code != 0) = true →
  F_lawKnownBeliefs_J1 K r2 r3 true) ∧
 ((r2.2.2.code != 0) = false →
  F_lawKnownBeliefs_J1 K r2 r3 (r3.2.2.code != 0))
end Go.Proofs.YtimillpakjgnoaaGreatDoor.Pl

namespace Go.Proofs.YtimillpakjgnoaaGreatDoor.Pl
open Go Go.RowKit
theorem rowL_len {s : List Int} (h : ∀ x ∈ s, -9223372036854775808 ≤ x ∧ x ≤ 9223372036854775807) : (rowL s).length ≤ 22 * s.length := by
 induction s with
 | nil => simp [rowL]
 | cons x r ih =>
  have h1 := Lib.itoa_length_le x (h x List.mem_cons_self).1 (h x List.mem_cons_self).2
  have h2 := ih fun y hy => h y (List.mem_cons_of_mem _ hy)
  have e : rowL (x :: r) = (Lib.itoa x ++ [44]) ++ rowL r := rfl
  rw [e]; simp; omega
theorem keyL_len {l : List (List Int)} (h : ∀ s ∈ l, s.length ≤ 1000 ∧ ∀ x ∈ s, -9223372036854775808 ≤ x ∧ x ≤ 9223372036854775807) : (keyL l).length ≤ 22001 * l.length := by
 induction l with
 | nil => simp [keyL]
 | cons s r ih =>
  have h1 := rowL_len (h s List.mem_cons_self).2
  have h0 := (h s List.mem_cons_self).1
  have h2 := ih fun y hy => h y (List.mem_cons_of_mem _ hy)
  have e : keyL (s :: r) = (rowL s ++ [59]) ++ keyL r := rfl
  rw [e]; simp; omega
theorem rowL_take {s : List Int} {j : Nat} (h : j < s.length) : rowL (s.take (j + 1)) = rowL (s.take j) ++ (Lib.itoa (gt s j) ++ [44]) := by
 rw [takeN_gt h]; simp [rowL]
theorem keyL_take {l : List (List Int)} {k : Nat} (h : k < l.length) : keyL (l.take (k + 1)) = keyL (l.take k) ++ (rowL (gt l k) ++ [59]) := by
 rw [takeN_gt h]; simp [keyL]
theorem ok_key : ∀ (l : List (List Int)), pre_key l → F_key l (fun r => r = sp_key l) := fun l ⟨hl, hp⟩ => by
 unfold F_key
 refine ⟨fun t b => ∃ k : Nat, t = k ∧ k ≤ l.length ∧ b = keyL (l.take k), fun t _ => (l.length - t).toNat, ⟨0, rfl, Nat.zero_le _, rfl⟩, ?_⟩
 rintro _ _ ⟨k, rfl, k1, rfl⟩
 unfold F_key_L1
 simp only [decide_eq_true_eq, decide_eq_false_iff_not]
 refine ⟨fun h => ?_, fun h => ?_⟩
 ·have hk : k < l.length := by omega
  have hrow := hp _ (gt_memN hk)
  have hkl := keyL_len (l := l.take k) fun s hs => hp s (List.mem_of_mem_take hs)
  rw [List.length_take] at hkl
  refine ⟨⟨by omega, h⟩, fun t b => ∃ j : Nat, t = j ∧ j ≤ (gt l k).length ∧ b = keyL (l.take k) ++ rowL ((gt l k).take j), fun t _ => ((gt l k).length - t).toNat, ⟨0, rfl, Nat.zero_le _, by simp [rowL]⟩, ?_⟩
  rintro _ _ ⟨j, rfl, j1, rfl⟩
  unfold F_key_L2
  simp only [decide_eq_true_eq, decide_eq_false_iff_not]
  have hrl := rowL_len (s := (gt l k).take j) fun x hx => hrow.2 x (List.mem_of_mem_take hx)
  rw [List.length_take] at hrl
  refine ⟨fun g => ?_, fun g => ?_⟩
  ·have hj : j < (gt l k).length := by omega
   have hx := hrow.2 _ (gt_memN hj)
   have hil := Lib.itoa_length_le _ hx.1 hx.2
   rw [w64 (by omega)]
   refine ⟨⟨by omega, g⟩, hx, by rw [List.length_append]; omega, ⟨?_, ?_⟩, ⟨j + 1, by omega, by omega, by rw [rowL_take hj]; simp⟩, show (((gt l k).length : Int) - ((j : Int) + 1)).toNat < (((gt l k).length : Int) - (j : Int)).toNat by omega⟩
   ·simp only [List.length_append, List.length_singleton, maxLen]; omega
   ·simp only [List.length_append, List.length_singleton]; omega
  ·have ej : (gt l k).take j = gt l k := List.take_of_length_le (by omega)
   rw [ej] at hrl ⊢
   rw [w64 (by omega)]
   refine ⟨⟨?_, ?_⟩, ⟨k + 1, by omega, by omega, by rw [keyL_take hk, List.append_assoc]⟩, show ((l.length : Int) - ((k : Int) + 1)).toNat < ((l.length : Int) - (k : Int)).toNat by omega⟩
   ·simp only [List.length_append, List.length_singleton, maxLen]; omega
   ·simp only [List.length_append, List.length_singleton]; omega
 ·rw [List.take_of_length_le (by omega)]; rfl
end Go.Proofs.YtimillpakjgnoaaGreatDoor.Pl

namespace Go.Proofs.YtimillpakjgnoaaGreatDoor.Pl
open Go Go.RowKit
theorem ok_isNaN1 : ∀ (x : Int), F_isNaN1 x (fun r => r = sp_isNaN1 x) := fun x => by
 show (x != x) = false
 simp
theorem ok_isNaN2 : ∀ (x : Int), F_isNaN2 x (fun r => r = sp_isNaN1 x) := fun x => by
 show (x != x) = false
 simp
theorem ok_less : ∀ (x : Int) (y : Int), F_less x y (fun r => r = sp_less x y) := fun x y => by
 unfold F_less
 simp only [forall_eq, sp_isNaN1]
 exact ⟨fun h => absurd h (by decide), fun _ => rfl⟩
theorem ok_indexF : ∀ (s_ : List Int) (pf : Int → Bool) (Df : Int → Prop), pre_any s_ pf Df → F_indexF s_ pf Df (fun r => r = sp_indexF s_ pf Df) := fun xs p D ⟨hl, hD⟩ => by
 refine ⟨fun t => 0 ≤ t ∧ t ≤ xs.length ∧ ∀ x ∈ xs.take t.toNat, p x = false, fun t => (xs.length - t).toNat, ⟨Int.le_refl _, by omega, by simp⟩, ?_⟩
 rintro t ⟨h0, h1, h2⟩
 unfold F_indexF_L1
 obtain ⟨k1, k2⟩ := any_split h0 h2
 simp only [decide_eq_true_eq, decide_eq_false_iff_not, forall_eq]
 refine ⟨fun h => ⟨⟨h0, h⟩, hD _ (gt_mem ⟨h0, h⟩), fun q => (k1 h q).symm, fun q => ?_⟩, fun h => (k2 h).symm⟩
 rw [w64 (by omega)]
 exact ⟨⟨by omega, by omega, any_next h0 h2 h q⟩, by omega⟩
theorem ok_containsF : ∀ (s_ : List Int) (pf : Int → Bool) (Df : Int → Prop), pre_any s_ pf Df → F_containsF s_ pf Df (fun r => r = sp_any s_ pf Df) := fun xs p D hp => by
 refine ⟨hp, fun r hr => ?_⟩
 rw [hr]
 show decide (0 ≤ sp_indexF xs p D) = sp_any xs p D
 unfold sp_indexF sp_any
 cases h : xs.any p
 ·simp
 ·simp
end Go.Proofs.YtimillpakjgnoaaGreatDoor.Pl

namespace Go.Proofs.YtimillpakjgnoaaGreatDoor.Pl
open Go Go.RowKit
theorem half {n : Int} (h0 : 0 ≤ n) (h1 : n ≤ 100000) : IntKind.i64.wrap (Int.fdiv (IntKind.u64.wrap (IntKind.i64.wrap n)) (2 ^ (min ((1 : Int)).toNat (IntKind.bits .u64)))) = n / 2 := by
 have e : (2 : Int) ^ (min ((1 : Int)).toNat (IntKind.bits .u64)) = 2 := by decide
 rw [e, w64 (n := n) (by omega), IntKind.wrap_u64, Int.fdiv_eq_ediv_of_nonneg _ (by omega), w64 (by omega)]
 omega
theorem filter_lt {x : List Int} {t : Int} {i : Nat} (hi : i ≤ x.length) (h1 : ∀ p : Nat, p < i → gt x (p : Int) < t) (h2 : ∀ p : Nat, i ≤ p → p < x.length → t ≤ gt x (p : Int)) : (x.filter fun a => decide (a < t)).length = i := by
 have e1 : (x.take i).filter (fun a => decide (a < t)) = x.take i := List.filter_eq_self.2 fun a ha => by
  obtain ⟨p, hp, rfl⟩ := List.mem_take_iff_getElem.1 ha
  have := h1 p (by omega)
  rw [gt_of ⟨by omega, by omega⟩] at this
  simpa using this
 have e2 : (x.drop i).filter (fun a => decide (a < t)) = [] := List.filter_eq_nil_iff.2 fun a ha => by
  obtain ⟨p, hp, rfl⟩ := List.mem_drop_iff_getElem.1 ha
  have := h2 (i + p) (by omega) (by omega)
  rw [gt_of ⟨by omega, by omega⟩] at this
  simp only [Int.toNat_natCast] at this
  simpa [Nat.add_comm] using this
 conv => lhs; rw [← List.take_append_drop i x]
 rw [List.filter_append, e1, e2, List.append_nil, List.length_take]
 omega
theorem sorted_gt {x : List Int} (hs : x.Pairwise (· < ·)) {p q : Nat} (hpq : p < q) (hq : q < x.length) : gt x (p : Int) < gt x (q : Int) := by
 rw [gt_of ⟨by omega, by omega⟩, gt_of ⟨by omega, by omega⟩]
 exact List.pairwise_iff_getElem.1 hs _ _ _ _ (by simpa using hpq)
theorem ok_bsearch : ∀ (x : List Int) (target : Int), pre_bsearch x target → F_bsearch x target (fun r => r = sp_bsearch x target) := fun x t ⟨hs, hl⟩ => by
 refine ⟨fun i j => ∃ a b : Nat, i = a ∧ j = b ∧ a ≤ b ∧ b ≤ x.length ∧ (∀ p : Nat, p < a → gt x (p : Int) < t) ∧ ∀ p : Nat, b ≤ p → p < x.length → t ≤ gt x (p : Int), fun i j => (j - i).toNat, ⟨0, x.length, rfl, rfl, by omega, by omega, fun p hp => by omega, fun p h1 h2 => by omega⟩, ?_⟩
 rintro _ _ ⟨a, b, rfl, rfl, hab, hb, h1, h2⟩
 unfold F_bsearch_L1
 simp only [decide_eq_true_eq, decide_eq_false_iff_not, forall_eq, beq_iff_eq, beq_eq_false_iff_ne, ne_eq, sp_isNaN1, sp_less]
 have ew := half (n := (a : Int) + b) (by omega) (by omega)
 refine ⟨fun h => ?_, fun h => ?_⟩
 ·rw [ew]
  have em : ((a : Int) + b) / 2 = ((a + b) / 2 : Nat) := by omega
  rw [em]
  have hm : (a + b) / 2 < b := by omega
  refine ⟨⟨by omega, by omega⟩, fun q => ?_, fun q => ?_⟩
  ·rw [w64 (by omega)]
   refine ⟨⟨(a + b) / 2 + 1, b, by omega, rfl, by omega, hb, fun p hp => ?_, h2⟩, by omega⟩
   rcases Nat.lt_or_ge p ((a + b) / 2) with g | g
   ·exact Int.lt_trans (sorted_gt hs g (by omega)) q
   ·rw [show p = (a + b) / 2 by omega]; exact q
  ·refine ⟨⟨a, (a + b) / 2, rfl, rfl, by omega, by omega, h1, fun p g1 g2 => ?_⟩, by omega⟩
   rcases Nat.lt_or_ge ((a + b) / 2) p with g | g
   ·have := sorted_gt hs g g2
    omega
   ·rw [show p = (a + b) / 2 by omega]; omega
 ·have e : a = b := by omega
  subst e
  have hf := filter_lt hb h1 h2
  have hm : (t ∈ x) ↔ a < x.length ∧ gt x (a : Int) = t := by
   constructor
   ·intro hx
    obtain ⟨p, hp, e⟩ := mem_gt hx
    rcases Nat.lt_trichotomy p a with g | g | g
    ·have := h1 p g; omega
    ·subst g; exact ⟨hp, e⟩
    ·have := sorted_gt hs g hp
     have := h2 a (Nat.le_refl _) (by omega)
     omega
   ·rintro ⟨g1, g2⟩
    exact g2 ▸ gt_memN g1
  unfold sp_bsearch
  rw [hf]
  refine ⟨fun g => ⟨⟨by omega, g⟩, fun q => ?_, fun q => ⟨fun g => absurd g (by decide), fun _ => ?_⟩⟩, fun g => ?_⟩
  ·rw [decide_eq_true (hm.2 ⟨by omega, q⟩)]
  ·rw [decide_eq_false fun k => q (hm.1 k).2]
  ·rw [decide_eq_false fun k => g (by have := (hm.1 k).1; omega)]
def SetTo (l : List Int) (n : Int) (k : Nat) : Prop := ∀ p : Nat, p < k → (0 ≤ gt l (p : Int) ∧ gt l (p : Int) < n) ∧ (0 < p → gt l ((p - 1 : Nat) : Int) < gt l (p : Int))
theorem SetTo.pair {l : List Int} {n : Int} {k : Nat} (h : SetTo l n k) : ∀ q : Nat, q < k → ∀ p : Nat, p < q → gt l (p : Int) < gt l (q : Int)
 | 0, _, p, hp => by omega
 | q + 1, hq, p, hp => by
  have h1 := (h (q + 1) hq).2 (by omega)
  rw [Nat.add_sub_cancel] at h1
  rcases Nat.lt_or_ge p q with g | g
  ·exact Int.lt_trans (h.pair q (by omega) p g) h1
  ·rw [show p = q by omega]; exact h1
theorem SetTo.all {l : List Int} {n : Int} (h : SetTo l n l.length) : sp_isSet l n = true := decide_eq_true ⟨List.pairwise_iff_getElem.2 fun p q hp hq hpq => by
  have := h.pair q hq p hpq
  rw [gt_of ⟨by omega, by omega⟩, gt_of ⟨by omega, by omega⟩] at this
  simpa using this, fun x hx => by
  obtain ⟨p, hp, rfl⟩ := mem_gt hx
  exact (h p hp).1⟩
theorem setTo_of {l : List Int} {n : Int} (h : sp_isSet l n = true) : SetTo l n l.length := fun p hp =>
 ⟨(of_decide_eq_true h).2 _ (gt_memN hp), fun h0 => sorted_gt (of_decide_eq_true h).1 (by omega) hp⟩
theorem not_setTo {l : List Int} {n : Int} {k : Nat} (hk : k < l.length) (h : ¬ SetTo l n (k + 1)) : sp_isSet l n = false := by
 cases e : sp_isSet l n
 ·rfl
 ·exact absurd (fun p hp => setTo_of e p (by omega)) h
theorem SetTo.small {l : List Int} {n : Int} (hn : 0 ≤ n) : ∀ {k : Nat}, SetTo l n k → (k : Int) ≤ n ∧ (0 < k → (k : Int) ≤ gt l ((k - 1 : Nat) : Int) + 1)
 | 0, _ => ⟨by omega, fun h => by omega⟩
 | k + 1, h => by
  have ih := SetTo.small hn (k := k) (fun p hp => h p (by omega))
  have h1 := h k (by omega)
  rw [Nat.add_sub_cancel]
  rcases Nat.eq_zero_or_pos k with rfl | q
  ·constructor
   ·have := h1.1; omega
   ·intro _; have := h1.1; omega
  ·have h2 := h1.2 q
   have h3 := ih.2 q
   constructor
   ·have := h1.1; omega
   ·intro _; omega
theorem setTo_next {l : List Int} {n : Int} {k : Nat} (h : SetTo l n k) : SetTo l n (k + 1) ↔ (0 ≤ gt l (k : Int) ∧ gt l (k : Int) < n) ∧ (0 < k → gt l ((k - 1 : Nat) : Int) < gt l (k : Int)) := by
 refine ⟨fun g => g k (by omega), fun g p hp => ?_⟩
 rcases Nat.lt_or_ge p k with q | q
 ·exact h p q
 ·rw [show p = k by omega]; exact g
theorem ok_isSet : ∀ (l : List Int) (n_ : Int), pre_isSet l n_ → F_isSet l n_ (fun r => r = sp_isSet l n_) := fun l n ⟨n0, n1⟩ => by
 refine ⟨fun t => ∃ k : Nat, t = k ∧ k ≤ l.length ∧ SetTo l n k, fun t => (l.length - t).toNat, ⟨0, rfl, Nat.zero_le _, fun p hp => by omega⟩, ?_⟩
 rintro _ ⟨k, rfl, k1, k2⟩
 unfold F_isSet_L1 F_isSet_J1
 simp only [decide_eq_true_eq, decide_eq_false_iff_not]
 have hk := k2.small n0
 rw [w64 (n := (k : Int) + 1) (by omega)]
 refine ⟨fun h => ?_, fun h => ?_⟩
 ·have bad : ¬ ((0 ≤ gt l (k : Int) ∧ gt l (k : Int) < n) ∧ (0 < k → gt l ((k - 1 : Nat) : Int) < gt l (k : Int))) → false = sp_isSet l n := fun q => (not_setTo (k := k) (by omega) (fun g => q ((setTo_next k2).1 g))).symm
  have good : ((0 ≤ gt l (k : Int) ∧ gt l (k : Int) < n) ∧ (0 < k → gt l ((k - 1 : Nat) : Int) < gt l (k : Int))) → (∃ k' : Nat, (k : Int) + 1 = k' ∧ k' ≤ l.length ∧ SetTo l n k') ∧ ((l.length : Int) - (k + 1)).toNat < ((l.length : Int) - k).toNat := fun q => ⟨⟨k + 1, by omega, by omega, (setTo_next k2).2 q⟩, by omega⟩
  refine ⟨⟨by omega, h⟩, fun q => ⟨fun _ => bad fun g => ?_, fun g => absurd g (by decide)⟩, fun q => ⟨fun q2 => ⟨fun _ => bad fun g => ?_, fun g => absurd g (by decide)⟩, fun q2 => ⟨fun q3 => ?_, fun q3 => ⟨fun g => absurd g (by decide), fun _ => good ⟨by omega, fun q4 => by omega⟩⟩⟩⟩⟩
  ·have := g.1.1; omega
  ·have := g.1.2; omega
  ·rw [w64 (by omega), show ((k : Int) - 1) = ((k - 1 : Nat) : Int) by omega]
   refine ⟨⟨by omega, by omega⟩, fun g => bad fun g2 => ?_, fun g => good ⟨by omega, fun _ => by omega⟩⟩
   have := g2.2 (by omega); omega
 ·have : k = l.length := by omega
  subst this
  exact k2.all.symm
end Go.Proofs.YtimillpakjgnoaaGreatDoor.Pl

namespace Go.Proofs.YtimillpakjgnoaaGreatDoor.Pl
open Go Go.RowKit
theorem ok_meets1 : ∀ (x : Int) (x2 : List Int), pre_meets1 x x2 → F_meets1 x x2 (fun r => r = sp_meets1 x x2) := fun x b hp => by
 refine ⟨hp, fun r hr => ?_⟩
 rw [hr]; rfl
theorem ok_meets : ∀ (a : List Int) (b : List Int), pre_meets a b → F_meets a b (fun r => r = sp_meets a b) := fun a b ⟨h1, h2⟩ => by
 refine ⟨⟨h1, fun x _ => h2⟩, fun r hr => ?_⟩
 rw [hr]; rfl
theorem set_len {l : List Int} {n : Int} (hn : 0 ≤ n) (h : sp_isSet l n = true) : (l.length : Int) ≤ n := (setTo_of h).small hn |>.1
theorem set_sorted {l : List Int} {n : Int} (h : sp_isSet l n = true) : l.Pairwise (· < ·) := (of_decide_eq_true h).1
theorem set_rng {l : List Int} {n : Int} (h : sp_isSet l n = true) : ∀ x ∈ l, 0 ≤ x ∧ x < n := (of_decide_eq_true h).2
theorem ok_operator : ∀ (o : Operator) (facts : Int), pre_operator o facts → F_operator o facts (fun r => r = sp_operator o facts) := fun o n ⟨n0, n1⟩ => by
 have bad : ¬ (sp_isSet o.pre n = true ∧ sp_isSet o.add n = true ∧ sp_isSet o.del n = true ∧ sp_meets o.add o.del = false) → (5 : Int) = sp_operator o n := fun h => by rw [sp_operator, if_neg h]
 unfold F_operator F_operator_J1 F_operator_J2
 simp only [forall_eq, Bool.not_eq_true', Bool.not_eq_false', decide_eq_true_eq, decide_eq_false_iff_not]
 refine ⟨⟨n0, n1⟩, fun h => ⟨fun _ => bad fun g => ?_, fun g => absurd g (by decide)⟩, fun h1 => ⟨⟨n0, n1⟩, fun h => ⟨fun _ => bad fun g => ?_, fun g => absurd g (by decide)⟩, fun h2 => ⟨⟨n0, n1⟩, fun h => ⟨fun _ => bad fun g => ?_, fun g => absurd g (by decide)⟩, fun h3 => ?_⟩⟩⟩
 ·rw [g.1] at h; exact absurd h (by decide)
 ·rw [g.2.1] at h; exact absurd h (by decide)
 ·rw [g.2.2.1] at h; exact absurd h (by decide)
 ·have l1 := set_len n0 h2
  have l2 := set_len n0 h3
  refine ⟨⟨by omega, set_sorted h3, by omega⟩, fun h => bad fun g => ?_, fun h => ?_⟩
  ·rw [g.2.2.2] at h; exact absurd h (by decide)
  ·have e : sp_operator o n = if 0 ≤ o.cost ∧ o.cost ≤ 100 then 0 else 3 := by rw [sp_operator, if_pos ⟨h1, h2, h3, h⟩]
   rw [e]
   refine ⟨fun q => ⟨fun _ => ?_, fun g => absurd g (by decide)⟩, fun q => ⟨fun g => ?_, fun g => ?_⟩⟩
   ·rw [if_neg (by omega)]
   ·rw [if_neg (by omega)]
   ·rw [if_pos (by omega)]
theorem opFault_zero {t : Task} {k : Nat} (h : sp_operator (gt t.ops k) t.facts = 0) : opFault t k = ⟨0, 0⟩ := by rw [opFault, if_pos h]
theorem opFault_ne {t : Task} {k : Nat} (h : sp_operator (gt t.ops k) t.facts ≠ 0) : opFault t k = ⟨sp_operator (gt t.ops k) t.facts, k⟩ := by rw [opFault, if_neg h]
theorem ok_validate : ∀ (t : Task), F_validate t (fun r => r = sp_validate t) := fun t => by
 have hs : sp_validate t = if t.facts < 0 ∨ 24 < t.facts then ⟨3, -1⟩ else if sp_isSet t.init t.facts = false then ⟨5, -2⟩ else if sp_isSet t.goal t.facts = false then ⟨5, -3⟩ else if 40 < t.ops.length then ⟨2, -1⟩ else ffirst (opFault t) t.ops.length := rfl
 have key : ¬ (t.facts < 0 ∨ 24 < t.facts) → F_validate_J1 t (fun r => r = sp_validate t) false := fun hf => by
  unfold F_validate_J1
  simp only [forall_eq, Bool.not_eq_true', Bool.not_eq_false', decide_eq_true_eq, decide_eq_false_iff_not]
  refine ⟨fun g => absurd g (by decide), fun _ => ⟨⟨by omega, by omega⟩, fun h => ?_, fun h1 => ⟨⟨by omega, by omega⟩, fun h => ?_, fun h2 => ⟨fun h => ?_, fun h3 => ?_⟩⟩⟩⟩
  ·rw [hs, if_neg hf, if_pos h]
  ·rw [hs, if_neg hf, if_neg (by rw [h1]; decide), if_pos h]
  ·rw [hs, if_neg hf, if_neg (by rw [h1]; decide), if_neg (by rw [h2]; decide), if_pos (by omega)]
  ·have e : sp_validate t = ffirst (opFault t) t.ops.length := by rw [hs, if_neg hf, if_neg (by rw [h1]; decide), if_neg (by rw [h2]; decide), if_neg (by omega)]
   rw [e]
   refine ⟨fun i => ∃ k : Nat, i = k ∧ k ≤ t.ops.length ∧ ∀ j, j < k → opFault t j = ⟨0, 0⟩, fun i => (t.ops.length - i).toNat, ⟨0, rfl, by omega, fun j hj => by omega⟩, ?_⟩
   rintro _ ⟨k, rfl, k1, k2⟩
   unfold F_validate_L1
   simp only [decide_eq_true_eq, decide_eq_false_iff_not, forall_eq, bne_iff_ne, ne_eq, bne_eq_false_iff_eq]
   refine ⟨fun h => ⟨⟨by omega, h⟩, ⟨by omega, by omega⟩, fun q => ?_, fun q => ?_⟩, fun h => ?_⟩
   ·rw [ffirst_hit (i := k) (by omega) k2 (by rw [opFault_ne q]; exact fault_mk q), opFault_ne q]
   ·rw [w64 (by omega)]
    exact ⟨⟨k + 1, by omega, by omega, zero_next k2 (opFault_zero q)⟩, by omega⟩
   ·rw [ffirst_none fun j hj => k2 j (by omega)]
 unfold F_validate
 simp only [decide_eq_true_eq, decide_eq_false_iff_not]
 refine ⟨fun h => ⟨fun _ => ?_, fun g => absurd g (by decide)⟩, fun h => ?_⟩
 ·rw [hs, if_pos (.inl h)]
 ·by_cases h2 : 24 < t.facts
  ·rw [decide_eq_true h2]
   refine ⟨fun _ => ?_, fun g => absurd g (by decide)⟩
   rw [hs, if_pos (.inr h2)]
  ·rw [decide_eq_false h2]
   exact key (by omega)
structure TaskOK (t : Task) : Prop where
 facts : 0 ≤ t.facts ∧ t.facts ≤ 24
 init : sp_isSet t.init t.facts = true
 goal : sp_isSet t.goal t.facts = true
 len : t.ops.length ≤ 40
 ops : ∀ k : Nat, k < t.ops.length → sp_operator (gt t.ops k) t.facts = 0
theorem taskOK_of {t : Task} (h : sp_validate t = ⟨0, 0⟩) : TaskOK t := by
 unfold sp_validate at h
 split at h
 ·exact absurd h (fault_mk (by decide))
 ·split at h
  ·exact absurd h (fault_mk (by decide))
  ·split at h
   ·exact absurd h (fault_mk (by decide))
   ·split at h
    ·exact absurd h (fault_mk (by decide))
    ·rename_i h1 h2 h3 h4
     refine ⟨by omega, by simpa using h2, by simpa using h3, by omega, fun k hk => ?_⟩
     have := ffirst_zero h k hk
     unfold opFault at this
     split at this
     ·assumption
     ·rename_i h5
      exact absurd this (fault_mk h5)
theorem fault_code_ff {f : Nat → Fault} {n : Nat} (h : ∀ k, (f k).code = 0 → f k = ⟨0, 0⟩) : (ffirst f n).code = 0 → ffirst f n = ⟨0, 0⟩ := by
 unfold ffirst
 split
 ·exact h _
 ·exact fun _ => rfl
theorem validate_code {t : Task} : (sp_validate t).code = 0 → sp_validate t = ⟨0, 0⟩ := by
 unfold sp_validate
 repeat' split
 ·exact fun h => absurd h (by decide)
 ·exact fun h => absurd h (by decide)
 ·exact fun h => absurd h (by decide)
 ·exact fun h => absurd h (by decide)
 ·refine fault_code_ff fun k => ?_
  unfold opFault
  split
  ·exact fun _ => rfl
  ·rename_i h1
   exact fun h => absurd h h1
end Go.Proofs.YtimillpakjgnoaaGreatDoor.Pl

namespace Go.Proofs.YtimillpakjgnoaaGreatDoor.Pl
open Go Go.RowKit
theorem mem_allS {n : Nat} {x : Int} : x ∈ allS n ↔ 0 ≤ x ∧ x < n := by
 unfold allS
 simp only [List.mem_map, List.mem_range]
 constructor
 ·rintro ⟨j, hj, rfl⟩; omega
 ·intro h; exact ⟨x.toNat, by omega, by omega⟩
theorem allS_len (n : Nat) : (allS n).length = n := by simp [allS]
theorem filter1_pos {p : Int → Bool} {k : Int} (h : p k = true) : [k].filter p = [k] := by rw [List.filter_cons, if_pos h]; rfl
theorem filter1_neg {p : Int → Bool} {k : Int} (h : p k = false) : [k].filter p = [] := by rw [List.filter_cons, if_neg (by rw [h]; decide)]; rfl
theorem subset_iff {a b : List Int} : sp_subset a b = true ↔ ∀ x ∈ a, x ∈ b := by
 simp only [sp_subset, List.all_eq_true, decide_eq_true_eq]
theorem TaskOK.op {t : Task} (h : TaskOK t) {i : Int} (hi : inb t.ops i) : sp_isSet (gt t.ops i).pre t.facts = true ∧ sp_isSet (gt t.ops i).add t.facts = true ∧ sp_isSet (gt t.ops i).del t.facts = true ∧ sp_meets (gt t.ops i).add (gt t.ops i).del = false := by
 have h1 := h.ops i.toNat (by have := hi.2; have := hi.1; omega)
 rw [Int.toNat_of_nonneg hi.1] at h1
 unfold sp_operator at h1
 split at h1
 ·assumption
 ·exact absurd h1 (by decide)
theorem TaskOK.lens {t : Task} (h : TaskOK t) {i : Int} (hi : inb t.ops i) : (gt t.ops i).pre.length ≤ 24 ∧ (gt t.ops i).add.length ≤ 24 ∧ (gt t.ops i).del.length ≤ 24 := by
 obtain ⟨h1, h2, h3, _⟩ := h.op hi
 have hf := h.facts
 have := set_len hf.1 h1
 have := set_len hf.1 h2
 have := set_len hf.1 h3
 omega
theorem allS_succ (n : Nat) : allS (n + 1) = allS n ++ [(n : Int)] := by
 unfold allS
 rw [List.range_succ, List.map_append]; rfl
theorem mem_after {t : Task} (hf : 0 ≤ t.facts) {s : List Int} {op f : Int} : f ∈ sp_after t s op ↔ (0 ≤ f ∧ f < t.facts) ∧ (f ∈ (gt t.ops op).add ∨ (f ∈ s ∧ f ∉ (gt t.ops op).del)) := by
 rw [sp_after, List.mem_filter, mem_allS, decide_eq_true_eq, Int.toNat_of_nonneg hf]
end Go.Proofs.YtimillpakjgnoaaGreatDoor.Pl

namespace Go.Proofs.YtimillpakjgnoaaGreatDoor.Pl
open Go Go.RowKit
theorem sorted_ext : ∀ (a b : List Int), a.Pairwise (· < ·) → b.Pairwise (· < ·) → (∀ x, x ∈ a ↔ x ∈ b) → a = b
 | [], b, _, _, h => by
  cases b with
  | nil => rfl
  | cons y s => exact absurd ((h y).2 List.mem_cons_self) (by simp)
 | x :: r, [], _, _, h => absurd ((h x).1 List.mem_cons_self) (by simp)
 | x :: r, y :: s, ha, hb, h => by
  obtain ⟨a1, a2⟩ := List.pairwise_cons.1 ha
  obtain ⟨b1, b2⟩ := List.pairwise_cons.1 hb
  have e : x = y := by
   rcases List.mem_cons.1 ((h x).1 List.mem_cons_self) with q | q
   ·exact q
   ·rcases List.mem_cons.1 ((h y).2 List.mem_cons_self) with q2 | q2
    ·exact q2.symm
    ·have := a1 _ q2; have := b1 _ q; omega
  subst e
  rw [sorted_ext r s a2 b2 fun z => ?_]
  constructor
  ·intro hz
   rcases List.mem_cons.1 ((h z).1 (List.mem_cons_of_mem _ hz)) with q | q
   ·have := a1 _ hz; omega
   ·exact q
  ·intro hz
   rcases List.mem_cons.1 ((h z).2 (List.mem_cons_of_mem _ hz)) with q | q
   ·have := b1 _ hz; omega
   ·exact q
theorem mem_sort {xs : List Int} {x : Int} : x ∈ sp_sort xs ↔ x ∈ xs := List.mem_mergeSort
theorem sort_sorted (xs : List Int) : (sp_sort xs).Pairwise (· ≤ ·) := by
 have := List.pairwise_mergeSort (le := fun x y : Int => decide (x ≤ y)) (fun a b c h1 h2 => by simp only [decide_eq_true_eq] at *; omega) (fun a b => by simp only [Bool.or_eq_true, decide_eq_true_eq]; omega) xs
 exact this.imp fun h => by simpa using h
theorem getB {xs : List Int} {j : Nat} (h : j < xs.length) : xs.toArray[j]! = xs[j] := by simp [h]
theorem compact_eq (xs : List Int) : sp_compact xs = ((List.range xs.length).filter (Lib.keeps xs.toArray)).map (fun j => xs.toArray[j]!) := rfl
theorem mem_compact {xs : List Int} {x : Int} : x ∈ sp_compact xs ↔ x ∈ xs := by
 rw [compact_eq, List.mem_map]
 constructor
 ·rintro ⟨j, hj, rfl⟩
  have := List.mem_range.1 (List.mem_filter.1 hj).1
  rw [getB this]; exact List.getElem_mem _
 ·intro hx
  obtain ⟨j, hj, rfl⟩ := List.mem_iff_getElem.1 hx
  have key : ∀ j : Nat, (h : j < xs.length) → ∃ i, i ∈ (List.range xs.length).filter (Lib.keeps xs.toArray) ∧ xs.toArray[i]! = xs[j] := by
   intro j
   induction j with
   | zero => intro h; exact ⟨0, List.mem_filter.2 ⟨List.mem_range.2 h, by simp [Lib.keeps]⟩, getB h⟩
   | succ j ih =>
    intro h
    by_cases q : xs[j + 1] = xs[j]
    ·obtain ⟨i, h1, h2⟩ := ih (by omega)
     exact ⟨i, h1, by rw [h2, q]⟩
    ·refine ⟨j + 1, List.mem_filter.2 ⟨List.mem_range.2 h, ?_⟩, getB h⟩
     refine Lib.keeps_pos ?_
     rw [Nat.add_sub_cancel, getB h, getB (by omega)]; exact q
  exact key j hj
theorem compact_sorted {xs : List Int} (h : xs.Pairwise (· ≤ ·)) : (sp_compact xs).Pairwise (· < ·) := by
 rw [compact_eq, List.pairwise_map]
 refine List.Pairwise.imp_of_mem (fun {a b} ha hb hab => ?_) ((List.pairwise_lt_range (n := xs.length)).filter _)
 have ha' := List.mem_range.1 (List.mem_filter.1 ha).1
 obtain ⟨hb1, hb2⟩ := List.mem_filter.1 hb
 have hb' := List.mem_range.1 hb1
 rw [getB ha', getB hb']
 have hle := List.pairwise_iff_getElem.1 h
 have hk : xs[b] ≠ xs[b - 1]'(by omega) := by
  simp only [Lib.keeps, decide_eq_true_eq] at hb2
  rcases hb2 with q | q
  ·omega
  ·rwa [getB hb', getB (by omega)] at q
 have h1 : xs[b - 1]'(by omega) ≤ xs[b] := hle _ _ (by omega) hb' (by omega)
 have h2 : xs[a] ≤ xs[b - 1]'(by omega) := by
  rcases Nat.lt_or_ge a (b - 1) with q | q
  ·exact hle _ _ ha' (by omega) q
  ·have : a = b - 1 := by omega
   subst this; exact Int.le_refl _
 omega
theorem mem_update {s add del : List Int} {x : Int} : x ∈ sp_update s add del ↔ (x ∈ s ∧ x ∉ del) ∨ x ∈ add := by
 rw [sp_update, mem_compact, mem_sort, List.mem_append, List.mem_filter, decide_eq_true_eq]
theorem update_sorted (s add del : List Int) : (sp_update s add del).Pairwise (· < ·) := compact_sorted (sort_sorted _)
theorem allS_sorted (n : Nat) : (allS n).Pairwise (· < ·) := List.pairwise_map.2 ((List.pairwise_lt_range (n := n)).imp fun h => by omega)
theorem after_set {t : Task} (hf : 0 ≤ t.facts) (s : List Int) (op : Int) : sp_isSet (sp_after t s op) t.facts = true :=
 decide_eq_true ⟨(allS_sorted _).filter _, fun _ hx => ((mem_after hf).1 hx).1⟩
theorem update_after {t : Task} {s : List Int} {op : Int} (hp : pre_next t s op) : sp_update s (gt t.ops op).add (gt t.ops op).del = sp_after t s op := by
 obtain ⟨h1, h2, h3⟩ := hp
 have tk := taskOK_of h1
 have hf := tk.facts.1
 refine sorted_ext _ _ (update_sorted _ _ _) (set_sorted (after_set hf s op)) fun x => ?_
 rw [mem_update, mem_after hf]
 constructor
 ·rintro (⟨a, b⟩ | a)
  ·exact ⟨set_rng h3 x a, .inr ⟨a, b⟩⟩
  ·exact ⟨set_rng (tk.op h2).2.1 x a, .inl a⟩
 ·rintro ⟨_, a | a⟩
  ·exact .inr a
  ·exact .inl a
theorem ok_clone : ∀ (s_ : List Int), pre_clone s_ → F_clone s_ (fun r => r = sp_clone s_) := fun s hp => by
 unfold pre_clone at hp
 exact ⟨fun h => by rw [h]; rfl, ⟨by simp only [List.nil_append, maxLen]; omega, by simp only [List.nil_append]; omega⟩, by simp [sp_clone]⟩
theorem ok_update : ∀ (s_ : List Int) (add : List Int) (del : List Int), pre_update s_ add del → F_update s_ add del (fun r => r = sp_update s_ add del) := fun s add del ⟨h1, h2, h3⟩ => by
 refine ⟨fun t out => ∃ k : Nat, t = k ∧ k ≤ s.length ∧ out = (s.take k).filter (fun x => decide (x ∉ del)), fun t _ => (s.length - t).toNat, ⟨0, rfl, Nat.zero_le _, rfl⟩, ?_⟩
 rintro _ out ⟨k, rfl, k1, k2⟩
 unfold F_update_L1 F_update_J1
 have hlen : out.length ≤ k := by
  rw [k2]
  exact Nat.le_trans (List.length_filter_le _ _) (by rw [List.length_take]; omega)
 simp only [decide_eq_true_eq, decide_eq_false_iff_not, forall_eq, sp_bsearch, Bool.not_eq_true', Bool.not_eq_false', List.length_append, List.length_singleton]
 refine ⟨fun h => ?_, fun h => ?_⟩
 ·rw [w64 (by omega)]
  have hk : k < s.length := by omega
  refine ⟨⟨by omega, h⟩, h3, fun q => ⟨⟨by simp only [maxLen]; omega, by omega⟩, ⟨k + 1, by omega, by omega, ?_⟩, by omega⟩, fun q => ⟨⟨k + 1, by omega, by omega, ?_⟩, by omega⟩⟩
  ·rw [takeN_gt hk, List.filter_append, ← k2, filter1_pos (p := fun x => decide (x ∉ del)) (decide_eq_true q)]
  ·rw [takeN_gt hk, List.filter_append, ← k2, filter1_neg (p := fun x => decide (x ∉ del)) (decide_eq_false fun g => g q), List.append_nil]
 ·have e : k = s.length := by omega
  rw [e, List.take_length] at k2
  refine ⟨⟨by simp only [maxLen]; omega, by omega⟩, show (out ++ add).length ≤ 100000 by rw [List.length_append]; omega, show (sp_sort (out ++ add)).length ≤ 100000 by rw [sp_sort, List.length_mergeSort, List.length_append]; omega, ?_⟩
  rw [k2]; rfl
theorem contains_past {s : List Int} (hs : s.Pairwise (· < ·)) {i : Nat} {x : Int} (hlt : ∀ p : Nat, p < i → p < s.length → gt s (p : Int) < x) (h : i < s.length → gt s (i : Int) ≠ x ∧ ¬ gt s (i : Int) < x) : x ∉ s := fun hx => by
 obtain ⟨p, hp, e⟩ := mem_gt hx
 rcases Nat.lt_trichotomy p i with g | g | g
 ·have := hlt p g hp; omega
 ·subst g; exact (h hp).1 e
 ·have h1 := h (by omega)
  have := sorted_gt hs g hp
  omega
theorem ok_contains2 : ∀ (s_ : List Int) (part : List Int), pre_contains2 s_ part → F_contains2 s_ part (fun r => r = sp_contains2 s_ part) := fun s part ⟨h1, h2, h3, h4⟩ => by
 have bad : ∀ k : Nat, k < part.length → gt part (k : Int) ∉ s → false = sp_contains2 s part := fun k hk q => by
  cases e : sp_contains2 s part
  ·rfl
  ·exact absurd (subset_iff.1 e _ (gt_memN hk)) q
 refine ⟨fun i t => ∃ a k : Nat, i = a ∧ t = k ∧ a ≤ s.length ∧ k ≤ part.length ∧ (∀ x ∈ part.take k, x ∈ s) ∧ (k < part.length → ∀ p : Nat, p < a → p < s.length → gt s (p : Int) < gt part (k : Int)), fun _ t => (part.length - t).toNat, ⟨0, 0, rfl, rfl, Nat.zero_le _, Nat.zero_le _, by simp, fun _ p hp => by omega⟩, ?_⟩
 rintro _ _ ⟨a, k, rfl, rfl, a1, k1, k2, k3⟩
 unfold F_contains2_L1
 simp only [decide_eq_true_eq, decide_eq_false_iff_not]
 refine ⟨fun h => ⟨⟨by omega, h⟩, ?_⟩, fun h => ?_⟩
 ·have hk : k < part.length := by omega
  refine ⟨fun i => ∃ b : Nat, i = b ∧ a ≤ b ∧ b ≤ s.length ∧ ∀ p : Nat, p < b → p < s.length → gt s (p : Int) < gt part (k : Int), fun i => (s.length - i).toNat, ⟨a, rfl, Nat.le_refl _, a1, k3 hk⟩, ?_⟩
  rintro _ ⟨b, rfl, b1, b2, b3⟩
  have fin : (¬ (b < s.length ∧ gt s (b : Int) < gt part (k : Int))) → F_contains2_J1 s part (fun r => r = sp_contains2 s part) false a (fun i => ∃ b : Nat, i = b ∧ a ≤ b ∧ b ≤ s.length ∧ ∀ p : Nat, p < b → p < s.length → gt s (p : Int) < gt part (k : Int)) (fun i => (s.length - i).toNat) k b (fun i t => ∃ a k : Nat, i = a ∧ t = k ∧ a ≤ s.length ∧ k ≤ part.length ∧ (∀ x ∈ part.take k, x ∈ s) ∧ (k < part.length → ∀ p : Nat, p < a → p < s.length → gt s (p : Int) < gt part (k : Int))) (fun _ t => (part.length - t).toNat) := fun hn => by
   unfold F_contains2_J1 F_contains2_J2
   rw [w64 (n := (k : Int) + 1) (by omega)]
   simp only [beq_iff_eq, beq_eq_false_iff_ne, ne_eq, bne_iff_ne, bne_eq_false_iff_eq]
   refine ⟨fun g => absurd g (by decide), fun _ => ⟨fun e => ⟨fun _ => bad k hk (contains_past h3 b3 fun g => by omega), fun g => absurd g (by decide)⟩, fun e => ⟨⟨by omega, by omega⟩, fun q => bad k hk (contains_past h3 b3 fun g => ⟨q, fun g2 => hn ⟨g, g2⟩⟩), fun q => ⟨⟨b, k + 1, rfl, by omega, b2, by omega, fun x hx => ?_, fun hk2 p hp hp2 => ?_⟩, by omega⟩⟩⟩⟩
   ·rw [takeN_gt hk] at hx
    rcases List.mem_append.1 hx with hx | hx
    ·exact k2 x hx
    ·rw [List.mem_singleton.1 hx, ← q]; exact gt_memN (by omega)
   ·exact Int.lt_trans (b3 p hp hp2) (sorted_gt h4 (Nat.lt_succ_self k) hk2)
  unfold F_contains2_L2
  simp only [decide_eq_true_eq, decide_eq_false_iff_not]
  refine ⟨fun h2 => ⟨⟨by omega, h2⟩, ?_⟩, fun h2 => fin fun g => by omega⟩
  by_cases q : gt s (b : Int) < gt part (k : Int)
  ·rw [decide_eq_true q]
   unfold F_contains2_J1
   refine ⟨fun _ => ?_, fun g => absurd g (by decide)⟩
   rw [w64 (by omega)]
   refine ⟨⟨b + 1, by omega, by omega, by omega, fun p hp hp2 => ?_⟩, show ((s.length : Int) - (b + 1)).toNat < ((s.length : Int) - b).toNat by omega⟩
   rcases Nat.lt_or_ge p b with g | g
   ·exact b3 p g hp2
   ·rw [show p = b by omega]; exact q
  ·rw [decide_eq_false q]
   exact fin fun g => q g.2
 ·rw [List.take_of_length_le (by omega)] at k2
  exact (subset_iff.2 k2).symm
theorem next_lens {t : Task} {s : List Int} {op : Int} (hp : pre_next t s op) : s.length ≤ 24 ∧ (gt t.ops op).pre.length ≤ 24 ∧ (gt t.ops op).add.length ≤ 24 ∧ (gt t.ops op).del.length ≤ 24 := by
 obtain ⟨h1, h2, h3⟩ := hp
 have tk := taskOK_of h1
 have := set_len tk.facts.1 h3
 have := tk.facts
 have := tk.lens h2
 omega
theorem ok_next : ∀ (t : Task) (s_ : List Int) (op : Int), pre_next t s_ op → F_next t s_ op (fun r => r = sp_after t s_ op) := fun t s op hp => by
 have hl := next_lens hp
 have tk := taskOK_of hp.1
 refine ⟨hp.2.1, ⟨by omega, by omega, set_sorted (tk.op hp.2.1).2.2.1, by omega⟩, fun r hr => ?_⟩
 rw [hr, update_after hp]
end Go.Proofs.YtimillpakjgnoaaGreatDoor.Pl

namespace Go.Proofs.YtimillpakjgnoaaGreatDoor.Pl
open Go Go.RowKit
end Go.Proofs.YtimillpakjgnoaaGreatDoor.Pl

namespace Go.Proofs.YtimillpakjgnoaaGreatDoor.Pl
open Go Go.RowKit
theorem ok_sure1 : ∀ (s_ : List Int) (x : List Int), pre_sure1 s_ x → F_sure1 s_ x (fun r => r = sp_sure1 s_ x) := fun s x hp => by
 refine ⟨hp, fun r hr => ?_⟩
 subst hr; rfl
theorem ok_sure : ∀ (worlds : List (List Int)) (facts : List Int), pre_sure worlds facts → F_sure worlds facts (fun r => r = sp_sure worlds facts) := fun w f ⟨h1, h2⟩ => by
 refine ⟨⟨h1, h2⟩, fun r hr => ?_⟩
 subst hr; rfl
theorem ok_compare : ∀ (x : Int) (y : Int), F_compare x y (fun r => r = sp_compare x y) := fun x y => by
 unfold F_compare
 simp only [forall_eq, sp_isNaN1, decide_eq_true_eq, decide_eq_false_iff_not]
 refine ⟨fun h => absurd h (by decide), fun _ => ⟨fun h => absurd h (by decide), fun _ => ⟨fun h => ?_, fun h => ⟨fun g => ?_, fun g => ?_⟩⟩⟩⟩
 ·rw [sp_compare, if_pos h]
 ·rw [sp_compare, if_neg h, if_pos g]
 ·rw [sp_compare, if_neg h, if_neg g]
end Go.Proofs.YtimillpakjgnoaaGreatDoor.Pl

namespace Go.Proofs.YtimillpakjgnoaaGreatDoor.Pl
open Go Go.RowKit
theorem drop_gtN {α : Type} [Inhabited α] {xs : List α} {k : Nat} (h : k < xs.length) : xs.drop k = gt xs (k : Int) :: xs.drop (k + 1) := by
 have h2 := drop_gt (xs := xs) (i := (k : Int)) ⟨by omega, by omega⟩
 have h3 : ((k : Int) + 1).toNat = k + 1 := by omega
 rwa [h3, Int.toNat_natCast] at h2
theorem TaskOK.rng {t : Task} (h : sp_validate t = ⟨0, 0⟩) : 0 ≤ t.facts ∧ t.facts ≤ 24 ∧ sp_isSet t.init t.facts = true ∧ sp_isSet t.goal t.facts = true := by
 have := taskOK_of h
 exact ⟨this.facts.1, this.facts.2, this.init, this.goal⟩
theorem ok_unknownFault : ∀ (t : Task) (unknown : List Int), F_unknownFault t unknown (fun r => r = sp_unknownFault t unknown) := fun t u => by
 unfold F_unknownFault sp_unknownFault
 simp only [forall_eq, fault_ne, fault_eq]
 simp only [decide_eq_true_eq, decide_eq_false_iff_not, Bool.not_eq_true', Bool.not_eq_false']
 refine ⟨fun h => by rw [if_neg h], fun h => ?_⟩
 rw [if_pos h]
 refine ⟨fun g => by rw [if_pos (by omega)], fun g => ?_⟩
 rw [if_neg (by omega)]
 obtain ⟨f0, f1, _⟩ := TaskOK.rng h
 refine ⟨⟨f0, by omega⟩, fun q => ?_, fun q => ?_⟩
 ·rw [q]; rfl
 ·rw [if_pos q]
theorem unknown_ok {t : Task} {u : List Int} (h : sp_unknownFault t u = ⟨0, 0⟩) : UOK t u := by
 unfold sp_unknownFault at h
 split at h
 ·rename_i hv
  split at h
  ·exact absurd h (fault_mk (by decide))
  ·rename_i hl
   split at h
   ·rename_i hs; exact ⟨hv, by omega, hs⟩
   ·exact absurd h (fault_mk (by decide))
 ·rename_i hv; exact absurd h hv
theorem ok_scompare : ∀ (s1 : List Int) (s2 : List Int), pre_scompare s1 s2 → F_scompare s1 s2 (fun r => r = sp_scompare s1 s2) := fun a b ⟨h1, h2⟩ => by
 refine ⟨fun t => ∃ k : Nat, t = k ∧ k ≤ a.length ∧ k ≤ b.length ∧ sp_scompare (a.drop k) (b.drop k) = sp_scompare a b, fun t => (a.length - t).toNat, ⟨0, rfl, Nat.zero_le _, Nat.zero_le _, by simp⟩, ?_⟩
 rintro _ ⟨k, rfl, k1, k2, k3⟩
 unfold F_scompare_L1
 simp only [forall_eq, decide_eq_true_eq, decide_eq_false_iff_not, bne_iff_ne, ne_eq, bne_eq_false_iff_eq, sp_compare]
 refine ⟨fun h => ?_, fun h => ?_⟩
 ·have hk : k < a.length := by omega
  have ea := drop_gtN hk
  refine ⟨⟨by omega, h⟩, fun g => ?_, fun g => ?_⟩
  ·rw [← k3, ea, List.drop_eq_nil_of_le (show b.length ≤ k by omega)]; rfl
  ·have hb : k < b.length := by omega
   rw [ea, drop_gtN hb, sp_scompare] at k3
   refine ⟨⟨by omega, by omega⟩, ?_⟩
   rcases Int.lt_trichotomy (gt a (k : Int)) (gt b (k : Int)) with q | q | q
   ·rw [if_pos q] at k3 ⊢
    exact ⟨fun _ => k3, fun e => absurd e (by decide)⟩
   ·have n1 : ¬ gt a (k : Int) < gt b (k : Int) := by omega
    have n2 : ¬ gt b (k : Int) < gt a (k : Int) := by omega
    rw [if_neg n1, if_neg n2] at k3 ⊢
    refine ⟨fun e => absurd rfl e, fun _ => ?_⟩
    rw [w64 (by omega)]
    exact ⟨⟨k + 1, by omega, by omega, by omega, k3⟩, by omega⟩
   ·have n1 : ¬ gt a (k : Int) < gt b (k : Int) := by omega
    rw [if_neg n1, if_pos q] at k3 ⊢
    exact ⟨fun _ => k3, fun e => absurd e (by decide)⟩
 ·rw [List.drop_eq_nil_of_le (show a.length ≤ k by omega)] at k3
  refine ⟨fun g => ?_, fun g => ?_⟩
  ·rw [← k3, drop_gtN (xs := b) (k := k) (by omega)]; rfl
  ·rw [← k3, List.drop_eq_nil_of_le (show b.length ≤ k by omega)]; rfl
theorem take_same {α : Type} [Inhabited α] {a b : List α} {k : Nat} (ha : k < a.length) (hb : k < b.length) (h : a.take k = b.take k) (e : gt a (k : Int) = gt b (k : Int)) : a.take (k + 1) = b.take (k + 1) := by
 rw [takeN_gt ha, takeN_gt hb, h, e]
theorem ok_sequal : ∀ (s1 : List Int) (s2 : List Int), pre_sequal s1 s2 → F_sequal s1 s2 (fun r => r = sp_sequal s1 s2) := fun a b ⟨h1, h2⟩ => by
 unfold F_sequal
 simp only [bne_iff_ne, ne_eq, bne_eq_false_iff_eq]
 refine ⟨fun h => (decide_eq_false fun e => h (by rw [e])).symm, fun h => ?_⟩
 have hl : a.length = b.length := by omega
 refine ⟨fun t => ∃ k : Nat, t = k ∧ k ≤ a.length ∧ a.take k = b.take k, fun t => (a.length - t).toNat, ⟨0, rfl, Nat.zero_le _, by simp⟩, ?_⟩
 rintro _ ⟨k, rfl, k1, k2⟩
 unfold F_sequal_L1
 simp only [decide_eq_true_eq, decide_eq_false_iff_not, bne_iff_ne, ne_eq, bne_eq_false_iff_eq]
 refine ⟨fun g => ⟨⟨by omega, g⟩, ⟨by omega, by omega⟩, fun q => (decide_eq_false fun e => q (by rw [e])).symm, fun q => ?_⟩, fun g => ?_⟩
 ·rw [w64 (by omega)]
  exact ⟨⟨k + 1, by omega, by omega, take_same (by omega) (by omega) k2 q⟩, by omega⟩
 ·rw [List.take_of_length_le (by omega), List.take_of_length_le (by omega)] at k2
  exact (decide_eq_true k2).symm
theorem ok_ints : ∀ (a : List Int) (b : List Int), pre_ints a b → F_ints a b (fun r => r = sp_ints a b) := fun a b ⟨h1, h2⟩ => by
 unfold F_ints
 simp only [bne_iff_ne, ne_eq, bne_eq_false_iff_eq]
 refine ⟨fun h => (decide_eq_false fun e => h (by rw [e])).symm, fun h => ?_⟩
 have hl : a.length = b.length := by omega
 refine ⟨fun t => ∃ k : Nat, t = k ∧ k ≤ a.length ∧ a.take k = b.take k, fun t => (a.length - t).toNat, ⟨0, rfl, Nat.zero_le _, by simp⟩, ?_⟩
 rintro _ ⟨k, rfl, k1, k2⟩
 unfold F_ints_L1
 simp only [decide_eq_true_eq, decide_eq_false_iff_not, bne_iff_ne, ne_eq, bne_eq_false_iff_eq]
 refine ⟨fun g => ⟨⟨by omega, g⟩, ⟨by omega, by omega⟩, fun q => (decide_eq_false fun e => q (by rw [e])).symm, fun q => ?_⟩, fun g => ?_⟩
 ·rw [w64 (by omega)]
  exact ⟨⟨k + 1, by omega, by omega, take_same (by omega) (by omega) k2 q⟩, by omega⟩
 ·rw [List.take_of_length_le (by omega), List.take_of_length_le (by omega)] at k2
  exact (decide_eq_true k2).symm
theorem ok_indexR : ∀ (s_ : List (List Int)) (pf : (List Int) → Bool) (Df : (List Int) → Prop), pre_any s_ pf Df → F_indexR s_ pf Df (fun r => r = sp_indexF s_ pf Df) := fun xs p D ⟨hl, hD⟩ => by
 refine ⟨fun t => 0 ≤ t ∧ t ≤ xs.length ∧ ∀ x ∈ xs.take t.toNat, p x = false, fun t => (xs.length - t).toNat, ⟨Int.le_refl _, by omega, by simp⟩, ?_⟩
 rintro t ⟨h0, h1, h2⟩
 unfold F_indexR_L1
 obtain ⟨k1, k2⟩ := any_split h0 h2
 simp only [decide_eq_true_eq, decide_eq_false_iff_not, forall_eq]
 refine ⟨fun h => ⟨⟨h0, h⟩, hD _ (gt_mem ⟨h0, h⟩), fun q => (k1 h q).symm, fun q => ?_⟩, fun h => (k2 h).symm⟩
 rw [w64 (by omega)]
 exact ⟨⟨by omega, by omega, any_next h0 h2 h q⟩, by omega⟩
theorem ok_containsR : ∀ (s_ : List (List Int)) (pf : (List Int) → Bool) (Df : (List Int) → Prop), pre_any s_ pf Df → F_containsR s_ pf Df (fun r => r = sp_any s_ pf Df) := fun xs p D hp => by
 refine ⟨hp, fun r hr => ?_⟩
 rw [hr]
 show decide (0 ≤ sp_indexF xs p D) = sp_any xs p D
 unfold sp_indexF sp_any
 cases h : xs.any p
 ·simp
 ·simp
theorem ok_reverse : ∀ (s_ : List Int), pre_reverse s_ → F_reverse s_ (fun r => r = sp_reverse s_) := fun s hp => by
 unfold pre_reverse at hp
 have hg : ∀ (l : List Int) (p : Nat), p < l.length → gt l.reverse (p : Int) = gt l ((l.length - 1 - p : Nat) : Int) := fun l p h => by
  rw [gt_of ⟨by omega, by rw [List.length_reverse]; omega⟩, gt_of ⟨by omega, by omega⟩]
  simp only [Int.toNat_natCast, List.getElem_reverse]
 unfold F_reverse
 rw [w64 (n := (s.length : Int) - 1) (by omega)]
 refine ⟨fun i j l => ∃ k : Nat, i = k ∧ j = (s.length : Int) - 1 - k ∧ 2 * k ≤ s.length + 1 ∧ l.length = s.length ∧ ∀ p : Nat, p < s.length → gt l (p : Int) = if p < k ∨ s.length ≤ p + k then gt s ((s.length - 1 - p : Nat) : Int) else gt s (p : Int), fun i j _ => (j - i).toNat, ⟨0, rfl, by omega, by omega, rfl, fun p h => by rw [if_neg (by omega)]⟩, ?_⟩
 rintro _ _ l ⟨k, rfl, rfl, k1, k2, k3⟩
 unfold F_reverse_L1
 simp only [decide_eq_true_eq, decide_eq_false_iff_not, forall_eq]
 refine ⟨fun h => ?_, fun h => ?_⟩
 ·have ej : (s.length : Int) - 1 - k = ((s.length - 1 - k : Nat) : Int) := by omega
  rw [ej] at h ⊢
  have i1 : inb l ((s.length - 1 - k : Nat) : Int) := ⟨by omega, by omega⟩
  have i2 : inb l (k : Int) := ⟨by omega, by omega⟩
  have i3 : inb (l.set ((k : Int)).toNat (gt l ((s.length - 1 - k : Nat) : Int))) ((s.length - 1 - k : Nat) : Int) := ⟨by omega, by rw [List.length_set]; omega⟩
  rw [w64 (n := (k : Int) + 1) (by omega), w64 (n := ((s.length - 1 - k : Nat) : Int) - 1) (by omega)]
  refine ⟨i1, i2, i3, ⟨k + 1, by omega, by omega, by omega, by rw [List.length_set, List.length_set]; exact k2, fun p hp => ?_⟩, by omega⟩
  rw [gt_setI i3 (by omega), gt_setI i2 (by omega)]
  by_cases e1 : p = s.length - 1 - k
  ·subst e1
   rw [if_pos rfl, if_pos (by omega), k3 k (by omega), if_neg (by omega)]
   congr 1; omega
  ·rw [if_neg (by omega)]
   by_cases e2 : p = k
   ·subst e2
    rw [if_pos rfl, if_pos (by omega), k3 _ (by omega), if_neg (by omega)]
   ·rw [if_neg (by omega), k3 p hp]
    by_cases e3 : p < k ∨ s.length ≤ p + k
    ·rw [if_pos e3, if_pos (by omega)]
    ·rw [if_neg e3, if_neg (by omega)]
 ·refine ext_gt (by rw [k2]; exact (sp_reverse_len s).symm) fun p hp => ?_
  rw [k2] at hp
  rw [k3 p hp, sp_reverse, hg s p hp]
  by_cases e3 : p < k ∨ s.length ≤ p + k
  ·rw [if_pos e3]
  ·rw [if_neg e3]; congr 1; omega
end Go.Proofs.YtimillpakjgnoaaGreatDoor.Pl

namespace Go.Proofs.YtimillpakjgnoaaGreatDoor.Pl
open Go Go.RowKit
theorem before_irr : ∀ a : List Int, sp_before a a = false
 | [] => rfl
 | x :: r => by simp [sp_before, before_irr r]
theorem before_trans : ∀ a b c : List Int, sp_before a b = true → sp_before b c = true → sp_before a c = true
 | [], [], _, h, _ => by simp [sp_before] at h
 | [], _ :: _, [], _, h => by simp [sp_before] at h
 | [], _ :: _, _ :: _, _, _ => rfl
 | _ :: _, [], _, h, _ => by simp [sp_before] at h
 | _ :: _, _ :: _, [], _, h => by simp [sp_before] at h
 | x :: a, y :: b, z :: c, h, g => by
  unfold sp_before at h g ⊢
  by_cases e : x = y
  ·subst e
   rw [if_pos rfl] at h
   by_cases e2 : x = z
   ·subst e2
    rw [if_pos rfl] at g ⊢
    exact before_trans a b c h g
   ·rw [if_neg e2] at g ⊢; exact g
  ·rw [if_neg e] at h
   have h := of_decide_eq_true h
   by_cases e2 : y = z
   ·subst e2
    rw [if_neg e]; exact decide_eq_true h
   ·rw [if_neg e2] at g
    have g := of_decide_eq_true g
    rw [if_neg (by omega)]
    exact decide_eq_true (by omega)
theorem before_tri : ∀ a b : List Int, sp_before a b = true ∨ a = b ∨ sp_before b a = true
 | [], [] => .inr (.inl rfl)
 | [], _ :: _ => .inl rfl
 | _ :: _, [] => .inr (.inr rfl)
 | x :: a, y :: b => by
  by_cases e : x = y
  ·subst e
   rcases before_tri a b with h | h | h
   ·exact .inl (by simp [sp_before, h])
   ·exact .inr (.inl (by rw [h]))
   ·exact .inr (.inr (by simp [sp_before, h]))
  ·rcases Int.lt_or_lt_of_ne e with h | h
   ·exact .inl (by simp [sp_before, e, h])
   ·exact .inr (.inr (by simp [sp_before, Ne.symm e, h]))
theorem scompare_before : ∀ a b : List Int, (sp_scompare a b < 0 ↔ sp_before a b = true) ∧ (sp_scompare a b = 0 ↔ a = b)
 | [], [] => by simp [sp_scompare, sp_before]
 | [], _ :: _ => by simp [sp_scompare, sp_before]
 | _ :: _, [] => by simp [sp_scompare, sp_before]
 | x :: a, y :: b => by
  have ih := scompare_before a b
  by_cases e : x = y
  ·subst e
   simp [sp_scompare, sp_before, ih]
  ·rcases Int.lt_or_lt_of_ne e with h | h
   ·simp [sp_scompare, sp_before, e, h]
   ·have : ¬ x < y := by omega
    simp [sp_scompare, sp_before, e, h, this]
theorem ordered_ext {α : Type} {r : α → α → Prop} (irr : ∀ x, ¬ r x x) (tr : ∀ x y z, r x y → r y z → r x z) : ∀ (a b : List α), a.Pairwise r → b.Pairwise r → (∀ x, x ∈ a ↔ x ∈ b) → a = b
 | [], [], _, _, _ => rfl
 | [], y :: b, _, _, h => absurd ((h y).2 List.mem_cons_self) List.not_mem_nil
 | x :: a, [], _, _, h => absurd ((h x).1 List.mem_cons_self) List.not_mem_nil
 | x :: a, y :: b, ha, hb, h => by
  rw [List.pairwise_cons] at ha hb
  have e : x = y := by
   rcases List.mem_cons.1 ((h x).1 List.mem_cons_self) with e | e
   ·exact e
   ·rcases List.mem_cons.1 ((h y).2 List.mem_cons_self) with e' | e'
    ·exact e'.symm
    ·exact absurd (tr _ _ _ (ha.1 y e') (hb.1 x e)) (irr _)
  subst e
  rw [ordered_ext irr tr a b ha.2 hb.2 fun z => ?_]
  have hz := h z
  simp only [List.mem_cons] at hz
  constructor
  ·intro k
   rcases hz.1 (.inr k) with g | g
   ·subst g; exact absurd (ha.1 _ k) (irr _)
   ·exact g
  ·intro k
   rcases hz.2 (.inr k) with g | g
   ·subst g; exact absurd (hb.1 _ k) (irr _)
   ·exact g
abbrev Bfr (a b : List Int) : Prop := sp_before a b = true
theorem bfr_irr (x : List Int) : ¬ Bfr x x := fun h => by rw [Bfr, before_irr] at h; cases h
theorem bfr_ext {a b : List (List Int)} (ha : a.Pairwise Bfr) (hb : b.Pairwise Bfr) (h : ∀ x, x ∈ a ↔ x ∈ b) : a = b := ordered_ext bfr_irr before_trans a b ha hb h
theorem mem_insert : ∀ {l : List (List Int)} {s x : List Int}, x ∈ sp_insert l s ↔ x = s ∨ x ∈ l
 | [], s, x => by simp [sp_insert]
 | y :: r, s, x => by
  unfold sp_insert
  split
  ·rw [List.mem_cons, mem_insert, List.mem_cons]
   constructor
   ·rintro (h | h | h)
    ·exact .inr (.inl h)
    ·exact .inl h
    ·exact .inr (.inr h)
   ·rintro (h | h | h)
    ·exact .inr (.inl h)
    ·exact .inl h
    ·exact .inr (.inr h)
  ·split
   ·rename_i e
    subst e
    constructor
    ·exact .inr
    ·rintro (h | h)
     ·rw [h]; exact List.mem_cons_self
     ·exact h
   ·rw [List.mem_cons]
theorem insert_sorted : ∀ {l : List (List Int)} {s : List Int}, l.Pairwise Bfr → (sp_insert l s).Pairwise Bfr
 | [], s, _ => by simp [sp_insert]
 | y :: r, s, h => by
  have h' := List.pairwise_cons.1 h
  unfold sp_insert
  split
  ·rename_i hb
   refine List.pairwise_cons.2 ⟨fun x hx => ?_, insert_sorted h'.2⟩
   rcases mem_insert.1 hx with e | e
   ·rw [e]; exact hb
   ·exact h'.1 x e
  ·rename_i hb
   split
   ·exact h
   ·rename_i hne
    have hs : Bfr s y := by
     rcases before_tri s y with g | g | g
     ·exact g
     ·exact absurd g.symm hne
     ·exact absurd g hb
    refine List.pairwise_cons.2 ⟨fun x hx => ?_, h⟩
    rcases List.mem_cons.1 hx with e | e
    ·rw [e]; exact hs
    ·exact before_trans _ _ _ hs (h'.1 x e)
theorem insert_len : ∀ (l : List (List Int)) (s : List Int), (sp_insert l s).length ≤ l.length + 1
 | [], s => by simp [sp_insert]
 | y :: r, s => by
  unfold sp_insert
  split
  ·have := insert_len r s; simp; omega
  ·split <;> simp
theorem mem_foldI : ∀ {l m : List (List Int)} {x : List Int}, x ∈ l.foldl sp_insert m ↔ x ∈ l ∨ x ∈ m
 | [], m, x => by simp
 | s :: l, m, x => by
  rw [List.foldl_cons, mem_foldI, mem_insert, List.mem_cons]
  constructor
  ·rintro (h | h | h)
   ·exact .inl (.inr h)
   ·exact .inl (.inl h)
   ·exact .inr h
  ·rintro ((h | h) | h)
   ·exact .inr (.inl h)
   ·exact .inl h
   ·exact .inr (.inr h)
theorem foldI_sorted : ∀ {l m : List (List Int)}, m.Pairwise Bfr → (l.foldl sp_insert m).Pairwise Bfr
 | [], _, h => h
 | _ :: l, _, h => foldI_sorted (l := l) (insert_sorted h)
theorem foldI_len : ∀ (l m : List (List Int)), (l.foldl sp_insert m).length ≤ l.length + m.length
 | [], m => by simp
 | s :: l, m => by
  have := foldI_len l (sp_insert m s)
  have := insert_len m s
  simp; omega
theorem mem_normal {l : List (List Int)} {x : List Int} : x ∈ sp_normal l ↔ x ∈ l := by
 unfold sp_normal; rw [mem_foldI]; simp
theorem normal_sorted (l : List (List Int)) : (sp_normal l).Pairwise Bfr := foldI_sorted List.Pairwise.nil
theorem normal_len (l : List (List Int)) : (sp_normal l).length ≤ l.length := by
 have := foldI_len l []
 simpa [sp_normal] using this
theorem mem_maskAdd {u : List Int} {m : Nat} {x : Int} : x ∈ maskAdd u m ↔ ∃ i : Nat, u[i]? = some x ∧ m.testBit i = true := by
 unfold maskAdd
 simp only [List.mem_map, List.mem_filter]
 constructor
 ·rintro ⟨⟨y, i⟩, ⟨h1, h2⟩, rfl⟩
  rw [List.mem_zipIdx_iff_getElem?] at h1
  exact ⟨i, h1, h2⟩
 ·rintro ⟨i, h1, h2⟩
  exact ⟨(x, i), ⟨List.mem_zipIdx_iff_getElem?.2 h1, h2⟩, rfl⟩
theorem ex_mask (p : Nat → Bool) : ∀ k : Nat, ∃ m : Nat, m < 2 ^ k ∧ ∀ i, i < k → m.testBit i = p i
 | 0 => ⟨0, by simp, fun i h => by omega⟩
 | k + 1 => by
  obtain ⟨m, h1, h2⟩ := ex_mask p k
  cases hp : p k
  ·refine ⟨m, by rw [Nat.pow_succ]; omega, fun i hi => ?_⟩
   by_cases e : i = k
   ·subst e; rw [hp]; exact Nat.testBit_lt_two_pow h1
   ·exact h2 i (by omega)
  ·refine ⟨2 ^ k + m, by rw [Nat.pow_succ]; omega, fun i hi => ?_⟩
   by_cases e : i = k
   ·subst e
    rw [hp, Nat.testBit_two_pow_add_eq, Nat.testBit_lt_two_pow h1]; rfl
   ·rw [Nat.testBit_two_pow_add_gt (by omega)]
    exact h2 i (by omega)
def Poss (t : Task) (u s : List Int) : Prop := sp_isSet s t.facts = true ∧ ∀ x, x ∉ u → (x ∈ s ↔ x ∈ t.init)
theorem mask_set {t : Task} {u : List Int} (hv : sp_validate t = ⟨0, 0⟩) (hu : sp_isSet u t.facts = true) (m : Nat) : sp_isSet (sp_update t.init (maskAdd u m) u) t.facts = true := decide_eq_true ⟨update_sorted _ _ _, fun x hx => by
 rcases mem_update.1 hx with h | h
 ·exact set_rng (TaskOK.rng hv).2.2.1 x h.1
 ·obtain ⟨i, h1, _⟩ := mem_maskAdd.1 h
  exact set_rng hu x (List.mem_of_getElem? h1)⟩
theorem mem_worlds {t : Task} {u s : List Int} (hv : sp_validate t = ⟨0, 0⟩) (hu : sp_isSet u t.facts = true) : s ∈ sp_worlds t u ↔ Poss t u s := by
 obtain ⟨f0, f1, hi, hg⟩ := TaskOK.rng hv
 unfold sp_worlds
 rw [mem_normal]
 simp only [List.mem_map, List.mem_range]
 constructor
 ·rintro ⟨m, hm, rfl⟩
  refine ⟨mask_set hv hu m, fun x hx => ?_⟩
  rw [mem_update]
  constructor
  ·rintro (h | h)
   ·exact h.1
   ·obtain ⟨i, h1, _⟩ := mem_maskAdd.1 h
    exact absurd (List.mem_of_getElem? h1) hx
  ·exact fun h => .inl ⟨h, hx⟩
 ·rintro ⟨h1, h2⟩
  obtain ⟨m, hm, hb⟩ := ex_mask (fun i => decide (u.getD i 0 ∈ s)) u.length
  refine ⟨m, hm, sorted_ext _ _ (update_sorted _ _ _) (set_sorted h1) fun x => ?_⟩
  rw [mem_update]
  constructor
  ·rintro (h | h)
   ·exact (h2 x h.2).2 h.1
   ·obtain ⟨i, g1, g2⟩ := mem_maskAdd.1 h
    have hl := (List.getElem?_eq_some_iff.1 g1).1
    rw [hb i hl] at g2
    have := of_decide_eq_true g2
    rw [List.getD_eq_getElem?_getD, g1] at this
    exact this
  ·intro h
   by_cases hx : x ∈ u
   ·obtain ⟨i, hl, e⟩ := List.mem_iff_getElem.1 hx
    refine .inr (mem_maskAdd.2 ⟨i, by rw [List.getElem?_eq_getElem hl, e], ?_⟩)
    rw [hb i hl]
    refine decide_eq_true ?_
    rw [List.getD_eq_getElem?_getD, List.getElem?_eq_getElem hl, e]
    exact h
   ·exact .inl ⟨(h2 x hx).1 h, hx⟩
theorem worlds_len {t : Task} {u : List Int} (h : u.length ≤ 4) : (sp_worlds t u).length ≤ 16 := by
 unfold sp_worlds
 refine Nat.le_trans (normal_len _) ?_
 rw [List.length_map, List.length_range]
 calc 2 ^ u.length ≤ 2 ^ 4 := Nat.pow_le_pow_right (by decide) h
  _ = 16 := rfl
theorem worlds_set {t : Task} {u s : List Int} (hv : sp_validate t = ⟨0, 0⟩) (hu : sp_isSet u t.facts = true) (h : s ∈ sp_worlds t u) : sp_isSet s t.facts = true := ((mem_worlds hv hu).1 h).1
theorem mem_bafter {t : Task} {ws : List (List Int)} {op : Int} {s : List Int} : s ∈ sp_bafter t ws op ↔ ∃ s0 ∈ ws, s = sp_after t s0 op := by
 unfold sp_bafter; rw [mem_normal, List.mem_map]
 exact ⟨fun ⟨a, h, e⟩ => ⟨a, h, e.symm⟩, fun ⟨a, h, e⟩ => ⟨a, h, e.symm⟩⟩
theorem bafter_len (t : Task) (ws : List (List Int)) (op : Int) : (sp_bafter t ws op).length ≤ ws.length := by
 have := normal_len (ws.map fun s => sp_after t s op)
 rwa [List.length_map] at this
theorem bafter_set {t : Task} (hv : sp_validate t = ⟨0, 0⟩) {ws : List (List Int)} {op : Int} {s : List Int} (h : s ∈ sp_bafter t ws op) : sp_isSet s t.facts = true := by
 obtain ⟨s0, _, rfl⟩ := mem_bafter.1 h
 exact after_set (TaskOK.rng hv).1 _ _
end Go.Proofs.YtimillpakjgnoaaGreatDoor.Pl

namespace Go.Proofs.YtimillpakjgnoaaGreatDoor.Pl
open Go Go.RowKit
theorem sortR_perm (l : Bel) : (sp_sortR l).Perm l := List.mergeSort_perm _ _
theorem sortR_len (l : Bel) : (sp_sortR l).length = l.length := (sortR_perm l).length_eq
def Nle (x y : List Int) : Prop := sp_before y x = false
theorem nle_trans {x y z : List Int} (h : Nle x y) (g : Nle y z) : Nle x z := by
 unfold Nle at *
 rcases before_tri y x with a | a | a
 ·rw [h] at a; cases a
 ·rw [← a]; exact g
 ·rcases before_tri z y with b | b | b
  ·rw [g] at b; cases b
  ·rw [b]; exact h
  ·have := before_trans _ _ _ a b
   cases e : sp_before z x
   ·rfl
   ·have := before_trans _ _ _ this e
    rw [before_irr] at this; cases this
theorem sortR_sorted (l : Bel) : (sp_sortR l).Pairwise Nle := by
 have := List.pairwise_mergeSort (le := fun x y : List Int => !sp_before y x) (fun a b c h g => by
  simp only [Bool.not_eq_true'] at *
  exact nle_trans h g) (fun a b => by
  rcases before_tri a b with h | h | h
  ·cases e : sp_before b a
   ·simp
   ·have := before_trans _ _ _ h e
    rw [before_irr] at this; cases this
  ·subst h; rw [before_irr]; simp
  ·cases e : sp_before a b
   ·simp
   ·have := before_trans _ _ _ h e
    rw [before_irr] at this; cases this) l
 exact this.imp fun h => by simpa [Nle] using h
theorem sorted_perm : ∀ (a b : Bel), a.Pairwise Nle → b.Pairwise Nle → a.Perm b → a = b
 | [], b, _, _, h => (List.nil_perm.1 h).symm
 | x :: a, [], _, _, h => absurd h.length_eq (by simp)
 | x :: a, y :: b, ha, hb, h => by
  rw [List.pairwise_cons] at ha hb
  have e : x = y := by
   rcases List.mem_cons.1 (h.mem_iff.1 (List.mem_cons_self (a := x) (l := a))) with e | e
   ·exact e
   ·rcases List.mem_cons.1 (h.mem_iff.2 (List.mem_cons_self (a := y) (l := b))) with e' | e'
    ·exact e'.symm
    ·have h1 := ha.1 y e'
     have h2 := hb.1 x e
     rcases before_tri x y with g | g | g
     ·rw [show sp_before x y = false from h2] at g; cases g
     ·exact g
     ·rw [show sp_before y x = false from h1] at g; cases g
  subst e
  rw [sorted_perm a b ha.2 hb.2 h.cons_inv]
theorem compactR_snoc (l : Bel) (x : List Int) : sp_compactR (l ++ [x]) = if (sp_compactR l).getLast? = some x then sp_compactR l else sp_compactR l ++ [x] := by
 unfold sp_compactR; rw [List.foldl_append]; rfl
theorem compactR_last (l : Bel) : (sp_compactR l).getLast? = l.getLast? := by
 rcases List.eq_nil_or_concat l with rfl | ⟨l, x, rfl⟩
 ·rfl
 ·rw [List.concat_eq_append, compactR_snoc]
  split
  ·rename_i h; rw [h]; simp
  ·simp
theorem compactR_step (l : Bel) (x : List Int) : sp_compactR (l ++ [x]) = if l.getLast? = some x then sp_compactR l else sp_compactR l ++ [x] := by
 rw [compactR_snoc, compactR_last]
theorem mem_compactR (x : List Int) : ∀ (m : Nat) (l : Bel), l.length = m → (x ∈ sp_compactR l ↔ x ∈ l)
 | 0, l, h => by rw [List.length_eq_zero_iff.1 h]; simp [sp_compactR]
 | m + 1, l, h => by
  rcases List.eq_nil_or_concat l with rfl | ⟨l, y, rfl⟩
  ·simp at h
  ·rw [List.concat_eq_append] at h ⊢
   have ih := mem_compactR x m l (by simpa using h)
   rw [compactR_step]
   split
   ·rename_i hl
    rw [ih, List.mem_append, List.mem_singleton]
    constructor
    ·exact .inl
    ·rintro (g | rfl)
     ·exact g
     ·exact List.mem_of_getLast? hl
   ·rw [List.mem_append, ih, List.mem_append]
theorem compactR_sorted : ∀ (m : Nat) (l : Bel), l.length = m → l.Pairwise Nle → (sp_compactR l).Pairwise Bfr
 | 0, l, h, _ => by rw [List.length_eq_zero_iff.1 h]; simp [sp_compactR]
 | m + 1, l, h, hs => by
  rcases List.eq_nil_or_concat l with rfl | ⟨l, y, rfl⟩
  ·simp at h
  ·rw [List.concat_eq_append] at h hs ⊢
   obtain ⟨h1, _, h3⟩ := List.pairwise_append.1 hs
   have ih := compactR_sorted m l (by simpa using h) h1
   rw [compactR_step]
   split
   ·exact ih
   ·rename_i hl
    refine List.pairwise_append.2 ⟨ih, by simp, fun a ha b hb => ?_⟩
    rw [List.mem_singleton.1 hb]
    have ham := (mem_compactR a _ l rfl).1 ha
    have hn : Nle a y := h3 a ham y (by simp)
    rcases before_tri a y with g | g | g
    ·exact g
    · -- a is y; the last of l is not, and lies between
     subst g
     rcases List.eq_nil_or_concat l with rfl | ⟨l2, z, rfl⟩
     ·cases ham
     ·rw [List.concat_eq_append] at hl h1 h3 ham ha ih
      have hz : z ≠ a := fun e => hl (by simp [e])
      have h4 : Nle z a := h3 z (by simp) a (by simp)
      rcases List.mem_append.1 ham with q | q
      ·have h5 : Nle a z := (List.pairwise_append.1 h1).2.2 a q z (by simp)
       rcases before_tri a z with k | k | k
       ·rw [show sp_before a z = false from h4] at k; cases k
       ·exact absurd k.symm hz
       ·rw [show sp_before z a = false from h5] at k; cases k
      ·exact absurd (List.mem_singleton.1 q).symm hz
    ·rw [show sp_before y a = false from hn] at g; cases g
theorem normal_eq (l : Bel) : sp_compactR (sp_sortR l) = sp_normal l :=
 bfr_ext (compactR_sorted _ _ rfl (sortR_sorted l)) (normal_sorted l) fun x => by rw [mem_compactR x _ _ rfl, mem_normal, (sortR_perm l).mem_iff]
theorem ok_normal : ∀ (l : List (List Int)), pre_normal l → F_normal l (fun r => r = sp_normal l) := fun l hp => by
 unfold F_normal
 simp only [forall_eq]
 exact ⟨hp, ⟨by rw [sortR_len]; exact hp.1, fun x hx => hp.2 x ((sortR_perm l).mem_iff.1 hx)⟩, normal_eq l⟩
theorem last_take {l : Bel} {k : Nat} (h0 : 0 < k) (h : k ≤ l.length) : (l.take k).getLast? = some (gt l ((k - 1 : Nat) : Int)) := by
 have := takeN_gt (xs := l) (k := k - 1) (by omega)
 rw [show k - 1 + 1 = k by omega] at this
 rw [this]; simp
theorem ok_compactR : ∀ (s_ : List (List Int)), pre_compactR s_ → F_compactR s_ (fun r => r = sp_compactR s_) := fun s ⟨hl, hr⟩ => by
 unfold F_compactR
 simp only [decide_eq_true_eq, decide_eq_false_iff_not]
 refine ⟨fun h => ?_, fun h => ?_⟩
 ·match s, h with
  | [], _ => rfl
  | [x], _ => rfl
  | _ :: _ :: _, h => simp at h; omega
 have ext : ∀ k : Nat, 0 < k → k < s.length → sp_compactR (s.take (k + 1)) = if gt s ((k - 1 : Nat) : Int) = gt s (k : Int) then sp_compactR (s.take k) else sp_compactR (s.take k) ++ [gt s (k : Int)] := fun k h0 hk => by
  rw [takeN_gt hk, compactR_step, last_take h0 (by omega)]
  simp only [Option.some.injEq]
 refine ⟨fun k => ∃ j : Nat, k = j ∧ 1 ≤ j ∧ j ≤ s.length ∧ sp_compactR (s.take j) = s.take j, fun k => (s.length - k).toNat, ⟨1, rfl, by omega, by omega, ?_⟩, ?_⟩
 ·match s, h with
  | [], h => simp at h
  | x :: r, _ => rfl
 rintro _ ⟨j, rfl, j1, j2, j3⟩
 unfold F_compactR_L1
 simp only [forall_eq, decide_eq_true_eq, decide_eq_false_iff_not, sp_sequal]
 refine ⟨fun g => ?_, fun g => ?_⟩
 ·have hj : j < s.length := by omega
  have ej := ext j (by omega) hj
  rw [w64 (n := (j : Int) - 1) (by omega), w64 (n := (j : Int) + 1) (by omega), show (j : Int) - 1 = ((j - 1 : Nat) : Int) by omega]
  refine ⟨⟨by omega, g⟩, ⟨by omega, by omega⟩, ⟨hr _ (gt_memN hj), hr _ (gt_memN (by omega))⟩, fun e => ⟨⟨by omega, by omega⟩, ?_⟩, fun e => ⟨⟨j + 1, by omega, by omega, by omega, ?_⟩, by omega⟩⟩
  ·rw [if_pos e.symm] at ej
   refine ⟨fun k3 k22 s2 => ∃ a b : Nat, k3 = a ∧ k22 = b ∧ 1 ≤ b ∧ j + b ≤ s.length ∧ a + 1 ≤ j + b ∧ s2.length = s.length ∧ s2.take a = sp_compactR (s.take (j + b)) ∧ ∀ p : Nat, j + b ≤ p + 1 → p < s.length → gt s2 (p : Int) = gt s (p : Int), fun _ k22 _ => (s.length - k22).toNat, ⟨j, 1, rfl, rfl, by omega, by omega, by omega, rfl, by rw [ej, j3], fun p _ _ => rfl⟩, ?_⟩
   rintro _ _ s2 ⟨a, b, rfl, rfl, b1, b2, b3, b4, b5, b6⟩
   unfold F_compactR_L2 F_compactR_J1
   simp only [forall_eq, decide_eq_true_eq, decide_eq_false_iff_not, Bool.not_eq_true', Bool.not_eq_false', Int.toNat_natCast]
   refine ⟨fun q => ?_, fun q => ?_⟩
   ·have hb : j + b < s.length := by omega
    rw [w64 (n := (b : Int) - 1) (by omega), w64 (n := (b : Int) + 1) (by omega), w64 (n := (a : Int) + 1) (by omega)]
    have e1 : (j : Int) + (b : Int) = ((j + b : Nat) : Int) := by omega
    have e2 : (j : Int) + ((b : Int) - 1) = ((j + b - 1 : Nat) : Int) := by omega
    rw [e1, e2, b6 (j + b) (by omega) hb, b6 (j + b - 1) (by omega) (by omega)]
    have eb := ext (j + b) (by omega) hb
    refine ⟨by omega, ⟨by omega, by omega⟩, by omega, ⟨by omega, by omega⟩, ⟨hr _ (gt_memN hb), hr _ (gt_memN (by omega))⟩, fun e => ⟨⟨by omega, by omega⟩, ⟨a + 1, b + 1, by omega, by omega, by omega, by omega, by omega, by rw [List.length_set]; exact b4, ?_, fun p p1 p2 => ?_⟩, by omega⟩, fun e => ⟨⟨a, b + 1, rfl, by omega, by omega, by omega, by omega, b4, ?_, fun p p1 p2 => b6 p (by omega) p2⟩, by omega⟩⟩
    ·have hne : ¬ gt s ((j + b - 1 : Nat) : Int) = gt s ((j + b : Nat) : Int) := fun k => of_decide_eq_false e k.symm
     rw [if_neg hne] at eb
     rw [show j + (b + 1) = j + b + 1 by omega, eb, ← b5]
     have hal : a < (s2.set a (gt s ((j + b : Nat) : Int))).length := by rw [List.length_set]; omega
     rw [takeN_gt hal, List.take_set_of_le (Nat.le_refl a)]
     congr 1
     have := gt_set (xs := s2) (i := (a : Int)) (x := gt s ((j + b : Nat) : Int)) ⟨by omega, by omega⟩
     rw [Int.toNat_natCast] at this
     rw [this]
    ·have := gt_setI (xs := s2) (i := (a : Int)) (j := (p : Int)) (x := gt s ((j + b : Nat) : Int)) ⟨by omega, by omega⟩ (by omega)
     rw [Int.toNat_natCast] at this
     rw [this, if_neg (by omega)]
     exact b6 p (by omega) p2
    ·rw [if_pos (of_decide_eq_true e).symm] at eb
     rw [show j + (b + 1) = j + b + 1 by omega, eb]; exact b5
   ·have e1 : j + b = s.length := by omega
    refine ⟨⟨by omega, by omega⟩, ?_⟩
    have e2 : (s2.take a).length = a := by rw [List.length_take]; omega
    rw [List.take_append_of_le_length (by omega), List.take_take, Nat.min_self, b5, e1, List.take_length]
  ·have hne : ¬ gt s ((j - 1 : Nat) : Int) = gt s (j : Int) := fun k => e k.symm
   rw [ej, if_neg hne, j3, takeN_gt hj]
 ·have : j = s.length := by omega
  subst this
  rw [List.take_length] at j3
  exact j3.symm
end Go.Proofs.YtimillpakjgnoaaGreatDoor.Pl

namespace Go.Proofs
open Go.Shelf
def YtimillpakjgnoaaGreatDoor.lays189_ren : Go.Shelf.Ren := ⟨fun | 189 => 63 | 125 => 75 | 257 => 85 | 128 => 96 | 129 => 97 | 294 => 105 | 295 => 106 | 296 => 107 | 297 => 108 | 298 => 109 | 299 => 110 | 216 => 83 | 300 => 111 | 301 => 112 | 328 => 134 | 329 => 126 | 330 => 127 | 331 => 135 | 332 => 136 | 215 => 98 | 343 => 147 | n => n, fun | 28 => 22 | 3 => 3 | 46 => 138 | 0 => 0 | 51 => 60 | 53 => 148 | 4 => 4 | 183 => 152 | 182 => 151 | 131 => 122 | 5 => 5 | 9 => 9 | 218 => 185 | 222 => 189 | 228 => 213 | 229 => 214 | n => n, fun | n => n⟩
theorem YtimillpakjgnoaaGreatDoor.lays189 : Go.Proofs.Lays.n189 Tryz.prog YtimillpakjgnoaaGreatDoor.lays189_ren := {
  mixed := by kernel_rfl
  f125 := Tryz.func75.trans (congrArg some (by kernel_rfl))
  f128 := Tryz.func96.trans (congrArg some (by kernel_rfl))
  f129 := Tryz.func97.trans (congrArg some (by kernel_rfl))
  f189 := Tryz.func63.trans (congrArg some (by kernel_rfl))
  f215 := Tryz.func98.trans (congrArg some (by kernel_rfl))
  f216 := Tryz.func83.trans (congrArg some (by kernel_rfl))
  f257 := Tryz.func85.trans (congrArg some (by kernel_rfl))
  f294 := Tryz.func105.trans (congrArg some (by kernel_rfl))
  f295 := Tryz.func106.trans (congrArg some (by kernel_rfl))
  f296 := Tryz.func107.trans (congrArg some (by kernel_rfl))
  f297 := Tryz.func108.trans (congrArg some (by kernel_rfl))
  f298 := Tryz.func109.trans (congrArg some (by kernel_rfl))
  f299 := Tryz.func110.trans (congrArg some (by kernel_rfl))
  f300 := Tryz.func111.trans (congrArg some (by kernel_rfl))
  f301 := Tryz.func112.trans (congrArg some (by kernel_rfl))
  f328 := Tryz.func134.trans (congrArg some (by kernel_rfl))
  f329 := Tryz.func126.trans (congrArg some (by kernel_rfl))
  f330 := Tryz.func127.trans (congrArg some (by kernel_rfl))
  f331 := Tryz.func135.trans (congrArg some (by kernel_rfl))
  f332 := Tryz.func136.trans (congrArg some (by kernel_rfl))
  f343 := Tryz.func147.trans (congrArg some (by kernel_rfl))
  t0 := Tryz.underlying0
  a0 := Tryz.isAgg0
  z0 := Tryz.sizeOf0
  v0 := Tryz.zeroValue0
  t3 := Tryz.underlying3
  a3 := Tryz.isAgg3
  z3 := Tryz.sizeOf3
  v3 := Tryz.zeroValue3
  t4 := Tryz.underlying4
  a4 := Tryz.isAgg4
  z4 := Tryz.sizeOf4
  v4 := Tryz.zeroValue4
  t5 := Tryz.underlying5
  a5 := Tryz.isAgg5
  z5 := Tryz.sizeOf5
  v5 := Tryz.zeroValue5
  t9 := Tryz.underlying9
  a9 := Tryz.isAgg9
  z9 := Tryz.sizeOf9
  v9 := Tryz.zeroValue9
  t28 := Tryz.underlying22
  a28 := Tryz.isAgg22
  z28 := Tryz.sizeOf22
  v28 := Tryz.zeroValue22
  t46 := Tryz.underlying138
  a46 := Tryz.isAgg138
  z46 := Tryz.sizeOf138
  v46 := Tryz.zeroValue138
  t51 := Tryz.underlying60
  a51 := Tryz.isAgg60
  z51 := Tryz.sizeOf60
  v51 := Tryz.zeroValue60
  t53 := Tryz.underlying148
  a53 := Tryz.isAgg148
  z53 := Tryz.sizeOf148
  v53 := Tryz.zeroValue148
  t131 := Tryz.underlying122
  a131 := Tryz.isAgg122
  z131 := Tryz.sizeOf122
  v131 := Tryz.zeroValue122
  t182 := Tryz.underlying151
  a182 := Tryz.isAgg151
  z182 := Tryz.sizeOf151
  v182 := Tryz.zeroValue151
  t183 := Tryz.underlying152
  a183 := Tryz.isAgg152
  z183 := Tryz.sizeOf152
  v183 := Tryz.zeroValue152
  t218 := Tryz.underlying185
  a218 := Tryz.isAgg185
  z218 := Tryz.sizeOf185
  v218 := Tryz.zeroValue185
  t222 := Tryz.underlying189
  a222 := Tryz.isAgg189
  z222 := Tryz.sizeOf189
  v222 := Tryz.zeroValue189
  t228 := Tryz.underlying213
  a228 := Tryz.isAgg213
  z228 := Tryz.sizeOf213
  v228 := Tryz.zeroValue213
  t229 := Tryz.underlying214
  a229 := Tryz.isAgg214
  z229 := Tryz.sizeOf214
  v229 := Tryz.zeroValue214 }
def YtimillpakjgnoaaGreatDoor.lays220_ren : Go.Shelf.Ren := ⟨fun | 20 => 64 | n => n, fun | 22 => 22 | 3 => 3 | 4 => 4 | 0 => 0 | n => n, fun | n => n⟩
theorem YtimillpakjgnoaaGreatDoor.lays220 : Go.Proofs.Lays2.n20 Tryz.prog YtimillpakjgnoaaGreatDoor.lays220_ren := {
  mixed := by kernel_rfl
  f20 := Tryz.func64.trans (congrArg some (by kernel_rfl))
  t0 := Tryz.underlying0
  a0 := Tryz.isAgg0
  z0 := Tryz.sizeOf0
  v0 := Tryz.zeroValue0
  t3 := Tryz.underlying3
  a3 := Tryz.isAgg3
  z3 := Tryz.sizeOf3
  v3 := Tryz.zeroValue3
  t4 := Tryz.underlying4
  a4 := Tryz.isAgg4
  z4 := Tryz.sizeOf4
  v4 := Tryz.zeroValue4
  t22 := Tryz.underlying22
  a22 := Tryz.isAgg22
  z22 := Tryz.sizeOf22
  v22 := Tryz.zeroValue22
  i3 := by kernel_rfl }
end Go.Proofs
namespace Go.Proofs.YtimillpakjgnoaaGreatDoor.Pl
open Go Go.RowKit Go.Sort
theorem flL_int (xs : List Int) : flL xs = xs.map (Value.int .i64) := by
 induction xs with
 | nil => rfl
 | cons x r ih => rw [List.map_cons, ← ih]; rfl
theorem putX {w : World} {h : FH} {b c m q : Nat} {cur : Array Value} {e : TypeId} {ds : List Int} {os : Array Obj} (hs : Sub h w) (sg : Sub (FH.one b (.cells cur e (0, 0))) w) (hd : Disj h (FH.one b (.cells cur e (0, 0)))) (hmax : c ≤ maxLen) (hsz : cur.size = c * 1) (hds : ds.length ≤ c) (hm : m ≤ ds.length) :
  SH (Kp.ex w h (FH.one b (.cells cur e (0, 0)))) h (grow (putRow (Value.int .i64) (Sort.ahead w q) b 0 ds.toArray) os) [OwnSl e 1 (some ⟨b, 0, none⟩) m c (flL (ds.take m))] := by
 have hb : w.heap[b]? = some (.cells cur e (0, 0)) := sg b _ (FH.one_self _ _)
 have hlt : b < w.heap.size := sg.lt (FH.one_self _ _)
 have hheap : ∀ i, i < w.heap.size → (grow (putRow (Value.int .i64) (Sort.ahead w q) b 0 ds.toArray) os).heap[i]? = if b = i then some (.cells (putCells (Value.int .i64) 0 ds.toArray cur) e (0, 0)) else w.heap[i]? := fun i hi => by
  show ((w.heap.modify b (onCells (putCells (Value.int .i64) 0 ds.toArray))) ++ os)[i]? = _
  rw [Array.getElem?_append_left (by rw [Array.size_modify]; exact hi), Array.getElem?_modify]
  by_cases q : b = i
  ·subst q
   rw [if_pos rfl, if_pos rfl, hb]; rfl
  ·rw [if_neg q, if_neg q]
 have hsize : w.heap.size ≤ (grow (putRow (Value.int .i64) (Sort.ahead w q) b 0 ds.toArray) os).heap.size := by
  show w.heap.size ≤ ((w.heap.modify b (onCells (putCells (Value.int .i64) 0 ds.toArray))) ++ os).size
  rw [Array.size_append, Array.size_modify]; omega
 have hone : ∀ i, FH.one b (.cells cur e (0, 0)) i = none → b ≠ i := fun i g q => by
  subst q
  rw [FH.one_self] at g; cases g
 have hnb : ∀ i, h i ≠ none → b ≠ i := fun i hi => hone i ((hd i).resolve_left hi)
 refine ⟨⟨rfl, rfl, rfl, hsize, fun i hi => ?_, (by unfold dr; first | exact Nat.le_add_right _ _ | exact Nat.le_refl _)⟩, fun i o ho => ?_, fun i hi => .inl hi, [FH.one b (.cells (putCells (Value.int .i64) 0 ds.toArray cur) e (0, 0))], rfl, ?_, ?_, ?_⟩
 ·rw [hheap i hi.1, if_neg (hone i hi.2)]; rfl
 ·rw [hheap i (hs.lt ho), if_neg (hnb i (by rw [ho]; simp))]; exact hs i o ho
 ·intro i g X hi hX
  cases i with
  | succ i => simp at hi
  | zero =>
   simp at hi hX
   subst hi; subst hX
   refine ⟨by rw [flL_len]; simp [Flat.sz, hm], .inr ⟨b, _, rfl, rfl, by omega, hmax, by simp [putCells, hsz], ?_⟩⟩
   rw [flL_int, Nat.mul_one]
   refine List.ext_getElem? fun k => ?_
   rw [List.getElem?_take, List.getElem?_map, List.getElem?_take]
   by_cases g : k < m
   ·have g2 : k < ds.length := by omega
    have g3 : k < cur.size := by omega
    rw [if_pos g, if_pos g, Array.getElem?_toList]
    simp [putCells, g2, g3]
   ·rw [if_neg g, if_neg g]; rfl
 ·intro i g hi
  cases i with
  | succ i => simp at hi
  | zero =>
   simp at hi
   subst hi
   refine ⟨fun j => ?_, Sub.one ?_, fun j hj hk => ?_⟩
   ·by_cases g : h j = none
    ·exact .inl g
    ·exact .inr (by unfold FH.one; rw [if_neg (fun e => hnb j g e.symm)])
   ·rw [hheap b hlt, if_pos rfl]
   ·exact hone j hk.2 (FH.one_ne hj).symm
 ·intro i j g g' hij hi hj
  cases i with
  | succ i => simp at hi
  | zero => cases j with
   | zero => exact absurd rfl hij
   | succ j => simp at hj
theorem ownHolds {w : World} {b : Nat} {cur : Array Value} {e : TypeId} {xs : List Int} (hb : w.heap[b]? = some (.cells cur e (0, 0))) (ht : cur.toList.take (xs.length * 1) = flL xs) : Go.Sort.Holds (Value.int .i64) w b 0 xs.toArray := fun j hj => by
 have hj' : j < xs.length := by simpa using hj
 refine ⟨?_, ?_⟩
 ·unfold World.cell?
  rw [hb]
  show (if (none : Option _).isSome = true then none else cur[0 + j]?) = _
  rw [flL_int, Nat.mul_one] at ht
  have h1 := congrArg (fun l => l[j]?) ht
  simp only [List.getElem?_take, hj', if_true, List.getElem?_map] at h1
  rw [Array.getElem?_toList, List.getElem?_eq_getElem hj'] at h1
  rw [Nat.zero_add]
  simp [h1, hj']
 ·unfold World.frozen?
  rw [hb]
  simp
theorem sort_len (xs : List Int) : (sp_sort xs).length = xs.length := List.length_mergeSort _
theorem c_sort {h : FH} {w : World} (hs : Sub h w) (s_ : List Int) (a : Option Addr) (c : Nat) {gX : FH} (ownX : OwnSl 3 1 a s_.length c (flL s_) gX) (subX : Sub gX w) (disX : Disj h gX) (hp : pre_sort s_) : Calls Tryz.prog 63 #[.slice a s_.length c] w fun e w' => e = .returned (.tuple #[]) ∧ SH (Kp.ex w h gX) h w' [OwnSl 3 1 a s_.length c (flL (sp_sort s_))] := by
 have own0 := ownX
 obtain ⟨h1, ⟨rfl, h2, rfl, rfl⟩ | ⟨b, cur, rfl, rfl, h4, h5, h6, h7⟩⟩ := ownX
 ·have e : s_ = [] := List.length_eq_zero_iff.1 h2
  subst e
  refine (Any.slices_Sort_int_none YtimillpakjgnoaaGreatDoor.lays189 none 0 w).mono fun e w' ⟨he, hw⟩ => ⟨he, ?_⟩
  subst hw
  rw [show sp_sort [] = [] by simp [sp_sort]]
  exact SH.startX hs subX disX own0
 ·have hb := subX b _ (FH.one_self _ _)
  refine (Any.slices_Sort_int YtimillpakjgnoaaGreatDoor.lays189 b 0 c s_ w (ownHolds hb h7) (subX.lt (FH.one_self _ _)) (Nat.lt_of_le_of_lt hp (by decide))).mono fun e w' ⟨he, n, os, hw⟩ => ⟨he, ?_⟩
  subst hw
  have := putX (q := n) (os := os) (ds := sp_sort s_) (m := s_.length) hs subX disX h5 h6 (by rw [sort_len]; exact h4) (by rw [sort_len]; exact Nat.le_refl _)
  rwa [List.take_of_length_le (by rw [sort_len]; exact Nat.le_refl _)] at this
theorem compact_len (xs : List Int) : (sp_compact xs).length ≤ xs.length := Lib.compact_length_le xs
theorem c_compact {h : FH} {w : World} (hs : Sub h w) (s_ : List Int) (a : Option Addr) (c : Nat) {gX : FH} (ownX : OwnSl 3 1 a s_.length c (flL s_) gX) (subX : Sub gX w) (disX : Disj h gX) (hp : pre_compact s_) : Calls Tryz.prog 64 #[.slice a s_.length c] w fun e w' => e = .returned (.slice a (sp_compact s_).length c) ∧ SH (Kp.ex w h gX) h w' [OwnSl 3 1 a (sp_compact s_).length c (flL (sp_compact s_))] := by
 have own0 := ownX
 obtain ⟨h1, ⟨rfl, h2, rfl, rfl⟩ | ⟨b, cur, rfl, rfl, h4, h5, h6, h7⟩⟩ := ownX
 ·have e : s_ = [] := List.length_eq_zero_iff.1 h2
  subst e
  refine (Any.slices_Compact_int_empty YtimillpakjgnoaaGreatDoor.lays220 none 0 w).mono fun e w' ⟨he, hw⟩ => ⟨he, ?_⟩
  subst hw
  exact SH.startX hs subX disX own0
 ·have hb := subX b _ (FH.one_self _ _)
  have hl := compact_len s_
  unfold pre_compact at hp
  refine (Any.slices_Compact_int YtimillpakjgnoaaGreatDoor.lays220 b 0 c s_ w (ownHolds hb h7) (by omega) h4).mono fun e w' ⟨he, n, hw⟩ => ⟨he, ?_⟩
  subst hw
  have e2 : (sp_compact s_ ++ List.replicate (s_.length - (sp_compact s_).length) 0).length = s_.length := by rw [List.length_append, List.length_replicate]; omega
  have := putX (q := n) (os := #[]) (ds := sp_compact s_ ++ List.replicate (s_.length - (sp_compact s_).length) 0) (m := (sp_compact s_).length) hs subX disX h5 h6 (by rw [e2]; exact h4) (by rw [e2]; exact hl)
  rw [List.take_left, grow_empty] at this
  exact this
end Go.Proofs.YtimillpakjgnoaaGreatDoor.Pl

namespace Go.Proofs.YtimillpakjgnoaaGreatDoor.Pl
open Go Go.RowKit
theorem nil_set (n : Int) : sp_isSet [] n = true := by simp [sp_isSet]
end Go.Proofs.YtimillpakjgnoaaGreatDoor.Pl

namespace Go.Proofs.YtimillpakjgnoaaGreatDoor.Pl
open Go Go.RowKit
theorem mask_bit : ∀ (m : Fin 16) (i : Fin 4), (bits .and .i64 (Int.fdiv ((m : Nat) : Int) (2 ^ (min (((i : Nat) : Int)).toNat (IntKind.bits .i64)))) 1 == 1) = (m : Nat).testBit i := by decide
theorem pow_len : ∀ n : Fin 5, IntKind.i64.wrap (1 * 2 ^ (min (((n : Nat) : Int)).toNat (IntKind.bits .i64))) = ((2 ^ (n : Nat) : Nat) : Int) := by decide
theorem maskAdd_snoc (l : List Int) (x : Int) (m : Nat) : maskAdd (l ++ [x]) m = maskAdd l m ++ (if m.testBit l.length = true then [x] else []) := by
 unfold maskAdd
 rw [List.zipIdx_append, List.filter_append, List.map_append]
 congr 1
 simp only [List.zipIdx_cons, List.zipIdx_nil, Nat.zero_add]
 by_cases h : m.testBit l.length = true
 ·simp [h]
 ·simp [h]
theorem maskAdd_len (l : List Int) (m : Nat) : (maskAdd l m).length ≤ l.length := by
 unfold maskAdd
 rw [List.length_map]
 exact Nat.le_trans (List.length_filter_le _ _) (by rw [List.length_zipIdx]; exact Nat.le_refl _)
theorem set_len24 {t : Task} (hv : sp_validate t = ⟨0, 0⟩) {s : List Int} (h : sp_isSet s t.facts = true) : s.length ≤ 24 := by
 obtain ⟨f0, f1, _⟩ := TaskOK.rng hv
 have := set_len f0 h
 omega
theorem ok_worlds : ∀ (t : Task) (unknown : List Int), pre_worlds t unknown → F_worlds t unknown (fun r => r = sp_worlds t unknown) := fun t u ⟨hv, hl, hu⟩ => by
 have hpow : (2 : Nat) ^ u.length ≤ 16 := by
  calc 2 ^ u.length ≤ 2 ^ 4 := Nat.pow_le_pow_right (by decide) hl
   _ = 16 := rfl
 unfold F_worlds
 refine ⟨by omega, ?_⟩
 rw [pow_len ⟨u.length, by omega⟩]
 simp only [forall_eq]
 refine ⟨fun t13 out => ∃ m : Nat, t13 = m ∧ m ≤ 2 ^ u.length ∧ out = (List.range m).map fun m => sp_update t.init (maskAdd u m) u, fun t13 _ => ((2 ^ u.length : Nat) - t13).toNat, ⟨0, rfl, Nat.zero_le _, rfl⟩, ?_⟩
 rintro _ _ ⟨m, rfl, m1, rfl⟩
 unfold F_worlds_L1
 simp only [forall_eq, decide_eq_true_eq, decide_eq_false_iff_not]
 have olen : ((List.range m).map fun m => sp_update t.init (maskAdd u m) u).length = m := by rw [List.length_map, List.length_range]
 refine ⟨fun h => ?_, fun h => ⟨⟨by rw [olen]; omega, fun x hx => ?_⟩, ?_⟩⟩
 ·refine ⟨fun t18 add => ∃ i : Nat, t18 = i ∧ i ≤ u.length ∧ add = maskAdd (u.take i) m, fun t18 _ => (u.length - t18).toNat, ⟨0, rfl, Nat.zero_le _, by simp [maskAdd]⟩, ?_⟩
  rintro _ _ ⟨i, rfl, i1, rfl⟩
  unfold F_worlds_L2 F_worlds_J1
  simp only [forall_eq, decide_eq_true_eq, decide_eq_false_iff_not]
  have alen := maskAdd_len (u.take i) m
  rw [List.length_take] at alen
  refine ⟨fun g => ?_, fun g => ?_⟩
  ·have hi : i < u.length := by omega
   rw [mask_bit ⟨m, by omega⟩ ⟨i, by omega⟩, w64 (by omega)]
   have e1 : maskAdd (u.take (i + 1)) m = maskAdd (u.take i) m ++ if m.testBit i = true then [gt u (i : Int)] else [] := by
    rw [takeN_gt hi, maskAdd_snoc, List.length_take, Nat.min_eq_left (by omega)]
   refine ⟨⟨by omega, g⟩, by omega, fun q => ⟨⟨?_, ?_⟩, ⟨i + 1, by omega, by omega, ?_⟩, by omega⟩, fun q => ⟨⟨i + 1, by omega, by omega, ?_⟩, by omega⟩⟩
   ·simp only [List.length_append, List.length_singleton, maxLen]; omega
   ·simp only [List.length_append, List.length_singleton]; omega
   ·rw [e1, if_pos q]
   ·rw [e1, if_neg (by rw [q]; decide), List.append_nil]
  ·rw [List.take_of_length_le (show u.length ≤ i by omega)]
   have := maskAdd_len u m
   refine ⟨⟨by have := set_len24 hv (TaskOK.rng hv).2.2.1; omega, by omega, set_sorted hu, by omega⟩, ⟨?_, ?_⟩, ⟨m + 1, by rw [w64 (by omega)]; omega, by omega, ?_⟩, ?_⟩
   ·rw [List.length_append, olen]; simp only [List.length_singleton, maxLen]; omega
   ·rw [List.length_append, olen]; simp only [List.length_singleton]; omega
   ·rw [List.range_succ, List.map_append]; rfl
   ·rw [w64 (by omega)]; omega
 ·obtain ⟨k, _, rfl⟩ := List.mem_map.1 hx
  have := set_len24 hv (mask_set hv hu k)
  omega
 ·have : m = 2 ^ u.length := by omega
  rw [this]; rfl
theorem ok_bafter : ∀ (t : Task) (worlds : List (List Int)) (op : Int), pre_bafter t worlds op → F_bafter t worlds op (fun r => r = sp_bafter t worlds op) := fun t ws op ⟨hv, hi, hl, hs⟩ => by
 refine ⟨fun t12 out => ∃ k : Nat, t12 = k ∧ k ≤ ws.length ∧ out = (ws.take k).map fun s => sp_after t s op, fun t12 _ => (ws.length - t12).toNat, ⟨0, rfl, Nat.zero_le _, rfl⟩, ?_⟩
 rintro _ _ ⟨k, rfl, k1, rfl⟩
 unfold F_bafter_L1
 simp only [forall_eq, decide_eq_true_eq, decide_eq_false_iff_not]
 have olen : ((ws.take k).map fun s => sp_after t s op).length = k := by rw [List.length_map, List.length_take]; omega
 refine ⟨fun h => ?_, fun h => ⟨⟨by rw [olen]; omega, fun x hx => ?_⟩, ?_⟩⟩
 ·have hk : k < ws.length := by omega
  refine ⟨⟨by omega, h⟩, ⟨hv, hi, hs _ (gt_memN hk)⟩, ⟨?_, ?_⟩, ⟨k + 1, ?_, by omega, ?_⟩, ?_⟩
  ·rw [List.length_append, olen]; simp only [List.length_singleton, maxLen]; omega
  ·rw [List.length_append, olen]; simp only [List.length_singleton]; omega
  ·rw [w64 (by omega)]; omega
  ·rw [takeN_gt hk, List.map_append]; rfl
  ·rw [w64 (by omega)]; omega
 ·obtain ⟨s, _, rfl⟩ := List.mem_map.1 hx
  have := set_len24 hv (after_set (TaskOK.rng hv).1 s op)
  omega
 ·rw [List.take_of_length_le (by omega)]; rfl
theorem pre_sure_of {t : Task} (hv : sp_validate t = ⟨0, 0⟩) {ws : Bel} (hw : WsOK t ws) {facts : List Int} (hf : sp_isSet facts t.facts = true) : pre_sure ws facts :=
 ⟨by have := hw.1; omega, fun s hs => ⟨by have := set_len24 hv (hw.2 s hs); omega, by have := set_len24 hv hf; omega, set_sorted (hw.2 s hs), set_sorted hf⟩⟩
theorem worlds_ok {t : Task} {u : List Int} (h : UOK t u) : WsOK t (sp_worlds t u) := ⟨worlds_len h.2.1, fun _ hs => worlds_set h.1 h.2.2 hs⟩
theorem ok_succ : ∀ (t : Task) (worlds : List (List Int)), F_succ t worlds (fun r => r = sp_succ t worlds) := fun _ _ => rfl
theorem ok_bnext : ∀ (t : Task), F_bnext t (fun r => r = sp_bnext t) := fun _ => rfl
theorem ok_bnext1 : ∀ (worlds : List (List Int)) (x : Task), F_bnext1 worlds x (fun r => r = sp_bnext1 worlds x) := fun _ _ _ _ => rfl
theorem ok_small1 : ∀ (x : List (List Int)), F_small1 x (fun r => r = sp_small1 x) := fun _ => rfl
theorem ok_plan1 : ∀ (w_ : List (List Int)) (x : Task), pre_plan1 w_ x → F_plan1 w_ x (fun r => r = sp_plan1 w_ x) := fun _ _ ⟨hv, hw⟩ => ⟨pre_sure_of hv hw (TaskOK.rng hv).2.2.2, fun _ hr => hr⟩
end Go.Proofs.YtimillpakjgnoaaGreatDoor.Pl

namespace Go.Proofs.YtimillpakjgnoaaGreatDoor.Pl
open Go Go.RowKit
theorem digits_mem (u : Nat) : ∀ c ∈ Lib.decDigits u, 48 ≤ c.toNat ∧ c.toNat ≤ 57 := by
 induction u using Nat.strongRecOn with
 | _ u ih =>
  intro c hc
  have one : ∀ d : Fin 10, 48 ≤ (UInt8.ofNat (48 + d.val)).toNat ∧ (UInt8.ofNat (48 + d.val)).toNat ≤ 57 := by decide
  by_cases h : u < 10
  ·rw [Lib.decDigits, dif_pos h] at hc
   rw [List.mem_singleton.1 hc]
   exact one ⟨u, h⟩
  ·rw [Lib.decDigits, dif_neg h] at hc
   rcases List.mem_append.1 hc with hc | hc
   ·exact ih (u / 10) (by omega) c hc
   ·rw [List.mem_singleton.1 hc]
    exact one ⟨u % 10, by omega⟩
theorem digits_inj (u : Nat) : ∀ v : Nat, Lib.decDigits u = Lib.decDigits v → u = v := by
 have one : ∀ d e : Fin 10, UInt8.ofNat (48 + d.val) = UInt8.ofNat (48 + e.val) → d = e := by decide
 have pos : ∀ v : Nat, Lib.decDigits v ≠ [] := fun v => by
  rw [Lib.decDigits]
  split <;> simp
 induction u using Nat.strongRecOn with
 | _ u ih =>
  intro v h
  by_cases hu : u < 10 <;> by_cases hv : v < 10
  ·rw [Lib.decDigits, dif_pos hu, Lib.decDigits, dif_pos hv] at h
   have := one ⟨u, hu⟩ ⟨v, hv⟩ (List.singleton_inj.1 h)
   exact congrArg Fin.val this
  ·rw [Lib.decDigits, dif_pos hu, Lib.decDigits, dif_neg hv] at h
   have h2 := congrArg List.length h
   have := List.length_pos_iff.2 (pos (v / 10))
   simp only [List.length_append, List.length_singleton] at h2; omega
  ·rw [Lib.decDigits, dif_neg hu] at h
   conv at h => rhs; rw [Lib.decDigits, dif_pos hv]
   have h2 := congrArg List.length h
   have := List.length_pos_iff.2 (pos (u / 10))
   simp only [List.length_append, List.length_singleton] at h2; omega
  ·rw [Lib.decDigits, dif_neg hu] at h
   conv at h => rhs; rw [Lib.decDigits, dif_neg hv]
   obtain ⟨h1, h2⟩ := List.append_inj' h rfl
   have e1 := ih (u / 10) (by omega) (v / 10) h1
   have e2 := congrArg Fin.val (one ⟨u % 10, by omega⟩ ⟨v % 10, by omega⟩ (List.singleton_inj.1 h2))
   simp only at e2
   omega
theorem itoa_mem (x : Int) : ∀ c ∈ Lib.itoa x, c.toNat = 45 ∨ (48 ≤ c.toNat ∧ c.toNat ≤ 57) := fun c hc => by
 unfold Lib.itoa at hc
 split at hc
 ·rcases List.mem_cons.1 hc with rfl | hc
  ·exact .inl rfl
  ·exact .inr (digits_mem _ c hc)
 ·exact .inr (digits_mem _ c hc)
theorem itoa_inj {x y : Int} (h : Lib.itoa x = Lib.itoa y) : x = y := by
 have head : ∀ (u v : Nat), 45 :: Lib.decDigits u ≠ Lib.decDigits v := fun u v e => by
  have := digits_mem v 45 (e ▸ List.mem_cons_self)
  exact absurd this.1 (by decide)
 unfold Lib.itoa at h
 split at h <;> split at h
 ·have := digits_inj _ _ (List.cons.inj h).2; omega
 ·exact absurd h (head _ _)
 ·exact absurd h.symm (head _ _)
 ·have := digits_inj _ _ h; omega
theorem itoa_ne (x : Int) {c : UInt8} (h : c.toNat = 44 ∨ 58 ≤ c.toNat) : c ∉ Lib.itoa x := fun hc => by
 have := itoa_mem x c hc
 omega
theorem split_at {c : UInt8} : ∀ {p q u v : List UInt8}, c ∉ p → c ∉ q → p ++ c :: u = q ++ c :: v → p = q ∧ u = v
 | [], [], _, _, _, _, h => ⟨rfl, (List.cons.inj h).2⟩
 | [], y :: q, _, _, _, hq, h => absurd ((List.cons.inj h).1 ▸ List.mem_cons_self) hq
 | x :: p, [], _, _, hp, _, h => absurd ((List.cons.inj h).1 ▸ List.mem_cons_self) hp
 | x :: p, y :: q, u, v, hp, hq, h => by
  obtain ⟨h1, h2⟩ := List.cons.inj h
  obtain ⟨h3, h4⟩ := split_at (fun k => hp (List.mem_cons_of_mem _ k)) (fun k => hq (List.mem_cons_of_mem _ k)) h2
  exact ⟨by rw [h1, h3], h4⟩
theorem itoa_pos (x : Int) : Lib.itoa x ≠ [] := by
 unfold Lib.itoa
 split
 ·simp
 ·rw [Lib.decDigits]; split <;> simp
theorem rowL_inj : ∀ {a b : List Int} {r r' : List UInt8}, rowL a ++ 59 :: r = rowL b ++ 59 :: r' → a = b ∧ r = r'
 | [], [], _, _, h => ⟨rfl, (List.cons.inj h).2⟩
 | [], y :: b, r, r', h => by
  have e : rowL (y :: b) = Lib.itoa y ++ (44 :: rowL b) := by simp [rowL]
  rw [e] at h
  cases hi : Lib.itoa y with
  | nil => exact absurd hi (itoa_pos y)
  | cons c q =>
   rw [hi] at h
   have := (List.cons.inj h).1
   exact absurd (hi ▸ this ▸ List.mem_cons_self) (itoa_ne y (c := 59) (by decide))
 | x :: a, [], r, r', h => by
  have e : rowL (x :: a) = Lib.itoa x ++ (44 :: rowL a) := by simp [rowL]
  rw [e] at h
  cases hi : Lib.itoa x with
  | nil => exact absurd hi (itoa_pos x)
  | cons c q =>
   rw [hi] at h
   have := (List.cons.inj h).1
   exact absurd (hi ▸ this ▸ List.mem_cons_self) (itoa_ne x (c := 59) (by decide))
 | x :: a, y :: b, r, r', h => by
  have e1 : rowL (x :: a) = Lib.itoa x ++ (44 :: rowL a) := by simp [rowL]
  have e2 : rowL (y :: b) = Lib.itoa y ++ (44 :: rowL b) := by simp [rowL]
  rw [e1, e2, List.append_assoc, List.append_assoc] at h
  obtain ⟨h1, h2⟩ := split_at (itoa_ne x (by decide)) (itoa_ne y (by decide)) h
  obtain ⟨h3, h4⟩ := rowL_inj (a := a) (b := b) h2
  exact ⟨by rw [itoa_inj h1, h3], h4⟩
theorem keyL_inj : ∀ {a b : Bel}, keyL a = keyL b → a = b
 | [], [], _ => rfl
 | [], s :: b, h => by simp [keyL] at h
 | s :: a, [], h => by simp [keyL] at h
 | s :: a, q :: b, h => by
  have e1 : keyL (s :: a) = rowL s ++ 59 :: keyL a := by simp [keyL]
  have e2 : keyL (q :: b) = rowL q ++ 59 :: keyL b := by simp [keyL]
  rw [e1, e2] at h
  obtain ⟨h1, h2⟩ := rowL_inj h
  rw [h1, keyL_inj h2]
def mapOf (l : List Entry) : List UInt8 → Int := fun k => if k ∈ l.map (fun e => keyL e.node) then 1 else 0
theorem mapOf_pos {l : List Entry} {n : Bel} : 0 < mapOf l (keyL n) ↔ n ∈ l.map (·.node) := by
 unfold mapOf
 constructor
 ·intro h
  split at h
  ·rename_i hm
   obtain ⟨e, he, hk⟩ := List.mem_map.1 hm
   exact List.mem_map.2 ⟨e, he, keyL_inj hk⟩
  ·exact absurd h (by decide)
 ·intro h
  obtain ⟨e, he, hk⟩ := List.mem_map.1 h
  rw [if_pos (List.mem_map.2 ⟨e, he, by rw [hk]⟩)]
  decide
theorem mapOf_push (l : List Entry) (e : Entry) : upd (mapOf l) (keyL e.node) 1 = mapOf (l ++ [e]) := by
 funext k
 unfold upd mapOf
 rw [List.map_append]
 by_cases h : k = keyL e.node
 ·rw [if_pos h, if_pos (by simp [h])]
 ·rw [if_neg h]
  simp [h]
theorem mapOf_one (e : Entry) : upd (fun _ => 0) (keyL e.node) 1 = mapOf [e] := by
 funext k
 unfold upd mapOf
 by_cases h : k = keyL e.node
 ·rw [if_pos h, if_pos (by simp [h])]
 ·rw [if_neg h, if_neg (by simp [h])]
theorem key_ok {t : Task} (hv : sp_validate t = ⟨0, 0⟩) {ws : Bel} (hw : WsOK t ws) : pre_key ws := by
 obtain ⟨f0, f1, _⟩ := TaskOK.rng hv
 refine ⟨by have := hw.1; omega, fun s hs => ⟨by have := set_len24 hv (hw.2 s hs); omega, fun x hx => ?_⟩⟩
 have := set_rng (hw.2 s hs) x hx
 omega
theorem bafter_ok {t : Task} (hv : sp_validate t = ⟨0, 0⟩) {ws : Bel} (hw : WsOK t ws) (op : Int) : WsOK t (sp_bafter t ws op) :=
 ⟨Nat.le_trans (bafter_len t ws op) hw.1, fun _ hs => bafter_set hv hs⟩
def opS (t : Task) (ws : Bel) (op : Int) : Option (Int × Bel) := if sp_sure ws (gt t.ops op).pre = true then some (op, sp_bafter t ws op) else none
theorem bsucc_def (t : Task) (ws : Bel) : bsucc t ws = (allS t.ops.length).filterMap (opS t ws) := rfl
theorem mem_bsucc {t : Task} {ws : Bel} {x : Int × Bel} : x ∈ bsucc t ws ↔ inb t.ops x.1 ∧ sp_sure ws (gt t.ops x.1).pre = true ∧ x.2 = sp_bafter t ws x.1 := by
 rw [bsucc_def, List.mem_filterMap]
 constructor
 ·rintro ⟨op, h1, h2⟩
  unfold opS at h2
  split at h2
  ·rename_i hs
   obtain rfl := Option.some.inj h2
   obtain ⟨a, b⟩ := mem_allS.1 h1
   exact ⟨⟨a, b⟩, hs, rfl⟩
  ·cases h2
 ·rintro ⟨h1, h2, h3⟩
  refine ⟨x.1, mem_allS.2 ⟨h1.1, h1.2⟩, ?_⟩
  unfold opS
  rw [if_pos h2, ← h3]
theorem bsucc_sorted (t : Task) (ws : Bel) : ((bsucc t ws).map (·.1)).Pairwise (· < ·) := by
 rw [bsucc_def, List.map_filterMap]
 refine List.Pairwise.filterMap _ (fun a a' h b hb b' hb' => ?_) (allS_sorted t.ops.length)
 unfold opS at hb hb'
 split at hb
 ·split at hb'
  ·simp at hb hb'; subst hb; subst hb'; exact h
  ·simp at hb'
 ·simp at hb
theorem allS_drop {n j : Nat} (h : j < n) : (allS n).drop j = (j : Int) :: (allS n).drop (j + 1) := by
 have hl : j < (allS n).length := by rw [allS_len]; exact h
 rw [List.drop_eq_getElem_cons hl]
 congr 1
 simp [allS]
theorem backR_len (q : List Entry) : ∀ (k : Nat) (i : Int), (backR q k i).length ≤ k
 | 0, _ => Nat.le_refl _
 | k + 1, i => by
  rw [backR]
  split
  ·split
   ·simp
   ·have := backR_len q k (by assumption : Entry).from_
    simp; omega
  ·simp
structure QOK (t : Task) (start : Bel) (l : List Entry) (m : List UInt8 → Int) : Prop where
 map : m = mapOf l
 shape : Shape (bsucc t) start l
 len : l.length ≤ 2000
 ok : ∀ e ∈ l, WsOK t e.node
theorem QOK.start {t : Task} {start : Bel} (h : WsOK t start) : QOK t start [⟨start, -1, 0⟩] (upd (fun _ => 0) (keyL start) 1) :=
 ⟨mapOf_one ⟨start, -1, 0⟩, Shape.start _ _, by simp, fun e he => by rw [List.mem_singleton.1 he]; exact h⟩
theorem QOK.push {t : Task} {start : Bel} {l : List Entry} {m : List UInt8 → Int} (h : QOK t start l m) {i : Nat} {e : Entry} (hi : l[i]? = some e) {s : Int} {n : Bel} (hs : (s, n) ∈ bsucc t e.node) (hn : n ∉ l.map (·.node)) (hw : WsOK t n) (hl : l.length ≠ 2000) : QOK t start (l ++ [⟨n, (i : Int), s⟩]) (upd m (keyL n) 1) := by
 refine ⟨by rw [h.map]; exact mapOf_push l ⟨n, (i : Int), s⟩, h.shape.push hi hs hn, by have := h.len; simp; omega, fun e' he' => ?_⟩
 rcases List.mem_append.1 he' with he' | he'
 ·exact h.ok e' he'
 ·rw [List.mem_singleton.1 he']; exact hw
theorem entry_gt {l : List Entry} {i : Nat} (h : i < l.length) : l[i]? = some (gt l (i : Int)) := by
 have := gt_get (xs := l) (i := (i : Int)) ⟨by omega, by omega⟩
 rwa [Int.toNat_natCast] at this
theorem ok_breadthS : ∀ (start2 : List (List Int)) (x : Task), pre_breadthS start2 x → F_breadthS start2 x (fun r => r = sp_breadthS start2 x) := fun start t hp => by
 obtain ⟨hv, hw⟩ := hp
 have hops := (taskOK_of hv).len
 refine ⟨key_ok hv hw, ?_⟩
 simp only [forall_eq, sp_key]
 refine ⟨fun x2 l m => ∃ i : Nat, x2 = i ∧ i ≤ l.length ∧ QOK t start l m ∧ bfs (bsucc t) (fun _ => false) (2001 - i) l i = search (bsucc t) (fun _ => false) start, fun x2 _ _ => (2001 - x2).toNat, ⟨0, rfl, Nat.zero_le _, QOK.start hw, rfl⟩, ?_⟩
 rintro _ l m ⟨i, rfl, i1, hq, hb⟩
 have hlen := hq.len
 have ef : 2001 - i = (2000 - i) + 1 := by omega
 unfold F_breadthS_L1
 simp only [forall_eq, decide_eq_true_eq, decide_eq_false_iff_not]
 refine ⟨fun h => ?_, fun h => ?_⟩
 ·have hi : i < l.length := by omega
  have hg := entry_gt hi
  have hwn := hq.ok _ (gt_memN hi)
  rw [ef, bfs] at hb
  simp only [hg] at hb
  refine ⟨⟨by omega, h⟩, fun e => absurd e Bool.false_ne_true, fun _ _ _ => ?_⟩
  ·rw [if_neg Bool.false_ne_true] at hb
   refine ⟨fun t9 l4 m3 => ∃ j : Nat, t9 = j ∧ j ≤ t.ops.length ∧ QOK t start l4 m3 ∧ (∃ r, l4 = l ++ r) ∧ expand (i : Int) (((allS t.ops.length).drop j).filterMap (opS t (gt l (i : Int)).node)) l4 = expand (i : Int) (bsucc t (gt l (i : Int)).node) l, fun t9 _ _ => (t.ops.length - t9).toNat, ⟨0, rfl, Nat.zero_le _, hq, ⟨[], by simp⟩, rfl⟩, ?_⟩
   rintro _ l4 m3 ⟨j, rfl, j1, hq4, ⟨r, rfl⟩, he⟩
   have hlen4 := hq4.len
   have hi4 : (l ++ r)[i]? = some (gt l (i : Int)) := by rw [List.getElem?_append_left hi]; exact hg
   unfold F_breadthS_L3 F_breadthS_J1
   simp only [forall_eq, decide_eq_true_eq, decide_eq_false_iff_not, beq_iff_eq, beq_eq_false_iff_ne, ne_eq, sp_key]
   refine ⟨fun g => ?_, fun g => ?_⟩
   ·have hj : j < t.ops.length := by omega
    have hin : inb t.ops (j : Int) := ⟨by omega, g⟩
    rw [allS_drop hj, List.filterMap_cons] at he
    rw [w64 (n := (j : Int) + 1) (by omega)]
    refine ⟨hin, pre_sure_of hv hwn ((taskOK_of hv).op hin).1, fun q => ?_, fun q => ?_⟩
    ·have eo : opS t (gt l (i : Int)).node (j : Int) = some ((j : Int), sp_bafter t (gt l (i : Int)).node (j : Int)) := by rw [opS, if_pos q]
     rw [eo] at he
     simp only [expand] at he
     have hwb := bafter_ok hv hwn (j : Int)
     refine ⟨⟨hv, hin, hwn⟩, key_ok hv hwb, fun k => ?_, fun k => ?_⟩
     ·rw [hq4.map, mapOf_pos] at k
      rw [if_pos k] at he
      exact ⟨⟨j + 1, by omega, by omega, hq4, ⟨r, rfl⟩, he⟩, by omega⟩
     ·rw [hq4.map, mapOf_pos] at k
      rw [if_neg k] at he
      refine ⟨fun e => ?_, fun e => ?_⟩
      ·rw [if_pos (by omega)] at he
       rw [← he] at hb
       exact hb
      ·have hne : ¬ (l ++ r).length = 2000 := by omega
       rw [if_neg hne] at he
       have hps := hq4.push hi4 (mem_bsucc.2 ⟨hin, q, rfl⟩) k hwb hne
       have hl5 := hps.len
       exact ⟨⟨Nat.le_trans hl5 (by decide), Nat.le_trans (Nat.mul_le_mul_right 40 hl5) (by decide)⟩, ⟨j + 1, by omega, by omega, hps, ⟨r ++ [_], by rw [List.append_assoc]⟩, he⟩, by omega⟩
    ·have eo : opS t (gt l (i : Int)).node (j : Int) = none := by rw [opS, if_neg (by rw [q]; decide)]
     rw [eo] at he
     exact ⟨⟨j + 1, by omega, by omega, hq4, ⟨r, rfl⟩, he⟩, by omega⟩
   ·have ed : (allS t.ops.length).drop j = [] := List.drop_eq_nil_of_le (by rw [allS_len]; omega)
    rw [ed, List.filterMap_nil, expand] at he
    rw [← he] at hb
    rw [w64 (n := (i : Int) + 1) (by omega)]
    refine ⟨⟨i + 1, by omega, by rw [List.length_append]; omega, hq4, ?_⟩, by omega⟩
    rw [show 2001 - (i + 1) = 2000 - i by omega]
    exact hb
 ·have hn : l[i]? = none := List.getElem?_eq_none (by omega)
  rw [ef, bfs] at hb
  simp only [hn] at hb
  exact hb
theorem ok_breadthP : ∀ (start2 : List (List Int)) (x : Task) (x2 : Task), pre_breadthP start2 x x2 → F_breadthP start2 x x2 (fun r => r = sp_breadthP start2 x x2) := fun start t t2 hp => by
 obtain ⟨hv, hw, he2⟩ := hp
 obtain rfl := he2.symm
 have hops := (taskOK_of hv).len
 refine ⟨key_ok hv hw, ?_⟩
 simp only [forall_eq, sp_key]
 refine ⟨fun x2 l m => ∃ i : Nat, x2 = i ∧ i ≤ l.length ∧ QOK t start l m ∧ bfs (bsucc t) (fun w => sp_sure w t.goal) (2001 - i) l i = search (bsucc t) (fun w => sp_sure w t.goal) start, fun x2 _ _ => (2001 - x2).toNat, ⟨0, rfl, Nat.zero_le _, QOK.start hw, rfl⟩, ?_⟩
 rintro _ l m ⟨i, rfl, i1, hq, hb⟩
 have hlen := hq.len
 have ef : 2001 - i = (2000 - i) + 1 := by omega
 unfold F_breadthP_L1
 simp only [forall_eq, decide_eq_true_eq, decide_eq_false_iff_not]
 refine ⟨fun h => ?_, fun h => ?_⟩
 ·have hi : i < l.length := by omega
  have hg := entry_gt hi
  have hwn := hq.ok _ (gt_memN hi)
  rw [ef, bfs] at hb
  simp only [hg] at hb
  refine ⟨⟨by omega, h⟩, ⟨hv, hwn⟩, fun e => ?_, fun e _ _ => ?_⟩
  ·rw [if_pos (show sp_sure (gt l (i : Int)).node t.goal = true from e)] at hb
   have hbl := backR_len l (i + 1) i
   refine ⟨fun p out => ∃ j : Nat, p = j ∧ j < l.length ∧ out ++ backR l (j + 1) j = backR l (i + 1) i, fun p _ => p.toNat, ⟨i, rfl, hi, rfl⟩, ?_⟩
   rintro _ out ⟨j, rfl, j1, hj⟩
   have hgj := entry_gt j1
   have ol := congrArg List.length hj
   rw [List.length_append] at ol
   unfold F_breadthP_L2
   simp only [forall_eq, decide_eq_true_eq, decide_eq_false_iff_not]
   have e0 : l[((j : Nat) : Int).toNat]? = some (gt l (j : Int)) := by simpa using hgj
   rw [backR] at hj
   simp only [e0] at hj
   refine ⟨⟨by omega, by omega⟩, fun f => ?_, fun f => ?_⟩
   ·rw [if_neg (by omega)] at hj
    have h0 : 0 < j := Nat.pos_of_ne_zero fun e => by
     subst e
     have h1 := hq.shape.head
     rw [hgj] at h1
     rw [Option.some.inj h1] at f
     exact absurd f (show ¬ (0 : Int) ≤ -1 by decide)
    obtain ⟨k, u, k1, k2, k3, _⟩ := hq.shape.link j _ hgj h0
    have k4 := (List.getElem?_eq_some_iff.1 k3).1
    rw [k1, backR_fuel hq.shape k j k4 k2] at hj
    rw [k1]
    refine ⟨⟨?_, ?_⟩, ⟨k, rfl, k4, by rw [List.append_assoc]; exact hj⟩, by omega⟩
    ·simp only [List.length_append, List.length_singleton, maxLen]; omega
    ·simp only [List.length_append, List.length_singleton]; omega
   ·rw [if_pos (by omega), List.append_nil] at hj
    refine ⟨by unfold pre_reverse; omega, ?_⟩
    rw [hj]
    exact hb
  ·rw [if_neg (by rw [show sp_sure (gt l (i : Int)).node t.goal = false from e]; decide)] at hb
   refine ⟨fun t9 l4 m3 => ∃ j : Nat, t9 = j ∧ j ≤ t.ops.length ∧ QOK t start l4 m3 ∧ (∃ r, l4 = l ++ r) ∧ expand (i : Int) (((allS t.ops.length).drop j).filterMap (opS t (gt l (i : Int)).node)) l4 = expand (i : Int) (bsucc t (gt l (i : Int)).node) l, fun t9 _ _ => (t.ops.length - t9).toNat, ⟨0, rfl, Nat.zero_le _, hq, ⟨[], by simp⟩, rfl⟩, ?_⟩
   rintro _ l4 m3 ⟨j, rfl, j1, hq4, ⟨r, rfl⟩, he⟩
   have hlen4 := hq4.len
   have hi4 : (l ++ r)[i]? = some (gt l (i : Int)) := by rw [List.getElem?_append_left hi]; exact hg
   unfold F_breadthP_L3 F_breadthP_J1
   simp only [forall_eq, decide_eq_true_eq, decide_eq_false_iff_not, beq_iff_eq, beq_eq_false_iff_ne, ne_eq, sp_key]
   refine ⟨fun g => ?_, fun g => ?_⟩
   ·have hj : j < t.ops.length := by omega
    have hin : inb t.ops (j : Int) := ⟨by omega, g⟩
    rw [allS_drop hj, List.filterMap_cons] at he
    rw [w64 (n := (j : Int) + 1) (by omega)]
    refine ⟨hin, pre_sure_of hv hwn ((taskOK_of hv).op hin).1, fun q => ?_, fun q => ?_⟩
    ·have eo : opS t (gt l (i : Int)).node (j : Int) = some ((j : Int), sp_bafter t (gt l (i : Int)).node (j : Int)) := by rw [opS, if_pos q]
     rw [eo] at he
     simp only [expand] at he
     have hwb := bafter_ok hv hwn (j : Int)
     refine ⟨⟨hv, hin, hwn⟩, key_ok hv hwb, fun k => ?_, fun k => ?_⟩
     ·rw [hq4.map, mapOf_pos] at k
      rw [if_pos k] at he
      exact ⟨⟨j + 1, by omega, by omega, hq4, ⟨r, rfl⟩, he⟩, by omega⟩
     ·rw [hq4.map, mapOf_pos] at k
      rw [if_neg k] at he
      refine ⟨fun e => ?_, fun e => ?_⟩
      ·rw [if_pos (by omega)] at he
       rw [← he] at hb
       exact hb
      ·have hne : ¬ (l ++ r).length = 2000 := by omega
       rw [if_neg hne] at he
       have hps := hq4.push hi4 (mem_bsucc.2 ⟨hin, q, rfl⟩) k hwb hne
       have hl5 := hps.len
       exact ⟨⟨Nat.le_trans hl5 (by decide), Nat.le_trans (Nat.mul_le_mul_right 40 hl5) (by decide)⟩, ⟨j + 1, by omega, by omega, hps, ⟨r ++ [_], by rw [List.append_assoc]⟩, he⟩, by omega⟩
    ·have eo : opS t (gt l (i : Int)).node (j : Int) = none := by rw [opS, if_neg (by rw [q]; decide)]
     rw [eo] at he
     exact ⟨⟨j + 1, by omega, by omega, hq4, ⟨r, rfl⟩, he⟩, by omega⟩
   ·have ed : (allS t.ops.length).drop j = [] := List.drop_eq_nil_of_le (by rw [allS_len]; omega)
    rw [ed, List.filterMap_nil, expand] at he
    rw [← he] at hb
    rw [w64 (n := (i : Int) + 1) (by omega)]
    refine ⟨⟨i + 1, by omega, by rw [List.length_append]; omega, hq4, ?_⟩, by omega⟩
    rw [show 2001 - (i + 1) = 2000 - i by omega]
    exact hb
 ·have hn : l[i]? = none := List.getElem?_eq_none (by omega)
  rw [ef, bfs] at hb
  simp only [hn] at hb
  exact hb
theorem ok_small : ∀ (start2 : List (List Int)) (x : Task), pre_small start2 x → F_small start2 x (fun r => r = sp_small start2 x) := fun _ _ hp => ⟨hp, fun r hr => by rw [hr]; rfl⟩
theorem ok_bplan : ∀ (t : Task) (unknown : List Int), F_bplan t unknown (fun r => r = sp_bplan t unknown) := fun t u => by
 unfold F_bplan sp_bplan
 simp only [forall_eq, fault_ne, fault_eq]
 refine ⟨fun h => by rw [if_neg h], fun h => ?_⟩
 have hu := unknown_ok h
 have hw := worlds_ok hu
 rw [if_pos h]
 simp only [decide_eq_true_eq, decide_eq_false_iff_not, Bool.not_eq_true', Bool.not_eq_false']
 refine fun _ _ => ⟨hu, ⟨hu.1, hw⟩, fun g => by rw [if_neg (by rw [g]; decide)], fun g => ?_⟩
 rw [if_pos g]
 exact ⟨⟨hu.1, hw, rfl⟩, fun q => by rw [if_pos (by omega)], fun q => by rw [if_neg (by omega)]⟩
end Go.Proofs.YtimillpakjgnoaaGreatDoor.Pl

namespace Go.Proofs.YtimillpakjgnoaaGreatDoor.Pl
open Go Go.RowKit
theorem ok_word : ∀ (s_ : List Int), pre_word s_ → F_word s_ (fun r => r = sp_word s_) := fun s ⟨hl, h0⟩ => by
 refine ⟨fun w t => ∃ k : Nat, t = k ∧ k ≤ s.length ∧ w = sp_word (s.take k), fun _ t => (s.length - t).toNat, ⟨0, rfl, Nat.zero_le _, rfl⟩, ?_⟩
 rintro w _ ⟨k, rfl, k1, rfl⟩
 unfold F_word_L1
 simp only [decide_eq_true_eq, decide_eq_false_iff_not, forall_eq]
 refine ⟨fun h => ?_, fun h => ?_⟩
 ·have hk : k < s.length := by omega
  rw [w64 (by omega)]
  refine ⟨⟨by omega, h⟩, h0 _ (gt_memN hk), ⟨k + 1, by omega, by omega, ?_⟩, by omega⟩
  rw [takeN_gt hk, sp_word, sp_word, List.foldl_append]
  rfl
 ·rw [List.take_of_length_le (by omega)]
theorem ok_facts : ∀ (w_ : Int), pre_facts w_ → F_facts w_ (fun r => r = sp_facts w_) := fun w _ => by
 refine ⟨fun t out => ∃ k : Nat, t = k ∧ k ≤ 32 ∧ out = (allS k).filter fun p => bits .and .u32 (Int.fdiv w (2 ^ (min p.toNat (IntKind.bits .u32)))) 1 == 1, fun t _ => (32 - t).toNat, ⟨0, rfl, Nat.zero_le _, rfl⟩, ?_⟩
 rintro _ out ⟨k, rfl, k1, k2⟩
 have hlen : out.length ≤ k := by
  rw [k2]
  exact Nat.le_trans (List.length_filter_le _ _) (by rw [allS_len]; exact Nat.le_refl _)
 unfold F_facts_L1 F_facts_J1
 simp only [decide_eq_true_eq, decide_eq_false_iff_not, forall_eq, List.length_append, List.length_singleton]
 refine ⟨fun h => ?_, fun h => ?_⟩
 ·rw [w64 (by omega)]
  refine ⟨by omega, fun q => ⟨⟨by simp only [maxLen]; omega, by omega⟩, ⟨k + 1, by omega, by omega, ?_⟩, by omega⟩, fun q => ⟨⟨k + 1, by omega, by omega, ?_⟩, by omega⟩⟩
  ·rw [allS_succ, List.filter_append, ← k2, filter1_pos (p := fun p => bits .and .u32 (Int.fdiv w (2 ^ (min p.toNat (IntKind.bits .u32)))) 1 == 1) q]
  ·rw [allS_succ, List.filter_append, ← k2, filter1_neg (p := fun p => bits .and .u32 (Int.fdiv w (2 ^ (min p.toNat (IntKind.bits .u32)))) 1 == 1) q, List.append_nil]
 ·have hk : k = 32 := by omega
  subst hk
  exact k2
theorem facts_len (w : Int) : (sp_facts w).length ≤ 32 := Nat.le_trans (List.length_filter_le _ _) (by rw [allS_len]; exact Nat.le_refl _)
theorem ok_wcmp : ∀ (a : Int) (b : Int), pre_wcmp a b → F_wcmp a b (fun r => r = sp_wcmp a b) := fun a b _ => by
 refine ⟨trivial, fun r2 h2 => ⟨trivial, fun r3 h3 => ⟨?_, fun r4 h4 => ?_⟩⟩⟩
 ·subst h2; subst h3
  have := facts_len a
  have := facts_len b
  exact ⟨by omega, by omega⟩
 ·rw [h4, h2, h3]; rfl
theorem or32 (a b : Nat) (ha : a < 4294967296) (hb : b < 4294967296) : bits .or .u32 (a : Int) (b : Int) = ((a ||| b : Nat) : Int) ∧ a ||| b < 4294967296 := by
 have hx : a ||| b < 2 ^ 32 := Nat.or_lt_two_pow (by omega) (by omega)
 have h1 : (BitVec.ofInt 32 (a : Int)).toNat = a := by
  rw [BitVec.ofInt_natCast, BitVec.toNat_ofNat]; exact Nat.mod_eq_of_lt (by omega)
 have h2 : (BitVec.ofInt 32 (b : Int)).toNat = b := by
  rw [BitVec.ofInt_natCast, BitVec.toNat_ofNat]; exact Nat.mod_eq_of_lt (by omega)
 refine ⟨?_, by omega⟩
 show IntKind.u32.wrap ((BitVec.ofInt 32 (a : Int) ||| BitVec.ofInt 32 (b : Int)).toNat : Int) = _
 rw [BitVec.toNat_or, h1, h2, IntKind.wrap_u32]; omega
theorem and32 (a b : Nat) (ha : a < 4294967296) (hb : b < 4294967296) : bits .and .u32 (a : Int) (b : Int) = ((a &&& b : Nat) : Int) ∧ a &&& b < 4294967296 := by
 have hx : a &&& b < 2 ^ 32 := Nat.and_lt_two_pow _ (by omega)
 have h1 : (BitVec.ofInt 32 (a : Int)).toNat = a := by
  rw [BitVec.ofInt_natCast, BitVec.toNat_ofNat]; exact Nat.mod_eq_of_lt (by omega)
 have h2 : (BitVec.ofInt 32 (b : Int)).toNat = b := by
  rw [BitVec.ofInt_natCast, BitVec.toNat_ofNat]; exact Nat.mod_eq_of_lt (by omega)
 refine ⟨?_, by omega⟩
 show IntKind.u32.wrap ((BitVec.ofInt 32 (a : Int) &&& BitVec.ofInt 32 (b : Int)).toNat : Int) = _
 rw [BitVec.toNat_and, h1, h2, IntKind.wrap_u32]; omega
theorem andNot32 (a b : Nat) : ∃ c : Nat, bits .andNot .u32 (a : Int) (b : Int) = (c : Int) ∧ c < 4294967296 ∧ ∀ i, i < 32 → c.testBit i = (a.testBit i && !b.testBit i) := by
 have h1 : (BitVec.ofInt 32 (a : Int)) = BitVec.ofNat 32 a := BitVec.ofInt_natCast 32 a
 have h2 : (BitVec.ofInt 32 (b : Int)) = BitVec.ofNat 32 b := BitVec.ofInt_natCast 32 b
 have hlt := (BitVec.ofNat 32 a &&& ~~~(BitVec.ofNat 32 b)).isLt
 refine ⟨(BitVec.ofNat 32 a &&& ~~~(BitVec.ofNat 32 b)).toNat, ?_, by omega, fun i hi => ?_⟩
 ·show IntKind.u32.wrap ((BitVec.ofInt 32 (a : Int) &&& ~~~(BitVec.ofInt 32 (b : Int))).toNat : Int) = _
  rw [h1, h2, IntKind.wrap_u32]; omega
 ·rw [BitVec.testBit_toNat, BitVec.getLsbD_and, BitVec.getLsbD_not, BitVec.getLsbD_ofNat, BitVec.getLsbD_ofNat]
  simp [hi]
theorem bits_u32 (op : BinOp) (x y : Int) : U32 (bits op .u32 x y) := by
 unfold bits
 simp only
 rw [IntKind.wrap_u32]
 exact ⟨by omega, by omega⟩
structure Wd (w : Int) (s : Int → Prop) : Prop where
 ex : ∃ n : Nat, w = (n : Int) ∧ n < 4294967296 ∧ ∀ i : Nat, i < 32 → (n.testBit i = true ↔ s (i : Int))
theorem bitW_eq {p : Nat} (hp : p < 32) : bitW (p : Int) = ((2 ^ p : Nat) : Int) ∧ 2 ^ p < 4294967296 := by
 have e1 : min ((p : Int)).toNat (IntKind.bits .u32) = p := by
  rw [Int.toNat_natCast]; show min p 32 = p; omega
 have e2 : 2 ^ p < 2 ^ 32 := Nat.pow_lt_pow_right (by omega) hp
 refine ⟨?_, by omega⟩
 unfold bitW
 rw [e1, Int.one_mul, show (2 : Int) ^ p = ((2 ^ p : Nat) : Int) by simp, IntKind.wrap_u32]
 generalize 2 ^ p = N at e2 ⊢
 omega
theorem Wd.word : ∀ (s : List Int), (∀ p ∈ s, 0 ≤ p ∧ p < 32) → Wd (sp_word s) (fun p => p ∈ s) := by
 have key : ∀ (s acc : List Int) (w : Int), Wd w (fun p => p ∈ acc) → (∀ p ∈ s, 0 ≤ p ∧ p < 32) → Wd (s.foldl (fun w p => bits .or .u32 w (bitW p)) w) (fun p => p ∈ acc ∨ p ∈ s) := by
  intro s
  induction s with
  | nil => intro acc w h _; exact ⟨by obtain ⟨n, a, b, c⟩ := h.ex; exact ⟨n, a, b, fun i hi => by rw [c i hi]; simp⟩⟩
  | cons x r ih =>
   intro acc w h hs
   obtain ⟨n, rfl, n1, n2⟩ := h.ex
   obtain ⟨x0, x1⟩ := hs x List.mem_cons_self
   obtain ⟨k, rfl⟩ : ∃ k : Nat, x = k := ⟨x.toNat, by omega⟩
   obtain ⟨b1, b2⟩ := bitW_eq (p := k) (by omega)
   obtain ⟨o1, o2⟩ := or32 n (2 ^ k) n1 b2
   have := ih (acc ++ [(k : Int)]) (bits .or .u32 (n : Int) (bitW (k : Int))) ⟨⟨n ||| 2 ^ k, by rw [b1]; exact o1, o2, fun i hi => by
    rw [Nat.testBit_or, Nat.testBit_two_pow, Bool.or_eq_true, n2 i hi, decide_eq_true_eq, List.mem_append, List.mem_singleton]
    exact or_congr_right ⟨fun e => by rw [e], fun e => by omega⟩⟩⟩ fun p hp => hs p (List.mem_cons_of_mem _ hp)
   rw [List.foldl_cons]
   obtain ⟨m, m1, m2, m3⟩ := this.ex
   refine ⟨m, m1, m2, fun i hi => ?_⟩
   rw [m3 i hi, List.mem_append, List.mem_singleton, List.mem_cons]
   exact or_assoc
 intro s hs
 have := key s [] 0 ⟨⟨0, rfl, by omega, fun i _ => by simp⟩⟩ hs
 obtain ⟨m, m1, m2, m3⟩ := this.ex
 exact ⟨m, m1, m2, fun i hi => by rw [m3 i hi]; simp⟩
theorem Wd.u32 {w : Int} {s : Int → Prop} (h : Wd w s) : U32 w := by
 obtain ⟨n, rfl, n1, _⟩ := h.ex
 exact ⟨by omega, by omega⟩
theorem Wd.unique {w w' : Int} {s : Int → Prop} (h : Wd w s) (h' : Wd w' s) : w = w' := by
 obtain ⟨n, rfl, n1, n2⟩ := h.ex
 obtain ⟨m, rfl, m1, m2⟩ := h'.ex
 congr 1
 refine Nat.eq_of_testBit_eq fun i => ?_
 by_cases hi : i < 32
 ·have a := n2 i hi
  have b := m2 i hi
  cases hx : n.testBit i <;> cases hy : m.testBit i <;> simp_all
 ·have h32 : 2 ^ 32 ≤ 2 ^ i := Nat.pow_le_pow_right (by omega) (by omega)
  rw [Nat.testBit_lt_two_pow (by omega), Nat.testBit_lt_two_pow (by omega)]
theorem Wd.iff {w : Int} {s s' : Int → Prop} (h : Wd w s) (e : ∀ i : Nat, i < 32 → (s (i : Int) ↔ s' (i : Int))) : Wd w s' := by
 obtain ⟨n, n0, n1, n2⟩ := h.ex
 exact ⟨n, n0, n1, fun i hi => (n2 i hi).trans (e i hi)⟩
theorem Wd.inj {w : Int} {s s' : Int → Prop} (h : Wd w s) (h' : Wd w s') : ∀ i : Nat, i < 32 → (s (i : Int) ↔ s' (i : Int)) := fun i hi => by
 obtain ⟨n, rfl, n1, n2⟩ := h.ex
 obtain ⟨m, m0, m1, m2⟩ := h'.ex
 obtain rfl : n = m := by omega
 rw [← n2 i hi, ← m2 i hi]
theorem Wd.or {a b : Int} {s s' : Int → Prop} (h : Wd a s) (h' : Wd b s') : Wd (bits .or .u32 a b) (fun p => s p ∨ s' p) := by
 obtain ⟨n, rfl, n1, n2⟩ := h.ex
 obtain ⟨m, rfl, m1, m2⟩ := h'.ex
 obtain ⟨o1, o2⟩ := or32 n m n1 m1
 exact ⟨n ||| m, o1, o2, fun i hi => by rw [Nat.testBit_or, Bool.or_eq_true, n2 i hi, m2 i hi]⟩
theorem Wd.and {a b : Int} {s s' : Int → Prop} (h : Wd a s) (h' : Wd b s') : Wd (bits .and .u32 a b) (fun p => s p ∧ s' p) := by
 obtain ⟨n, rfl, n1, n2⟩ := h.ex
 obtain ⟨m, rfl, m1, m2⟩ := h'.ex
 obtain ⟨o1, o2⟩ := and32 n m n1 m1
 exact ⟨n &&& m, o1, o2, fun i hi => by rw [Nat.testBit_and, Bool.and_eq_true, n2 i hi, m2 i hi]⟩
theorem Wd.andNot {a b : Int} {s s' : Int → Prop} (h : Wd a s) (h' : Wd b s') : Wd (bits .andNot .u32 a b) (fun p => s p ∧ ¬ s' p) := by
 obtain ⟨n, rfl, n1, n2⟩ := h.ex
 obtain ⟨m, rfl, m1, m2⟩ := h'.ex
 obtain ⟨c, c1, c2, c3⟩ := andNot32 n m
 refine ⟨c, c1, c2, fun i hi => ?_⟩
 have := m2 i hi
 rw [c3 i hi, Bool.and_eq_true, n2 i hi]
 cases hb : m.testBit i <;> simp_all
theorem Wd.sub {a b : Int} {s s' : Int → Prop} (h : Wd a s) (h' : Wd b s') : (bits .and .u32 a b == b) = true ↔ ∀ i : Nat, i < 32 → s' (i : Int) → s (i : Int) := by
 rw [beq_iff_eq]
 constructor
 ·intro e i hi hs
  have hx := h.and h'
  rw [e] at hx
  exact ((hx.inj h' i hi).2 hs).1
 ·intro g
  exact Wd.unique (h.and h') (h'.iff fun i hi => ⟨fun q => ⟨g i hi q, q⟩, fun q => q.2⟩)
theorem mem_facts {w : Int} {s : Int → Prop} (h : Wd w s) {p : Int} : p ∈ sp_facts w ↔ (0 ≤ p ∧ p < 32) ∧ s p := by
 obtain ⟨n, rfl, n1, n2⟩ := h.ex
 unfold sp_facts
 rw [List.mem_filter, mem_allS]
 refine and_congr_right fun hp => ?_
 obtain ⟨k, rfl⟩ : ∃ k : Nat, p = k := ⟨p.toNat, by omega⟩
 have hk : k < 32 := by have := hp.2; omega
 have e1 : min ((k : Int)).toNat (IntKind.bits .u32) = k := by
  rw [Int.toNat_natCast]; show min k 32 = k; omega
 have e2 : Int.fdiv (n : Int) (2 ^ k) = ((n / 2 ^ k : Nat) : Int) := by
  rw [Int.fdiv_eq_ediv_of_nonneg _ (Int.le_of_lt (Int.pow_pos (by decide)))]
  simp
 have e3 : n / 2 ^ k ≤ n := Nat.div_le_self _ _
 have e4 := (and32 (n / 2 ^ k) 1 (by omega) (by omega)).1
 rw [show ((1 : Nat) : Int) = 1 from rfl] at e4
 rw [e1, e2, e4, ← n2 k hk, Nat.and_one_is_mod, Nat.testBit_eq_decide_div_mod_eq, beq_iff_eq, decide_eq_true_eq]
 omega
theorem pushW_spec : ∀ (r : List (Int × Int)) (z : List Int × List (Int × Unit)), (∃ l, (pushW r z).1 = z.1 ++ l ∧ (pushW r z).2.length = z.2.length + l.length) ∧ (∀ x, x ∈ (pushW r z).2.map (·.1) → x ∈ z.2.map (·.1) ∨ x ∈ (pushW r z).1) ∧ (∀ x, x ∈ z.2.map (·.1) → x ∈ (pushW r z).2.map (·.1)) ∧ (∀ x ∈ r, x.2 ∈ (pushW r z).2.map (·.1)) ∧ (pushW r z).2.length ≤ z.2.length + r.length
 | [], z => ⟨⟨[], by simp [pushW], rfl⟩, fun _ h => .inl h, fun _ h => h, fun _ h => (by cases h), Nat.le_refl _⟩
 | x :: r, z => by
  rw [pushW]
  split
  ·rename_i hx
   obtain ⟨h1, h2, h3, h4, h5⟩ := pushW_spec r z
   refine ⟨h1, h2, h3, fun y hy => ?_, by simp; omega⟩
   rcases List.mem_cons.1 hy with rfl | hy
   ·exact h3 _ (getA_some.1 hx)
   ·exact h4 y hy
  ·rename_i hx
   obtain ⟨⟨l, g1, g2⟩, h2, h3, h4, h5⟩ := pushW_spec r (z.1 ++ [x.2], setA z.2 x.2 ())
   have hn : getA z.2 x.2 = none := by
    cases h : getA z.2 x.2 with
    | none => rfl
    | some v => rw [h] at hx; exact absurd rfl hx
   have hs := setA_new (v := ()) hn
   rw [hs] at g1 g2 h2 h3 h4 h5 ⊢
   simp only [List.length_append, List.length_singleton] at g2 h5
   refine ⟨⟨x.2 :: l, by rw [g1]; simp, by simp; omega⟩, fun y hy => ?_, fun y hy => ?_, fun y hy => ?_, by simp; omega⟩
   ·rcases h2 y hy with q | q
    ·rw [List.map_append, List.mem_append] at q
     rcases q with q | q
     ·exact .inl q
     ·simp at q
      refine .inr ?_
      rw [g1, q]; simp
    ·exact .inr q
   ·exact h3 y (by rw [List.map_append]; exact List.mem_append_left _ hy)
   ·rcases List.mem_cons.1 hy with rfl | hy
    ·exact h3 _ (by rw [List.map_append]; exact List.mem_append_right _ (by simp))
    ·exact h4 y hy
theorem mem_wsucc {W : WordsT} {s : Int} {x : Int × Int} : x ∈ wsucc W s ↔ inb W.ops x.1 ∧ (bits .and .u32 s (gt W.ops x.1).pre == (gt W.ops x.1).pre) = true ∧ x.2 = bits .or .u32 (bits .andNot .u32 s (gt W.ops x.1).del) (gt W.ops x.1).add := by
 unfold wsucc
 rw [List.mem_filterMap]
 constructor
 ·rintro ⟨i, h1, h2⟩
  unfold wopS at h2
  split at h2
  ·rename_i hs
   obtain rfl := Option.some.inj h2
   exact ⟨mem_allS.1 h1, hs, rfl⟩
  ·cases h2
 ·rintro ⟨h1, h2, h3⟩
  refine ⟨x.1, mem_allS.2 h1, ?_⟩
  unfold wopS
  rw [if_pos h2, ← h3]
theorem wsucc_sorted (W : WordsT) (s : Int) : ((wsucc W s).map (·.1)).Pairwise (· < ·) := by
 unfold wsucc
 rw [List.map_filterMap]
 refine List.Pairwise.filterMap _ (fun a a' h b hb b' hb' => ?_) (allS_sorted W.ops.length)
 unfold wopS at hb hb'
 split at hb
 ·split at hb'
  ·simp at hb hb'; subst hb; subst hb'; exact h
  ·simp at hb'
 ·simp at hb
theorem last_takeW {l : List Int} (h : 0 < l.length) : l.getLast? = some (gt l ((l.length : Int) - 1)) ∧ l.take ((l.length : Int) - 1).toNat = l.dropLast := by
 have e : ((l.length : Int) - 1).toNat = l.length - 1 := by omega
 refine ⟨?_, by rw [e, List.dropLast_eq_take]⟩
 rw [List.getLast?_eq_getElem?]
 have := gt_get (xs := l) (i := (l.length : Int) - 1) ⟨by omega, by omega⟩
 rw [e] at this
 exact this
theorem ok_all : ∀ (x : WordsT), pre_all x → F_all x (fun r => r = sp_all x) := fun W hp => by
 have hops : W.ops.length ≤ 40 := hp
 intro m hm
 rw [show m = [(W.start, ())] from hm]
 refine ⟨fun out l m => out.length + l.length = m.length ∧ m.length ≤ 2000 ∧ dfs W (2001 - out.length) l m out = sp_all W, fun out _ _ => 2001 - out.length, ⟨rfl, by simp, rfl⟩, ?_⟩
 rintro out l m ⟨h1, h2, h3⟩
 unfold F_all_L1
 simp only [decide_eq_true_eq, decide_eq_false_iff_not, forall_eq, List.length_append, List.length_singleton]
 refine ⟨fun h => ?_, fun h => ?_⟩
 ·have hl : 0 < l.length := by omega
  obtain ⟨g1, g2⟩ := last_takeW hl
  rw [w64 (by omega), g2]
  have hdl : l.dropLast.length = l.length - 1 := List.length_dropLast
  rw [show 2001 - out.length = (2000 - out.length) + 1 by omega, dfs] at h3
  simp only [g1] at h3
  obtain ⟨⟨lx, p1, p2⟩, _, _, _, p5⟩ := pushW_spec (wsucc W (gt l ((l.length : Int) - 1))) (l.dropLast, m)
  refine ⟨⟨by omega, by omega⟩, ⟨by omega, by omega⟩, ⟨by simp only [maxLen]; omega, by omega⟩, ?_⟩
  refine ⟨fun t l4 m4 => ∃ j : Nat, t = j ∧ j ≤ W.ops.length ∧ l4.length + (out.length + 1) = m4.length ∧ m4.length ≤ m.length + j ∧ pushW (((allS W.ops.length).drop j).filterMap (wopS W (gt l ((l.length : Int) - 1)))) (l4, m4) = pushW (wsucc W (gt l ((l.length : Int) - 1))) (l.dropLast, m), fun t _ _ => (W.ops.length - t).toNat, ⟨0, rfl, Nat.zero_le _, by omega, Nat.le_refl _, rfl⟩, ?_⟩
  rintro _ l4 m4 ⟨j, rfl, j1, j2, j3, j4⟩
  unfold F_all_L2 F_all_J1
  rw [w64 (n := (l.length : Int) - 1) (by omega)]
  simp only [decide_eq_true_eq, decide_eq_false_iff_not, forall_eq, List.length_append, List.length_singleton, Bool.not_eq_true', Bool.not_eq_false']
  refine ⟨fun g => ?_, fun g => ?_⟩
  ·have hj : j < W.ops.length := by omega
   rw [allS_drop hj, List.filterMap_cons] at j4
   rw [w64 (n := (j : Int) + 1) (by omega)]
   refine ⟨⟨by omega, g⟩, fun q => ?_, fun q => ?_⟩
   ·have eo : wopS W (gt l ((l.length : Int) - 1)) (j : Int) = some ((j : Int), bits .or .u32 (bits .andNot .u32 (gt l ((l.length : Int) - 1)) (gt W.ops (j : Int)).del) (gt W.ops (j : Int)).add) := by rw [wopS, if_pos q]
    rw [eo] at j4
    simp only [pushW] at j4
    refine ⟨fun k => ?_, fun k => ?_⟩
    ·rw [if_neg (by rw [k]; decide)] at j4
     have hn : getA m4 (bits .or .u32 (bits .andNot .u32 (gt l ((l.length : Int) - 1)) (gt W.ops (j : Int)).del) (gt W.ops (j : Int)).add) = none := by
      cases h : getA m4 (bits .or .u32 (bits .andNot .u32 (gt l ((l.length : Int) - 1)) (gt W.ops (j : Int)).del) (gt W.ops (j : Int)).add) with
      | none => rfl
      | some v => rw [h] at k; cases k
     have hsl : (setA m4 (bits .or .u32 (bits .andNot .u32 (gt l ((l.length : Int) - 1)) (gt W.ops (j : Int)).del) (gt W.ops (j : Int)).add) ()).length = m4.length + 1 := by rw [setA_new hn, List.length_append]; rfl
     exact ⟨⟨by simp only [maxLen]; omega, by omega⟩, ⟨j + 1, by omega, by omega, by rw [hsl]; omega, by rw [hsl]; omega, j4⟩, by omega⟩
    ·rw [if_pos k] at j4
     exact ⟨⟨j + 1, by omega, by omega, j2, by omega, j4⟩, by omega⟩
   ·have eo : wopS W (gt l ((l.length : Int) - 1)) (j : Int) = none := by rw [wopS, if_neg (by rw [q]; decide)]
    rw [eo] at j4
    exact ⟨⟨j + 1, by omega, by omega, j2, by omega, j4⟩, by omega⟩
  ·have ed : (allS W.ops.length).drop j = [] := List.drop_eq_nil_of_le (by rw [allS_len]; omega)
   rw [ed, List.filterMap_nil, pushW] at j4
   rw [← j4] at h3
   refine ⟨fun q => ?_, fun q => ⟨⟨by omega, by omega, ?_⟩, by omega⟩⟩
   ·rw [if_pos (by simp only; omega)] at h3
    exact h3
   ·rw [if_neg (by simp only; omega)] at h3
    rw [show 2001 - (out.length + 1) = 2000 - out.length by omega]
    exact h3
 ·have hl : l = [] := List.eq_nil_of_length_eq_zero (by omega)
  subst hl
  rw [show 2001 - out.length = (2000 - out.length) + 1 by simp at h1; omega, dfs] at h3
  exact h3
theorem dfs_closed (W : WordsT) : ∀ (k : Nat) (l : List Int) (m : List (Int × Unit)) (out r : List Int), out.length + l.length = m.length → m.length ≤ 2000 → 2001 ≤ k + out.length → (∀ x ∈ m.map (·.1), x ∈ out ∨ x ∈ l) → (∀ s ∈ out, ∀ x ∈ wsucc W s, x.2 ∈ m.map (·.1)) → dfs W k l m out = (r, true) →
  ∃ all : List Int, all.length ≤ 2000 ∧ (∀ x ∈ m.map (·.1), x ∈ all) ∧ ∀ n ∈ all, ∀ x ∈ wsucc W n, x.2 ∈ all
 | 0, l, m, out, r, h1, h2, h3, _, _, _ => by omega
 | k + 1, l, m, out, r, h1, h2, h3, h4, h5, he => by
  rw [dfs] at he
  cases hl : l.getLast? with
  | none =>
   have : l = [] := List.getLast?_eq_none_iff.1 hl
   subst this
   refine ⟨out, by simp at h1; omega, fun x hx => (h4 x hx).resolve_right (by simp), fun n hn x hx => (h4 _ (h5 n hn x hx)).resolve_right (by simp)⟩
  | some s =>
   simp only [hl] at he
   split at he
   ·cases he
   ·rename_i hb
    obtain ⟨⟨lx, p1, p2⟩, q2, q3, q4, _⟩ := pushW_spec (wsucc W s) (l.dropLast, m)
    have hls : l = l.dropLast ++ [s] := by
     obtain ⟨ys, e⟩ := List.getLast?_eq_some_iff.1 hl
     rw [e]; simp
    have hlen : l.length = l.dropLast.length + 1 := by
     have := congrArg List.length hls
     rwa [List.length_append] at this
    obtain ⟨all, a1, a2, a3⟩ := dfs_closed W k _ _ (out ++ [s]) r (by rw [p1, p2]; simp only [List.length_append, List.length_singleton]; omega) (by omega) (by simp; omega) (fun x hx => by
     rcases q2 x hx with g | g
     ·rcases h4 x g with g | g
      ·exact .inl (List.mem_append_left _ g)
      ·rw [hls] at g
       rcases List.mem_append.1 g with g | g
       ·refine .inr ?_
        rw [p1]; exact List.mem_append_left _ g
       ·exact .inl (List.mem_append_right _ g)
     ·exact .inr g) (fun s' hs' x hx => by
     rcases List.mem_append.1 hs' with g | g
     ·exact q3 _ (h5 s' g x hx)
     ·rw [List.mem_singleton.1 g] at hx
      exact q4 x hx) he
    exact ⟨all, a1, fun x hx => a2 x (q3 x hx), a3⟩
theorem all_closed {W : WordsT} (h : (sp_all W).2 = true) : ∃ all : List Int, all.length ≤ 2000 ∧ W.start ∈ all ∧ ∀ n ∈ all, ∀ x ∈ wsucc W n, x.2 ∈ all := by
 obtain ⟨all, a1, a2, a3⟩ := dfs_closed W 2001 [W.start] [(W.start, ())] [] (sp_all W).1 rfl (by simp) (by simp) (fun x hx => .inr (by simpa using hx)) (fun s hs => by cases hs) (by rw [← h]; rfl)
 exact ⟨all, a1, a2 _ (by simp), a3⟩
theorem dfs_u32 (W : WordsT) : ∀ (k : Nat) (l : List Int) (m : List (Int × Unit)) (out : List Int), (∀ x ∈ l, U32 x) → (∀ x ∈ out, U32 x) → out.length + l.length = m.length → m.length ≤ 2000 → (∀ x ∈ (dfs W k l m out).1, U32 x) ∧ (dfs W k l m out).1.length ≤ 2000
 | 0, _, _, _, _, h, h1, h2 => ⟨h, by rw [dfs]; simp only; omega⟩
 | k + 1, l, m, out, hl, ho, h1, h2 => by
  rw [dfs]
  cases hg : l.getLast? with
  | none => exact ⟨ho, by simp only; omega⟩
  | some s =>
   simp only
   split
   ·exact ⟨fun x hx => (by cases hx), by simp⟩
   ·rename_i hb
    obtain ⟨⟨lx, p1, p2⟩, _⟩ := pushW_spec (wsucc W s) (l.dropLast, m)
    have hls : l = l.dropLast ++ [s] := by
     obtain ⟨ys, e⟩ := List.getLast?_eq_some_iff.1 hg
     rw [e]; simp
    have hlen : l.length = l.dropLast.length + 1 := by
     have := congrArg List.length hls
     rwa [List.length_append] at this
    have hp : ∀ (r : List (Int × Int)) (z : List Int × List (Int × Unit)), (∀ x ∈ r, U32 x.2) → (∀ x ∈ z.1, U32 x) → ∀ x ∈ (pushW r z).1, U32 x := by
     intro r
     induction r with
     | nil => intro z _ hz; exact hz
     | cons y r ih =>
      intro z hr hz
      rw [pushW]
      split
      ·exact ih z (fun x hx => hr x (List.mem_cons_of_mem _ hx)) hz
      ·refine ih _ (fun x hx => hr x (List.mem_cons_of_mem _ hx)) fun x hx => ?_
       rcases List.mem_append.1 hx with g | g
       ·exact hz x g
       ·rw [List.mem_singleton.1 g]; exact hr y List.mem_cons_self
    refine dfs_u32 W k _ _ _ (hp _ _ (fun x hx => by rw [(mem_wsucc.1 hx).2.2]; exact bits_u32 _ _ _) fun x hx => hl x (List.dropLast_subset _ hx)) (fun x hx => ?_) (by rw [p1, p2]; simp only [List.length_append, List.length_singleton]; omega) (by omega)
    rcases List.mem_append.1 hx with g | g
    ·exact ho x g
    ·rw [List.mem_singleton.1 g]; exact hl s (by rw [hls]; simp)
theorem all_pre {W : WordsT} (h : U32 W.start) : pre_sortW (sp_all W).1 := by
 obtain ⟨a, b⟩ := dfs_u32 W 2001 [W.start] [(W.start, ())] [] (fun x hx => by rw [List.mem_singleton.1 hx]; exact h) (fun x hx => by cases hx) rfl (by simp)
 exact ⟨Nat.le_trans b (by decide), a⟩
end Go.Proofs.YtimillpakjgnoaaGreatDoor.Pl

namespace Go.Proofs.YtimillpakjgnoaaGreatDoor.Pl
open Go Go.RowKit
def bk (q : List (Ent Int)) (e : Ent Int) : Int × Back := (e.node, ⟨(q.getD e.from_.toNat default).node, e.step⟩)
def bkl (q : List (Ent Int)) : List (Int × Back) := q.map (bk q)
theorem bkl_keys (q : List (Ent Int)) : (bkl q).map (·.1) = q.map (·.node) := by
 unfold bkl
 rw [List.map_map]; rfl
theorem bkl_len (q : List (Ent Int)) : (bkl q).length = q.length := by unfold bkl; rw [List.length_map]
theorem bkl_push {W : WordsT} {q : List (Ent Int)} (h : Shape (wsucc W) W.start q) {i : Nat} {u : Ent Int} (hi : q[i]? = some u) {s n : Int} (hn : n ∉ q.map (·.node)) : setA (bkl q) n ⟨u.node, s⟩ = bkl (q ++ [⟨n, (i : Int), s⟩]) := by
 have hil := (List.getElem?_eq_some_iff.1 hi).1
 rw [setA_new (getA_none.2 (by rw [bkl_keys]; exact hn))]
 unfold bkl
 rw [List.map_append]
 congr 1
 ·refine List.map_congr_left fun e he => ?_
  unfold bk
  obtain ⟨j, hj, rfl⟩ := List.mem_iff_getElem.1 he
  congr 2
  by_cases h0 : 0 < j
  ·obtain ⟨a, v, e1, e2, _⟩ := h.link j _ (List.getElem?_eq_getElem hj) h0
   rw [e1, Int.toNat_natCast, List.getD_eq_getElem?_getD, List.getD_eq_getElem?_getD, List.getElem?_append_left (by omega)]
  ·have hj0 : j = 0 := by omega
   subst hj0
   have := h.head
   rw [List.getElem?_eq_getElem hj] at this
   rw [Option.some.inj this]
   show (q.getD 0 default).node = ((q ++ [_]).getD 0 default).node
   rw [List.getD_eq_getElem?_getD, List.getD_eq_getElem?_getD, List.getElem?_append_left hj]
 ·simp only [List.map_cons, List.map_nil, bk, Int.toNat_natCast]
  rw [List.getD_eq_getElem?_getD, List.getElem?_append_left hil, hi]
  rfl
theorem getA_at {β : Type} : ∀ (l : List (Int × β)) (j : Nat) (x : Int × β), (l.map (·.1)).Nodup → l[j]? = some x → getA l x.1 = some x.2
 | [], j, x, _, h => by simp at h
 | p :: r, j, x, hn, h => by
  simp only [List.map_cons, List.nodup_cons] at hn
  simp only [getA]
  cases j with
  | zero => simp at h; rw [if_pos (by rw [h]), h]
  | succ j =>
   have hx : r[j]? = some x := by simpa using h
   rw [if_neg fun e : p.1 = x.1 => hn.1 (by rw [e]; exact List.mem_map_of_mem (List.mem_of_getElem? hx))]
   exact getA_at r j x hn.2 hx
theorem bkl_get {W : WordsT} {q : List (Ent Int)} (h : Shape (wsucc W) W.start q) {j : Nat} {e : Ent Int} (hj : q[j]? = some e) : (getA (bkl q) e.node).getD default = ⟨(q.getD e.from_.toNat default).node, e.step⟩ := by
 have := getA_at (bkl q) j (bk q e) (by rw [bkl_keys]; exact h.nodup) (by unfold bkl; rw [List.getElem?_map, hj]; rfl)
 rw [show (bk q e).1 = e.node from rfl] at this
 rw [this]; rfl
structure QW (W : WordsT) (q : List (Ent Int)) : Prop where
 shape : Shape (wsucc W) W.start q
 len : q.length ≤ 2000
theorem way_closed {W : WordsT} {all : List Int} (hc : ∀ n ∈ all, ∀ x ∈ wsucc W n, x.2 ∈ all) : ∀ (p : List Int) (u v : Int), u ∈ all → Way (wsucc W) u p v → v ∈ all
 | [], _, _, hu, h => h ▸ hu
 | _ :: p, u, v, hu, ⟨x, h1, h2⟩ => way_closed hc p x v (hc u hu _ h1) h2
theorem qw_new {W : WordsT} {all : List Int} (hl : all.length ≤ 2000) (h0 : W.start ∈ all) (hc : ∀ n ∈ all, ∀ x ∈ wsucc W n, x.2 ∈ all) {q : List (Ent Int)} (h : Shape (wsucc W) W.start q) : q.length ≤ 2000 := by
 have := nodup_sub_len (q.map (·.node)) all h.nodup fun x hx => by
  obtain ⟨e, he, rfl⟩ := List.mem_map.1 hx
  obtain ⟨j, hj, rfl⟩ := List.mem_iff_getElem.1 he
  exact way_closed hc _ _ _ h0 (path_way h j _ (List.getElem?_eq_getElem hj))
 rw [List.length_map] at this
 omega
theorem drop_last {α : Type} {l : List α} {i : Nat} (h : i ≤ l.length) (x : α) : (l ++ [x]).drop i = l.drop i ++ [x] := List.drop_append_of_le_length h
theorem node_gt {q : List (Ent Int)} {i : Nat} (h : i < q.length) : gt ((q.drop i).map (·.node)) 0 = (gt q (i : Int)).node := by
 rw [List.drop_eq_getElem_cons h, List.map_cons, gt_of (i := (i : Int)) ⟨by omega, by omega⟩]
 rfl
theorem entW_gt {l : List (Ent Int)} {i : Nat} (h : i < l.length) : l[i]? = some (gt l (i : Int)) := by
 have := gt_get (xs := l) (i := (i : Int)) ⟨by omega, by omega⟩
 rwa [Int.toNat_natCast] at this
theorem backW_len (q : List (Ent Int)) : ∀ (k : Nat) (i : Int), (backR q k i).length ≤ k
 | 0, _ => Nat.le_refl _
 | k + 1, i => by
  rw [backR]
  split
  ·split
   ·simp
   ·have := backW_len q k (by assumption : Ent Int).from_
    simp; omega
  ·simp
theorem set_pre_word {t : Task} (tk : TaskOK t) {s : List Int} (hs : sp_isSet s t.facts = true) : pre_word s := by
 have hf := tk.facts
 have := set_len hf.1 hs
 exact ⟨by omega, fun p hp => (set_rng hs p hp).1⟩
theorem set_word {t : Task} (tk : TaskOK t) {s : List Int} (hs : sp_isSet s t.facts = true) : Wd (sp_word s) (fun p => p ∈ s) := by
 have hf := tk.facts
 exact Wd.word s fun p hp => by have := set_rng hs p hp; omega
theorem brplan_search {W : WordsT} {r3 r4 : Int} {l : List Masks} (hW : W = ⟨r3, r4, l⟩) (hops : l.length ≤ 40) (hall : ∃ all : List Int, all.length ≤ 2000 ∧ W.start ∈ all ∧ ∀ n ∈ all, ∀ x ∈ wsucc W n, x.2 ∈ all) (K : List Int × Bool × Fault → Prop)
  (hK : K (if 60 < (search (wsucc W) (wgoal W) W.start).1.length then ([], false, ⟨10, -9⟩) else ((search (wsucc W) (wgoal W) W.start).1, (search (wsucc W) (wgoal W) W.start).2.1, ⟨0, 0⟩))) :
  ∃ (I2 : (List (Int × Back)) → (List Int) → Prop) (μ2 : (List (Int × Back)) → (List Int) → Nat), I2 (setA ([] : List (Int × Back)) r3 (⟨r3, 0⟩ : Back)) ([r3] : List Int) ∧ ∀ (m2 : List (Int × Back)) (l3 : List Int), I2 m2 l3 → F_brplan_L2 K r3 r4 l m2 l3 I2 μ2 := by
 obtain ⟨all, a1, a2, a3⟩ := hall
 have hst : W.start = r3 := by rw [hW]
 have hgl : ∀ s, wgoal W s = (bits .and .u32 s r4 == r4) := fun s => by rw [hW]; rfl
 have hwo : W.ops = l := by rw [hW]
 refine ⟨fun m l3 => ∃ (q : List (Ent Int)) (i : Nat), i ≤ q.length ∧ QW W q ∧ m = bkl q ∧ l3 = (q.drop i).map (·.node) ∧ bfs (wsucc W) (wgoal W) (2001 - i) q i = search (wsucc W) (wgoal W) W.start, fun m l3 => 2001 - (m.length - l3.length), ⟨[⟨r3, -1, 0⟩], 0, by simp, ⟨by rw [← hst]; exact Shape.start _ _, by simp⟩, rfl, rfl, by rw [hst]; rfl⟩, ?_⟩
 rintro _ _ ⟨q, i, i1, hq, rfl, rfl, hb⟩
 have hlen := hq.len
 have ef : 2001 - i = (2000 - i) + 1 := by omega
 have hdl : ((q.drop i).map (·.node)).length = q.length - i := by rw [List.length_map, List.length_drop]
 unfold F_brplan_L2
 simp only [forall_eq, decide_eq_true_eq, decide_eq_false_iff_not]
 rw [hdl]
 refine ⟨fun h => ?_, fun h => ?_⟩
 ·have hi : i < q.length := by omega
  have hg := entW_gt hi
  rw [ef, bfs] at hb
  simp only [hg] at hb
  rw [node_gt hi]
  refine ⟨⟨by omega, by rw [hdl]; omega⟩, by omega, fun e => ?_, fun e => ?_⟩
  ·rw [if_pos (by rw [hgl]; exact e)] at hb
   have hbl := backW_len q (i + 1) i
   refine ⟨fun p out => ∃ j : Nat, j < q.length ∧ p = (gt q (j : Int)).node ∧ out ++ backR q (j + 1) j = backR q (i + 1) i, fun _ out => 2001 - out.length, ⟨i, hi, rfl, rfl⟩, ?_⟩
   rintro _ out ⟨j, j1, rfl, hj⟩
   have hgj := entW_gt j1
   have ol := congrArg List.length hj
   rw [List.length_append] at ol
   have e0 : q[((j : Nat) : Int).toNat]? = some (gt q (j : Int)) := by simpa using hgj
   unfold F_brplan_L3
   simp only [forall_eq, decide_eq_true_eq, decide_eq_false_iff_not, bne_iff_ne, ne_eq, bne_eq_false_iff_eq]
   rw [backR] at hj ol
   simp only [e0] at hj ol
   rw [bkl_get hq.shape hgj]
   have hzero : j = 0 ↔ (gt q (j : Int)).node = r3 := by
    constructor
    ·intro e
     subst e
     have h1 := hq.shape.head
     rw [hgj] at h1
     rw [Option.some.inj h1]; exact hst
    ·intro e
     have h1 := hq.shape.head
     have h2 : (q.map (·.node))[j]? = (q.map (·.node))[0]? := by
      rw [List.getElem?_map, List.getElem?_map, hgj, h1]
      simp [e, hst]
     exact (List.getElem?_inj (by rw [List.length_map]; exact j1) hq.shape.nodup).1 h2
   refine ⟨fun f => ?_, fun f => ?_⟩
   ·have h0 : 0 < j := Nat.pos_of_ne_zero fun e => f (hzero.1 e)
    obtain ⟨k, u, k1, k2, k3, _⟩ := hq.shape.link j _ hgj h0
    have k4 := (List.getElem?_eq_some_iff.1 k3).1
    rw [if_neg (by omega), k1, backR_fuel hq.shape k j k4 k2] at hj
    rw [if_neg (by omega), k1, List.length_cons] at ol
    rw [k1, Int.toNat_natCast]
    have hu : (q.getD k default) = gt q (k : Int) := by unfold gt; rw [Int.toNat_natCast]
    refine ⟨⟨?_, ?_⟩, ⟨k, k4, by rw [hu], by rw [List.append_assoc]; exact hj⟩, ?_⟩
    ·simp only [List.length_append, List.length_singleton, maxLen]; omega
    ·simp only [List.length_append, List.length_singleton]; omega
    ·simp only [List.length_append, List.length_singleton]; omega
   ·have hj0 := hzero.2 f
    subst hj0
    have h1 := hq.shape.head
    rw [hgj] at h1
    rw [Option.some.inj h1, if_pos (show (-1 : Int) < 0 by decide), List.append_nil] at hj
    have hpath : (sp_reverse out) = pathTo q i := by rw [hj]; rfl
    have hpl : (pathTo q i).length = out.length := by rw [← hpath, sp_reverse_len]
    rw [← hb] at hK
    simp only at hK
    rw [hpl] at hK
    refine ⟨by unfold pre_reverse; omega, fun g => ?_, fun g => ?_⟩
    ·rw [if_pos (by omega)] at hK; exact hK
    ·rw [if_neg (by omega), ← hpath] at hK; exact hK
  ·rw [if_neg (by rw [hgl, e]; decide)] at hb
   refine ⟨fun t9 m4 l6 => ∃ (j : Nat) (q4 : List (Ent Int)), t9 = j ∧ j ≤ l.length ∧ QW W q4 ∧ (∃ r, q4 = q ++ r) ∧ m4 = bkl q4 ∧ l6 = (q4.drop (i + 1)).map (·.node) ∧ expand (i : Int) (((allS W.ops.length).drop j).filterMap (wopS W (gt q (i : Int)).node)) q4 = expand (i : Int) (wsucc W (gt q (i : Int)).node) q, fun t9 _ _ => (l.length - t9).toNat, ⟨0, q, rfl, Nat.zero_le _, hq, ⟨[], by simp⟩, rfl, ?_, rfl⟩, ?_⟩
   ·rw [show ((1 : Int)).toNat = 1 from rfl, ← List.map_drop, List.drop_drop]
   rintro _ _ _ ⟨j, _, rfl, j1, hq4, ⟨r, rfl⟩, rfl, rfl, he⟩
   have hlen4 := hq4.len
   have hi4 : (q ++ r)[i]? = some (gt q (i : Int)) := by rw [List.getElem?_append_left hi]; exact hg
   unfold F_brplan_L4 F_brplan_J1
   rw [node_gt hi]
   simp only [forall_eq, decide_eq_true_eq, decide_eq_false_iff_not, Bool.not_eq_true', Bool.not_eq_false']
   refine ⟨fun g => ?_, fun g => ?_⟩
   ·have hj : j < W.ops.length := by rw [hwo]; omega
    have hin : inb W.ops (j : Int) := ⟨by omega, by omega⟩
    rw [allS_drop hj, List.filterMap_cons] at he
    rw [w64 (n := (j : Int) + 1) (by omega)]
    refine ⟨⟨by omega, g⟩, fun x => ?_, fun x => ?_⟩
    ·have eo : wopS W (gt q (i : Int)).node (j : Int) = some ((j : Int), bits .or .u32 (bits .andNot .u32 (gt q (i : Int)).node (gt l (j : Int)).del) (gt l (j : Int)).add) := by rw [wopS, hwo, if_pos x]
     rw [eo] at he
     simp only [expand] at he
     refine ⟨fun k => ?_, fun k => ?_⟩
     ·have hn : bits .or .u32 (bits .andNot .u32 (gt q (i : Int)).node (gt l (j : Int)).del) (gt l (j : Int)).add ∉ (q ++ r).map (·.node) := by
       rw [← bkl_keys, ← getA_some, k]; decide
      rw [if_neg hn] at he
      have hmem : ((j : Int), bits .or .u32 (bits .andNot .u32 (gt q (i : Int)).node (gt l (j : Int)).del) (gt l (j : Int)).add) ∈ wsucc W (gt q (i : Int)).node := mem_wsucc.2 ⟨hin, by rw [hwo]; exact x, by rw [hwo]⟩
      have hps := hq4.shape.push hi4 hmem hn
      have hl5 := qw_new a1 a2 a3 hps
      rw [List.length_append, List.length_singleton] at hl5
      rw [if_neg (by omega)] at he
      have hbk := bkl_push hq4.shape hi4 (s := (j : Int)) hn
      have hdr : ((q ++ r) ++ [(⟨bits .or .u32 (bits .andNot .u32 (gt q (i : Int)).node (gt l (j : Int)).del) (gt l (j : Int)).add, (i : Int), (j : Int)⟩ : Ent Int)]).drop (i + 1) = (q ++ r).drop (i + 1) ++ [⟨bits .or .u32 (bits .andNot .u32 (gt q (i : Int)).node (gt l (j : Int)).del) (gt l (j : Int)).add, (i : Int), (j : Int)⟩] := drop_last (by rw [List.length_append]; omega) _
      refine ⟨⟨?_, ?_⟩, ⟨j + 1, _, by omega, by omega, ⟨hps, by rw [List.length_append, List.length_singleton]; omega⟩, ⟨r ++ [_], by rw [← List.append_assoc]⟩, hbk, by rw [hdr, List.map_append]; rfl, he⟩, by omega⟩
      ·simp only [List.length_append, List.length_map, List.length_drop, List.length_singleton, maxLen]
       rw [List.length_append] at hl5; omega
      ·simp only [List.length_append, List.length_map, List.length_drop, List.length_singleton]
       rw [List.length_append] at hl5; omega
     ·have hn : bits .or .u32 (bits .andNot .u32 (gt q (i : Int)).node (gt l (j : Int)).del) (gt l (j : Int)).add ∈ (q ++ r).map (·.node) := by
       rw [← bkl_keys]; exact getA_some.1 k
      rw [if_pos hn] at he
      exact ⟨⟨j + 1, _, by omega, by omega, hq4, ⟨r, rfl⟩, rfl, rfl, he⟩, by omega⟩
    ·have eo : wopS W (gt q (i : Int)).node (j : Int) = none := by rw [wopS, hwo, if_neg (by rw [x]; decide)]
     rw [eo] at he
     exact ⟨⟨j + 1, _, by omega, by omega, hq4, ⟨r, rfl⟩, rfl, rfl, he⟩, by omega⟩
   ·have ed : (allS W.ops.length).drop j = [] := List.drop_eq_nil_of_le (by rw [allS_len, hwo]; omega)
    rw [ed, List.filterMap_nil, expand] at he
    rw [← he] at hb
    refine ⟨⟨q ++ r, i + 1, by rw [List.length_append]; omega, hq4, rfl, rfl, ?_⟩, ?_⟩
    ·rw [show 2001 - (i + 1) = 2000 - i by omega]
     exact hb
    ·simp only [bkl_len, List.length_map, List.length_drop]
     rw [List.length_append] at hlen4 ⊢
     omega
 ·have hn : q[i]? = none := List.getElem?_eq_none (by omega)
  rw [ef, bfs] at hb
  simp only [hn] at hb
  rw [← hb] at hK
  rw [if_neg (by simp)] at hK
  exact ⟨fun g => absurd g (by decide), fun _ => hK⟩
theorem ok_brplan : ∀ (t : Task), F_brplan t (fun r => r = sp_brplan t) := fun t => by
 unfold F_brplan
 simp only [forall_eq, fault_ne, fault_eq]
 refine ⟨fun h => by rw [sp_brplan, if_neg h], fun h => ?_⟩
 have tk := taskOK_of h
 have hol := tk.len
 refine ⟨set_pre_word tk tk.init, set_pre_word tk tk.goal, fun t17 l => ∃ k : Nat, t17 = k ∧ k ≤ t.ops.length ∧ l = (t.ops.take k).map maskOf, fun t17 _ => (t.ops.length - t17).toNat, ⟨0, rfl, Nat.zero_le _, rfl⟩, ?_⟩
 rintro _ _ ⟨k, rfl, k1, rfl⟩
 unfold F_brplan_L1
 simp only [decide_eq_true_eq, decide_eq_false_iff_not, forall_eq]
 refine ⟨fun g => ?_, fun g => ?_⟩
 ·have hk : k < t.ops.length := by omega
  have hin : inb t.ops (k : Int) := ⟨by omega, g⟩
  have hop := tk.op hin
  rw [w64 (by omega)]
  refine ⟨hin, set_pre_word tk hop.1, set_pre_word tk hop.2.1, set_pre_word tk hop.2.2.1, ⟨?_, ?_⟩, ⟨k + 1, by omega, by omega, ?_⟩, by omega⟩
  ·simp only [List.length_append, List.length_map, List.length_take, List.length_singleton, maxLen]; omega
  ·simp only [List.length_append, List.length_map, List.length_take, List.length_singleton]; omega
  ·rw [takeN_gt hk, List.map_append]; rfl
 ·have hk : k = t.ops.length := by omega
  subst hk
  rw [List.take_length]
  have hW : wordsOf t = ⟨sp_word t.init, sp_word t.goal, t.ops.map maskOf⟩ := rfl
  have hml : (t.ops.map maskOf).length ≤ 40 := by rw [List.length_map]; exact hol
  refine ⟨hml, fun q => ?_, fun q => ⟨all_pre (W := wordsOf t) (set_word tk tk.init).u32, ?_⟩⟩
  ·rw [sp_brplan, if_pos h, if_neg (by rw [hW]; simpa using q)]
  ·have q' : (sp_all (wordsOf t)).2 = true := by rw [hW]; simpa using q
   exact brplan_search hW hml (all_closed q') _ (by rw [sp_brplan, if_pos h, if_pos q'])
end Go.Proofs.YtimillpakjgnoaaGreatDoor.Pl

namespace Go.Proofs.YtimillpakjgnoaaGreatDoor.Pl
open Go Go.RowKit
theorem normal_one (s : List Int) : sp_normal [s] = [s] := rfl
theorem update_same {t : Task} (tk : TaskOK t) : sp_update t.init [] [] = t.init :=
 sorted_ext _ _ (update_sorted _ _ _) (set_sorted tk.init) fun x => by rw [mem_update]; simp
theorem worlds_none {t : Task} (tk : TaskOK t) : sp_worlds t [] = [t.init] := by
 have e : sp_worlds t [] = sp_normal [sp_update t.init [] []] := rfl
 rw [e, update_same tk, normal_one]
theorem sure_one (s f : List Int) : sp_sure [s] f = sp_subset f s := by
 simp [sp_sure, sp_sure1, sp_contains2]
section
variable {t : Task} (tk : TaskOK t)
theorem gt_words {o : Int} (ho : inb t.ops o) : gt (wordsOf t).ops o = maskOf (gt t.ops o) := by
 have h1 := gt_get ho
 have h2 : (wordsOf t).ops[o.toNat]? = some (maskOf (gt t.ops o)) := by
  show (t.ops.map maskOf)[o.toNat]? = _
  rw [List.getElem?_map, h1]; rfl
 have hi : inb (wordsOf t).ops o := ⟨ho.1, by show o < ((t.ops.map maskOf).length : Int); rw [List.length_map]; exact ho.2⟩
 have h3 := gt_get hi
 rw [h2] at h3
 exact (Option.some.inj h3).symm
include tk
theorem word_sub {s g : List Int} (hs : sp_isSet s t.facts = true) (hg : sp_isSet g t.facts = true) : (bits .and .u32 (sp_word s) (sp_word g) == sp_word g) = true ↔ sp_subset g s = true := by
 have hf := tk.facts
 rw [Wd.sub (set_word tk hs) (set_word tk hg), subset_iff]
 constructor
 ·intro h x hx
  obtain ⟨x0, x1⟩ := set_rng hg x hx
  have := h x.toNat (by omega)
  rw [show ((x.toNat : Nat) : Int) = x by omega] at this
  exact this hx
 ·intro h i _ hi
  exact h _ hi
theorem word_after {s : List Int} (hs : sp_isSet s t.facts = true) {o : Int} (ho : inb t.ops o) : bits .or .u32 (bits .andNot .u32 (sp_word s) (sp_word (gt t.ops o).del)) (sp_word (gt t.ops o).add) = sp_word (sp_after t s o) := by
 have hf := tk.facts
 have hop := tk.op ho
 refine Wd.unique (((set_word tk hs).andNot (set_word tk hop.2.2.1)).or (set_word tk hop.2.1)) ((set_word tk (after_set hf.1 s o)).iff fun i _ => ?_)
 rw [mem_after hf.1]
 constructor
 ·rintro ⟨_, h | h⟩
  ·exact .inr h
  ·exact .inl h
 ·rintro (h | h)
  ·exact ⟨set_rng hs _ h.1, .inr h⟩
  ·exact ⟨set_rng hop.2.1 _ h, .inl h⟩
theorem step_word {s : List Int} (hs : sp_isSet s t.facts = true) {x : Int × Bel} (h : x ∈ bsucc t [s]) : x.2 = [sp_after t s x.1] ∧ (x.1, sp_word (sp_after t s x.1)) ∈ wsucc (wordsOf t) (sp_word s) := by
 obtain ⟨h1, h2, h3⟩ := mem_bsucc.1 h
 refine ⟨h3, mem_wsucc.2 ⟨⟨h1.1, by show x.1 < ((t.ops.map maskOf).length : Int); rw [List.length_map]; exact h1.2⟩, ?_, ?_⟩⟩
 ·rw [gt_words h1]
  rw [sure_one] at h2
  exact (word_sub tk hs (tk.op h1).1).2 h2
 ·rw [gt_words h1]
  exact (word_after tk hs h1).symm
theorem step_back {s : List Int} (hs : sp_isSet s t.facts = true) {x : Int × Int} (h : x ∈ wsucc (wordsOf t) (sp_word s)) : x.2 = sp_word (sp_after t s x.1) ∧ (x.1, [sp_after t s x.1]) ∈ bsucc t [s] := by
 obtain ⟨h1, h2, h3⟩ := mem_wsucc.1 h
 have ho : inb t.ops x.1 := ⟨h1.1, by have := h1.2; rw [show (wordsOf t).ops = t.ops.map maskOf from rfl, List.length_map] at this; exact this⟩
 rw [gt_words ho] at h2 h3
 refine ⟨h3.trans (word_after tk hs ho), mem_bsucc.2 ⟨ho, ?_, rfl⟩⟩
 rw [sure_one]
 exact (word_sub tk hs (tk.op ho).1).1 h2
theorem way_word : ∀ (p : List Int) (s : List Int) (v : Bel), sp_isSet s t.facts = true → Way (bsucc t) [s] p v → ∃ s', v = [s'] ∧ sp_isSet s' t.facts = true ∧ Way (wsucc (wordsOf t)) (sp_word s) p (sp_word s')
 | [], s, v, hs, h => ⟨s, h.symm, hs, rfl⟩
 | o :: p, s, v, hs, ⟨x, h1, h2⟩ => by
  obtain ⟨e1, e2⟩ := step_word tk hs h1
  simp only at e1 e2
  subst e1
  obtain ⟨s', g1, g2, g3⟩ := way_word p _ v (after_set tk.facts.1 s o) h2
  exact ⟨s', g1, g2, _, e2, g3⟩
theorem way_back : ∀ (p : List Int) (s : List Int) (v : Int), sp_isSet s t.facts = true → Way (wsucc (wordsOf t)) (sp_word s) p v → ∃ s', v = sp_word s' ∧ sp_isSet s' t.facts = true ∧ Way (bsucc t) [s] p [s']
 | [], s, v, hs, h => ⟨s, h.symm, hs, rfl⟩
 | o :: p, s, v, hs, ⟨x, h1, h2⟩ => by
  obtain ⟨e1, e2⟩ := step_back tk hs h1
  simp only at e1 e2
  subst e1
  obtain ⟨s', g1, g2, g3⟩ := way_back p _ v (after_set tk.facts.1 s o) h2
  exact ⟨s', g1, g2, _, e2, g3⟩
theorem goal_word {s : List Int} (hs : sp_isSet s t.facts = true) : wgoal (wordsOf t) (sp_word s) = sp_sure [s] t.goal := by
 rw [sure_one]
 have := word_sub tk hs tk.goal
 cases h : sp_subset t.goal s with
 | true => exact this.2 h
 | false =>
  cases h' : wgoal (wordsOf t) (sp_word s) with
  | false => rfl
  | true => rw [this.1 h'] at h; cases h
end
theorem plans_same {t : Task} (h1 : (sp_bplan t []).2.2.code = 0) (h2 : (sp_brplan t).2.2.code = 0) : (sp_bplan t []).2.1 = (sp_brplan t).2.1 ∧ (sp_bplan t []).1.length = (sp_brplan t).1.length := by
 have hv : sp_validate t = ⟨0, 0⟩ := by
  refine Classical.byContradiction fun h => ?_
  rw [sp_brplan, if_neg h] at h2
  exact h (validate_code h2)
 have tk := taskOK_of hv
 have hu : sp_unknownFault t [] = ⟨0, 0⟩ := by rw [sp_unknownFault, if_pos hv, if_neg (by simp), if_pos (nil_set _)]
 rw [sp_bplan, if_pos hu, worlds_none tk] at h1 ⊢
 split at h1
 ·rename_i hsm
  rw [if_pos hsm]
  split at h1
  ·exact absurd h1 (by decide)
  ·rename_i hl
   rw [if_neg hl]
   rw [sp_brplan, if_pos hv] at h2 ⊢
   split at h2
   ·rename_i hal
    rw [if_pos hal]
    split at h2
    ·exact absurd h2 (by decide)
    ·rename_i hl2
     rw [if_neg hl2]
     simp only
     have hst : (wordsOf t).start = sp_word t.init := rfl
     have hA : (sp_breadthP [t.init] t t).2.2 = true := search_small hsm
     obtain ⟨all, a1, a2, a3⟩ := all_closed hal
     have hB : (search (wsucc (wordsOf t)) (wgoal (wordsOf t)) (wordsOf t).start).2.2 = true := search_fits a1 a2 a3
     rw [hst] at hB ⊢
     have eA : sp_breadthP [t.init] t t = search (bsucc t) (fun w => sp_sure w t.goal) [t.init] := rfl
     generalize hra : sp_breadthP [t.init] t t = ra at hA ⊢
     generalize hrb : search (wsucc (wordsOf t)) (wgoal (wordsOf t)) (sp_word t.init) = rb at hB ⊢
     obtain ⟨pa, fa, sa⟩ := ra
     obtain ⟨pb, fb, sb⟩ := rb
     simp only at hA hB
     subst hA; subst hB
     rw [eA] at hra
     simp only
     cases fa with
     | true =>
      obtain ⟨_, ⟨va, wa, da⟩, ma⟩ := search_found (bsucc_sorted t) hra
      obtain ⟨s', rfl, s2, w2⟩ := way_word tk _ _ _ tk.init wa
      cases fb with
      | true =>
       obtain ⟨_, ⟨vb, wb, db⟩, mb⟩ := search_found (wsucc_sorted _) hrb
       obtain ⟨s3, rfl, s4, w4⟩ := way_back tk _ _ _ tk.init wb
       have db' : sp_sure [s3] t.goal = true := by rw [← goal_word tk s4]; exact db
       have da' : sp_sure [s'] t.goal = true := da
       have x1 := sle_len (ma _ _ w4 db')
       have x2 := sle_len (mb _ _ w2 (by rw [goal_word tk s2]; exact da'))
       exact ⟨rfl, Nat.le_antisymm x1 x2⟩
      | false =>
       have := (search_none (wsucc_sorted _) hrb).2 _ _ w2
       have da' : sp_sure [s'] t.goal = true := da
       rw [goal_word tk s2, da'] at this
       cases this
     | false =>
      obtain ⟨rfl, na⟩ := search_none (bsucc_sorted t) hra
      cases fb with
      | true =>
       obtain ⟨_, ⟨vb, wb, db⟩, mb⟩ := search_found (wsucc_sorted _) hrb
       obtain ⟨s3, rfl, s4, w4⟩ := way_back tk _ _ _ tk.init wb
       have : sp_sure [s3] t.goal = false := na _ _ w4
       rw [← goal_word tk s4, db] at this
       cases this
      | false =>
       obtain ⟨rfl, _⟩ := search_none (wsucc_sorted _) hrb
       exact ⟨rfl, rfl⟩
   ·exact absurd h2 (by decide)
 ·exact absurd h1 (by decide)
theorem ok_lawKnownBeliefs : ∀ (t : Task), F_lawKnownBeliefs t (fun r => r = sp_lawKnownBeliefs t) := fun t => by
 have h1 : F_lawKnownBeliefs_J1 (fun r => r = sp_lawKnownBeliefs t) (sp_bplan t []) (sp_brplan t) true := by
  unfold F_lawKnownBeliefs_J1
  simp only [forall_eq, reduceCtorEq, false_implies, and_true, true_implies]
  rfl
 unfold F_lawKnownBeliefs
 simp only [forall_eq, bne_iff_ne, ne_eq, bne_eq_false_iff_eq]
 refine ⟨fun _ => h1, fun hc => ?_⟩
 cases hd : ((sp_brplan t).2.2.code != 0) with
 | true => exact h1
 | false =>
  obtain ⟨e1, e2⟩ := plans_same hc (bne_eq_false_iff_eq.1 hd)
  unfold F_lawKnownBeliefs_J1
  rw [e1, e2]
  simp only [forall_eq, reduceCtorEq, false_implies, true_and, true_implies, beq_self_eq_true, and_true]
  rfl
end Go.Proofs.YtimillpakjgnoaaGreatDoor.Pl

namespace Go.Proofs.YtimillpakjgnoaaGreatDoor.Pl
open Go Go.RowKit
theorem ok_cloneO : ∀ (s_ : List Int), pre_clone s_ → F_cloneO s_ (fun r => r = sp_clone s_) := fun s hp => ok_clone s hp
theorem ok_optimalL : ∀ (t : Task), pre_optimalL t → F_optimalL t (fun r => r = sp_optimalL t) := fun t h => by
 unfold F_optimalL
 refine ⟨h, fun _ _ => ⟨by simp [pre_word], fun _ _ => ⟨by simp [pre_word], fun _ _ _ _ _ _ _ _ => ⟨by simp [pre_all], fun _ _ => ⟨by simp [pre_sortW, U32], fun _ _ => rfl⟩⟩⟩⟩⟩
theorem ok_h11Solved : F_h11Solved (fun r => r = sp_h11Solved) := by
 unfold F_h11Solved
 intro _ _ _ _ _ _
 refine ⟨by simp [pre_clone], fun _ _ => ⟨by simp [pre_clone], fun _ _ => ⟨by simp [pre_clone], fun _ _ _ _ _ _ => ⟨rfl, fun _ _ => ⟨by simp [pre_ints], fun _ _ => rfl⟩⟩⟩⟩⟩
end Go.Proofs.YtimillpakjgnoaaGreatDoor.Pl

