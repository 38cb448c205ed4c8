/- The rules of the program logic for parts of slices of the call's own whose elements stay. No condition. -/
import Derived.Test.YtojoehfldbimpaaGreatDoorPl11
namespace Go.Proofs.YtojoehfldbimpaaGreatDoor.Pl
open Go Go.RowKit
section
variable {P : Program} {K : Kp} {n : Fr} {ops : Array Oper} {Q : Exit → Act → World → Prop} {s : St} {A : List Asrt} {h : FH} {rest : List Oper} {d : Nat} {dd : Option Tmp} {gd : Option (Nat × Bool)} {ty : TypeId} {pos : String} {af : Array Edge}
/-- an element of a part -/
theorem ixV {x y : Operand} {t e e' : TypeId} {a : Option Addr} {k len cap sz sz' by_ lo : Nat} {zs cs : List Value} {ki : IntKind} {i : Int} (hx : ev s x = some (.slice (sla a cap lo sz) (len - lo) (cap - lo))) (hy : ev s y = some (.int ki i)) (ht : TSl P t e sz by_ zs) (hk : A[k]? = some (OwnSl e' sz' a len cap cs)) (h0 : 0 ≤ i) (hi : 0 ≤ (lo : Int) + i ∧ (lo : Int) + i < len) : VF P K n s A h ⟨dd, .indexAddr t x y, ty, pos, af, gd⟩ (.pointer (some (ead a (((lo : Int) + i).toNat * sz)))) := fun ac w H S => by
  obtain ⟨g, hX, _⟩ := S.upd hk
  obtain ⟨_, ⟨_, rfl, _⟩ | ⟨b, cur, rfl, _, q1, _⟩⟩ := hX
  · omega
  · have e1 : sla (some (⟨b, 0, none⟩ : Addr)) cap lo sz = some ⟨b, lo * sz, none⟩ := by
      unfold sla
      rw [if_neg (by omega)]
      simp only [Option.map_some, add_lit]
    rw [e1] at hx
    have := ix (P := P) (K := K) (n := n) (A := A) (h := h) (dd := dd) (gd := gd) (ty := ty) (pos := pos) (af := af) hx hy ht (by simp) ⟨h0, by omega⟩ ac w H S
    have e2 : ead (some (⟨b, lo * sz, none⟩ : Addr)) (i.toNat * sz) = ead (some (⟨b, 0, none⟩ : Addr)) (((lo : Int) + i).toNat * sz) := by
      show (⟨b, lo * sz, none⟩ : Addr).add _ = (⟨b, 0, none⟩ : Addr).add _
      rw [add_lit, ← add_lit b (lo * sz), add_add, add_lit]
      congr 1
      rw [← Nat.add_mul]
      congr 1; omega
    rwa [e2] at this
/-- an operation that gives a value that nobody takes -/
theorem JL.valN {o : Oper} (hg : o.guard = none) (hd : o.dst = none)
    (hx : ∀ a w, Holds n s a → SH K h w A → ∃ v w' A' h', (execOp a.eval o).run P w = .ok (.value v) w' ∧ SH K h' w' A' ∧ JL P K n ops rest Q s A' h') : JL P K n ops (o :: rest) Q s A h :=
  fun a w H S => by
    obtain ⟨v, w', A', h', hr, hs, k⟩ := hx a w H S
    exact WL.val hg hr (k _ w' (by rw [hd]; exact H) hs)
/-- a part is cleared -/
theorem clS {x : Operand} {t e e' : TypeId} {k nn c lo dl dc by_ : Nat} {a da : Option Addr} {z0 : Value} {cs cs' : List Value} (ht : TSl P t e 1 by_ [z0]) (h1 : z0.oneCell' = true) (hx : ev s x = some (.slice da dl dc)) (hk : A[k]? = some (OwnSl e' 1 a nn c cs)) (hda : da = sla a c lo 1) (hdl : dl = nn - lo) (hlo : lo ≤ nn)
    (hcs : cs.take lo ++ List.replicate (nn - lo) z0 = cs') (kk : JL P K n ops rest Q s (A.set k (OwnSl e' 1 a nn c cs')) h) : JL P K n ops (⟨none, .call { callee := .builtin .clear, args := #[x], argTypes := #[t] }, ty, pos, af, none⟩ :: rest) Q s A h :=
  JL.valN rfl rfl (fun ac w H S => by
    subst hcs
    obtain ⟨ii, z, i1, i2, i3, i4, i5⟩ := ht.info
    obtain ⟨g, hX, own, up⟩ := S.upd hk
    have run : ∀ {w' : World}, (Builtin.clear_ #[t] ty #[.slice da dl dc]).run P w = .ok (.tuple #[]) w' → (execOp ac.eval ⟨none, .call { callee := .builtin .clear, args := #[x], argTypes := #[t] }, ty, pos, af, none⟩).run P w = .ok (.value (.tuple #[])) w' := fun hr => by
      simp only [execOp, resolve, invoke, builtin, Sem.run_bind, Sem.run_pure, Result.andThen_ok, List.map_toArray, List.map_cons, List.map_nil, H.ev hx, hr]
    have nothing : nn - lo = 0 → ∃ v w' A' h', (execOp ac.eval ⟨none, .call { callee := .builtin .clear, args := #[x], argTypes := #[t] }, ty, pos, af, none⟩).run P w = .ok (.value v) w' ∧ SH K h' w' A' ∧ JL P K n ops rest Q s A' h' := fun he => by
      have hd0 : dl = 0 := by omega
      refine ⟨.tuple #[], w, _, h, run ?_, ?_, kk⟩
      · subst hd0
        cases da <;> simp [Builtin.clear_, run_underlying ht.und]
      · have e0 : cs.take lo ++ List.replicate (nn - lo) z0 = cs := by
          rw [he, List.replicate_zero, List.append_nil]
          refine List.take_of_length_le ?_
          have := hX.1
          omega
        rw [e0, set_same hk]; exact S
    rcases Nat.eq_zero_or_pos (nn - lo) with hz | hz
    · exact nothing hz
    · obtain ⟨hcl, ⟨rfl, rfl, rfl, rfl⟩ | ⟨b, cur, rfl, rfl, q1, q2, q3, q4⟩⟩ := hX
      · omega
      · have hda' : da = some ⟨b, lo, none⟩ := by
          rw [hda]; unfold sla
          rw [if_neg (by omega)]
          simp only [Option.map_some, Nat.mul_one, add_lit]
        subst hda'
        have hbk := one_sub own.sub
        have hzc : (Builtin.zeroCells z.cells dl).toList = List.replicate dl z0 := by
          have e5 : z.cells = #[z0] := by
            apply Array.toList_inj.1; rw [i5]
          rw [e5]
          simp [Builtin.zeroCells]
          apply List.ext_getElem
          · simp
          · intro i h1 h2
            simp [Nat.mod_one]
        have hst : (storeCells ⟨b, lo, none⟩ (List.replicate dl z0) 0).run P w = _ := run_storeCells_at P b lo e' (List.replicate dl z0) 0 cur w hbk (by simp; omega) (by intro u hu; rw [List.eq_of_mem_replicate hu]; exact h1)
        simp only [Nat.add_zero] at hst
        have hr : (Builtin.clear_ #[t] ty #[.slice (some ⟨b, lo, none⟩) dl dc]).run P w = .ok (.tuple #[]) (w.setRow b (wrL cur.toList lo (List.replicate dl z0)).toArray) := by
          obtain ⟨m, rfl⟩ : ∃ m, dl = m + 1 := ⟨dl - 1, by omega⟩
          have hzv : ∀ w, (zeroValue e).run P w = .ok z w := fun w => by simp [zeroValue, typeInfo, i1, i2]
          simp only [wrL, List.append_assoc]
          simp [Builtin.clear_, run_underlying ht.und, hzv, hzc, hst]
        refine ⟨.tuple #[], _, _, h, run hr, SH.wr up hbk _ (OwnSl e' 1 (some ⟨b, 0, none⟩) nn c (cs.take lo ++ List.replicate (nn - lo) z0)) ⟨?_, .inr ⟨b, _, rfl, rfl, q1, q2, ?_, ?_⟩⟩, kk⟩
        · simp at hcl ⊢; omega
        · simp [wrL]; omega
        · rw [← q4]
          simp only [Nat.mul_one] at hcl q4 ⊢
          simp only [wrL, List.take_take, List.take_append, List.length_take, List.length_append, List.length_replicate, Array.length_toList, List.take_replicate]
          have e1 : min nn lo = lo := by omega
          have e2 : min lo cur.size = lo := by omega
          have e3 : min (nn - lo) dl = nn - lo := by omega
          have e4 : nn - (lo + dl) = 0 := by omega
          simp [e1, e2, e3, e4, Nat.min_comm lo nn])
theorem OwnSl.take_ {e : TypeId} {sz m m' c : Nat} {a : Option Addr} {cs : List Value} {g : FH} (hx : OwnSl e sz a m c cs g) (h : m' ≤ m) : OwnSl e sz a m' c (cs.take (m' * sz)) g := by
  have hmul : m' * sz ≤ m * sz := Nat.mul_le_mul_right sz h
  obtain ⟨hl, ⟨rfl, rfl, rfl, rfl⟩ | ⟨b, cur, rfl, rfl, q1, q2, q3, q4⟩⟩ := hx
  · have : m' = 0 := by omega
    subst this
    exact ⟨by simp, .inl ⟨rfl, rfl, rfl, rfl⟩⟩
  · refine ⟨by rw [List.length_take, hl]; omega, .inr ⟨b, cur, rfl, rfl, by omega, q2, q3, ?_⟩⟩
    rw [← q4, List.take_take, Nat.min_eq_left hmul]
theorem JL.openPn {α : Type} [Rep α] {l : List Oper} {h0 : FH} {k m : Nat} {e : TypeId} {sz c : Nat} {a : Option Addr} {xs : List α} (hk : A[k]? = some (OwnPX h0 e sz a c xs)) (hm : xs.length = m) (kk : ∀ cs, RepL h0 xs cs → JL P K n ops l Q s (A.set k (OwnSl e sz a m c cs)) h) : JL P K n ops l Q s A h := by
  subst hm; exact .openP hk kk
/-- what is handed back: the first elements -/
theorem SH.prefixP {α : Type} [Rep α] {w : World} {k m nn : Nat} {e : TypeId} {c : Nat} {a : Option Addr} {xs : List α} {cs : List Value} (S : SH K h w A) (hk : A[k]? = some (OwnSl e (Rep.sz α) a nn c cs)) (rep : RepL h xs cs) (hn : xs.length = nn) (hm : m ≤ nn) : SH K h w [OwnPX h e (Rep.sz α) a c (xs.take m)] := by
  have := (S.pick hk).weaken (k := 0) (X := OwnSl e (Rep.sz α) a nn c cs) (Y := OwnPX h e (Rep.sz α) a c (xs.take m)) rfl fun g hx => ⟨_, rep.take_ m, by
    have e1 : (xs.take m).length = m := by rw [List.length_take]; omega
    rw [e1]; exact hx.take_ hm⟩
  exact this
theorem SH.wholeP {α : Type} [Rep α] {w : World} {k nn : Nat} {e : TypeId} {c : Nat} {a : Option Addr} {xs : List α} {cs : List Value} (S : SH K h w A) (hk : A[k]? = some (OwnSl e (Rep.sz α) a nn c cs)) (rep : RepL h xs cs) (hn : xs.length = nn) : SH K h w [OwnPX h e (Rep.sz α) a c xs] := by
  subst hn
  exact (S.pick hk).weaken (k := 0) (X := OwnSl e (Rep.sz α) a xs.length c cs) (Y := OwnPX h e (Rep.sz α) a c xs) rfl fun g hx => ⟨cs, rep, hx⟩
theorem rep_room {α : Type} [Rep α] {xs : List α} {cs : List Value} {i : Int} (r : RepL h xs cs) (hi : inb xs i) : i.toNat * Rep.sz α + Rep.sz α ≤ cs.length := by
  rw [r.len]
  have := inb_lt hi
  calc i.toNat * Rep.sz α + Rep.sz α = (i.toNat + 1) * Rep.sz α := by rw [Nat.add_mul, Nat.one_mul]
    _ ≤ xs.length * Rep.sz α := Nat.mul_le_mul_right _ this
theorem take_rep {α : Type} {xs : List α} {x : α} {lo m : Nat} (h : xs.length = m) (hl : lo ≤ m) : (xs.take lo ++ List.replicate (m - lo) x).length = m := by
  rw [List.length_append, List.length_take, List.length_replicate]; omega
theorem len_take {α : Type} {xs : List α} {k m : Nat} (h : xs.length = m) (hl : k ≤ m) : (xs.take k).length = k := by
  rw [List.length_take]; omega
theorem rep_replicate {α : Type} [Rep α] {x : α} {z : Value} (hz : Rep.rep h x [z]) : ∀ m : Nat, RepL h (List.replicate m x) (List.replicate m z)
  | 0 => rfl
  | m + 1 => ⟨[z], List.replicate m z, rfl, hz, rep_replicate hz m⟩
theorem rep_nils {α : Type} [Rep α] (m : Nat) : RepL h (List.replicate m ([] : List α)) (List.replicate m (.slice none 0 0)) := rep_replicate (x := ([] : List α)) (show Rep.rep h ([] : List α) [.slice none 0 0] from ⟨none, 0, rfl, Nat.le_refl 0, RSl.nil_⟩) m
end
end Go.Proofs.YtojoehfldbimpaaGreatDoor.Pl

