/- The rules of the program logic for bytes and strings: a slice of bytes that the call owns, strconv.AppendInt at base 10, the string of such a slice. No condition. -/
import Derived.Test.YtojoehfldbimpaaGreatDoorPl10
import Derived.Shelf.Strconv.AppendIntPublic10
import Derived.Laws.IdiomStrings
import Derived.Lib.ItoaLen
namespace Go.Proofs.YtojoehfldbimpaaGreatDoor.Pl
open Go Go.RowKit Go.Shelf
instance : Flat UInt8 := ⟨1, fun x => [.int .u8 (x.toNat : Int)], fun _ => rfl, fun x v hv => by simp at hv; subst hv; rfl⟩
theorem flL_bytes (l : List UInt8) : flL l = Lib.byteCells l := by
  induction l with
  | nil => rfl
  | cons x r ih => simp only [flL, ih]; rfl
/-- the table that strconv reads stands in the memory that stays -/
def TabH (P : Program) (h : FH) : Prop := ∀ w, Sub h w → Lib.TabIs P w "internal/strconv.uint64pow10" .u64 Lib.pow10Tab
theorem TabH.mono {P : Program} {h h' : FH} (t : TabH P h) (hl : FH.le h h') : TabH P h' := fun w s => t w fun b o e => s b o (hl b o e)
/-- the one slice of bytes that the call owns, out of the library's word -/
theorem ofRow {w0 w w' : World} {h : FH} {A : List Asrt} {t m : Nat} {v : Value} {xs : List Value} (hs : Sub h w0) (S : SH (Kp.all w0 h) h w A) (hb : RowKit.Below w0.heap.size w w') (ho : w'.ownsRow w0.heap.size t 1 v m xs) :
    ∃ a c, v = .slice a m c ∧ SH (Kp.all w0 h) h w' [OwnSl t 1 a m c xs] := by
  have hlt : ∀ b, h b ≠ none → b < w0.heap.size := fun b hn => by
    obtain ⟨o, e⟩ := Option.ne_none_iff_exists'.1 hn
    exact (Array.getElem?_eq_some_iff.1 (hs b o e)).1
  have bl := S.kept.below.toK.trans hb
  have kp : Kept (Kp.all w0 h) w' := ⟨bl.os, bl.tape, bl.output, bl.size, bl.block, Nat.le_refl _⟩
  have sb : Sub h w' := fun b o e => by
    rw [hb.block b (hlt b (by rw [e]; simp))]
    exact S.sub b o e
  obtain ⟨hl, ⟨rfl, rfl⟩ | ⟨g, cap, cur, rfl, h1, h2, h3, h4, h5, h6⟩⟩ := ho
  · refine ⟨none, 0, rfl, kp, sb, S.fresh, [fun _ => none], rfl, fun i g X hg hX => ?_, fun i g hg => ?_, fun i j g g' hij hg hg' => ?_⟩
    · match i with
      | 0 => cases hg; cases hX; exact ⟨hl, .inl ⟨rfl, rfl, rfl, rfl⟩⟩
      | i + 1 => simp at hg
    · match i with
      | 0 => cases hg; exact ⟨fun _ => .inr rfl, fun b o e => (by cases e), fun b hn => absurd rfl hn⟩
      | i + 1 => simp at hg
    · match i, j with
      | 0, 0 => exact absurd rfl hij
      | i + 1, _ => simp at hg
      | 0, j + 1 => simp at hg'
  · refine ⟨some ⟨g, 0, none⟩, cap, rfl, kp, sb, S.fresh, [FH.one g (.cells cur t (0, 0))], rfl, fun i g' X hg hX => ?_, fun i g' hg => ?_, fun i j g1 g' hij hg hg' => ?_⟩
    · match i with
      | 0 => cases hg; cases hX; exact ⟨hl, .inr ⟨g, cur, rfl, rfl, h3, h4, h5, h6⟩⟩
      | i + 1 => simp at hg
    · match i with
      | 0 =>
        cases hg
        refine ⟨fun b => ?_, Sub.one h2, fun b hn => ?_⟩
        · by_cases e : h b = none
          · exact .inl e
          · refine .inr ?_
            have := hlt b e
            show FH.one g _ b = none
            exact if_neg (by omega)
        · have := FH.one_ne hn
          subst this
          exact fun (q : b < w0.heap.size) => by omega
      | i + 1 => simp at hg
    · match i, j with
      | 0, 0 => exact absurd rfl hij
      | i + 1, _ => simp at hg
      | 0, j + 1 => simp at hg'
section
variable {P : Program} {K : Kp} {n : Fr} {s : St} {A : List Asrt} {h : FH} {dd : Option Tmp} {gd : Option (Nat × Bool)} {ty : TypeId} {pos : String} {af : Array Edge}
end
section
variable {P : Program} {n : Fr} {ops : Array Oper} {Q : Exit → Act → World → Prop} {s : St} {h : FH} {rest : List Oper} {d : Nat} {dd : Option Tmp} {gd : Option (Nat × Bool)} {ty : TypeId} {pos : String} {af : Array Edge}
theorem OwnSl.rowB {w0 w : World} {t m c : Nat} {a : Option Addr} {xs : List Value} (S : SH (Kp.all w0 h) h w [OwnSl t 1 a m c xs]) : w.ownsRow w0.heap.size t 1 (.slice a m c) m xs := by
  obtain ⟨g, ⟨hl, ⟨rfl, rfl, rfl, rfl⟩ | ⟨b, cur, rfl, rfl, q1, q2, q3, q4⟩⟩, own, _⟩ := S.upd (k := 0) rfl
  · exact ⟨hl, .inl ⟨rfl, rfl⟩⟩
  · refine ⟨hl, .inr ⟨b, c, cur, rfl, ?_, one_sub own.sub, q1, q2, q3, q4⟩⟩
    have := own.free b (by rw [FH.one_self]; simp)
    exact Nat.le_of_not_lt this
/-- strconv.AppendInt at base 10 -/
theorem ai {w0 : World} {ρ : Ren} {f : FuncId} {x : Operand} {xs : Array Operand} {ts : Array TypeId} {a : Option Addr} {m c : Nat} {i : Int} {bs : List UInt8} (L : LaysM.n176 P ρ) (hs : Sub h w0) (ht : TabH P h) (hf : ∀ args w, (callFunc f args).run P w = .ok (.enter f args) w) (hff : ρ.f 176 = f)
    (hx : ev s x = some (.func (.func f) #[] #[])) (hv : evs s xs.toList = some [.slice a m c, .int .i64 i, .int .i64 10]) (hi : -9223372036854775808 ≤ i ∧ i ≤ 9223372036854775807) (hm : m + 21 ≤ 140737488355328) (hn : Nat.blt d n.sz = true)
    (k : ∀ a' c', JL P (Kp.all w0 h) n ops rest Q ((d, .slice a' (m + (Lib.itoa i).length) c') :: s) [OwnSl (ρ.t 5) 1 a' (m + (Lib.itoa i).length) c' (flL (bs ++ Lib.itoa i))] h) :
    JL P (Kp.all w0 h) n ops (⟨some d, .call { callee := .value x, args := xs, argTypes := ts }, ty, pos, af, none⟩ :: rest) Q s [OwnSl (ρ.t 5) 1 a m c (flL bs)] h :=
  JL.callW rfl rfl hn (fun _ _ H _ => call_exec H hf hx hv rfl) (fun w S => by
    have hB : w0.heap.size ≤ w.heap.size := S.kept.size
    have tb : Lib.TabBelow P w0.heap.size w "internal/strconv.uint64pow10" .u64 Lib.pow10Tab := fun w' hb => ht w' fun b o e => by
      rw [hb.block b (Array.getElem?_eq_some_iff.1 (hs b o e)).1]
      exact S.sub b o e
    have key := Any.strconv_AppendInt_10 L w0.heap.size m i hi.1 hi.2 (.slice a m c) (flL bs) w (OwnSl.rowB S) hB hm tb
    rw [hff] at key
    refine key.mono ?_
    rintro e w' ⟨v', rfl, ho, hb, _⟩
    obtain ⟨a', c', rfl, S'⟩ := ofRow hs S hb ho
    refine ⟨_, _, h, rfl, ?_, k a' c'⟩
    have e : flL (bs ++ Lib.itoa i) = flL bs ++ Lib.byteCells (Lib.itoa i) := by rw [flL_append, flL_bytes (Lib.itoa i)]
    rw [e]; exact S')
theorem ai2 {w0 : World} {ρ : Ren} {f : FuncId} {x : Operand} {xs : Array Operand} {ts : Array TypeId} {a : Option Addr} {m c e : Nat} {i : Int} {bs : List UInt8} (L : LaysM.n176 P ρ) (hs : Sub h w0) (ht : TabH P h) (hf : ∀ args w, (callFunc f args).run P w = .ok (.enter f args) w) (hff : ρ.f 176 = f) (hte : ρ.t 5 = e) (hl : bs.length = m)
    (hx : ev s x = some (.func (.func f) #[] #[])) (hv : evs s xs.toList = some [.slice a m c, .int .i64 i, .int .i64 10]) (hi : -9223372036854775808 ≤ i ∧ i ≤ 9223372036854775807) (hm : bs.length + 21 ≤ 140737488355328) (hn : Nat.blt d n.sz = true)
    (k : ∀ a' c', JL P (Kp.all w0 h) n ops rest Q ((d, .slice a' (bs ++ Lib.itoa i).length c') :: s) [OwnSl e 1 a' (bs ++ Lib.itoa i).length c' (flL (bs ++ Lib.itoa i))] h) :
    JL P (Kp.all w0 h) n ops (⟨some d, .call { callee := .value x, args := xs, argTypes := ts }, ty, pos, af, none⟩ :: rest) Q s [OwnSl e 1 a m c (flL bs)] h := by
  subst hl hte
  refine ai L hs ht hf hff hx hv hi hm hn fun a' c' => ?_
  have := k a' c'
  rwa [List.length_append] at this
/-- the string of a slice of bytes that the call owns -/
theorem cvO {K : Kp} {A : List Asrt} {t e st : TypeId} {x : Operand} {a : Option Addr} {c k : Nat} {bs : List UInt8} (hs : P.underlying t = some (.slice e)) (he : P.underlying e = some (.int .u8)) (hd : P.underlying st = some .string)
    (hx : ev s x = some (.slice a bs.length c)) (hk : A[k]? = some (OwnSl e 1 a bs.length c (flL bs))) : VF P K n s A h ⟨dd, .convert t st x, ty, pos, af, gd⟩ (strV bs) := fun ac w H S => by
  obtain ⟨g, ⟨hl, hc⟩, own, _⟩ := S.upd hk
  have e1 : (convert t st (.slice a bs.length c)).run P w = .ok (strV bs) w := by
    obtain ⟨rfl, h0, rfl, rfl⟩ | ⟨b, cur, rfl, rfl, q1, q2, q3, q4⟩ := hc
    · have : bs = [] := List.eq_nil_of_length_eq_zero h0
      subst this
      rw [run_convert_bytes_string w t st e none _ _ hs he hd]
      rfl
    · refine run_convert_bytes_back (P := P) w t st e ⟨b, 0, none⟩ c bs hs he hd fun j hj => ?_
      rw [add_lit]
      refine own.sub.cell ?_
      rw [one_cell, ← Array.getElem?_toList]
      have : (cur.toList.take (bs.length * 1))[j]? = (flL bs)[j]? := by rw [q4]
      rw [List.getElem?_take, if_pos (by omega)] at this
      rw [this, flL_bytes]
      simp [Lib.byteCells, hj]
  simp only [execOp, H.ev hx, Sem.run_bind, e1]; rfl
end
end Go.Proofs.YtojoehfldbimpaaGreatDoor.Pl

