/- The rules of the program logic for maps from strings to ints that the call has made. No condition. -/
import Derived.Test.YtojoehfldbimpaaGreatDoorPl9
import Derived.MapKept
namespace Go.Proofs.YtojoehfldbimpaaGreatDoor.Pl
open Go Go.RowKit Go.MapKept
/-- a string's value -/
abbrev strV (k : List UInt8) : Value := .string ⟨k.toArray⟩
/-- what a map holds after a store -/
def upd (m : List UInt8 → Int) (k : List UInt8) (v : Int) : List UInt8 → Int := fun x => if x = k then v else m x
theorem upd_self (m : List UInt8 → Int) (k : List UInt8) (v : Int) : upd m k v k = v := if_pos rfl
theorem upd_ne {m : List UInt8 → Int} {k x : List UInt8} {v : Int} (h : x ≠ k) : upd m k v x = m x := if_neg h
/-- the entries of a map that gives m -/
inductive MapIs : List MapEntry → (List UInt8 → Int) → Prop
  | nil : MapIs [] fun _ => 0
  | cons {k : List UInt8} {v : Int} {born : Nat} {es : List MapEntry} {m : List UInt8 → Int} : MapIs es m → MapIs (⟨strV k, .int .i64 v, born⟩ :: es) (upd m k v)
theorem upd_upd (m : List UInt8 → Int) (k : List UInt8) (v v' : Int) : upd (upd m k v) k v' = upd m k v' := by
  funext x; unfold upd; split <;> rfl
theorem upd_comm (m : List UInt8 → Int) {k k' : List UInt8} (h : k ≠ k') (v v' : Int) : upd (upd m k v) k' v' = upd (upd m k' v') k v := by
  funext x; unfold upd
  by_cases a : x = k'
  · by_cases b : x = k
    · exact absurd (b.symm.trans a) h
    · rw [if_pos a, if_neg b, if_pos a]
  · by_cases b : x = k
    · rw [if_neg a, if_pos b, if_pos b]
    · rw [if_neg a, if_neg b, if_neg b, if_neg a]
theorem MapIs.find {es : List MapEntry} {m : List UInt8 → Int} (h : MapIs es m) (k : List UInt8) : ∀ i : Nat,
    (Instr.findNow .string (strV k) es i = some none ∧ m k = 0 ∧ ∀ (v : Int) (born : Nat), MapIs (es ++ [⟨strV k, .int .i64 v, born⟩]) (upd m k v)) ∨
    ∃ (j born : Nat), Instr.findNow .string (strV k) es i = some (some (i + j, .int .i64 (m k))) ∧ es[j]? = some ⟨strV k, .int .i64 (m k), born⟩ ∧ ∀ v : Int, MapIs (es.modify j fun e => { e with key := strV k, val := .int .i64 v }) (upd m k v) := by
  induction h with
  | nil => exact fun i => .inl ⟨rfl, rfl, fun v born => .cons .nil⟩
  | @cons k1 v1 b1 es m hm ih =>
    intro i
    by_cases e : k = k1
    · subst e
      refine .inr ⟨0, b1, ?_, ?_, fun v => ?_⟩
      · have : ((⟨k.toArray⟩ : ByteArray) == ⟨k.toArray⟩) = true := (bytes_beq _ _).2 rfl
        simp [Instr.findNow, Instr.sameNow, this, upd_self]
      · simp [upd_self]
      · rw [upd_upd]; exact .cons hm
    · have hb : ((⟨k.toArray⟩ : ByteArray) == ⟨k1.toArray⟩) = false := by
        cases q : ((⟨k.toArray⟩ : ByteArray) == ⟨k1.toArray⟩)
        · rfl
        · have := (bytes_beq _ _).1 q
          injection this with this
          exact absurd (by simpa using congrArg Array.toList this) e
      rcases ih (i + 1) with ⟨h1, h2, h3⟩ | ⟨j, born, h1, h2, h3⟩
      · refine .inl ⟨by simp [Instr.findNow, Instr.sameNow, hb, h1], by rw [upd_ne e]; exact h2, fun v born => ?_⟩
        rw [upd_comm m (fun q => e q.symm)]
        exact .cons (h3 v born)
      · refine .inr ⟨j + 1, born, ?_, ?_, fun v => ?_⟩
        · rw [upd_ne e]
          simp [Instr.findNow, Instr.sameNow, hb, h1]; omega
        · rw [upd_ne e]; simpa using h2
        · rw [upd_comm m (fun q => e q.symm)]
          exact .cons (h3 v)
/-- a slice of the call's own whose elements stay, told by its elements alone -/
def OwnPX {α : Type} [Rep α] (h : FH) (e : TypeId) (sz : Nat) (a : Option Addr) (c : Nat) (xs : List α) : Asrt := fun g => ∃ cs, RepL h xs cs ∧ OwnSl e sz a xs.length c cs g
theorem SH.openP {α : Type} [Rep α] {K : Kp} {h h0 : FH} {w : World} {A : List Asrt} {k : Nat} {e : TypeId} {sz c : Nat} {a : Option Addr} {xs : List α} (S : SH K h w A) (hk : A[k]? = some (OwnPX h0 e sz a c xs)) : ∃ cs, RepL h0 xs cs ∧ SH K h w (A.set k (OwnSl e sz a xs.length c cs)) := by
  obtain ⟨gs, p1, p2, p3, p4⟩ := S.parts
  have hkl : k < gs.length := by rw [p1]; exact (List.getElem?_eq_some_iff.1 hk).1
  obtain ⟨cs, r, x⟩ := p2 k _ _ (List.getElem?_eq_getElem hkl) hk
  refine ⟨cs, r, S.kept, S.sub, S.fresh, gs, by simpa using p1, fun i g1 Z hi hZ => ?_, p3, p4⟩
  rcases list_set_get hZ with ⟨rfl, rfl, _⟩ | ⟨_, hZ'⟩
  · rw [List.getElem?_eq_getElem hkl] at hi
    obtain rfl := Option.some.inj hi
    exact x
  · exact p2 i g1 Z hi hZ'
theorem JL.openP {α : Type} [Rep α] {P : Program} {K : Kp} {n : Fr} {ops : Array Oper} {l : List Oper} {Q : Exit → Act → World → Prop} {s : St} {h h0 : FH} {A : List Asrt} {k : Nat} {e : TypeId} {sz c : Nat} {a : Option Addr} {xs : List α} (hk : A[k]? = some (OwnPX h0 e sz a c xs)) (kk : ∀ cs, RepL h0 xs cs → JL P K n ops l Q s (A.set k (OwnSl e sz a xs.length c cs)) h) : JL P K n ops l Q s A h := fun ac w H S => by
  obtain ⟨cs, r, S'⟩ := S.openP hk
  exact kk cs r ac w H S'
/-- a map of the call's own -/
def OwnMap (b : Nat) (m : List UInt8 → Int) : Asrt := fun g => ∃ es clock, g = FH.one b (.map es clock) ∧ MapIs es.toList m
/-- the type of such a map -/
def TMap (P : Program) (t : TypeId) : Prop := ∃ k e, P.underlying t = some (.map k e) ∧ P.underlying k = some .string ∧ ∀ w, (zeroValue e).run P w = .ok (.int .i64 0) w
theorem tMap_mk {P : Program} {t k e : TypeId} (h1 : P.underlying t = some (.map k e)) (h2 : P.underlying k = some .string) (h3 : ((P.info? e).bind (·.zero)) = some (.int .i64 0)) : TMap P t := by
  obtain ⟨i, hi, hz⟩ := Option.bind_eq_some_iff.1 h3
  exact ⟨k, e, h1, h2, fun w => by simp [zeroValue, typeInfo, hi, hz]⟩
section
variable {P : Program} {K : Kp} {n : Fr} {ops : Array Oper} {Q : Exit → Act → World → Prop} {s : St} {A : List Asrt} {h : FH} {rest : List Oper} {d : Nat} {dd : Option Tmp} {gd : Option (Nat × Bool)} {ty : TypeId} {pos : String} {af : Array Edge}
/-- make of a map -/
theorem mm {t : TypeId} (hn : Nat.blt d n.sz = true)
    (k : ∀ b, JL P K n ops rest Q ((d, .map (some b)) :: s) (OwnMap b (fun _ => 0) :: A) h) : JL P K n ops (⟨some d, .makeMap t none, ty, pos, af, none⟩ :: rest) Q s A h :=
  JL.valW rfl rfl hn (fun ac w H S => by
    refine ⟨_, w.alloc (.map #[] 0), _, h, ?_, S.new (X := OwnMap w.heap.size fun _ => 0) ⟨#[], 0, rfl, .nil⟩, k _⟩
    have e : (Instr.makeMap t none).run P w = .ok (.map (some w.heap.size)) (w.alloc (.map #[] 0)) := rfl
    simp only [execOp, Option.map_none, Sem.run_bind, e]; rfl)
/-- an index of a map -/
theorem lk {t : TypeId} {x y : Operand} {b kk : Nat} {m : List UInt8 → Int} {k : List UInt8} (ht : TMap P t) (hx : ev s x = some (.map (some b))) (hy : ev s y = some (strV k)) (hk : A[kk]? = some (OwnMap b m)) :
    VF P K n s A h ⟨dd, .lookup t x y false, ty, pos, af, gd⟩ (.int .i64 (m k)) := fun ac w H S => by
  obtain ⟨kt, et, h1, h2, h3⟩ := ht
  obtain ⟨g, ⟨es, clock, rfl, hm⟩, own, _⟩ := S.upd hk
  have hb := one_sub own.sub
  have hkey : IsKey .string (strV k) := trivial
  have e : (Instr.lookup t (.map (some b)) (strV k) false).run P w = .ok (.int .i64 (m k)) w := by
    unfold Instr.lookup
    rcases hm.find k 0 with ⟨f1, f2, _⟩ | ⟨j, born, f1, _, _⟩
    · simp [run_underlying h1, MapKept.run_getObj_map hb, MapKept.run_checkKey h2 hkey _ 9999, MapKept.run_findKey h2 f1, h3 w, Result.andThen, f2]
    · simp [run_underlying h1, MapKept.run_getObj_map hb, MapKept.run_checkKey h2 hkey _ 9999, MapKept.run_findKey h2 f1, Result.andThen]
  simp only [execOp, H.ev hx, H.ev hy, Sem.run_bind, e]; rfl
theorem mapUpdate_run {t : TypeId} {b : Nat} {m : List UInt8 → Int} {k : List UInt8} {v : Int} {es : Array MapEntry} {clock : Nat} {w : World} (ht : TMap P t) (hb : w.heap[b]? = some (.map es clock)) (hm : MapIs es.toList m) :
    ∃ es' clock', (Instr.mapUpdate t (.map (some b)) (strV k) (.int .i64 v)).run P w = .ok () (w.putObj b (.map es' clock')) ∧ MapIs es'.toList (upd m k v) := by
  obtain ⟨kt, et, h1, h2, _⟩ := ht
  have hkey : IsKey .string (strV k) := trivial
  rcases hm.find k 0 with ⟨f1, _, f3⟩ | ⟨j, born, f1, f2, f3⟩
  · refine ⟨es.push ⟨strV k, .int .i64 v, clock⟩, clock + 1, ?_, by simpa using f3 v clock⟩
    unfold Instr.mapUpdate
    simp [run_underlying h1, MapKept.run_getObj_map hb, MapKept.run_checkKey h2 hkey _ 9999, MapKept.run_findKey h2 f1, Result.andThen, MapKept.run_setObj_map _ hb, World.putObj]
  · refine ⟨es.modify j fun e => { e with key := strV k, val := .int .i64 v }, clock, ?_, by simpa using f3 v⟩
    have g2 : es[j]? = some ⟨strV k, .int .i64 (m k), born⟩ := by simpa using f2
    have st : (Instr.keyThatStays (strV k) (strV k)).run P w = .ok (strV k) w := by
      have : ((⟨k.toArray⟩ : ByteArray) == ⟨k.toArray⟩) = true := (bytes_beq _ _).2 rfl
      simp [Instr.keyThatStays, Instr.sameBits, this]
    rw [Nat.zero_add] at f1
    unfold Instr.mapUpdate
    simp [run_underlying h1, MapKept.run_getObj_map hb, MapKept.run_checkKey h2 hkey _ 9999, MapKept.run_findKey h2 f1, Result.andThen, g2, st, MapKept.run_setObj_map _ hb, World.putObj]
theorem SH.wrM {w : World} {kk b : Nat} {m m' : List UInt8 → Int} {es' : Array MapEntry} {clock' : Nat} (S : SH K h w A) (hk : A[kk]? = some (OwnMap b m)) (hm' : MapIs es'.toList m') : SH K h (w.putObj b (.map es' clock')) (A.set kk (OwnMap b m')) := by
  obtain ⟨g, ⟨es, clock, rfl, hm⟩, own, up⟩ := S.upd hk
  have hb := one_sub own.sub
  have hlt : b < w.heap.size := (Array.getElem?_eq_some_iff.1 hb).1
  refine up (OwnMap b m') (FH.one b (.map es' clock')) _ ⟨es', clock', rfl, hm'⟩ (Sub.one (by rw [putObj_heap, if_pos ⟨rfl, hlt⟩])) (fun b' hb' => .inl ?_) (fun b' _ hn => ?_) rfl rfl rfl (by rw [putObj_size]; exact Nat.le_refl _) (Nat.le_refl _)
  · rw [FH.one_ne hb', FH.one_self]; simp
  · rw [putObj_heap, if_neg fun q => ?_]
    rw [← q.1, FH.one_self] at hn; cases hn
theorem mapW {t : TypeId} {b kk : Nat} {m : List UInt8 → Int} {k : List UInt8} {v : Int} {w : World} (ht : TMap P t) (hk : A[kk]? = some (OwnMap b m)) (S : SH K h w A) :
    ∃ w', (Instr.mapUpdate t (.map (some b)) (strV k) (.int .i64 v)).run P w = .ok () w' ∧ SH K h w' (A.set kk (OwnMap b (upd m k v))) := by
  obtain ⟨g, ⟨es, clock, rfl, hm⟩, own, _⟩ := S.upd hk
  obtain ⟨es', clock', hr, hm'⟩ := mapUpdate_run (k := k) (v := v) ht (one_sub own.sub) hm
  exact ⟨_, hr, S.wrM hk hm'⟩
/-- a store into a map -/
theorem mu {t : TypeId} {x y z : Operand} {b kk : Nat} {m : List UInt8 → Int} {k : List UInt8} {v : Int} (ht : TMap P t) (hx : ev s x = some (.map (some b))) (hy : ev s y = some (strV k)) (hz : ev s z = some (.int .i64 v)) (hk : A[kk]? = some (OwnMap b m))
    (kk' : JL P K n ops rest Q s (A.set kk (OwnMap b (upd m k v))) h) : JL P K n ops (⟨none, .mapUpdate t x y z, ty, pos, af, none⟩ :: rest) Q s A h :=
  JL.skipW rfl rfl (fun ac w H S => by
    obtain ⟨w', hr, S'⟩ := mapW (k := k) (v := v) ht hk S
    exact ⟨w', _, h, by simp only [execOp, H.ev hx, H.ev hy, H.ev hz, Sem.run_bind, hr]; rfl, S', kk'⟩)
/-- an element of a map that is written out -/
theorem mi {t : TypeId} {x y z : Operand} {b kk : Nat} {m : List UInt8 → Int} {k : List UInt8} {v : Int} (ht : TMap P t) (hx : ev s x = some (.map (some b))) (hy : ev s y = some (strV k)) (hz : ev s z = some (.int .i64 v)) (hk : A[kk]? = some (OwnMap b m))
    (kk' : JL P K n ops rest Q s (A.set kk (OwnMap b (upd m k v))) h) : JL P K n ops (⟨none, .insert t x y z, ty, pos, af, none⟩ :: rest) Q s A h :=
  JL.skipW rfl rfl (fun ac w H S => by
    obtain ⟨w', hr, S'⟩ := mapW (k := k) (v := v) ht hk S
    exact ⟨w', _, h, by simp only [execOp, H.ev hx, H.ev hy, H.ev hz, Sem.run_bind, hr]; rfl, S', kk'⟩)
end
end Go.Proofs.YtojoehfldbimpaaGreatDoor.Pl

