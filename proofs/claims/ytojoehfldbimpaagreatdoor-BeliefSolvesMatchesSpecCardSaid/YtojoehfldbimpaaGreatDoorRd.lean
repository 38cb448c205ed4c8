/- Reading the program's data; printed. No condition. -/
import Derived.Test.YtojoehfldbimpaaGreatDoorPl8
import Derived.Test.YtojoehfldbimpaaGreatDoorSp
namespace Go.Proofs.YtojoehfldbimpaaGreatDoor.Pl
open Go Go.RowKit Go.WideShapes Go.ChangeShapes Go.ChangeAt Go.Joins Go.Deep
instance : Bytes Operator := ⟨80⟩
instance : Siz Operator := ⟨fun x => Siz.siz x.pre ∧ Siz.siz x.add ∧ Siz.siz x.del ∧ Siz.siz x.cost⟩
instance : Bytes Task := ⟨80⟩
instance : Siz Task := ⟨fun x => Siz.siz x.facts ∧ Siz.siz x.init ∧ Siz.siz x.goal ∧ Siz.siz x.ops⟩
instance : Bytes TNode := ⟨40⟩
instance : Siz TNode := ⟨fun x => Siz.siz x.kind ∧ Siz.siz x.op ∧ Siz.siz x.fact ∧ Siz.siz x.yes ∧ Siz.siz x.no⟩
theorem cells3 : Tryz.prog.cellsOf 3 = 1 := by kernel_rfl
theorem cells22 : Tryz.prog.cellsOf 22 = 1 := by kernel_rfl
theorem cells23 : Tryz.prog.cellsOf 23 = 1 := by kernel_rfl
theorem cells25 : Tryz.prog.cellsOf 25 = 4 := by kernel_rfl
theorem cells54 : Tryz.prog.cellsOf 54 = 4 := by kernel_rfl
theorem list4 {β : Type} {l : List β} (h : l.length = 4) : ∃ c0 c1 c2 c3, l = [c0, c1, c2, c3] := by
  match l, h with
  | [c0, c1, c2, c3], _ => exact ⟨c0, c1, c2, c3, rfl⟩
theorem reads_3 : Reads Tryz.prog Int 3 := reads_int Tryz.underlying3
theorem reads_22 : Reads Tryz.prog (List Int) 22 := reads_slice Tryz.underlying22 cells3 (by kernel_rfl) reads_3
theorem reads_54 : Reads Tryz.prog Operator 54 := fun H enc w b sp hd n cs z h => by
  obtain ⟨xs, n', _, rfl, hl, hlen, hf⟩ := DataW.trod_struct Tryz.underlying54 h
  obtain ⟨x0, r0, s0⟩ := reads_field Tryz.underlying54 hlen hf 0 rfl reads_22
  obtain ⟨x1, r1, s1⟩ := reads_field Tryz.underlying54 hlen hf 1 rfl reads_22
  obtain ⟨x2, r2, s2⟩ := reads_field Tryz.underlying54 hlen hf 2 rfl reads_22
  obtain ⟨x3, r3, s3⟩ := reads_field Tryz.underlying54 hlen hf 3 rfl reads_3
  rw [cells54] at hl
  obtain ⟨c0, c1, c2, c3, rfl⟩ := list4 hl
  replace r0 : Rep.rep (hold w) x0 (([c0, c1, c2, c3] : List Value).drop 0 |>.take (Tryz.prog.cellsOf 22)) := r0
  rw [cells22] at r0
  replace r1 : Rep.rep (hold w) x1 (([c0, c1, c2, c3] : List Value).drop 1 |>.take (Tryz.prog.cellsOf 22)) := r1
  rw [cells22] at r1
  replace r2 : Rep.rep (hold w) x2 (([c0, c1, c2, c3] : List Value).drop 2 |>.take (Tryz.prog.cellsOf 22)) := r2
  rw [cells22] at r2
  replace r3 : Rep.rep (hold w) x3 (([c0, c1, c2, c3] : List Value).drop 3 |>.take (Tryz.prog.cellsOf 3)) := r3
  rw [cells3] at r3
  obtain ⟨a0_0, k0_0, e0, l0_0, q0_0⟩ := r0
  replace e0 : ([c0] : List Value) = _ := e0
  simp only [List.cons.injEq, and_true] at e0
  obtain rfl := e0
  obtain ⟨a1_0, k1_0, e1, l1_0, q1_0⟩ := r1
  replace e1 : ([c1] : List Value) = _ := e1
  simp only [List.cons.injEq, and_true] at e1
  obtain rfl := e1
  obtain ⟨a2_0, k2_0, e2, l2_0, q2_0⟩ := r2
  replace e2 : ([c2] : List Value) = _ := e2
  simp only [List.cons.injEq, and_true] at e2
  obtain rfl := e2
  have e3 : ([c3] : List Value) = [.int .i64 x3] := r3
  simp only [List.cons.injEq, and_true] at e3
  obtain rfl := e3
  exact ⟨⟨x0, x1, x2, x3⟩, ⟨a0_0, k0_0, a1_0, k1_0, a2_0, k2_0, rfl, ⟨l0_0, q0_0⟩, ⟨l1_0, q1_0⟩, ⟨l2_0, q2_0⟩⟩, fun hw => ⟨s0 hw, s1 hw, s2 hw, s3 hw⟩⟩
theorem reads_23 : Reads Tryz.prog (List Operator) 23 := reads_slice Tryz.underlying23 cells54 (by kernel_rfl) reads_54
theorem reads_25 : Reads Tryz.prog Task 25 := fun H enc w b sp hd n cs z h => by
  obtain ⟨xs, n', _, rfl, hl, hlen, hf⟩ := DataW.trod_struct Tryz.underlying25 h
  obtain ⟨x0, r0, s0⟩ := reads_field Tryz.underlying25 hlen hf 0 rfl reads_3
  obtain ⟨x1, r1, s1⟩ := reads_field Tryz.underlying25 hlen hf 1 rfl reads_22
  obtain ⟨x2, r2, s2⟩ := reads_field Tryz.underlying25 hlen hf 2 rfl reads_22
  obtain ⟨x3, r3, s3⟩ := reads_field Tryz.underlying25 hlen hf 3 rfl reads_23
  rw [cells25] at hl
  obtain ⟨c0, c1, c2, c3, rfl⟩ := list4 hl
  replace r0 : Rep.rep (hold w) x0 (([c0, c1, c2, c3] : List Value).drop 0 |>.take (Tryz.prog.cellsOf 3)) := r0
  rw [cells3] at r0
  replace r1 : Rep.rep (hold w) x1 (([c0, c1, c2, c3] : List Value).drop 1 |>.take (Tryz.prog.cellsOf 22)) := r1
  rw [cells22] at r1
  replace r2 : Rep.rep (hold w) x2 (([c0, c1, c2, c3] : List Value).drop 2 |>.take (Tryz.prog.cellsOf 22)) := r2
  rw [cells22] at r2
  replace r3 : Rep.rep (hold w) x3 (([c0, c1, c2, c3] : List Value).drop 3 |>.take (Tryz.prog.cellsOf 23)) := r3
  rw [cells23] at r3
  have e0 : ([c0] : List Value) = [.int .i64 x0] := r0
  simp only [List.cons.injEq, and_true] at e0
  obtain rfl := e0
  obtain ⟨a1_0, k1_0, e1, l1_0, q1_0⟩ := r1
  replace e1 : ([c1] : List Value) = _ := e1
  simp only [List.cons.injEq, and_true] at e1
  obtain rfl := e1
  obtain ⟨a2_0, k2_0, e2, l2_0, q2_0⟩ := r2
  replace e2 : ([c2] : List Value) = _ := e2
  simp only [List.cons.injEq, and_true] at e2
  obtain rfl := e2
  obtain ⟨a3_0, k3_0, e3, l3_0, q3_0⟩ := r3
  replace e3 : ([c3] : List Value) = _ := e3
  simp only [List.cons.injEq, and_true] at e3
  obtain rfl := e3
  exact ⟨⟨x0, x1, x2, x3⟩, ⟨a1_0, k1_0, a2_0, k2_0, a3_0, k3_0, rfl, ⟨l1_0, q1_0⟩, ⟨l2_0, q2_0⟩, ⟨l3_0, q3_0⟩⟩, fun hw => ⟨s0 hw, s1 hw, s2 hw, s3 hw⟩⟩
end Go.Proofs.YtojoehfldbimpaaGreatDoor.Pl

