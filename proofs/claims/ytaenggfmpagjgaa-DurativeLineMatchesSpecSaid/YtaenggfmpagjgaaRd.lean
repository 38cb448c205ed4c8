/- Reading the program's data; printed. No condition. -/
import Derived.Test.YtaenggfmpagjgaaPl8
import Derived.Test.YtaenggfmpagjgaaSp
namespace Go.Proofs.Ytaenggfmpagjgaa.Pl
open Go Go.RowKit Go.WideShapes Go.ChangeShapes Go.ChangeAt Go.Joins Go.Deep
instance : Bytes TOp := ⟨176⟩
instance : Siz TOp := ⟨fun x => Siz.siz x.atStart ∧ Siz.siz x.over ∧ Siz.siz x.atEnd ∧ Siz.siz x.addStart ∧ Siz.siz x.delStart ∧ Siz.siz x.addEnd ∧ Siz.siz x.delEnd ∧ Siz.siz x.dur⟩
instance : Bytes TTask := ⟨80⟩
instance : Siz TTask := ⟨fun x => Siz.siz x.facts ∧ Siz.siz x.init ∧ Siz.siz x.goal ∧ Siz.siz x.ops⟩
instance : Bytes Occ := ⟨16⟩
instance : Siz Occ := ⟨fun x => Siz.siz x.op ∧ Siz.siz x.start⟩
theorem cells3 : Try.prog.cellsOf 3 = 1 := by kernel_rfl
theorem cells22 : Try.prog.cellsOf 22 = 1 := by kernel_rfl
theorem cells23 : Try.prog.cellsOf 23 = 1 := by kernel_rfl
theorem cells25 : Try.prog.cellsOf 25 = 4 := by kernel_rfl
theorem cells38 : Try.prog.cellsOf 38 = 2 := by kernel_rfl
theorem cells41 : Try.prog.cellsOf 41 = 8 := by kernel_rfl
theorem list2 {β : Type} {l : List β} (h : l.length = 2) : ∃ c0 c1, l = [c0, c1] := by
  match l, h with
  | [c0, c1], _ => exact ⟨c0, c1, rfl⟩
theorem list4 {β : Type} {l : List β} (h : l.length = 4) : ∃ c0 c1 c2 c3, l = [c0, c1, c2, c3] := by
  match l, h with
  | [c0, c1, c2, c3], _ => exact ⟨c0, c1, c2, c3, rfl⟩
theorem list8 {β : Type} {l : List β} (h : l.length = 8) : ∃ c0 c1 c2 c3 c4 c5 c6 c7, l = [c0, c1, c2, c3, c4, c5, c6, c7] := by
  match l, h with
  | [c0, c1, c2, c3, c4, c5, c6, c7], _ => exact ⟨c0, c1, c2, c3, c4, c5, c6, c7, rfl⟩
theorem reads_3 : Reads Try.prog Int 3 := reads_int Try.underlying3
theorem reads_22 : Reads Try.prog (List Int) 22 := reads_slice Try.underlying22 cells3 (by kernel_rfl) reads_3
theorem reads_41 : Reads Try.prog TOp 41 := fun H enc w b sp hd n cs z h => by
  obtain ⟨xs, n', _, rfl, hl, hlen, hf⟩ := DataW.trod_struct Try.underlying41 h
  obtain ⟨x0, r0, s0⟩ := reads_field Try.underlying41 hlen hf 0 rfl reads_22
  obtain ⟨x1, r1, s1⟩ := reads_field Try.underlying41 hlen hf 1 rfl reads_22
  obtain ⟨x2, r2, s2⟩ := reads_field Try.underlying41 hlen hf 2 rfl reads_22
  obtain ⟨x3, r3, s3⟩ := reads_field Try.underlying41 hlen hf 3 rfl reads_22
  obtain ⟨x4, r4, s4⟩ := reads_field Try.underlying41 hlen hf 4 rfl reads_22
  obtain ⟨x5, r5, s5⟩ := reads_field Try.underlying41 hlen hf 5 rfl reads_22
  obtain ⟨x6, r6, s6⟩ := reads_field Try.underlying41 hlen hf 6 rfl reads_22
  obtain ⟨x7, r7, s7⟩ := reads_field Try.underlying41 hlen hf 7 rfl reads_3
  rw [cells41] at hl
  obtain ⟨c0, c1, c2, c3, c4, c5, c6, c7, rfl⟩ := list8 hl
  replace r0 : Rep.rep (hold w) x0 (([c0, c1, c2, c3, c4, c5, c6, c7] : List Value).drop 0 |>.take (Try.prog.cellsOf 22)) := r0
  rw [cells22] at r0
  replace r1 : Rep.rep (hold w) x1 (([c0, c1, c2, c3, c4, c5, c6, c7] : List Value).drop 1 |>.take (Try.prog.cellsOf 22)) := r1
  rw [cells22] at r1
  replace r2 : Rep.rep (hold w) x2 (([c0, c1, c2, c3, c4, c5, c6, c7] : List Value).drop 2 |>.take (Try.prog.cellsOf 22)) := r2
  rw [cells22] at r2
  replace r3 : Rep.rep (hold w) x3 (([c0, c1, c2, c3, c4, c5, c6, c7] : List Value).drop 3 |>.take (Try.prog.cellsOf 22)) := r3
  rw [cells22] at r3
  replace r4 : Rep.rep (hold w) x4 (([c0, c1, c2, c3, c4, c5, c6, c7] : List Value).drop 4 |>.take (Try.prog.cellsOf 22)) := r4
  rw [cells22] at r4
  replace r5 : Rep.rep (hold w) x5 (([c0, c1, c2, c3, c4, c5, c6, c7] : List Value).drop 5 |>.take (Try.prog.cellsOf 22)) := r5
  rw [cells22] at r5
  replace r6 : Rep.rep (hold w) x6 (([c0, c1, c2, c3, c4, c5, c6, c7] : List Value).drop 6 |>.take (Try.prog.cellsOf 22)) := r6
  rw [cells22] at r6
  replace r7 : Rep.rep (hold w) x7 (([c0, c1, c2, c3, c4, c5, c6, c7] : List Value).drop 7 |>.take (Try.prog.cellsOf 3)) := r7
  rw [cells3] at r7
  obtain ⟨a0_0, k0_0, e0, l0_0, q0_0⟩ := r0
  replace e0 : ([c0] : List Value) = _ := e0
  simp only [List.cons.injEq, and_true] at e0
  obtain rfl := e0
  obtain ⟨a1_0, k1_0, e1, l1_0, q1_0⟩ := r1
  replace e1 : ([c1] : List Value) = _ := e1
  simp only [List.cons.injEq, and_true] at e1
  obtain rfl := e1
  obtain ⟨a2_0, k2_0, e2, l2_0, q2_0⟩ := r2
  replace e2 : ([c2] : List Value) = _ := e2
  simp only [List.cons.injEq, and_true] at e2
  obtain rfl := e2
  obtain ⟨a3_0, k3_0, e3, l3_0, q3_0⟩ := r3
  replace e3 : ([c3] : List Value) = _ := e3
  simp only [List.cons.injEq, and_true] at e3
  obtain rfl := e3
  obtain ⟨a4_0, k4_0, e4, l4_0, q4_0⟩ := r4
  replace e4 : ([c4] : List Value) = _ := e4
  simp only [List.cons.injEq, and_true] at e4
  obtain rfl := e4
  obtain ⟨a5_0, k5_0, e5, l5_0, q5_0⟩ := r5
  replace e5 : ([c5] : List Value) = _ := e5
  simp only [List.cons.injEq, and_true] at e5
  obtain rfl := e5
  obtain ⟨a6_0, k6_0, e6, l6_0, q6_0⟩ := r6
  replace e6 : ([c6] : List Value) = _ := e6
  simp only [List.cons.injEq, and_true] at e6
  obtain rfl := e6
  have e7 : ([c7] : List Value) = [.int .i64 x7] := r7
  simp only [List.cons.injEq, and_true] at e7
  obtain rfl := e7
  exact ⟨⟨x0, x1, x2, x3, x4, x5, x6, x7⟩, ⟨a0_0, k0_0, a1_0, k1_0, a2_0, k2_0, a3_0, k3_0, a4_0, k4_0, a5_0, k5_0, a6_0, k6_0, rfl, ⟨l0_0, q0_0⟩, ⟨l1_0, q1_0⟩, ⟨l2_0, q2_0⟩, ⟨l3_0, q3_0⟩, ⟨l4_0, q4_0⟩, ⟨l5_0, q5_0⟩, ⟨l6_0, q6_0⟩⟩, fun hw => ⟨s0 hw, s1 hw, s2 hw, s3 hw, s4 hw, s5 hw, s6 hw, s7 hw⟩⟩
theorem reads_23 : Reads Try.prog (List TOp) 23 := reads_slice Try.underlying23 cells41 (by kernel_rfl) reads_41
theorem reads_25 : Reads Try.prog TTask 25 := fun H enc w b sp hd n cs z h => by
  obtain ⟨xs, n', _, rfl, hl, hlen, hf⟩ := DataW.trod_struct Try.underlying25 h
  obtain ⟨x0, r0, s0⟩ := reads_field Try.underlying25 hlen hf 0 rfl reads_3
  obtain ⟨x1, r1, s1⟩ := reads_field Try.underlying25 hlen hf 1 rfl reads_22
  obtain ⟨x2, r2, s2⟩ := reads_field Try.underlying25 hlen hf 2 rfl reads_22
  obtain ⟨x3, r3, s3⟩ := reads_field Try.underlying25 hlen hf 3 rfl reads_23
  rw [cells25] at hl
  obtain ⟨c0, c1, c2, c3, rfl⟩ := list4 hl
  replace r0 : Rep.rep (hold w) x0 (([c0, c1, c2, c3] : List Value).drop 0 |>.take (Try.prog.cellsOf 3)) := r0
  rw [cells3] at r0
  replace r1 : Rep.rep (hold w) x1 (([c0, c1, c2, c3] : List Value).drop 1 |>.take (Try.prog.cellsOf 22)) := r1
  rw [cells22] at r1
  replace r2 : Rep.rep (hold w) x2 (([c0, c1, c2, c3] : List Value).drop 2 |>.take (Try.prog.cellsOf 22)) := r2
  rw [cells22] at r2
  replace r3 : Rep.rep (hold w) x3 (([c0, c1, c2, c3] : List Value).drop 3 |>.take (Try.prog.cellsOf 23)) := r3
  rw [cells23] at r3
  have e0 : ([c0] : List Value) = [.int .i64 x0] := r0
  simp only [List.cons.injEq, and_true] at e0
  obtain rfl := e0
  obtain ⟨a1_0, k1_0, e1, l1_0, q1_0⟩ := r1
  replace e1 : ([c1] : List Value) = _ := e1
  simp only [List.cons.injEq, and_true] at e1
  obtain rfl := e1
  obtain ⟨a2_0, k2_0, e2, l2_0, q2_0⟩ := r2
  replace e2 : ([c2] : List Value) = _ := e2
  simp only [List.cons.injEq, and_true] at e2
  obtain rfl := e2
  obtain ⟨a3_0, k3_0, e3, l3_0, q3_0⟩ := r3
  replace e3 : ([c3] : List Value) = _ := e3
  simp only [List.cons.injEq, and_true] at e3
  obtain rfl := e3
  exact ⟨⟨x0, x1, x2, x3⟩, ⟨a1_0, k1_0, a2_0, k2_0, a3_0, k3_0, rfl, ⟨l1_0, q1_0⟩, ⟨l2_0, q2_0⟩, ⟨l3_0, q3_0⟩⟩, fun hw => ⟨s0 hw, s1 hw, s2 hw, s3 hw⟩⟩
theorem reads_38 : Reads Try.prog Occ 38 := fun H enc w b sp hd n cs z h => by
  obtain ⟨xs, n', _, rfl, hl, hlen, hf⟩ := DataW.trod_struct Try.underlying38 h
  obtain ⟨x0, r0, s0⟩ := reads_field Try.underlying38 hlen hf 0 rfl reads_3
  obtain ⟨x1, r1, s1⟩ := reads_field Try.underlying38 hlen hf 1 rfl reads_3
  rw [cells38] at hl
  obtain ⟨c0, c1, rfl⟩ := list2 hl
  replace r0 : Rep.rep (hold w) x0 (([c0, c1] : List Value).drop 0 |>.take (Try.prog.cellsOf 3)) := r0
  rw [cells3] at r0
  replace r1 : Rep.rep (hold w) x1 (([c0, c1] : List Value).drop 1 |>.take (Try.prog.cellsOf 3)) := r1
  rw [cells3] at r1
  have e0 : ([c0] : List Value) = [.int .i64 x0] := r0
  simp only [List.cons.injEq, and_true] at e0
  obtain rfl := e0
  have e1 : ([c1] : List Value) = [.int .i64 x1] := r1
  simp only [List.cons.injEq, and_true] at e1
  obtain rfl := e1
  exact ⟨⟨x0, x1⟩, rfl, fun hw => ⟨s0 hw, s1 hw⟩⟩
theorem reads_26 : Reads Try.prog (List Occ) 26 := reads_slice Try.underlying26 cells38 (by kernel_rfl) reads_38
end Go.Proofs.Ytaenggfmpagjgaa.Pl
