/- Reading the program's data; printed. No condition. -/
import Derived.Test.YtkcamohhjaibaaaPl8
import Derived.Test.YtkcamohhjaibaaaSp
namespace Go.Proofs.Ytkcamohhjaibaaa.Pl
open Go Go.RowKit Go.WideShapes Go.ChangeShapes Go.ChangeAt Go.Joins Go.Deep
instance : Bytes Link := ⟨32⟩
instance : Siz Link := ⟨fun x => Siz.siz x.src ∧ Siz.siz x.dst ∧ Siz.siz x.low ∧ Siz.siz x.high⟩
instance : Bytes Network := ⟨32⟩
instance : Siz Network := ⟨fun x => Siz.siz x.events ∧ Siz.siz x.links⟩
instance : Rep Network := ⟨2, fun h x cs => ∃ (a0 : Option Addr) (c0 : Nat), cs = [.int .i64 x.events, .slice a0 x.links.length c0] ∧ (x.links.length ≤ c0 ∧ RSl h a0 x.links),
  fun ⟨_, _, e, _⟩ => by rw [e]; rfl,
  fun hl ⟨a0, c0, e, l0, r0⟩ => ⟨a0, c0, e, l0, r0.mono hl⟩,
  fun ⟨_, _, e, _⟩ v hv => by
    rw [e] at hv
    simp only [List.mem_cons, List.not_mem_nil, or_false] at hv
    rcases hv with rfl | rfl <;> rfl⟩
instance : Bytes Uncertain := ⟨56⟩
instance : Siz Uncertain := ⟨fun x => Siz.siz x.network ∧ Siz.siz x.contingent⟩
instance : Rep Uncertain := ⟨3, fun h x cs => ∃ (a0 : Option Addr) (c0 : Nat) (a1 : Option Addr) (c1 : Nat), cs = [.int .i64 x.network.events, .slice a0 x.network.links.length c0, .slice a1 x.contingent.length c1] ∧ (x.network.links.length ≤ c0 ∧ RSl h a0 x.network.links) ∧ (x.contingent.length ≤ c1 ∧ RSl h a1 x.contingent),
  fun ⟨_, _, _, _, e, _⟩ => by rw [e]; rfl,
  fun hl ⟨a0, c0, a1, c1, e, ⟨l0, r0⟩, l1, r1⟩ => ⟨a0, c0, a1, c1, e, ⟨l0, r0.mono hl⟩, l1, r1.mono hl⟩,
  fun ⟨_, _, _, _, e, _⟩ v hv => by
    rw [e] at hv
    simp only [List.mem_cons, List.not_mem_nil, or_false] at hv
    rcases hv with rfl | rfl | rfl <;> rfl⟩
theorem cells3 : Try.prog.cellsOf 3 = 1 := by kernel_rfl
theorem cells22 : Try.prog.cellsOf 22 = 1 := by kernel_rfl
theorem cells24 : Try.prog.cellsOf 24 = 2 := by kernel_rfl
theorem cells26 : Try.prog.cellsOf 26 = 3 := by kernel_rfl
theorem cells48 : Try.prog.cellsOf 48 = 4 := by kernel_rfl
theorem list2 {β : Type} {l : List β} (h : l.length = 2) : ∃ c0 c1, l = [c0, c1] := by
  match l, h with
  | [c0, c1], _ => exact ⟨c0, c1, rfl⟩
theorem list3 {β : Type} {l : List β} (h : l.length = 3) : ∃ c0 c1 c2, l = [c0, c1, c2] := by
  match l, h with
  | [c0, c1, c2], _ => exact ⟨c0, c1, c2, rfl⟩
theorem list4 {β : Type} {l : List β} (h : l.length = 4) : ∃ c0 c1 c2 c3, l = [c0, c1, c2, c3] := by
  match l, h with
  | [c0, c1, c2, c3], _ => exact ⟨c0, c1, c2, c3, rfl⟩
theorem reads_3 : Reads Try.prog Int 3 := reads_int Try.underlying3
theorem reads_48 : Reads Try.prog Link 48 := fun H enc w b sp hd n cs z h => by
  obtain ⟨xs, n', _, rfl, hl, hlen, hf⟩ := DataW.trod_struct Try.underlying48 h
  obtain ⟨x0, r0, s0⟩ := reads_field Try.underlying48 hlen hf 0 rfl reads_3
  obtain ⟨x1, r1, s1⟩ := reads_field Try.underlying48 hlen hf 1 rfl reads_3
  obtain ⟨x2, r2, s2⟩ := reads_field Try.underlying48 hlen hf 2 rfl reads_3
  obtain ⟨x3, r3, s3⟩ := reads_field Try.underlying48 hlen hf 3 rfl reads_3
  rw [cells48] at hl
  obtain ⟨c0, c1, c2, c3, rfl⟩ := list4 hl
  replace r0 : Rep.rep (hold w) x0 (([c0, c1, c2, c3] : List Value).drop 0 |>.take (Try.prog.cellsOf 3)) := r0
  rw [cells3] at r0
  replace r1 : Rep.rep (hold w) x1 (([c0, c1, c2, c3] : List Value).drop 1 |>.take (Try.prog.cellsOf 3)) := r1
  rw [cells3] at r1
  replace r2 : Rep.rep (hold w) x2 (([c0, c1, c2, c3] : List Value).drop 2 |>.take (Try.prog.cellsOf 3)) := r2
  rw [cells3] at r2
  replace r3 : Rep.rep (hold w) x3 (([c0, c1, c2, c3] : List Value).drop 3 |>.take (Try.prog.cellsOf 3)) := r3
  rw [cells3] at r3
  have e0 : ([c0] : List Value) = [.int .i64 x0] := r0
  simp only [List.cons.injEq, and_true] at e0
  obtain rfl := e0
  have e1 : ([c1] : List Value) = [.int .i64 x1] := r1
  simp only [List.cons.injEq, and_true] at e1
  obtain rfl := e1
  have e2 : ([c2] : List Value) = [.int .i64 x2] := r2
  simp only [List.cons.injEq, and_true] at e2
  obtain rfl := e2
  have e3 : ([c3] : List Value) = [.int .i64 x3] := r3
  simp only [List.cons.injEq, and_true] at e3
  obtain rfl := e3
  exact ⟨⟨x0, x1, x2, x3⟩, rfl, fun hw => ⟨s0 hw, s1 hw, s2 hw, s3 hw⟩⟩
theorem reads_22 : Reads Try.prog (List Link) 22 := reads_slice Try.underlying22 cells48 (by kernel_rfl) reads_48
theorem reads_24 : Reads Try.prog Network 24 := fun H enc w b sp hd n cs z h => by
  obtain ⟨xs, n', _, rfl, hl, hlen, hf⟩ := DataW.trod_struct Try.underlying24 h
  obtain ⟨x0, r0, s0⟩ := reads_field Try.underlying24 hlen hf 0 rfl reads_3
  obtain ⟨x1, r1, s1⟩ := reads_field Try.underlying24 hlen hf 1 rfl reads_22
  rw [cells24] at hl
  obtain ⟨c0, c1, rfl⟩ := list2 hl
  replace r0 : Rep.rep (hold w) x0 (([c0, c1] : List Value).drop 0 |>.take (Try.prog.cellsOf 3)) := r0
  rw [cells3] at r0
  replace r1 : Rep.rep (hold w) x1 (([c0, c1] : List Value).drop 1 |>.take (Try.prog.cellsOf 22)) := r1
  rw [cells22] at r1
  have e0 : ([c0] : List Value) = [.int .i64 x0] := r0
  simp only [List.cons.injEq, and_true] at e0
  obtain rfl := e0
  obtain ⟨a1_0, k1_0, e1, l1_0, q1_0⟩ := r1
  replace e1 : ([c1] : List Value) = _ := e1
  simp only [List.cons.injEq, and_true] at e1
  obtain rfl := e1
  exact ⟨⟨x0, x1⟩, ⟨a1_0, k1_0, rfl, ⟨l1_0, q1_0⟩⟩, fun hw => ⟨s0 hw, s1 hw⟩⟩
theorem reads_26 : Reads Try.prog Uncertain 26 := fun H enc w b sp hd n cs z h => by
  obtain ⟨xs, n', _, rfl, hl, hlen, hf⟩ := DataW.trod_struct Try.underlying26 h
  obtain ⟨x0, r0, s0⟩ := reads_field Try.underlying26 hlen hf 0 rfl reads_24
  obtain ⟨x1, r1, s1⟩ := reads_field Try.underlying26 hlen hf 1 rfl reads_22
  rw [cells26] at hl
  obtain ⟨c0, c1, c2, rfl⟩ := list3 hl
  replace r0 : Rep.rep (hold w) x0 (([c0, c1, c2] : List Value).drop 0 |>.take (Try.prog.cellsOf 24)) := r0
  rw [cells24] at r0
  replace r1 : Rep.rep (hold w) x1 (([c0, c1, c2] : List Value).drop 2 |>.take (Try.prog.cellsOf 22)) := r1
  rw [cells22] at r1
  obtain ⟨a0_0, k0_0, e0, l0_0, q0_0⟩ := r0
  replace e0 : ([c0, c1] : List Value) = _ := e0
  simp only [List.cons.injEq, and_true] at e0
  obtain ⟨rfl, rfl⟩ := e0
  obtain ⟨a1_0, k1_0, e1, l1_0, q1_0⟩ := r1
  replace e1 : ([c2] : List Value) = _ := e1
  simp only [List.cons.injEq, and_true] at e1
  obtain rfl := e1
  exact ⟨⟨x0, x1⟩, ⟨a0_0, k0_0, a1_0, k1_0, rfl, ⟨l0_0, q0_0⟩, ⟨l1_0, q1_0⟩⟩, fun hw => ⟨s0 hw, s1 hw⟩⟩
end Go.Proofs.Ytkcamohhjaibaaa.Pl
