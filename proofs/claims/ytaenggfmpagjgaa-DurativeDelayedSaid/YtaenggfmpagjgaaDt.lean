/- The plain data of the program, and how it lies in memory; printed. No condition. -/
import Derived.Test.YtaenggfmpagjgaaPl7
namespace Go.Proofs.Ytaenggfmpagjgaa.Pl
open Go Go.RowKit
structure TOp where
  atStart : List Int
  over : List Int
  atEnd : List Int
  addStart : List Int
  delStart : List Int
  addEnd : List Int
  delEnd : List Int
  dur : Int
  deriving DecidableEq, Inhabited
instance : Rep TOp := ⟨8, fun h x cs => ∃ (a0 : Option Addr) (c0 : Nat) (a1 : Option Addr) (c1 : Nat) (a2 : Option Addr) (c2 : Nat) (a3 : Option Addr) (c3 : Nat) (a4 : Option Addr) (c4 : Nat) (a5 : Option Addr) (c5 : Nat) (a6 : Option Addr) (c6 : Nat), cs = [.slice a0 x.atStart.length c0, .slice a1 x.over.length c1, .slice a2 x.atEnd.length c2, .slice a3 x.addStart.length c3, .slice a4 x.delStart.length c4, .slice a5 x.addEnd.length c5, .slice a6 x.delEnd.length c6, .int .i64 x.dur] ∧ (x.atStart.length ≤ c0 ∧ RSl h a0 x.atStart) ∧ (x.over.length ≤ c1 ∧ RSl h a1 x.over) ∧ (x.atEnd.length ≤ c2 ∧ RSl h a2 x.atEnd) ∧ (x.addStart.length ≤ c3 ∧ RSl h a3 x.addStart) ∧ (x.delStart.length ≤ c4 ∧ RSl h a4 x.delStart) ∧ (x.addEnd.length ≤ c5 ∧ RSl h a5 x.addEnd) ∧ (x.delEnd.length ≤ c6 ∧ RSl h a6 x.delEnd),
  fun ⟨_, _, _, _, _, _, _, _, _, _, _, _, _, _, e, _⟩ => by rw [e]; rfl,
  fun hl ⟨a0, c0, a1, c1, a2, c2, a3, c3, a4, c4, a5, c5, a6, c6, e, ⟨l0, r0⟩, ⟨l1, r1⟩, ⟨l2, r2⟩, ⟨l3, r3⟩, ⟨l4, r4⟩, ⟨l5, r5⟩, l6, r6⟩ => ⟨a0, c0, a1, c1, a2, c2, a3, c3, a4, c4, a5, c5, a6, c6, e, ⟨l0, r0.mono hl⟩, ⟨l1, r1.mono hl⟩, ⟨l2, r2.mono hl⟩, ⟨l3, r3.mono hl⟩, ⟨l4, r4.mono hl⟩, ⟨l5, r5.mono hl⟩, l6, r6.mono hl⟩,
  fun ⟨_, _, _, _, _, _, _, _, _, _, _, _, _, _, e, _⟩ v hv => by
    rw [e] at hv
    simp only [List.mem_cons, List.not_mem_nil, or_false] at hv
    rcases hv with rfl | rfl | rfl | rfl | rfl | rfl | rfl | rfl <;> rfl⟩
structure TTask where
  facts : Int
  init : List Int
  goal : List Int
  ops : List TOp
  deriving DecidableEq, Inhabited
instance : Rep TTask := ⟨4, fun h x cs => ∃ (a0 : Option Addr) (c0 : Nat) (a1 : Option Addr) (c1 : Nat) (a2 : Option Addr) (c2 : Nat), cs = [.int .i64 x.facts, .slice a0 x.init.length c0, .slice a1 x.goal.length c1, .slice a2 x.ops.length c2] ∧ (x.init.length ≤ c0 ∧ RSl h a0 x.init) ∧ (x.goal.length ≤ c1 ∧ RSl h a1 x.goal) ∧ (x.ops.length ≤ c2 ∧ RSl h a2 x.ops),
  fun ⟨_, _, _, _, _, _, e, _⟩ => by rw [e]; rfl,
  fun hl ⟨a0, c0, a1, c1, a2, c2, e, ⟨l0, r0⟩, ⟨l1, r1⟩, l2, r2⟩ => ⟨a0, c0, a1, c1, a2, c2, e, ⟨l0, r0.mono hl⟩, ⟨l1, r1.mono hl⟩, l2, r2.mono hl⟩,
  fun ⟨_, _, _, _, _, _, e, _⟩ v hv => by
    rw [e] at hv
    simp only [List.mem_cons, List.not_mem_nil, or_false] at hv
    rcases hv with rfl | rfl | rfl | rfl <;> rfl⟩
structure Occ where
  op : Int
  start : Int
  deriving DecidableEq, Inhabited
instance : Flat Occ := ⟨2, fun x => [.int .i64 x.op, .int .i64 x.start], fun _ => rfl, fun x v hv => by
  simp only [List.mem_cons, List.not_mem_nil, or_false] at hv; rcases hv with rfl | rfl <;> rfl⟩
structure Fault where
  code : Int
  index : Int
  deriving DecidableEq, Inhabited
instance : Flat Fault := ⟨2, fun x => [.int .i64 x.code, .int .i64 x.index], fun _ => rfl, fun x v hv => by
  simp only [List.mem_cons, List.not_mem_nil, or_false] at hv; rcases hv with rfl | rfl <;> rfl⟩
structure Hap where
  time : Int
  index : Int
  ending : Bool
  deriving DecidableEq, Inhabited
instance : Flat Hap := ⟨3, fun x => [.int .i64 x.time, .int .i64 x.index, .bool x.ending], fun _ => rfl, fun x v hv => by
  simp only [List.mem_cons, List.not_mem_nil, or_false] at hv; rcases hv with rfl | rfl | rfl <;> rfl⟩
structure Operator where
  pre : List Int
  add : List Int
  del : List Int
  cost : Int
  deriving DecidableEq, Inhabited
instance : Rep Operator := ⟨4, fun h x cs => ∃ (a0 : Option Addr) (c0 : Nat) (a1 : Option Addr) (c1 : Nat) (a2 : Option Addr) (c2 : Nat), cs = [.slice a0 x.pre.length c0, .slice a1 x.add.length c1, .slice a2 x.del.length c2, .int .i64 x.cost] ∧ (x.pre.length ≤ c0 ∧ RSl h a0 x.pre) ∧ (x.add.length ≤ c1 ∧ RSl h a1 x.add) ∧ (x.del.length ≤ c2 ∧ RSl h a2 x.del),
  fun ⟨_, _, _, _, _, _, e, _⟩ => by rw [e]; rfl,
  fun hl ⟨a0, c0, a1, c1, a2, c2, e, ⟨l0, r0⟩, ⟨l1, r1⟩, l2, r2⟩ => ⟨a0, c0, a1, c1, a2, c2, e, ⟨l0, r0.mono hl⟩, ⟨l1, r1.mono hl⟩, l2, r2.mono hl⟩,
  fun ⟨_, _, _, _, _, _, e, _⟩ v hv => by
    rw [e] at hv
    simp only [List.mem_cons, List.not_mem_nil, or_false] at hv
    rcases hv with rfl | rfl | rfl | rfl <;> rfl⟩
structure Task where
  facts : Int
  init : List Int
  goal : List Int
  ops : List Operator
  deriving DecidableEq, Inhabited
instance : Rep Task := ⟨4, fun h x cs => ∃ (a0 : Option Addr) (c0 : Nat) (a1 : Option Addr) (c1 : Nat) (a2 : Option Addr) (c2 : Nat), cs = [.int .i64 x.facts, .slice a0 x.init.length c0, .slice a1 x.goal.length c1, .slice a2 x.ops.length c2] ∧ (x.init.length ≤ c0 ∧ RSl h a0 x.init) ∧ (x.goal.length ≤ c1 ∧ RSl h a1 x.goal) ∧ (x.ops.length ≤ c2 ∧ RSl h a2 x.ops),
  fun ⟨_, _, _, _, _, _, e, _⟩ => by rw [e]; rfl,
  fun hl ⟨a0, c0, a1, c1, a2, c2, e, ⟨l0, r0⟩, ⟨l1, r1⟩, l2, r2⟩ => ⟨a0, c0, a1, c1, a2, c2, e, ⟨l0, r0.mono hl⟩, ⟨l1, r1.mono hl⟩, l2, r2.mono hl⟩,
  fun ⟨_, _, _, _, _, _, e, _⟩ v hv => by
    rw [e] at hv
    simp only [List.mem_cons, List.not_mem_nil, or_false] at hv
    rcases hv with rfl | rfl | rfl | rfl <;> rfl⟩
end Go.Proofs.Ytaenggfmpagjgaa.Pl
