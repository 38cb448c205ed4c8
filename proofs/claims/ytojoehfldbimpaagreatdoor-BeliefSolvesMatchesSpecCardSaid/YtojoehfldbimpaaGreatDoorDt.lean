/- The plain data of the program, and how it lies in memory; printed. No condition. -/
import Derived.Test.YtojoehfldbimpaaGreatDoorPl7
import Derived.Test.YtojoehfldbimpaaGreatDoorBs
namespace Go.Proofs.YtojoehfldbimpaaGreatDoor.Pl
open Go Go.RowKit
structure Operator where
  pre : List Int
  add : List Int
  del : List Int
  cost : Int
  deriving DecidableEq, Inhabited
instance : Rep Operator := ⟨4, fun h x cs => ∃ (a0 : Option Addr) (c0 : Nat) (a1 : Option Addr) (c1 : Nat) (a2 : Option Addr) (c2 : Nat), cs = [.slice a0 x.pre.length c0, .slice a1 x.add.length c1, .slice a2 x.del.length c2, .int .i64 x.cost] ∧ (x.pre.length ≤ c0 ∧ RSl h a0 x.pre) ∧ (x.add.length ≤ c1 ∧ RSl h a1 x.add) ∧ (x.del.length ≤ c2 ∧ RSl h a2 x.del),
  fun ⟨_, _, _, _, _, _, e, _⟩ => by rw [e]; rfl,
  fun hl ⟨a0, c0, a1, c1, a2, c2, e, ⟨l0, r0⟩, ⟨l1, r1⟩, l2, r2⟩ => ⟨a0, c0, a1, c1, a2, c2, e, ⟨l0, r0.mono hl⟩, ⟨l1, r1.mono hl⟩, l2, r2.mono hl⟩,
  fun ⟨_, _, _, _, _, _, e, _⟩ v hv => by
    rw [e] at hv
    simp only [List.mem_cons, List.not_mem_nil, or_false] at hv
    rcases hv with rfl | rfl | rfl | rfl <;> rfl⟩
structure Task where
  facts : Int
  init : List Int
  goal : List Int
  ops : List Operator
  deriving DecidableEq, Inhabited
instance : Rep Task := ⟨4, fun h x cs => ∃ (a0 : Option Addr) (c0 : Nat) (a1 : Option Addr) (c1 : Nat) (a2 : Option Addr) (c2 : Nat), cs = [.int .i64 x.facts, .slice a0 x.init.length c0, .slice a1 x.goal.length c1, .slice a2 x.ops.length c2] ∧ (x.init.length ≤ c0 ∧ RSl h a0 x.init) ∧ (x.goal.length ≤ c1 ∧ RSl h a1 x.goal) ∧ (x.ops.length ≤ c2 ∧ RSl h a2 x.ops),
  fun ⟨_, _, _, _, _, _, e, _⟩ => by rw [e]; rfl,
  fun hl ⟨a0, c0, a1, c1, a2, c2, e, ⟨l0, r0⟩, ⟨l1, r1⟩, l2, r2⟩ => ⟨a0, c0, a1, c1, a2, c2, e, ⟨l0, r0.mono hl⟩, ⟨l1, r1.mono hl⟩, l2, r2.mono hl⟩,
  fun ⟨_, _, _, _, _, _, e, _⟩ v hv => by
    rw [e] at hv
    simp only [List.mem_cons, List.not_mem_nil, or_false] at hv
    rcases hv with rfl | rfl | rfl | rfl <;> rfl⟩
structure TNode where
  kind : Int
  op : Int
  fact : Int
  yes : Int
  no : Int
  deriving DecidableEq, Inhabited
instance : Flat TNode := ⟨5, fun x => [.int .i64 x.kind, .int .i64 x.op, .int .i64 x.fact, .int .i64 x.yes, .int .i64 x.no], fun _ => rfl, fun x v hv => by
  simp only [List.mem_cons, List.not_mem_nil, or_false] at hv; rcases hv with rfl | rfl | rfl | rfl | rfl <;> rfl⟩
structure Fault where
  code : Int
  index : Int
  deriving DecidableEq, Inhabited
instance : Flat Fault := ⟨2, fun x => [.int .i64 x.code, .int .i64 x.index], fun _ => rfl, fun x v hv => by
  simp only [List.mem_cons, List.not_mem_nil, or_false] at hv; rcases hv with rfl | rfl <;> rfl⟩
instance : Rep Entry := ⟨3, fun h x cs => ∃ (a0 : Option Addr) (c0 : Nat), cs = [.slice a0 x.node.length c0, .int .i64 x.from_, .int .i64 x.step] ∧ (x.node.length ≤ c0 ∧ RSl h a0 x.node),
  fun ⟨_, _, e, _⟩ => by rw [e]; rfl,
  fun hl ⟨a0, c0, e, l0, r0⟩ => ⟨a0, c0, e, l0, r0.mono hl⟩,
  fun ⟨_, _, e, _⟩ v hv => by
    rw [e] at hv
    simp only [List.mem_cons, List.not_mem_nil, or_false] at hv
    rcases hv with rfl | rfl | rfl <;> rfl⟩
end Go.Proofs.YtojoehfldbimpaaGreatDoor.Pl

