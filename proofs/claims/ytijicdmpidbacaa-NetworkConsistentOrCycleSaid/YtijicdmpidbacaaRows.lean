/-
  No cell of these rows narrows 'for every input' (looked for: loops, veiled, ifaces, maps, wideKeys, modest, calm, conditions, laid).
  DERIVED. THE GIVEN ROWS OF THIS SEAT. 12 by the template 'for every input the law returns true; each argument reads behind the call as it read before'; 0 by the template 'total and deterministic' (their statements: YtijicdmpidbacaaTotals.lean).
  GIVEN WITH THE SEED: the statements are not yours to turn. If you find one false, say at which input.
  Laid BY PROGRAM, IN A SANDBOX (cutbox-rows.mjs): the forced cells as the released guide's own fill.sh prints them over the translation 5c18ca4827df4b36… (all of the seat's roots in one cut). By AI agents, Wed Nov 11 2026. No macro, syntax, notation, axiom, sorry.
-/
import Derived.Test.YtijicdmpidbacaaChecked
import GoSem.Claim
import GoSem.ClaimJoined
import GoSem.ClaimMapViews
import Derived.JoinedTies
import Derived.KernelRfl
namespace Go.Proofs.Ytijicdmpidbacaa
/- THE CELL 'sum', in the pinned program and in every row, IS THE sha256 OF THE DUMP (.gsa) THAT YtijicdmpidbacaaProg.lean LOADS. Nothing in Lean hashes anything: it is a label: what it is worth is what the hold of that sum in a sandbox is worth. -/
noncomputable def Try.pinned : Pinned := { name := "ytijicdmpidbacaa", sum := "5c18ca4827df4b36b2be111465f3e3f762a50caa7288c1a7b5f1b26b16636d0e", checked := Try.checked }
namespace Rows
def none {H : Type} : Left H := { results := [], args := [] }

/-- 'helmsmanlaw7.NetworkTriangle': WHATEVER THE INPUT: true; the input reads as it did. -/
def networkTriangleSpec : ChangeSpec := { name := "networkTriangle", fn := fun _ => fun
  | [d1, d2, d3, d4] => { results := [.lit (.bool true)], args := [d1, d2, d3, d4] }
  | _ => none }
def networkTriangleRow : OpenClaim := { program := "ytijicdmpidbacaa", sum := "5c18ca4827df4b36b2be111465f3e3f762a50caa7288c1a7b5f1b26b16636d0e", func := "helmsman/helmsmanlaw7.NetworkTriangle", spec := "networkTriangle", unfollowed := true, recurses := true, apart := false }
def NetworkTriangleSaid : Prop := networkTriangleRow.holds Try.pinned (OpenSpec.ofChange networkTriangleSpec)

/-- ITS FALSE NEIGHBOUR: 'it returns false'. Refute it at one input. -/
def networkTriangleWrong : ChangeSpec := { name := "networkTriangle", fn := fun _ => fun
  | [d1, d2, d3, d4] => { results := [.lit (.bool false)], args := [d1, d2, d3, d4] }
  | _ => none }
def NetworkTriangleWrongFalsely : Prop := networkTriangleRow.holds Try.pinned (OpenSpec.ofChange networkTriangleWrong)

/-- 'helmsmanlaw7.NetworkMoreLinks': WHATEVER THE INPUT: true; the input reads as it did. -/
def networkMoreLinksSpec : ChangeSpec := { name := "networkMoreLinks", fn := fun _ => fun
  | [d1, d2, d3, d4] => { results := [.lit (.bool true)], args := [d1, d2, d3, d4] }
  | _ => none }
def networkMoreLinksRow : OpenClaim := { program := "ytijicdmpidbacaa", sum := "5c18ca4827df4b36b2be111465f3e3f762a50caa7288c1a7b5f1b26b16636d0e", func := "helmsman/helmsmanlaw7.NetworkMoreLinks", spec := "networkMoreLinks", unfollowed := true, recurses := true, apart := false }
def NetworkMoreLinksSaid : Prop := networkMoreLinksRow.holds Try.pinned (OpenSpec.ofChange networkMoreLinksSpec)

/-- ITS FALSE NEIGHBOUR: 'it returns false'. Refute it at one input. -/
def networkMoreLinksWrong : ChangeSpec := { name := "networkMoreLinks", fn := fun _ => fun
  | [d1, d2, d3, d4] => { results := [.lit (.bool false)], args := [d1, d2, d3, d4] }
  | _ => none }
def NetworkMoreLinksWrongFalsely : Prop := networkMoreLinksRow.holds Try.pinned (OpenSpec.ofChange networkMoreLinksWrong)

/-- 'helmsmanlaw7.NetworkBoundsHold': WHATEVER THE INPUT: true; the input reads as it did. -/
def networkBoundsHoldSpec : ChangeSpec := { name := "networkBoundsHold", fn := fun _ => fun
  | [d1, d2, d3, d4] => { results := [.lit (.bool true)], args := [d1, d2, d3, d4] }
  | _ => none }
def networkBoundsHoldRow : OpenClaim := { program := "ytijicdmpidbacaa", sum := "5c18ca4827df4b36b2be111465f3e3f762a50caa7288c1a7b5f1b26b16636d0e", func := "helmsman/helmsmanlaw7.NetworkBoundsHold", spec := "networkBoundsHold", unfollowed := true, recurses := true, apart := false }
def NetworkBoundsHoldSaid : Prop := networkBoundsHoldRow.holds Try.pinned (OpenSpec.ofChange networkBoundsHoldSpec)

/-- ITS FALSE NEIGHBOUR: 'it returns false'. Refute it at one input. -/
def networkBoundsHoldWrong : ChangeSpec := { name := "networkBoundsHold", fn := fun _ => fun
  | [d1, d2, d3, d4] => { results := [.lit (.bool false)], args := [d1, d2, d3, d4] }
  | _ => none }
def NetworkBoundsHoldWrongFalsely : Prop := networkBoundsHoldRow.holds Try.pinned (OpenSpec.ofChange networkBoundsHoldWrong)

/-- 'helmsmanlaw7.NetworkEarliestIsLeast': WHATEVER THE INPUT: true; the input reads as it did. -/
def networkEarliestIsLeastSpec : ChangeSpec := { name := "networkEarliestIsLeast", fn := fun _ => fun
  | [d1, d2] => { results := [.lit (.bool true)], args := [d1, d2] }
  | _ => none }
def networkEarliestIsLeastRow : OpenClaim := { program := "ytijicdmpidbacaa", sum := "5c18ca4827df4b36b2be111465f3e3f762a50caa7288c1a7b5f1b26b16636d0e", func := "helmsman/helmsmanlaw7.NetworkEarliestIsLeast", spec := "networkEarliestIsLeast", unfollowed := true, recurses := true, apart := false }
def NetworkEarliestIsLeastSaid : Prop := networkEarliestIsLeastRow.holds Try.pinned (OpenSpec.ofChange networkEarliestIsLeastSpec)

/-- ITS FALSE NEIGHBOUR: 'it returns false'. Refute it at one input. -/
def networkEarliestIsLeastWrong : ChangeSpec := { name := "networkEarliestIsLeast", fn := fun _ => fun
  | [d1, d2] => { results := [.lit (.bool false)], args := [d1, d2] }
  | _ => none }
def NetworkEarliestIsLeastWrongFalsely : Prop := networkEarliestIsLeastRow.holds Try.pinned (OpenSpec.ofChange networkEarliestIsLeastWrong)

/-- 'helmsmanlaw7.NetworkMatchesSpec': WHATEVER THE INPUT: true; the input reads as it did. -/
def networkMatchesSpecSpec : ChangeSpec := { name := "networkMatchesSpec", fn := fun _ => fun
  | [d1, d2, d3] => { results := [.lit (.bool true)], args := [d1, d2, d3] }
  | _ => none }
def networkMatchesSpecRow : OpenClaim := { program := "ytijicdmpidbacaa", sum := "5c18ca4827df4b36b2be111465f3e3f762a50caa7288c1a7b5f1b26b16636d0e", func := "helmsman/helmsmanlaw7.NetworkMatchesSpec", spec := "networkMatchesSpec", unfollowed := true, recurses := true, apart := false }
def NetworkMatchesSpecSaid : Prop := networkMatchesSpecRow.holds Try.pinned (OpenSpec.ofChange networkMatchesSpecSpec)

/-- ITS FALSE NEIGHBOUR: 'it returns false'. Refute it at one input. -/
def networkMatchesSpecWrong : ChangeSpec := { name := "networkMatchesSpec", fn := fun _ => fun
  | [d1, d2, d3] => { results := [.lit (.bool false)], args := [d1, d2, d3] }
  | _ => none }
def NetworkMatchesSpecWrongFalsely : Prop := networkMatchesSpecRow.holds Try.pinned (OpenSpec.ofChange networkMatchesSpecWrong)

/-- 'helmsmanlaw7.UncertainStrongMatchesSpec': WHATEVER THE INPUT: true; the input reads as it did. -/
def uncertainStrongMatchesSpecSpec : ChangeSpec := { name := "uncertainStrongMatchesSpec", fn := fun _ => fun
  | [d] => { results := [.lit (.bool true)], args := [d] }
  | _ => none }
def uncertainStrongMatchesSpecRow : OpenClaim := { program := "ytijicdmpidbacaa", sum := "5c18ca4827df4b36b2be111465f3e3f762a50caa7288c1a7b5f1b26b16636d0e", func := "helmsman/helmsmanlaw7.UncertainStrongMatchesSpec", spec := "uncertainStrongMatchesSpec", unfollowed := true, recurses := true, apart := false }
def UncertainStrongMatchesSpecSaid : Prop := uncertainStrongMatchesSpecRow.holds Try.pinned (OpenSpec.ofChange uncertainStrongMatchesSpecSpec)

/-- ITS FALSE NEIGHBOUR: 'it returns false'. Refute it at one input. -/
def uncertainStrongMatchesSpecWrong : ChangeSpec := { name := "uncertainStrongMatchesSpec", fn := fun _ => fun
  | [d] => { results := [.lit (.bool false)], args := [d] }
  | _ => none }
def UncertainStrongMatchesSpecWrongFalsely : Prop := uncertainStrongMatchesSpecRow.holds Try.pinned (OpenSpec.ofChange uncertainStrongMatchesSpecWrong)

/-- 'helmsmanlaw7.NetworkConsistentOrCycle': WHATEVER THE INPUT: true; the input reads as it did. -/
def networkConsistentOrCycleSpec : ChangeSpec := { name := "networkConsistentOrCycle", fn := fun _ => fun
  | [d] => { results := [.lit (.bool true)], args := [d] }
  | _ => none }
def networkConsistentOrCycleRow : OpenClaim := { program := "ytijicdmpidbacaa", sum := "5c18ca4827df4b36b2be111465f3e3f762a50caa7288c1a7b5f1b26b16636d0e", func := "helmsman/helmsmanlaw7.NetworkConsistentOrCycle", spec := "networkConsistentOrCycle", unfollowed := true, recurses := true, apart := false }
def NetworkConsistentOrCycleSaid : Prop := networkConsistentOrCycleRow.holds Try.pinned (OpenSpec.ofChange networkConsistentOrCycleSpec)

/-- ITS FALSE NEIGHBOUR: 'it returns false'. Refute it at one input. -/
def networkConsistentOrCycleWrong : ChangeSpec := { name := "networkConsistentOrCycle", fn := fun _ => fun
  | [d] => { results := [.lit (.bool false)], args := [d] }
  | _ => none }
def NetworkConsistentOrCycleWrongFalsely : Prop := networkConsistentOrCycleRow.holds Try.pinned (OpenSpec.ofChange networkConsistentOrCycleWrong)

/-- 'helmsmanlaw7.UncertainDispatchIsSteady': WHATEVER THE INPUT: true; the input reads as it did. -/
def uncertainDispatchIsSteadySpec : ChangeSpec := { name := "uncertainDispatchIsSteady", fn := fun _ => fun
  | [d1, d2, d3] => { results := [.lit (.bool true)], args := [d1, d2, d3] }
  | _ => none }
def uncertainDispatchIsSteadyRow : OpenClaim := { program := "ytijicdmpidbacaa", sum := "5c18ca4827df4b36b2be111465f3e3f762a50caa7288c1a7b5f1b26b16636d0e", func := "helmsman/helmsmanlaw7.UncertainDispatchIsSteady", spec := "uncertainDispatchIsSteady", unfollowed := true, recurses := true, apart := false }
def UncertainDispatchIsSteadySaid : Prop := uncertainDispatchIsSteadyRow.holds Try.pinned (OpenSpec.ofChange uncertainDispatchIsSteadySpec)

/-- ITS FALSE NEIGHBOUR: 'it returns false'. Refute it at one input. -/
def uncertainDispatchIsSteadyWrong : ChangeSpec := { name := "uncertainDispatchIsSteady", fn := fun _ => fun
  | [d1, d2, d3] => { results := [.lit (.bool false)], args := [d1, d2, d3] }
  | _ => none }
def UncertainDispatchIsSteadyWrongFalsely : Prop := uncertainDispatchIsSteadyRow.holds Try.pinned (OpenSpec.ofChange uncertainDispatchIsSteadyWrong)

/-- 'helmsmanlaw7.UncertainWeakMatchesSpec': WHATEVER THE INPUT: true; the input reads as it did. -/
def uncertainWeakMatchesSpecSpec : ChangeSpec := { name := "uncertainWeakMatchesSpec", fn := fun _ => fun
  | [d] => { results := [.lit (.bool true)], args := [d] }
  | _ => none }
def uncertainWeakMatchesSpecRow : OpenClaim := { program := "ytijicdmpidbacaa", sum := "5c18ca4827df4b36b2be111465f3e3f762a50caa7288c1a7b5f1b26b16636d0e", func := "helmsman/helmsmanlaw7.UncertainWeakMatchesSpec", spec := "uncertainWeakMatchesSpec", unfollowed := true, recurses := true, apart := false }
def UncertainWeakMatchesSpecSaid : Prop := uncertainWeakMatchesSpecRow.holds Try.pinned (OpenSpec.ofChange uncertainWeakMatchesSpecSpec)

/-- ITS FALSE NEIGHBOUR: 'it returns false'. Refute it at one input. -/
def uncertainWeakMatchesSpecWrong : ChangeSpec := { name := "uncertainWeakMatchesSpec", fn := fun _ => fun
  | [d] => { results := [.lit (.bool false)], args := [d] }
  | _ => none }
def UncertainWeakMatchesSpecWrongFalsely : Prop := uncertainWeakMatchesSpecRow.holds Try.pinned (OpenSpec.ofChange uncertainWeakMatchesSpecWrong)

/-- 'helmsmanlaw7.UncertainStrongImpliesWeak': WHATEVER THE INPUT: true; the input reads as it did. -/
def uncertainStrongImpliesWeakSpec : ChangeSpec := { name := "uncertainStrongImpliesWeak", fn := fun _ => fun
  | [d] => { results := [.lit (.bool true)], args := [d] }
  | _ => none }
def uncertainStrongImpliesWeakRow : OpenClaim := { program := "ytijicdmpidbacaa", sum := "5c18ca4827df4b36b2be111465f3e3f762a50caa7288c1a7b5f1b26b16636d0e", func := "helmsman/helmsmanlaw7.UncertainStrongImpliesWeak", spec := "uncertainStrongImpliesWeak", unfollowed := true, recurses := true, apart := false }
def UncertainStrongImpliesWeakSaid : Prop := uncertainStrongImpliesWeakRow.holds Try.pinned (OpenSpec.ofChange uncertainStrongImpliesWeakSpec)

/-- ITS FALSE NEIGHBOUR: 'it returns false'. Refute it at one input. -/
def uncertainStrongImpliesWeakWrong : ChangeSpec := { name := "uncertainStrongImpliesWeak", fn := fun _ => fun
  | [d] => { results := [.lit (.bool false)], args := [d] }
  | _ => none }
def UncertainStrongImpliesWeakWrongFalsely : Prop := uncertainStrongImpliesWeakRow.holds Try.pinned (OpenSpec.ofChange uncertainStrongImpliesWeakWrong)

/-- 'helmsmanlaw7.UncertainMatchesSpec': WHATEVER THE INPUT: true; the input reads as it did. -/
def uncertainMatchesSpecSpec : ChangeSpec := { name := "uncertainMatchesSpec", fn := fun _ => fun
  | [d1, d2] => { results := [.lit (.bool true)], args := [d1, d2] }
  | _ => none }
def uncertainMatchesSpecRow : OpenClaim := { program := "ytijicdmpidbacaa", sum := "5c18ca4827df4b36b2be111465f3e3f762a50caa7288c1a7b5f1b26b16636d0e", func := "helmsman/helmsmanlaw7.UncertainMatchesSpec", spec := "uncertainMatchesSpec", unfollowed := true, recurses := true, apart := false }
def UncertainMatchesSpecSaid : Prop := uncertainMatchesSpecRow.holds Try.pinned (OpenSpec.ofChange uncertainMatchesSpecSpec)

/-- ITS FALSE NEIGHBOUR: 'it returns false'. Refute it at one input. -/
def uncertainMatchesSpecWrong : ChangeSpec := { name := "uncertainMatchesSpec", fn := fun _ => fun
  | [d1, d2] => { results := [.lit (.bool false)], args := [d1, d2] }
  | _ => none }
def UncertainMatchesSpecWrongFalsely : Prop := uncertainMatchesSpecRow.holds Try.pinned (OpenSpec.ofChange uncertainMatchesSpecWrong)

/-- 'helmsmanlaw7.UncertainDispatchRespects': WHATEVER THE INPUT: true; the input reads as it did. -/
def uncertainDispatchRespectsSpec : ChangeSpec := { name := "uncertainDispatchRespects", fn := fun _ => fun
  | [d1, d2] => { results := [.lit (.bool true)], args := [d1, d2] }
  | _ => none }
def uncertainDispatchRespectsRow : OpenClaim := { program := "ytijicdmpidbacaa", sum := "5c18ca4827df4b36b2be111465f3e3f762a50caa7288c1a7b5f1b26b16636d0e", func := "helmsman/helmsmanlaw7.UncertainDispatchRespects", spec := "uncertainDispatchRespects", unfollowed := true, recurses := true, apart := false }
def UncertainDispatchRespectsSaid : Prop := uncertainDispatchRespectsRow.holds Try.pinned (OpenSpec.ofChange uncertainDispatchRespectsSpec)

/-- ITS FALSE NEIGHBOUR: 'it returns false'. Refute it at one input. -/
def uncertainDispatchRespectsWrong : ChangeSpec := { name := "uncertainDispatchRespects", fn := fun _ => fun
  | [d1, d2] => { results := [.lit (.bool false)], args := [d1, d2] }
  | _ => none }
def UncertainDispatchRespectsWrongFalsely : Prop := uncertainDispatchRespectsRow.holds Try.pinned (OpenSpec.ofChange uncertainDispatchRespectsWrong)

/- THE SECOND FORM. 'bulk': how many values and letters a reading holds, each counted each time it is reached (what is shared counts as often as it is met; a slice's spare places count too). A statement '..UptoSaid' is the law's where the arguments, and the package variables that the reading takes, are together of bulk at most 1048576: NARROWER than '..Said'. Prove '..Said' where nothing that the law and all that it calls make is longer than what came in: it says more and counts as full. Else prove '..UptoSaid'. A law counts once. -/
mutual
def uptoBulk {H : Type} : DataW H → Nat
  | .lit (.string bytes) => bytes.length + 1
  | .lit _ => 1
  | .nil => 1
  | .ptr d => uptoBulk d + 1
  | .slice elems spare => uptoBulkAll elems + uptoBulkAll spare + 1
  | .agg parts => uptoBulkAll parts + 1
  | .iface _ d => uptoBulk d + 1
  | .map entries => uptoBulkEntries entries + 1
  | .held _ => 1
def uptoBulkAll {H : Type} : List (DataW H) → Nat
  | [] => 0
  | d :: r => uptoBulk d + uptoBulkAll r
def uptoBulkEntries {H : Type} : List (Lit × DataW H) → Nat
  | [] => 0
  | x :: r => uptoBulkEntry x + uptoBulkEntries r
def uptoBulkEntry {H : Type} : Lit × DataW H → Nat
  | (.string bytes, d) => bytes.length + uptoBulk d + 1
  | (_, d) => uptoBulk d + 1
 end
def uptoSmall : (H : Type) → List (DataW H) → Bool := fun _ ds => decide (uptoBulkAll ds ≤ 1048576)
def OpenSpec.upto (s : _root_.Go.ChangeSpec) : _root_.Go.OpenSpec := { _root_.Go.OpenSpec.ofChange s with cond := some uptoSmall }

/-- 'helmsmanlaw7.NetworkTriangle', WHERE WHAT IT READS IS OF BULK AT MOST 1048576: true; the input reads as it did. -/
def networkTriangleUptoRow : OpenClaim := { program := "ytijicdmpidbacaa", sum := "5c18ca4827df4b36b2be111465f3e3f762a50caa7288c1a7b5f1b26b16636d0e", func := "helmsman/helmsmanlaw7.NetworkTriangle", spec := "networkTriangle", unfollowed := true, recurses := true, apart := false, narrowed := true }
def NetworkTriangleUptoSaid : Prop := networkTriangleUptoRow.holds Try.pinned (OpenSpec.upto networkTriangleSpec)

/-- 'helmsmanlaw7.NetworkMoreLinks', WHERE WHAT IT READS IS OF BULK AT MOST 1048576: true; the input reads as it did. -/
def networkMoreLinksUptoRow : OpenClaim := { program := "ytijicdmpidbacaa", sum := "5c18ca4827df4b36b2be111465f3e3f762a50caa7288c1a7b5f1b26b16636d0e", func := "helmsman/helmsmanlaw7.NetworkMoreLinks", spec := "networkMoreLinks", unfollowed := true, recurses := true, apart := false, narrowed := true }
def NetworkMoreLinksUptoSaid : Prop := networkMoreLinksUptoRow.holds Try.pinned (OpenSpec.upto networkMoreLinksSpec)

/-- 'helmsmanlaw7.NetworkBoundsHold', WHERE WHAT IT READS IS OF BULK AT MOST 1048576: true; the input reads as it did. -/
def networkBoundsHoldUptoRow : OpenClaim := { program := "ytijicdmpidbacaa", sum := "5c18ca4827df4b36b2be111465f3e3f762a50caa7288c1a7b5f1b26b16636d0e", func := "helmsman/helmsmanlaw7.NetworkBoundsHold", spec := "networkBoundsHold", unfollowed := true, recurses := true, apart := false, narrowed := true }
def NetworkBoundsHoldUptoSaid : Prop := networkBoundsHoldUptoRow.holds Try.pinned (OpenSpec.upto networkBoundsHoldSpec)

/-- 'helmsmanlaw7.NetworkEarliestIsLeast', WHERE WHAT IT READS IS OF BULK AT MOST 1048576: true; the input reads as it did. -/
def networkEarliestIsLeastUptoRow : OpenClaim := { program := "ytijicdmpidbacaa", sum := "5c18ca4827df4b36b2be111465f3e3f762a50caa7288c1a7b5f1b26b16636d0e", func := "helmsman/helmsmanlaw7.NetworkEarliestIsLeast", spec := "networkEarliestIsLeast", unfollowed := true, recurses := true, apart := false, narrowed := true }
def NetworkEarliestIsLeastUptoSaid : Prop := networkEarliestIsLeastUptoRow.holds Try.pinned (OpenSpec.upto networkEarliestIsLeastSpec)

/-- 'helmsmanlaw7.NetworkMatchesSpec', WHERE WHAT IT READS IS OF BULK AT MOST 1048576: true; the input reads as it did. -/
def networkMatchesSpecUptoRow : OpenClaim := { program := "ytijicdmpidbacaa", sum := "5c18ca4827df4b36b2be111465f3e3f762a50caa7288c1a7b5f1b26b16636d0e", func := "helmsman/helmsmanlaw7.NetworkMatchesSpec", spec := "networkMatchesSpec", unfollowed := true, recurses := true, apart := false, narrowed := true }
def NetworkMatchesSpecUptoSaid : Prop := networkMatchesSpecUptoRow.holds Try.pinned (OpenSpec.upto networkMatchesSpecSpec)

/-- 'helmsmanlaw7.UncertainStrongMatchesSpec', WHERE WHAT IT READS IS OF BULK AT MOST 1048576: true; the input reads as it did. -/
def uncertainStrongMatchesSpecUptoRow : OpenClaim := { program := "ytijicdmpidbacaa", sum := "5c18ca4827df4b36b2be111465f3e3f762a50caa7288c1a7b5f1b26b16636d0e", func := "helmsman/helmsmanlaw7.UncertainStrongMatchesSpec", spec := "uncertainStrongMatchesSpec", unfollowed := true, recurses := true, apart := false, narrowed := true }
def UncertainStrongMatchesSpecUptoSaid : Prop := uncertainStrongMatchesSpecUptoRow.holds Try.pinned (OpenSpec.upto uncertainStrongMatchesSpecSpec)

/-- 'helmsmanlaw7.NetworkConsistentOrCycle', WHERE WHAT IT READS IS OF BULK AT MOST 1048576: true; the input reads as it did. -/
def networkConsistentOrCycleUptoRow : OpenClaim := { program := "ytijicdmpidbacaa", sum := "5c18ca4827df4b36b2be111465f3e3f762a50caa7288c1a7b5f1b26b16636d0e", func := "helmsman/helmsmanlaw7.NetworkConsistentOrCycle", spec := "networkConsistentOrCycle", unfollowed := true, recurses := true, apart := false, narrowed := true }
def NetworkConsistentOrCycleUptoSaid : Prop := networkConsistentOrCycleUptoRow.holds Try.pinned (OpenSpec.upto networkConsistentOrCycleSpec)

/-- 'helmsmanlaw7.UncertainDispatchIsSteady', WHERE WHAT IT READS IS OF BULK AT MOST 1048576: true; the input reads as it did. -/
def uncertainDispatchIsSteadyUptoRow : OpenClaim := { program := "ytijicdmpidbacaa", sum := "5c18ca4827df4b36b2be111465f3e3f762a50caa7288c1a7b5f1b26b16636d0e", func := "helmsman/helmsmanlaw7.UncertainDispatchIsSteady", spec := "uncertainDispatchIsSteady", unfollowed := true, recurses := true, apart := false, narrowed := true }
def UncertainDispatchIsSteadyUptoSaid : Prop := uncertainDispatchIsSteadyUptoRow.holds Try.pinned (OpenSpec.upto uncertainDispatchIsSteadySpec)

/-- 'helmsmanlaw7.UncertainWeakMatchesSpec', WHERE WHAT IT READS IS OF BULK AT MOST 1048576: true; the input reads as it did. -/
def uncertainWeakMatchesSpecUptoRow : OpenClaim := { program := "ytijicdmpidbacaa", sum := "5c18ca4827df4b36b2be111465f3e3f762a50caa7288c1a7b5f1b26b16636d0e", func := "helmsman/helmsmanlaw7.UncertainWeakMatchesSpec", spec := "uncertainWeakMatchesSpec", unfollowed := true, recurses := true, apart := false, narrowed := true }
def UncertainWeakMatchesSpecUptoSaid : Prop := uncertainWeakMatchesSpecUptoRow.holds Try.pinned (OpenSpec.upto uncertainWeakMatchesSpecSpec)

/-- 'helmsmanlaw7.UncertainStrongImpliesWeak', WHERE WHAT IT READS IS OF BULK AT MOST 1048576: true; the input reads as it did. -/
def uncertainStrongImpliesWeakUptoRow : OpenClaim := { program := "ytijicdmpidbacaa", sum := "5c18ca4827df4b36b2be111465f3e3f762a50caa7288c1a7b5f1b26b16636d0e", func := "helmsman/helmsmanlaw7.UncertainStrongImpliesWeak", spec := "uncertainStrongImpliesWeak", unfollowed := true, recurses := true, apart := false, narrowed := true }
def UncertainStrongImpliesWeakUptoSaid : Prop := uncertainStrongImpliesWeakUptoRow.holds Try.pinned (OpenSpec.upto uncertainStrongImpliesWeakSpec)

/-- 'helmsmanlaw7.UncertainMatchesSpec', WHERE WHAT IT READS IS OF BULK AT MOST 1048576: true; the input reads as it did. -/
def uncertainMatchesSpecUptoRow : OpenClaim := { program := "ytijicdmpidbacaa", sum := "5c18ca4827df4b36b2be111465f3e3f762a50caa7288c1a7b5f1b26b16636d0e", func := "helmsman/helmsmanlaw7.UncertainMatchesSpec", spec := "uncertainMatchesSpec", unfollowed := true, recurses := true, apart := false, narrowed := true }
def UncertainMatchesSpecUptoSaid : Prop := uncertainMatchesSpecUptoRow.holds Try.pinned (OpenSpec.upto uncertainMatchesSpecSpec)

/-- 'helmsmanlaw7.UncertainDispatchRespects', WHERE WHAT IT READS IS OF BULK AT MOST 1048576: true; the input reads as it did. -/
def uncertainDispatchRespectsUptoRow : OpenClaim := { program := "ytijicdmpidbacaa", sum := "5c18ca4827df4b36b2be111465f3e3f762a50caa7288c1a7b5f1b26b16636d0e", func := "helmsman/helmsmanlaw7.UncertainDispatchRespects", spec := "uncertainDispatchRespects", unfollowed := true, recurses := true, apart := false, narrowed := true }
def UncertainDispatchRespectsUptoSaid : Prop := uncertainDispatchRespectsUptoRow.holds Try.pinned (OpenSpec.upto uncertainDispatchRespectsSpec)

end Rows
end Go.Proofs.Ytijicdmpidbacaa
