/-
  No cell of these rows narrows 'for every input' (looked for: loops, veiled, ifaces, maps, wideKeys, modest, calm, conditions, laid).
  DERIVED. THE GIVEN ROWS OF THIS SEAT. 6 by the template 'for every input the law returns true; each argument reads behind the call as it read before'; 0 by the template 'total and deterministic' (their statements: YtaenggfmpagjgaaTotals.lean).
  GIVEN WITH THE SEED: the statements are not yours to turn. If you find one false, say at which input.
  Laid BY PROGRAM, IN A SANDBOX (cutbox-rows.mjs): the forced cells as the released guide's own fill.sh prints them over the translation accce75d5b8957ff… (all of the seat's roots in one cut). By AI agents, Wed Nov 11 2026. No macro, syntax, notation, axiom, sorry.
-/
import Derived.Test.YtaenggfmpagjgaaChecked
import GoSem.Claim
import GoSem.ClaimJoined
import GoSem.ClaimMapViews
import Derived.JoinedTies
import Derived.KernelRfl
namespace Go.Proofs.Ytaenggfmpagjgaa
/- THE CELL 'sum', in the pinned program and in every row, IS THE sha256 OF THE DUMP (.gsa) THAT YtaenggfmpagjgaaProg.lean LOADS. Nothing in Lean hashes anything: it is a label: what it is worth is what the hold of that sum in a sandbox is worth. -/
noncomputable def Try.pinned : Pinned := { name := "ytaenggfmpagjgaa", sum := "accce75d5b8957ff74b4d79f1c4bf55a45c551b2025f1d799a4ef6cb310c87d3", checked := Try.checked }
namespace Rows
def none {H : Type} : Left H := { results := [], args := [] }

/-- 'helmsmanlaw7.DurativeMatchesSpec': WHATEVER THE INPUT: true; the input reads as it did. -/
def durativeMatchesSpecSpec : ChangeSpec := { name := "durativeMatchesSpec", fn := fun _ => fun
  | [d1, d2] => { results := [.lit (.bool true)], args := [d1, d2] }
  | _ => none }
def durativeMatchesSpecRow : OpenClaim := { program := "ytaenggfmpagjgaa", sum := "accce75d5b8957ff74b4d79f1c4bf55a45c551b2025f1d799a4ef6cb310c87d3", func := "helmsman/helmsmanlaw7.DurativeMatchesSpec", spec := "durativeMatchesSpec", unfollowed := true, recurses := true, apart := false }
def DurativeMatchesSpecSaid : Prop := durativeMatchesSpecRow.holds Try.pinned (OpenSpec.ofChange durativeMatchesSpecSpec)

/-- ITS FALSE NEIGHBOUR: 'it returns false'. Refute it at one input. -/
def durativeMatchesSpecWrong : ChangeSpec := { name := "durativeMatchesSpec", fn := fun _ => fun
  | [d1, d2] => { results := [.lit (.bool false)], args := [d1, d2] }
  | _ => none }
def DurativeMatchesSpecWrongFalsely : Prop := durativeMatchesSpecRow.holds Try.pinned (OpenSpec.ofChange durativeMatchesSpecWrong)

/-- 'helmsmanlaw7.DurativeDelayed': WHATEVER THE INPUT: true; the input reads as it did. -/
def durativeDelayedSpec : ChangeSpec := { name := "durativeDelayed", fn := fun _ => fun
  | [d1, d2, d3] => { results := [.lit (.bool true)], args := [d1, d2, d3] }
  | _ => none }
def durativeDelayedRow : OpenClaim := { program := "ytaenggfmpagjgaa", sum := "accce75d5b8957ff74b4d79f1c4bf55a45c551b2025f1d799a4ef6cb310c87d3", func := "helmsman/helmsmanlaw7.DurativeDelayed", spec := "durativeDelayed", unfollowed := true, recurses := true, apart := false }
def DurativeDelayedSaid : Prop := durativeDelayedRow.holds Try.pinned (OpenSpec.ofChange durativeDelayedSpec)

/-- ITS FALSE NEIGHBOUR: 'it returns false'. Refute it at one input. -/
def durativeDelayedWrong : ChangeSpec := { name := "durativeDelayed", fn := fun _ => fun
  | [d1, d2, d3] => { results := [.lit (.bool false)], args := [d1, d2, d3] }
  | _ => none }
def DurativeDelayedWrongFalsely : Prop := durativeDelayedRow.holds Try.pinned (OpenSpec.ofChange durativeDelayedWrong)

/-- 'helmsmanlaw7.DurativeEndsLast': WHATEVER THE INPUT: true; the input reads as it did. -/
def durativeEndsLastSpec : ChangeSpec := { name := "durativeEndsLast", fn := fun _ => fun
  | [d1, d2] => { results := [.lit (.bool true)], args := [d1, d2] }
  | _ => none }
def durativeEndsLastRow : OpenClaim := { program := "ytaenggfmpagjgaa", sum := "accce75d5b8957ff74b4d79f1c4bf55a45c551b2025f1d799a4ef6cb310c87d3", func := "helmsman/helmsmanlaw7.DurativeEndsLast", spec := "durativeEndsLast", unfollowed := true, recurses := true, apart := false }
def DurativeEndsLastSaid : Prop := durativeEndsLastRow.holds Try.pinned (OpenSpec.ofChange durativeEndsLastSpec)

/-- ITS FALSE NEIGHBOUR: 'it returns false'. Refute it at one input. -/
def durativeEndsLastWrong : ChangeSpec := { name := "durativeEndsLast", fn := fun _ => fun
  | [d1, d2] => { results := [.lit (.bool false)], args := [d1, d2] }
  | _ => none }
def DurativeEndsLastWrongFalsely : Prop := durativeEndsLastRow.holds Try.pinned (OpenSpec.ofChange durativeEndsLastWrong)

/-- 'helmsmanlaw7.DurativeLineMatchesSpec': WHATEVER THE INPUT: true; the input reads as it did. -/
def durativeLineMatchesSpecSpec : ChangeSpec := { name := "durativeLineMatchesSpec", fn := fun _ => fun
  | [d1, d2] => { results := [.lit (.bool true)], args := [d1, d2] }
  | _ => none }
def durativeLineMatchesSpecRow : OpenClaim := { program := "ytaenggfmpagjgaa", sum := "accce75d5b8957ff74b4d79f1c4bf55a45c551b2025f1d799a4ef6cb310c87d3", func := "helmsman/helmsmanlaw7.DurativeLineMatchesSpec", spec := "durativeLineMatchesSpec", unfollowed := true, recurses := true, apart := false }
def DurativeLineMatchesSpecSaid : Prop := durativeLineMatchesSpecRow.holds Try.pinned (OpenSpec.ofChange durativeLineMatchesSpecSpec)

/-- ITS FALSE NEIGHBOUR: 'it returns false'. Refute it at one input. -/
def durativeLineMatchesSpecWrong : ChangeSpec := { name := "durativeLineMatchesSpec", fn := fun _ => fun
  | [d1, d2] => { results := [.lit (.bool false)], args := [d1, d2] }
  | _ => none }
def DurativeLineMatchesSpecWrongFalsely : Prop := durativeLineMatchesSpecRow.holds Try.pinned (OpenSpec.ofChange durativeLineMatchesSpecWrong)

/-- 'helmsmanlaw7.DurativeSequenceMatchesSpec': WHATEVER THE INPUT: true; the input reads as it did. -/
def durativeSequenceMatchesSpecSpec : ChangeSpec := { name := "durativeSequenceMatchesSpec", fn := fun _ => fun
  | [d] => { results := [.lit (.bool true)], args := [d] }
  | _ => none }
def durativeSequenceMatchesSpecRow : OpenClaim := { program := "ytaenggfmpagjgaa", sum := "accce75d5b8957ff74b4d79f1c4bf55a45c551b2025f1d799a4ef6cb310c87d3", func := "helmsman/helmsmanlaw7.DurativeSequenceMatchesSpec", spec := "durativeSequenceMatchesSpec", unfollowed := true, recurses := true, apart := false }
def DurativeSequenceMatchesSpecSaid : Prop := durativeSequenceMatchesSpecRow.holds Try.pinned (OpenSpec.ofChange durativeSequenceMatchesSpecSpec)

/-- ITS FALSE NEIGHBOUR: 'it returns false'. Refute it at one input. -/
def durativeSequenceMatchesSpecWrong : ChangeSpec := { name := "durativeSequenceMatchesSpec", fn := fun _ => fun
  | [d] => { results := [.lit (.bool false)], args := [d] }
  | _ => none }
def DurativeSequenceMatchesSpecWrongFalsely : Prop := durativeSequenceMatchesSpecRow.holds Try.pinned (OpenSpec.ofChange durativeSequenceMatchesSpecWrong)

/-- 'helmsmanlaw7.DurativeSequentialPlans': WHATEVER THE INPUT: true; the input reads as it did. -/
def durativeSequentialPlansSpec : ChangeSpec := { name := "durativeSequentialPlans", fn := fun _ => fun
  | [d1, d2] => { results := [.lit (.bool true)], args := [d1, d2] }
  | _ => none }
def durativeSequentialPlansRow : OpenClaim := { program := "ytaenggfmpagjgaa", sum := "accce75d5b8957ff74b4d79f1c4bf55a45c551b2025f1d799a4ef6cb310c87d3", func := "helmsman/helmsmanlaw7.DurativeSequentialPlans", spec := "durativeSequentialPlans", unfollowed := true, recurses := true, apart := false }
def DurativeSequentialPlansSaid : Prop := durativeSequentialPlansRow.holds Try.pinned (OpenSpec.ofChange durativeSequentialPlansSpec)

/-- ITS FALSE NEIGHBOUR: 'it returns false'. Refute it at one input. -/
def durativeSequentialPlansWrong : ChangeSpec := { name := "durativeSequentialPlans", fn := fun _ => fun
  | [d1, d2] => { results := [.lit (.bool false)], args := [d1, d2] }
  | _ => none }
def DurativeSequentialPlansWrongFalsely : Prop := durativeSequentialPlansRow.holds Try.pinned (OpenSpec.ofChange durativeSequentialPlansWrong)

/- THE SECOND FORM. 'bulk': how many values and letters a reading holds, each counted each time it is reached (what is shared counts as often as it is met; a slice's spare places count too). A statement '..UptoSaid' is the law's where the arguments, and the package variables that the reading takes, are together of bulk at most 1048576: NARROWER than '..Said'. Prove '..Said' where nothing that the law and all that it calls make is longer than what came in: it says more and counts as full. Else prove '..UptoSaid'. A law counts once. -/
mutual
def uptoBulk {H : Type} : DataW H → Nat
  | .lit (.string bytes) => bytes.length + 1
  | .lit _ => 1
  | .nil => 1
  | .ptr d => uptoBulk d + 1
  | .slice elems spare => uptoBulkAll elems + uptoBulkAll spare + 1
  | .agg parts => uptoBulkAll parts + 1
  | .iface _ d => uptoBulk d + 1
  | .map entries => uptoBulkEntries entries + 1
  | .held _ => 1
def uptoBulkAll {H : Type} : List (DataW H) → Nat
  | [] => 0
  | d :: r => uptoBulk d + uptoBulkAll r
def uptoBulkEntries {H : Type} : List (Lit × DataW H) → Nat
  | [] => 0
  | x :: r => uptoBulkEntry x + uptoBulkEntries r
def uptoBulkEntry {H : Type} : Lit × DataW H → Nat
  | (.string bytes, d) => bytes.length + uptoBulk d + 1
  | (_, d) => uptoBulk d + 1
 end
def uptoSmall : (H : Type) → List (DataW H) → Bool := fun _ ds => decide (uptoBulkAll ds ≤ 1048576)
def OpenSpec.upto (s : _root_.Go.ChangeSpec) : _root_.Go.OpenSpec := { _root_.Go.OpenSpec.ofChange s with cond := some uptoSmall }

/-- 'helmsmanlaw7.DurativeMatchesSpec', WHERE WHAT IT READS IS OF BULK AT MOST 1048576: true; the input reads as it did. -/
def durativeMatchesSpecUptoRow : OpenClaim := { program := "ytaenggfmpagjgaa", sum := "accce75d5b8957ff74b4d79f1c4bf55a45c551b2025f1d799a4ef6cb310c87d3", func := "helmsman/helmsmanlaw7.DurativeMatchesSpec", spec := "durativeMatchesSpec", unfollowed := true, recurses := true, apart := false, narrowed := true }
def DurativeMatchesSpecUptoSaid : Prop := durativeMatchesSpecUptoRow.holds Try.pinned (OpenSpec.upto durativeMatchesSpecSpec)

/-- 'helmsmanlaw7.DurativeDelayed', WHERE WHAT IT READS IS OF BULK AT MOST 1048576: true; the input reads as it did. -/
def durativeDelayedUptoRow : OpenClaim := { program := "ytaenggfmpagjgaa", sum := "accce75d5b8957ff74b4d79f1c4bf55a45c551b2025f1d799a4ef6cb310c87d3", func := "helmsman/helmsmanlaw7.DurativeDelayed", spec := "durativeDelayed", unfollowed := true, recurses := true, apart := false, narrowed := true }
def DurativeDelayedUptoSaid : Prop := durativeDelayedUptoRow.holds Try.pinned (OpenSpec.upto durativeDelayedSpec)

/-- 'helmsmanlaw7.DurativeEndsLast', WHERE WHAT IT READS IS OF BULK AT MOST 1048576: true; the input reads as it did. -/
def durativeEndsLastUptoRow : OpenClaim := { program := "ytaenggfmpagjgaa", sum := "accce75d5b8957ff74b4d79f1c4bf55a45c551b2025f1d799a4ef6cb310c87d3", func := "helmsman/helmsmanlaw7.DurativeEndsLast", spec := "durativeEndsLast", unfollowed := true, recurses := true, apart := false, narrowed := true }
def DurativeEndsLastUptoSaid : Prop := durativeEndsLastUptoRow.holds Try.pinned (OpenSpec.upto durativeEndsLastSpec)

/-- 'helmsmanlaw7.DurativeLineMatchesSpec', WHERE WHAT IT READS IS OF BULK AT MOST 1048576: true; the input reads as it did. -/
def durativeLineMatchesSpecUptoRow : OpenClaim := { program := "ytaenggfmpagjgaa", sum := "accce75d5b8957ff74b4d79f1c4bf55a45c551b2025f1d799a4ef6cb310c87d3", func := "helmsman/helmsmanlaw7.DurativeLineMatchesSpec", spec := "durativeLineMatchesSpec", unfollowed := true, recurses := true, apart := false, narrowed := true }
def DurativeLineMatchesSpecUptoSaid : Prop := durativeLineMatchesSpecUptoRow.holds Try.pinned (OpenSpec.upto durativeLineMatchesSpecSpec)

/-- 'helmsmanlaw7.DurativeSequenceMatchesSpec', WHERE WHAT IT READS IS OF BULK AT MOST 1048576: true; the input reads as it did. -/
def durativeSequenceMatchesSpecUptoRow : OpenClaim := { program := "ytaenggfmpagjgaa", sum := "accce75d5b8957ff74b4d79f1c4bf55a45c551b2025f1d799a4ef6cb310c87d3", func := "helmsman/helmsmanlaw7.DurativeSequenceMatchesSpec", spec := "durativeSequenceMatchesSpec", unfollowed := true, recurses := true, apart := false, narrowed := true }
def DurativeSequenceMatchesSpecUptoSaid : Prop := durativeSequenceMatchesSpecUptoRow.holds Try.pinned (OpenSpec.upto durativeSequenceMatchesSpecSpec)

/-- 'helmsmanlaw7.DurativeSequentialPlans', WHERE WHAT IT READS IS OF BULK AT MOST 1048576: true; the input reads as it did. -/
def durativeSequentialPlansUptoRow : OpenClaim := { program := "ytaenggfmpagjgaa", sum := "accce75d5b8957ff74b4d79f1c4bf55a45c551b2025f1d799a4ef6cb310c87d3", func := "helmsman/helmsmanlaw7.DurativeSequentialPlans", spec := "durativeSequentialPlans", unfollowed := true, recurses := true, apart := false, narrowed := true }
def DurativeSequentialPlansUptoSaid : Prop := durativeSequentialPlansUptoRow.holds Try.pinned (OpenSpec.upto durativeSequentialPlansSpec)

end Rows
end Go.Proofs.Ytaenggfmpagjgaa
