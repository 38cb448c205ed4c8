/-
  No cell of these rows narrows 'for every input' (looked for: loops, veiled, ifaces, maps, wideKeys, modest, calm, conditions, laid).
  DERIVED. THE GIVEN ROWS OF THIS SEAT. 2 by the template 'for every input the law returns true; each argument reads behind the call as it read before'; 0 by the template 'total and deterministic' (their statements: YtkcamohhjaibaaaTotals.lean).
  GIVEN WITH THE SEED: the statements are not yours to turn. If you find one false, say at which input.
  Laid BY PROGRAM, IN A SANDBOX (cutbox-rows.mjs): the forced cells as the released guide's own fill.sh prints them over the translation 30f9422b020ee39c… (all of the seat's roots in one cut). By AI agents, Wed Nov 11 2026. No macro, syntax, notation, axiom, sorry.
-/
import Derived.Test.YtkcamohhjaibaaaChecked
import GoSem.Claim
import GoSem.ClaimJoined
import GoSem.ClaimMapViews
import Derived.JoinedTies
import Derived.KernelRfl
namespace Go.Proofs.Ytkcamohhjaibaaa
/- THE CELL 'sum', in the pinned program and in every row, IS THE sha256 OF THE DUMP (.gsa) THAT YtkcamohhjaibaaaProg.lean LOADS. Nothing in Lean hashes anything: it is a label: what it is worth is what the hold of that sum in a sandbox is worth. -/
noncomputable def Try.pinned : Pinned := { name := "ytkcamohhjaibaaa", sum := "30f9422b020ee39cbb562a0bb51ba0bef9805a6da04439ee291757d4895bc2a9", checked := Try.checked }
namespace Rows
def none {H : Type} : Left H := { results := [], args := [] }

/-- 'helmsmanlaw7.UncertainWeakMatchesSpec': WHATEVER THE INPUT: true; the input reads as it did. -/
def uncertainWeakMatchesSpecSpec : ChangeSpec := { name := "uncertainWeakMatchesSpec", fn := fun _ => fun
  | [d] => { results := [.lit (.bool true)], args := [d] }
  | _ => none }
def uncertainWeakMatchesSpecRow : OpenClaim := { program := "ytkcamohhjaibaaa", sum := "30f9422b020ee39cbb562a0bb51ba0bef9805a6da04439ee291757d4895bc2a9", func := "helmsman/helmsmanlaw7.UncertainWeakMatchesSpec", spec := "uncertainWeakMatchesSpec", unfollowed := true, recurses := true, apart := false }
def UncertainWeakMatchesSpecSaid : Prop := uncertainWeakMatchesSpecRow.holds Try.pinned (OpenSpec.ofChange uncertainWeakMatchesSpecSpec)

/-- ITS FALSE NEIGHBOUR: 'it returns false'. Refute it at one input. -/
def uncertainWeakMatchesSpecWrong : ChangeSpec := { name := "uncertainWeakMatchesSpec", fn := fun _ => fun
  | [d] => { results := [.lit (.bool false)], args := [d] }
  | _ => none }
def UncertainWeakMatchesSpecWrongFalsely : Prop := uncertainWeakMatchesSpecRow.holds Try.pinned (OpenSpec.ofChange uncertainWeakMatchesSpecWrong)

/-- 'helmsmanlaw7.UncertainStrongImpliesWeak': WHATEVER THE INPUT: true; the input reads as it did. -/
def uncertainStrongImpliesWeakSpec : ChangeSpec := { name := "uncertainStrongImpliesWeak", fn := fun _ => fun
  | [d] => { results := [.lit (.bool true)], args := [d] }
  | _ => none }
def uncertainStrongImpliesWeakRow : OpenClaim := { program := "ytkcamohhjaibaaa", sum := "30f9422b020ee39cbb562a0bb51ba0bef9805a6da04439ee291757d4895bc2a9", func := "helmsman/helmsmanlaw7.UncertainStrongImpliesWeak", spec := "uncertainStrongImpliesWeak", unfollowed := true, recurses := true, apart := false }
def UncertainStrongImpliesWeakSaid : Prop := uncertainStrongImpliesWeakRow.holds Try.pinned (OpenSpec.ofChange uncertainStrongImpliesWeakSpec)

/-- ITS FALSE NEIGHBOUR: 'it returns false'. Refute it at one input. -/
def uncertainStrongImpliesWeakWrong : ChangeSpec := { name := "uncertainStrongImpliesWeak", fn := fun _ => fun
  | [d] => { results := [.lit (.bool false)], args := [d] }
  | _ => none }
def UncertainStrongImpliesWeakWrongFalsely : Prop := uncertainStrongImpliesWeakRow.holds Try.pinned (OpenSpec.ofChange uncertainStrongImpliesWeakWrong)

/- THE SECOND FORM. 'bulk': how many values and letters a reading holds, each counted each time it is reached (what is shared counts as often as it is met; a slice's spare places count too). A statement '..UptoSaid' is the law's where the arguments, and the package variables that the reading takes, are together of bulk at most 1048576: NARROWER than '..Said'. Prove '..Said' where nothing that the law and all that it calls make is longer than what came in: it says more and counts as full. Else prove '..UptoSaid'. A law counts once. -/
mutual
def uptoBulk {H : Type} : DataW H → Nat
  | .lit (.string bytes) => bytes.length + 1
  | .lit _ => 1
  | .nil => 1
  | .ptr d => uptoBulk d + 1
  | .slice elems spare => uptoBulkAll elems + uptoBulkAll spare + 1
  | .agg parts => uptoBulkAll parts + 1
  | .iface _ d => uptoBulk d + 1
  | .map entries => uptoBulkEntries entries + 1
  | .held _ => 1
def uptoBulkAll {H : Type} : List (DataW H) → Nat
  | [] => 0
  | d :: r => uptoBulk d + uptoBulkAll r
def uptoBulkEntries {H : Type} : List (Lit × DataW H) → Nat
  | [] => 0
  | x :: r => uptoBulkEntry x + uptoBulkEntries r
def uptoBulkEntry {H : Type} : Lit × DataW H → Nat
  | (.string bytes, d) => bytes.length + uptoBulk d + 1
  | (_, d) => uptoBulk d + 1
 end
def uptoSmall : (H : Type) → List (DataW H) → Bool := fun _ ds => decide (uptoBulkAll ds ≤ 1048576)
def OpenSpec.upto (s : _root_.Go.ChangeSpec) : _root_.Go.OpenSpec := { _root_.Go.OpenSpec.ofChange s with cond := some uptoSmall }

/-- 'helmsmanlaw7.UncertainWeakMatchesSpec', WHERE WHAT IT READS IS OF BULK AT MOST 1048576: true; the input reads as it did. -/
def uncertainWeakMatchesSpecUptoRow : OpenClaim := { program := "ytkcamohhjaibaaa", sum := "30f9422b020ee39cbb562a0bb51ba0bef9805a6da04439ee291757d4895bc2a9", func := "helmsman/helmsmanlaw7.UncertainWeakMatchesSpec", spec := "uncertainWeakMatchesSpec", unfollowed := true, recurses := true, apart := false, narrowed := true }
def UncertainWeakMatchesSpecUptoSaid : Prop := uncertainWeakMatchesSpecUptoRow.holds Try.pinned (OpenSpec.upto uncertainWeakMatchesSpecSpec)

/-- 'helmsmanlaw7.UncertainStrongImpliesWeak', WHERE WHAT IT READS IS OF BULK AT MOST 1048576: true; the input reads as it did. -/
def uncertainStrongImpliesWeakUptoRow : OpenClaim := { program := "ytkcamohhjaibaaa", sum := "30f9422b020ee39cbb562a0bb51ba0bef9805a6da04439ee291757d4895bc2a9", func := "helmsman/helmsmanlaw7.UncertainStrongImpliesWeak", spec := "uncertainStrongImpliesWeak", unfollowed := true, recurses := true, apart := false, narrowed := true }
def UncertainStrongImpliesWeakUptoSaid : Prop := uncertainStrongImpliesWeakUptoRow.holds Try.pinned (OpenSpec.upto uncertainStrongImpliesWeakSpec)

end Rows
end Go.Proofs.Ytkcamohhjaibaaa
