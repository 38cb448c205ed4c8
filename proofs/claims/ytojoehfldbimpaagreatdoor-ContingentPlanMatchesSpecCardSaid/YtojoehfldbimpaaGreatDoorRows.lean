/-
  NARROWER THAN 'FOR EVERY INPUT', by the rows' own cells (each row's printed sentence says how): BeliefPlanMatchesSpec: laid · BeliefMatchesSpec: laid · BeliefSolvesMatchesSpec: laid · ContingentPlanMatchesSpec: laid · ContingentBeatsConformant: laid · ContingentMatchesSpec: laid · ContingentCheckMatchesSpec: laid · ContingentPlanChecks: laid · ContingentLines: laid.
  DERIVED. THE GIVEN ROWS OF THIS SEAT. 9 by the template 'for every input the law returns true; each argument reads behind the call as it read before'; 0 by the template 'total and deterministic' (their statements: YtojoehfldbimpaaGreatDoorTotals.lean).
  GIVEN WITH THE SEED: the statements are not yours to turn. If you find one false, say at which input.
  Laid BY PROGRAM, IN A SANDBOX (cutbox-rows.mjs): the forced cells as the released guide's own fill.sh prints them over the translation 5cc0667e851fe8ed… (all of the seat's roots in one cut). By AI agents, Wed Nov 11 2026. No macro, syntax, notation, axiom, sorry.
-/
import Derived.Test.YtojoehfldbimpaaGreatDoorChecked
import GoSem.Claim
import GoSem.ClaimJoined
import GoSem.ClaimMapViews
import Derived.JoinedTies
import Derived.KernelRfl
namespace Go.Proofs.YtojoehfldbimpaaGreatDoor
/- THE CELL 'sum', in the pinned program and in every row, IS THE sha256 OF THE DUMP (.gsa) THAT YtojoehfldbimpaaGreatDoorProg.lean LOADS. Nothing in Lean hashes anything: it is a label: what it is worth is what the hold of that sum in a sandbox is worth. -/
noncomputable def Tryz.pinned : Pinned := { name := "ytojoehfldbimpaagreatdoor", sum := "5cc0667e851fe8ed90317b8eb883043c0b8f3324299aa3de80cf28be4c8f2b9d", checked := Tryz.checked }
namespace Rows
def none {H : Type} : Left H := { results := [], args := [] }

/- WHAT THE LISTED PACKAGE-LEVEL VARIABLES READ AS WHEN THE CALL BEGINS. Each datum BY PROGRAM (the guide's laid-datum.mjs) off the statement by which the dump's own 'gosem.cut.vars' lays the variable. In a bare row this is a premise. The card (YtojoehfldbimpaaGreatDoorCards.lean) ties it to the program's text. -/
def laid_math_bits_deBruijn32tab {H : Type} : DataW H := .agg [.lit (.int .u8 0), .lit (.int .u8 1), .lit (.int .u8 28), .lit (.int .u8 2), .lit (.int .u8 29), .lit (.int .u8 14), .lit (.int .u8 24), .lit (.int .u8 3), .lit (.int .u8 30), .lit (.int .u8 22), .lit (.int .u8 20), .lit (.int .u8 15), .lit (.int .u8 25), .lit (.int .u8 17), .lit (.int .u8 4), .lit (.int .u8 8), .lit (.int .u8 31), .lit (.int .u8 27), .lit (.int .u8 13), .lit (.int .u8 23), .lit (.int .u8 21), .lit (.int .u8 19), .lit (.int .u8 16), .lit (.int .u8 7), .lit (.int .u8 26), .lit (.int .u8 12), .lit (.int .u8 18), .lit (.int .u8 6), .lit (.int .u8 11), .lit (.int .u8 5), .lit (.int .u8 10), .lit (.int .u8 9)]
def laid_math_bits_deBruijn64tab {H : Type} : DataW H := .agg [.lit (.int .u8 0), .lit (.int .u8 1), .lit (.int .u8 56), .lit (.int .u8 2), .lit (.int .u8 57), .lit (.int .u8 49), .lit (.int .u8 28), .lit (.int .u8 3), .lit (.int .u8 61), .lit (.int .u8 58), .lit (.int .u8 42), .lit (.int .u8 50), .lit (.int .u8 38), .lit (.int .u8 29), .lit (.int .u8 17), .lit (.int .u8 4), .lit (.int .u8 62), .lit (.int .u8 47), .lit (.int .u8 59), .lit (.int .u8 36), .lit (.int .u8 45), .lit (.int .u8 43), .lit (.int .u8 51), .lit (.int .u8 22), .lit (.int .u8 53), .lit (.int .u8 39), .lit (.int .u8 33), .lit (.int .u8 30), .lit (.int .u8 24), .lit (.int .u8 18), .lit (.int .u8 12), .lit (.int .u8 5), .lit (.int .u8 63), .lit (.int .u8 55), .lit (.int .u8 48), .lit (.int .u8 27), .lit (.int .u8 60), .lit (.int .u8 41), .lit (.int .u8 37), .lit (.int .u8 16), .lit (.int .u8 46), .lit (.int .u8 35), .lit (.int .u8 44), .lit (.int .u8 21), .lit (.int .u8 52), .lit (.int .u8 32), .lit (.int .u8 23), .lit (.int .u8 11), .lit (.int .u8 54), .lit (.int .u8 26), .lit (.int .u8 40), .lit (.int .u8 15), .lit (.int .u8 34), .lit (.int .u8 20), .lit (.int .u8 31), .lit (.int .u8 10), .lit (.int .u8 25), .lit (.int .u8 14), .lit (.int .u8 19), .lit (.int .u8 9), .lit (.int .u8 13), .lit (.int .u8 8), .lit (.int .u8 7), .lit (.int .u8 6)]
def laid_internal_strconv_uint64pow10 {H : Type} : DataW H := .agg [.lit (.int .u64 1), .lit (.int .u64 10), .lit (.int .u64 100), .lit (.int .u64 1000), .lit (.int .u64 10000), .lit (.int .u64 100000), .lit (.int .u64 1000000), .lit (.int .u64 10000000), .lit (.int .u64 100000000), .lit (.int .u64 1000000000), .lit (.int .u64 10000000000), .lit (.int .u64 100000000000), .lit (.int .u64 1000000000000), .lit (.int .u64 10000000000000), .lit (.int .u64 100000000000000), .lit (.int .u64 1000000000000000), .lit (.int .u64 10000000000000000), .lit (.int .u64 100000000000000000), .lit (.int .u64 1000000000000000000), .lit (.int .u64 10000000000000000000)]

/-- 'helmsmanlaw7.BeliefPlanMatchesSpec': WHATEVER THE INPUT: true; the input reads as it did. -/
def beliefPlanMatchesSpecSpec : ChangeSpec := { name := "beliefPlanMatchesSpec", fn := fun _ => fun
  | [d1, d2] => { results := [.lit (.bool true)], args := [d1, d2] }
  | _ => none }
def beliefPlanMatchesSpecRow : OpenClaim := { program := "ytojoehfldbimpaagreatdoor", sum := "5cc0667e851fe8ed90317b8eb883043c0b8f3324299aa3de80cf28be4c8f2b9d", func := "helmsman/helmsmanlaw7.BeliefPlanMatchesSpec", spec := "beliefPlanMatchesSpec", unfollowed := true, recurses := true, named := ["internal/strconv.uint64pow10", "math/bits.deBruijn32tab", "math/bits.deBruijn64tab"], apart := false, laid := [("math/bits.deBruijn32tab", laid_math_bits_deBruijn32tab), ("math/bits.deBruijn64tab", laid_math_bits_deBruijn64tab), ("internal/strconv.uint64pow10", laid_internal_strconv_uint64pow10)] }
def BeliefPlanMatchesSpecSaid : Prop := beliefPlanMatchesSpecRow.holds Tryz.pinned (OpenSpec.ofChange beliefPlanMatchesSpecSpec)

/-- ITS FALSE NEIGHBOUR: 'it returns false'. Refute it at one input. -/
def beliefPlanMatchesSpecWrong : ChangeSpec := { name := "beliefPlanMatchesSpec", fn := fun _ => fun
  | [d1, d2] => { results := [.lit (.bool false)], args := [d1, d2] }
  | _ => none }
def BeliefPlanMatchesSpecWrongFalsely : Prop := beliefPlanMatchesSpecRow.holds Tryz.pinned (OpenSpec.ofChange beliefPlanMatchesSpecWrong)

/-- 'helmsmanlaw7.BeliefMatchesSpec': WHATEVER THE INPUT: true; the input reads as it did. -/
def beliefMatchesSpecSpec : ChangeSpec := { name := "beliefMatchesSpec", fn := fun _ => fun
  | [d1, d2, d3, d4, d5] => { results := [.lit (.bool true)], args := [d1, d2, d3, d4, d5] }
  | _ => none }
def beliefMatchesSpecRow : OpenClaim := { program := "ytojoehfldbimpaagreatdoor", sum := "5cc0667e851fe8ed90317b8eb883043c0b8f3324299aa3de80cf28be4c8f2b9d", func := "helmsman/helmsmanlaw7.BeliefMatchesSpec", spec := "beliefMatchesSpec", unfollowed := true, recurses := true, named := ["internal/strconv.uint64pow10", "math/bits.deBruijn32tab", "math/bits.deBruijn64tab"], apart := false, laid := [("math/bits.deBruijn32tab", laid_math_bits_deBruijn32tab), ("math/bits.deBruijn64tab", laid_math_bits_deBruijn64tab), ("internal/strconv.uint64pow10", laid_internal_strconv_uint64pow10)] }
def BeliefMatchesSpecSaid : Prop := beliefMatchesSpecRow.holds Tryz.pinned (OpenSpec.ofChange beliefMatchesSpecSpec)

/-- ITS FALSE NEIGHBOUR: 'it returns false'. Refute it at one input. -/
def beliefMatchesSpecWrong : ChangeSpec := { name := "beliefMatchesSpec", fn := fun _ => fun
  | [d1, d2, d3, d4, d5] => { results := [.lit (.bool false)], args := [d1, d2, d3, d4, d5] }
  | _ => none }
def BeliefMatchesSpecWrongFalsely : Prop := beliefMatchesSpecRow.holds Tryz.pinned (OpenSpec.ofChange beliefMatchesSpecWrong)

/-- 'helmsmanlaw7.BeliefSolvesMatchesSpec': WHATEVER THE INPUT: true; the input reads as it did. -/
def beliefSolvesMatchesSpecSpec : ChangeSpec := { name := "beliefSolvesMatchesSpec", fn := fun _ => fun
  | [d1, d2, d3] => { results := [.lit (.bool true)], args := [d1, d2, d3] }
  | _ => none }
def beliefSolvesMatchesSpecRow : OpenClaim := { program := "ytojoehfldbimpaagreatdoor", sum := "5cc0667e851fe8ed90317b8eb883043c0b8f3324299aa3de80cf28be4c8f2b9d", func := "helmsman/helmsmanlaw7.BeliefSolvesMatchesSpec", spec := "beliefSolvesMatchesSpec", unfollowed := true, recurses := true, named := ["internal/strconv.uint64pow10", "math/bits.deBruijn32tab", "math/bits.deBruijn64tab"], apart := false, laid := [("math/bits.deBruijn32tab", laid_math_bits_deBruijn32tab), ("math/bits.deBruijn64tab", laid_math_bits_deBruijn64tab), ("internal/strconv.uint64pow10", laid_internal_strconv_uint64pow10)] }
def BeliefSolvesMatchesSpecSaid : Prop := beliefSolvesMatchesSpecRow.holds Tryz.pinned (OpenSpec.ofChange beliefSolvesMatchesSpecSpec)

/-- ITS FALSE NEIGHBOUR: 'it returns false'. Refute it at one input. -/
def beliefSolvesMatchesSpecWrong : ChangeSpec := { name := "beliefSolvesMatchesSpec", fn := fun _ => fun
  | [d1, d2, d3] => { results := [.lit (.bool false)], args := [d1, d2, d3] }
  | _ => none }
def BeliefSolvesMatchesSpecWrongFalsely : Prop := beliefSolvesMatchesSpecRow.holds Tryz.pinned (OpenSpec.ofChange beliefSolvesMatchesSpecWrong)

/-- 'helmsmanlaw7.ContingentPlanMatchesSpec': WHATEVER THE INPUT: true; the input reads as it did. -/
def contingentPlanMatchesSpecSpec : ChangeSpec := { name := "contingentPlanMatchesSpec", fn := fun _ => fun
  | [d1, d2, d3, d4] => { results := [.lit (.bool true)], args := [d1, d2, d3, d4] }
  | _ => none }
def contingentPlanMatchesSpecRow : OpenClaim := { program := "ytojoehfldbimpaagreatdoor", sum := "5cc0667e851fe8ed90317b8eb883043c0b8f3324299aa3de80cf28be4c8f2b9d", func := "helmsman/helmsmanlaw7.ContingentPlanMatchesSpec", spec := "contingentPlanMatchesSpec", unfollowed := true, recurses := true, named := ["internal/strconv.uint64pow10", "math/bits.deBruijn32tab", "math/bits.deBruijn64tab"], apart := false, laid := [("math/bits.deBruijn32tab", laid_math_bits_deBruijn32tab), ("math/bits.deBruijn64tab", laid_math_bits_deBruijn64tab), ("internal/strconv.uint64pow10", laid_internal_strconv_uint64pow10)] }
def ContingentPlanMatchesSpecSaid : Prop := contingentPlanMatchesSpecRow.holds Tryz.pinned (OpenSpec.ofChange contingentPlanMatchesSpecSpec)

/-- ITS FALSE NEIGHBOUR: 'it returns false'. Refute it at one input. -/
def contingentPlanMatchesSpecWrong : ChangeSpec := { name := "contingentPlanMatchesSpec", fn := fun _ => fun
  | [d1, d2, d3, d4] => { results := [.lit (.bool false)], args := [d1, d2, d3, d4] }
  | _ => none }
def ContingentPlanMatchesSpecWrongFalsely : Prop := contingentPlanMatchesSpecRow.holds Tryz.pinned (OpenSpec.ofChange contingentPlanMatchesSpecWrong)

/-- 'helmsmanlaw7.ContingentBeatsConformant': WHATEVER THE INPUT: true; the input reads as it did. -/
def contingentBeatsConformantSpec : ChangeSpec := { name := "contingentBeatsConformant", fn := fun _ => fun
  | [d1, d2, d3] => { results := [.lit (.bool true)], args := [d1, d2, d3] }
  | _ => none }
def contingentBeatsConformantRow : OpenClaim := { program := "ytojoehfldbimpaagreatdoor", sum := "5cc0667e851fe8ed90317b8eb883043c0b8f3324299aa3de80cf28be4c8f2b9d", func := "helmsman/helmsmanlaw7.ContingentBeatsConformant", spec := "contingentBeatsConformant", unfollowed := true, recurses := true, named := ["internal/strconv.uint64pow10", "math/bits.deBruijn32tab", "math/bits.deBruijn64tab"], apart := false, laid := [("math/bits.deBruijn32tab", laid_math_bits_deBruijn32tab), ("math/bits.deBruijn64tab", laid_math_bits_deBruijn64tab), ("internal/strconv.uint64pow10", laid_internal_strconv_uint64pow10)] }
def ContingentBeatsConformantSaid : Prop := contingentBeatsConformantRow.holds Tryz.pinned (OpenSpec.ofChange contingentBeatsConformantSpec)

/-- ITS FALSE NEIGHBOUR: 'it returns false'. Refute it at one input. -/
def contingentBeatsConformantWrong : ChangeSpec := { name := "contingentBeatsConformant", fn := fun _ => fun
  | [d1, d2, d3] => { results := [.lit (.bool false)], args := [d1, d2, d3] }
  | _ => none }
def ContingentBeatsConformantWrongFalsely : Prop := contingentBeatsConformantRow.holds Tryz.pinned (OpenSpec.ofChange contingentBeatsConformantWrong)

/-- 'helmsmanlaw7.ContingentMatchesSpec': WHATEVER THE INPUT: true; the input reads as it did. -/
def contingentMatchesSpecSpec : ChangeSpec := { name := "contingentMatchesSpec", fn := fun _ => fun
  | [d1, d2, d3, d4] => { results := [.lit (.bool true)], args := [d1, d2, d3, d4] }
  | _ => none }
def contingentMatchesSpecRow : OpenClaim := { program := "ytojoehfldbimpaagreatdoor", sum := "5cc0667e851fe8ed90317b8eb883043c0b8f3324299aa3de80cf28be4c8f2b9d", func := "helmsman/helmsmanlaw7.ContingentMatchesSpec", spec := "contingentMatchesSpec", unfollowed := true, recurses := true, named := ["internal/strconv.uint64pow10", "math/bits.deBruijn32tab", "math/bits.deBruijn64tab"], apart := false, laid := [("math/bits.deBruijn32tab", laid_math_bits_deBruijn32tab), ("math/bits.deBruijn64tab", laid_math_bits_deBruijn64tab), ("internal/strconv.uint64pow10", laid_internal_strconv_uint64pow10)] }
def ContingentMatchesSpecSaid : Prop := contingentMatchesSpecRow.holds Tryz.pinned (OpenSpec.ofChange contingentMatchesSpecSpec)

/-- ITS FALSE NEIGHBOUR: 'it returns false'. Refute it at one input. -/
def contingentMatchesSpecWrong : ChangeSpec := { name := "contingentMatchesSpec", fn := fun _ => fun
  | [d1, d2, d3, d4] => { results := [.lit (.bool false)], args := [d1, d2, d3, d4] }
  | _ => none }
def ContingentMatchesSpecWrongFalsely : Prop := contingentMatchesSpecRow.holds Tryz.pinned (OpenSpec.ofChange contingentMatchesSpecWrong)

/-- 'helmsmanlaw7.ContingentCheckMatchesSpec': WHATEVER THE INPUT: true; the input reads as it did. -/
def contingentCheckMatchesSpecSpec : ChangeSpec := { name := "contingentCheckMatchesSpec", fn := fun _ => fun
  | [d1, d2, d3, d4] => { results := [.lit (.bool true)], args := [d1, d2, d3, d4] }
  | _ => none }
def contingentCheckMatchesSpecRow : OpenClaim := { program := "ytojoehfldbimpaagreatdoor", sum := "5cc0667e851fe8ed90317b8eb883043c0b8f3324299aa3de80cf28be4c8f2b9d", func := "helmsman/helmsmanlaw7.ContingentCheckMatchesSpec", spec := "contingentCheckMatchesSpec", unfollowed := true, recurses := true, named := ["internal/strconv.uint64pow10", "math/bits.deBruijn32tab", "math/bits.deBruijn64tab"], apart := false, laid := [("math/bits.deBruijn32tab", laid_math_bits_deBruijn32tab), ("math/bits.deBruijn64tab", laid_math_bits_deBruijn64tab), ("internal/strconv.uint64pow10", laid_internal_strconv_uint64pow10)] }
def ContingentCheckMatchesSpecSaid : Prop := contingentCheckMatchesSpecRow.holds Tryz.pinned (OpenSpec.ofChange contingentCheckMatchesSpecSpec)

/-- ITS FALSE NEIGHBOUR: 'it returns false'. Refute it at one input. -/
def contingentCheckMatchesSpecWrong : ChangeSpec := { name := "contingentCheckMatchesSpec", fn := fun _ => fun
  | [d1, d2, d3, d4] => { results := [.lit (.bool false)], args := [d1, d2, d3, d4] }
  | _ => none }
def ContingentCheckMatchesSpecWrongFalsely : Prop := contingentCheckMatchesSpecRow.holds Tryz.pinned (OpenSpec.ofChange contingentCheckMatchesSpecWrong)

/-- 'helmsmanlaw7.ContingentPlanChecks': WHATEVER THE INPUT: true; the input reads as it did. -/
def contingentPlanChecksSpec : ChangeSpec := { name := "contingentPlanChecks", fn := fun _ => fun
  | [d1, d2, d3, d4] => { results := [.lit (.bool true)], args := [d1, d2, d3, d4] }
  | _ => none }
def contingentPlanChecksRow : OpenClaim := { program := "ytojoehfldbimpaagreatdoor", sum := "5cc0667e851fe8ed90317b8eb883043c0b8f3324299aa3de80cf28be4c8f2b9d", func := "helmsman/helmsmanlaw7.ContingentPlanChecks", spec := "contingentPlanChecks", unfollowed := true, recurses := true, named := ["internal/strconv.uint64pow10", "math/bits.deBruijn32tab", "math/bits.deBruijn64tab"], apart := false, laid := [("math/bits.deBruijn32tab", laid_math_bits_deBruijn32tab), ("math/bits.deBruijn64tab", laid_math_bits_deBruijn64tab), ("internal/strconv.uint64pow10", laid_internal_strconv_uint64pow10)] }
def ContingentPlanChecksSaid : Prop := contingentPlanChecksRow.holds Tryz.pinned (OpenSpec.ofChange contingentPlanChecksSpec)

/-- ITS FALSE NEIGHBOUR: 'it returns false'. Refute it at one input. -/
def contingentPlanChecksWrong : ChangeSpec := { name := "contingentPlanChecks", fn := fun _ => fun
  | [d1, d2, d3, d4] => { results := [.lit (.bool false)], args := [d1, d2, d3, d4] }
  | _ => none }
def ContingentPlanChecksWrongFalsely : Prop := contingentPlanChecksRow.holds Tryz.pinned (OpenSpec.ofChange contingentPlanChecksWrong)

/-- 'helmsmanlaw7.ContingentLines': WHATEVER THE INPUT: true; the input reads as it did. -/
def contingentLinesSpec : ChangeSpec := { name := "contingentLines", fn := fun _ => fun
  | [d1, d2, d3] => { results := [.lit (.bool true)], args := [d1, d2, d3] }
  | _ => none }
def contingentLinesRow : OpenClaim := { program := "ytojoehfldbimpaagreatdoor", sum := "5cc0667e851fe8ed90317b8eb883043c0b8f3324299aa3de80cf28be4c8f2b9d", func := "helmsman/helmsmanlaw7.ContingentLines", spec := "contingentLines", unfollowed := true, recurses := true, named := ["internal/strconv.uint64pow10", "math/bits.deBruijn32tab", "math/bits.deBruijn64tab"], apart := false, laid := [("math/bits.deBruijn32tab", laid_math_bits_deBruijn32tab), ("math/bits.deBruijn64tab", laid_math_bits_deBruijn64tab), ("internal/strconv.uint64pow10", laid_internal_strconv_uint64pow10)] }
def ContingentLinesSaid : Prop := contingentLinesRow.holds Tryz.pinned (OpenSpec.ofChange contingentLinesSpec)

/-- ITS FALSE NEIGHBOUR: 'it returns false'. Refute it at one input. -/
def contingentLinesWrong : ChangeSpec := { name := "contingentLines", fn := fun _ => fun
  | [d1, d2, d3] => { results := [.lit (.bool false)], args := [d1, d2, d3] }
  | _ => none }
def ContingentLinesWrongFalsely : Prop := contingentLinesRow.holds Tryz.pinned (OpenSpec.ofChange contingentLinesWrong)

/- THE SECOND FORM. 'bulk': how many values and letters a reading holds, each counted each time it is reached (what is shared counts as often as it is met; a slice's spare places count too). A statement '..UptoSaid' is the law's where the arguments, and the package variables that the reading takes, are together of bulk at most 1048576: NARROWER than '..Said'. Prove '..Said' where nothing that the law and all that it calls make is longer than what came in: it says more and counts as full. Else prove '..UptoSaid'. A law counts once. -/
mutual
def uptoBulk {H : Type} : DataW H → Nat
  | .lit (.string bytes) => bytes.length + 1
  | .lit _ => 1
  | .nil => 1
  | .ptr d => uptoBulk d + 1
  | .slice elems spare => uptoBulkAll elems + uptoBulkAll spare + 1
  | .agg parts => uptoBulkAll parts + 1
  | .iface _ d => uptoBulk d + 1
  | .map entries => uptoBulkEntries entries + 1
  | .held _ => 1
def uptoBulkAll {H : Type} : List (DataW H) → Nat
  | [] => 0
  | d :: r => uptoBulk d + uptoBulkAll r
def uptoBulkEntries {H : Type} : List (Lit × DataW H) → Nat
  | [] => 0
  | x :: r => uptoBulkEntry x + uptoBulkEntries r
def uptoBulkEntry {H : Type} : Lit × DataW H → Nat
  | (.string bytes, d) => bytes.length + uptoBulk d + 1
  | (_, d) => uptoBulk d + 1
 end
def uptoSmall : (H : Type) → List (DataW H) → Bool := fun _ ds => decide (uptoBulkAll ds ≤ 1048576)
def OpenSpec.upto (s : _root_.Go.ChangeSpec) : _root_.Go.OpenSpec := { _root_.Go.OpenSpec.ofChange s with cond := some uptoSmall }

/-- 'helmsmanlaw7.BeliefPlanMatchesSpec', WHERE WHAT IT READS IS OF BULK AT MOST 1048576: true; the input reads as it did. -/
def beliefPlanMatchesSpecUptoRow : OpenClaim := { program := "ytojoehfldbimpaagreatdoor", sum := "5cc0667e851fe8ed90317b8eb883043c0b8f3324299aa3de80cf28be4c8f2b9d", func := "helmsman/helmsmanlaw7.BeliefPlanMatchesSpec", spec := "beliefPlanMatchesSpec", unfollowed := true, recurses := true, named := ["internal/strconv.uint64pow10", "math/bits.deBruijn32tab", "math/bits.deBruijn64tab"], apart := false, laid := [("math/bits.deBruijn32tab", laid_math_bits_deBruijn32tab), ("math/bits.deBruijn64tab", laid_math_bits_deBruijn64tab), ("internal/strconv.uint64pow10", laid_internal_strconv_uint64pow10)], narrowed := true }
def BeliefPlanMatchesSpecUptoSaid : Prop := beliefPlanMatchesSpecUptoRow.holds Tryz.pinned (OpenSpec.upto beliefPlanMatchesSpecSpec)

/-- 'helmsmanlaw7.BeliefMatchesSpec', WHERE WHAT IT READS IS OF BULK AT MOST 1048576: true; the input reads as it did. -/
def beliefMatchesSpecUptoRow : OpenClaim := { program := "ytojoehfldbimpaagreatdoor", sum := "5cc0667e851fe8ed90317b8eb883043c0b8f3324299aa3de80cf28be4c8f2b9d", func := "helmsman/helmsmanlaw7.BeliefMatchesSpec", spec := "beliefMatchesSpec", unfollowed := true, recurses := true, named := ["internal/strconv.uint64pow10", "math/bits.deBruijn32tab", "math/bits.deBruijn64tab"], apart := false, laid := [("math/bits.deBruijn32tab", laid_math_bits_deBruijn32tab), ("math/bits.deBruijn64tab", laid_math_bits_deBruijn64tab), ("internal/strconv.uint64pow10", laid_internal_strconv_uint64pow10)], narrowed := true }
def BeliefMatchesSpecUptoSaid : Prop := beliefMatchesSpecUptoRow.holds Tryz.pinned (OpenSpec.upto beliefMatchesSpecSpec)

/-- 'helmsmanlaw7.BeliefSolvesMatchesSpec', WHERE WHAT IT READS IS OF BULK AT MOST 1048576: true; the input reads as it did. -/
def beliefSolvesMatchesSpecUptoRow : OpenClaim := { program := "ytojoehfldbimpaagreatdoor", sum := "5cc0667e851fe8ed90317b8eb883043c0b8f3324299aa3de80cf28be4c8f2b9d", func := "helmsman/helmsmanlaw7.BeliefSolvesMatchesSpec", spec := "beliefSolvesMatchesSpec", unfollowed := true, recurses := true, named := ["internal/strconv.uint64pow10", "math/bits.deBruijn32tab", "math/bits.deBruijn64tab"], apart := false, laid := [("math/bits.deBruijn32tab", laid_math_bits_deBruijn32tab), ("math/bits.deBruijn64tab", laid_math_bits_deBruijn64tab), ("internal/strconv.uint64pow10", laid_internal_strconv_uint64pow10)], narrowed := true }
def BeliefSolvesMatchesSpecUptoSaid : Prop := beliefSolvesMatchesSpecUptoRow.holds Tryz.pinned (OpenSpec.upto beliefSolvesMatchesSpecSpec)

/-- 'helmsmanlaw7.ContingentPlanMatchesSpec', WHERE WHAT IT READS IS OF BULK AT MOST 1048576: true; the input reads as it did. -/
def contingentPlanMatchesSpecUptoRow : OpenClaim := { program := "ytojoehfldbimpaagreatdoor", sum := "5cc0667e851fe8ed90317b8eb883043c0b8f3324299aa3de80cf28be4c8f2b9d", func := "helmsman/helmsmanlaw7.ContingentPlanMatchesSpec", spec := "contingentPlanMatchesSpec", unfollowed := true, recurses := true, named := ["internal/strconv.uint64pow10", "math/bits.deBruijn32tab", "math/bits.deBruijn64tab"], apart := false, laid := [("math/bits.deBruijn32tab", laid_math_bits_deBruijn32tab), ("math/bits.deBruijn64tab", laid_math_bits_deBruijn64tab), ("internal/strconv.uint64pow10", laid_internal_strconv_uint64pow10)], narrowed := true }
def ContingentPlanMatchesSpecUptoSaid : Prop := contingentPlanMatchesSpecUptoRow.holds Tryz.pinned (OpenSpec.upto contingentPlanMatchesSpecSpec)

/-- 'helmsmanlaw7.ContingentBeatsConformant', WHERE WHAT IT READS IS OF BULK AT MOST 1048576: true; the input reads as it did. -/
def contingentBeatsConformantUptoRow : OpenClaim := { program := "ytojoehfldbimpaagreatdoor", sum := "5cc0667e851fe8ed90317b8eb883043c0b8f3324299aa3de80cf28be4c8f2b9d", func := "helmsman/helmsmanlaw7.ContingentBeatsConformant", spec := "contingentBeatsConformant", unfollowed := true, recurses := true, named := ["internal/strconv.uint64pow10", "math/bits.deBruijn32tab", "math/bits.deBruijn64tab"], apart := false, laid := [("math/bits.deBruijn32tab", laid_math_bits_deBruijn32tab), ("math/bits.deBruijn64tab", laid_math_bits_deBruijn64tab), ("internal/strconv.uint64pow10", laid_internal_strconv_uint64pow10)], narrowed := true }
def ContingentBeatsConformantUptoSaid : Prop := contingentBeatsConformantUptoRow.holds Tryz.pinned (OpenSpec.upto contingentBeatsConformantSpec)

/-- 'helmsmanlaw7.ContingentMatchesSpec', WHERE WHAT IT READS IS OF BULK AT MOST 1048576: true; the input reads as it did. -/
def contingentMatchesSpecUptoRow : OpenClaim := { program := "ytojoehfldbimpaagreatdoor", sum := "5cc0667e851fe8ed90317b8eb883043c0b8f3324299aa3de80cf28be4c8f2b9d", func := "helmsman/helmsmanlaw7.ContingentMatchesSpec", spec := "contingentMatchesSpec", unfollowed := true, recurses := true, named := ["internal/strconv.uint64pow10", "math/bits.deBruijn32tab", "math/bits.deBruijn64tab"], apart := false, laid := [("math/bits.deBruijn32tab", laid_math_bits_deBruijn32tab), ("math/bits.deBruijn64tab", laid_math_bits_deBruijn64tab), ("internal/strconv.uint64pow10", laid_internal_strconv_uint64pow10)], narrowed := true }
def ContingentMatchesSpecUptoSaid : Prop := contingentMatchesSpecUptoRow.holds Tryz.pinned (OpenSpec.upto contingentMatchesSpecSpec)

/-- 'helmsmanlaw7.ContingentCheckMatchesSpec', WHERE WHAT IT READS IS OF BULK AT MOST 1048576: true; the input reads as it did. -/
def contingentCheckMatchesSpecUptoRow : OpenClaim := { program := "ytojoehfldbimpaagreatdoor", sum := "5cc0667e851fe8ed90317b8eb883043c0b8f3324299aa3de80cf28be4c8f2b9d", func := "helmsman/helmsmanlaw7.ContingentCheckMatchesSpec", spec := "contingentCheckMatchesSpec", unfollowed := true, recurses := true, named := ["internal/strconv.uint64pow10", "math/bits.deBruijn32tab", "math/bits.deBruijn64tab"], apart := false, laid := [("math/bits.deBruijn32tab", laid_math_bits_deBruijn32tab), ("math/bits.deBruijn64tab", laid_math_bits_deBruijn64tab), ("internal/strconv.uint64pow10", laid_internal_strconv_uint64pow10)], narrowed := true }
def ContingentCheckMatchesSpecUptoSaid : Prop := contingentCheckMatchesSpecUptoRow.holds Tryz.pinned (OpenSpec.upto contingentCheckMatchesSpecSpec)

/-- 'helmsmanlaw7.ContingentPlanChecks', WHERE WHAT IT READS IS OF BULK AT MOST 1048576: true; the input reads as it did. -/
def contingentPlanChecksUptoRow : OpenClaim := { program := "ytojoehfldbimpaagreatdoor", sum := "5cc0667e851fe8ed90317b8eb883043c0b8f3324299aa3de80cf28be4c8f2b9d", func := "helmsman/helmsmanlaw7.ContingentPlanChecks", spec := "contingentPlanChecks", unfollowed := true, recurses := true, named := ["internal/strconv.uint64pow10", "math/bits.deBruijn32tab", "math/bits.deBruijn64tab"], apart := false, laid := [("math/bits.deBruijn32tab", laid_math_bits_deBruijn32tab), ("math/bits.deBruijn64tab", laid_math_bits_deBruijn64tab), ("internal/strconv.uint64pow10", laid_internal_strconv_uint64pow10)], narrowed := true }
def ContingentPlanChecksUptoSaid : Prop := contingentPlanChecksUptoRow.holds Tryz.pinned (OpenSpec.upto contingentPlanChecksSpec)

/-- 'helmsmanlaw7.ContingentLines', WHERE WHAT IT READS IS OF BULK AT MOST 1048576: true; the input reads as it did. -/
def contingentLinesUptoRow : OpenClaim := { program := "ytojoehfldbimpaagreatdoor", sum := "5cc0667e851fe8ed90317b8eb883043c0b8f3324299aa3de80cf28be4c8f2b9d", func := "helmsman/helmsmanlaw7.ContingentLines", spec := "contingentLines", unfollowed := true, recurses := true, named := ["internal/strconv.uint64pow10", "math/bits.deBruijn32tab", "math/bits.deBruijn64tab"], apart := false, laid := [("math/bits.deBruijn32tab", laid_math_bits_deBruijn32tab), ("math/bits.deBruijn64tab", laid_math_bits_deBruijn64tab), ("internal/strconv.uint64pow10", laid_internal_strconv_uint64pow10)], narrowed := true }
def ContingentLinesUptoSaid : Prop := contingentLinesUptoRow.holds Tryz.pinned (OpenSpec.upto contingentLinesSpec)

end Rows
end Go.Proofs.YtojoehfldbimpaaGreatDoor
