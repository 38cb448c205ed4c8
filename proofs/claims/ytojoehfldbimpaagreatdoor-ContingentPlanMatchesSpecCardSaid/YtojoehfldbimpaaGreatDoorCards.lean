/-
  DERIVED. GIVEN WITH THE SEED: THE CARDS: each row of YtojoehfldbimpaaGreatDoorRows.lean that lists a variable, with what it lists TIED to the program's text (the seventh form; the later family's looks); each row that meets fmt, with fmt's text TOLD by the authors' own Lean function (tested against real Go, not proved from fmt's source: count such statements apart). THE CARD IS WHAT COUNTS. Prove the row's statement (the work); the ties are given (YtojoehfldbimpaaGreatDoorTie.lean); close each card by the builder's one call (the guide's Derived/Test/ToyasCard.lean, 'card_holds'). Laid BY PROGRAM, IN A SANDBOX (cutbox-door.mjs). By AI agents, Wed Nov 11 2026. No macro, syntax, notation, axiom, sorry.
-/
import Derived.Test.YtojoehfldbimpaaGreatDoorRows
import GoSem.ClaimSeven
namespace Go.Proofs.YtojoehfldbimpaaGreatDoor
namespace Rows

/-- THE TIED CARD OF 'helmsmanlaw7.BeliefPlanMatchesSpec'. -/
def beliefPlanMatchesSpecCard : Claim7 := { stood := { row := beliefPlanMatchesSpecRow, standIns := [], harness := (true, "aef37adf49b56e675ecc0032e52e0883c904421ff27786cc46e64763447887cf"), looks := false }, kinds := [], alts := [], laidByText := true, laidKinds := [.data, .data, .data], laidTests := true, laidLooks := .later }
def BeliefPlanMatchesSpecCardSaid : Prop := Claim7.holds Tryz.pinned (.plain (OpenSpec.ofChange beliefPlanMatchesSpecSpec)) beliefPlanMatchesSpecCard

/-- THE TIED CARD OF 'helmsmanlaw7.BeliefMatchesSpec'. -/
def beliefMatchesSpecCard : Claim7 := { stood := { row := beliefMatchesSpecRow, standIns := [], harness := (true, "aef37adf49b56e675ecc0032e52e0883c904421ff27786cc46e64763447887cf"), looks := false }, kinds := [], alts := [], laidByText := true, laidKinds := [.data, .data, .data], laidTests := true, laidLooks := .later }
def BeliefMatchesSpecCardSaid : Prop := Claim7.holds Tryz.pinned (.plain (OpenSpec.ofChange beliefMatchesSpecSpec)) beliefMatchesSpecCard

/-- THE TIED CARD OF 'helmsmanlaw7.BeliefSolvesMatchesSpec'. -/
def beliefSolvesMatchesSpecCard : Claim7 := { stood := { row := beliefSolvesMatchesSpecRow, standIns := [], harness := (true, "aef37adf49b56e675ecc0032e52e0883c904421ff27786cc46e64763447887cf"), looks := false }, kinds := [], alts := [], laidByText := true, laidKinds := [.data, .data, .data], laidTests := true, laidLooks := .later }
def BeliefSolvesMatchesSpecCardSaid : Prop := Claim7.holds Tryz.pinned (.plain (OpenSpec.ofChange beliefSolvesMatchesSpecSpec)) beliefSolvesMatchesSpecCard

/-- THE TIED CARD OF 'helmsmanlaw7.ContingentPlanMatchesSpec'. -/
def contingentPlanMatchesSpecCard : Claim7 := { stood := { row := contingentPlanMatchesSpecRow, standIns := [], harness := (true, "aef37adf49b56e675ecc0032e52e0883c904421ff27786cc46e64763447887cf"), looks := false }, kinds := [], alts := [], laidByText := true, laidKinds := [.data, .data, .data], laidTests := true, laidLooks := .later }
def ContingentPlanMatchesSpecCardSaid : Prop := Claim7.holds Tryz.pinned (.plain (OpenSpec.ofChange contingentPlanMatchesSpecSpec)) contingentPlanMatchesSpecCard

/-- THE TIED CARD OF 'helmsmanlaw7.ContingentBeatsConformant'. -/
def contingentBeatsConformantCard : Claim7 := { stood := { row := contingentBeatsConformantRow, standIns := [], harness := (true, "aef37adf49b56e675ecc0032e52e0883c904421ff27786cc46e64763447887cf"), looks := false }, kinds := [], alts := [], laidByText := true, laidKinds := [.data, .data, .data], laidTests := true, laidLooks := .later }
def ContingentBeatsConformantCardSaid : Prop := Claim7.holds Tryz.pinned (.plain (OpenSpec.ofChange contingentBeatsConformantSpec)) contingentBeatsConformantCard

/-- THE TIED CARD OF 'helmsmanlaw7.ContingentMatchesSpec'. -/
def contingentMatchesSpecCard : Claim7 := { stood := { row := contingentMatchesSpecRow, standIns := [], harness := (true, "aef37adf49b56e675ecc0032e52e0883c904421ff27786cc46e64763447887cf"), looks := false }, kinds := [], alts := [], laidByText := true, laidKinds := [.data, .data, .data], laidTests := true, laidLooks := .later }
def ContingentMatchesSpecCardSaid : Prop := Claim7.holds Tryz.pinned (.plain (OpenSpec.ofChange contingentMatchesSpecSpec)) contingentMatchesSpecCard

/-- THE TIED CARD OF 'helmsmanlaw7.ContingentCheckMatchesSpec'. -/
def contingentCheckMatchesSpecCard : Claim7 := { stood := { row := contingentCheckMatchesSpecRow, standIns := [], harness := (true, "aef37adf49b56e675ecc0032e52e0883c904421ff27786cc46e64763447887cf"), looks := false }, kinds := [], alts := [], laidByText := true, laidKinds := [.data, .data, .data], laidTests := true, laidLooks := .later }
def ContingentCheckMatchesSpecCardSaid : Prop := Claim7.holds Tryz.pinned (.plain (OpenSpec.ofChange contingentCheckMatchesSpecSpec)) contingentCheckMatchesSpecCard

/-- THE TIED CARD OF 'helmsmanlaw7.ContingentPlanChecks'. -/
def contingentPlanChecksCard : Claim7 := { stood := { row := contingentPlanChecksRow, standIns := [], harness := (true, "aef37adf49b56e675ecc0032e52e0883c904421ff27786cc46e64763447887cf"), looks := false }, kinds := [], alts := [], laidByText := true, laidKinds := [.data, .data, .data], laidTests := true, laidLooks := .later }
def ContingentPlanChecksCardSaid : Prop := Claim7.holds Tryz.pinned (.plain (OpenSpec.ofChange contingentPlanChecksSpec)) contingentPlanChecksCard

/-- THE TIED CARD OF 'helmsmanlaw7.ContingentLines'. -/
def contingentLinesCard : Claim7 := { stood := { row := contingentLinesRow, standIns := [], harness := (true, "aef37adf49b56e675ecc0032e52e0883c904421ff27786cc46e64763447887cf"), looks := false }, kinds := [], alts := [], laidByText := true, laidKinds := [.data, .data, .data], laidTests := true, laidLooks := .later }
def ContingentLinesCardSaid : Prop := Claim7.holds Tryz.pinned (.plain (OpenSpec.ofChange contingentLinesSpec)) contingentLinesCard

/-- THE SECOND FORM's CARD OF 'helmsmanlaw7.BeliefPlanMatchesSpec'. -/
def beliefPlanMatchesSpecUptoCard : Claim7 := { stood := { row := beliefPlanMatchesSpecUptoRow, standIns := [], harness := (true, "aef37adf49b56e675ecc0032e52e0883c904421ff27786cc46e64763447887cf"), looks := false }, kinds := [], alts := [], laidByText := true, laidKinds := [.data, .data, .data], laidTests := true, laidLooks := .later }
def BeliefPlanMatchesSpecUptoCardSaid : Prop := Claim7.holds Tryz.pinned (.plain (OpenSpec.upto beliefPlanMatchesSpecSpec)) beliefPlanMatchesSpecUptoCard

/-- THE SECOND FORM's CARD OF 'helmsmanlaw7.BeliefMatchesSpec'. -/
def beliefMatchesSpecUptoCard : Claim7 := { stood := { row := beliefMatchesSpecUptoRow, standIns := [], harness := (true, "aef37adf49b56e675ecc0032e52e0883c904421ff27786cc46e64763447887cf"), looks := false }, kinds := [], alts := [], laidByText := true, laidKinds := [.data, .data, .data], laidTests := true, laidLooks := .later }
def BeliefMatchesSpecUptoCardSaid : Prop := Claim7.holds Tryz.pinned (.plain (OpenSpec.upto beliefMatchesSpecSpec)) beliefMatchesSpecUptoCard

/-- THE SECOND FORM's CARD OF 'helmsmanlaw7.BeliefSolvesMatchesSpec'. -/
def beliefSolvesMatchesSpecUptoCard : Claim7 := { stood := { row := beliefSolvesMatchesSpecUptoRow, standIns := [], harness := (true, "aef37adf49b56e675ecc0032e52e0883c904421ff27786cc46e64763447887cf"), looks := false }, kinds := [], alts := [], laidByText := true, laidKinds := [.data, .data, .data], laidTests := true, laidLooks := .later }
def BeliefSolvesMatchesSpecUptoCardSaid : Prop := Claim7.holds Tryz.pinned (.plain (OpenSpec.upto beliefSolvesMatchesSpecSpec)) beliefSolvesMatchesSpecUptoCard

/-- THE SECOND FORM's CARD OF 'helmsmanlaw7.ContingentPlanMatchesSpec'. -/
def contingentPlanMatchesSpecUptoCard : Claim7 := { stood := { row := contingentPlanMatchesSpecUptoRow, standIns := [], harness := (true, "aef37adf49b56e675ecc0032e52e0883c904421ff27786cc46e64763447887cf"), looks := false }, kinds := [], alts := [], laidByText := true, laidKinds := [.data, .data, .data], laidTests := true, laidLooks := .later }
def ContingentPlanMatchesSpecUptoCardSaid : Prop := Claim7.holds Tryz.pinned (.plain (OpenSpec.upto contingentPlanMatchesSpecSpec)) contingentPlanMatchesSpecUptoCard

/-- THE SECOND FORM's CARD OF 'helmsmanlaw7.ContingentBeatsConformant'. -/
def contingentBeatsConformantUptoCard : Claim7 := { stood := { row := contingentBeatsConformantUptoRow, standIns := [], harness := (true, "aef37adf49b56e675ecc0032e52e0883c904421ff27786cc46e64763447887cf"), looks := false }, kinds := [], alts := [], laidByText := true, laidKinds := [.data, .data, .data], laidTests := true, laidLooks := .later }
def ContingentBeatsConformantUptoCardSaid : Prop := Claim7.holds Tryz.pinned (.plain (OpenSpec.upto contingentBeatsConformantSpec)) contingentBeatsConformantUptoCard

/-- THE SECOND FORM's CARD OF 'helmsmanlaw7.ContingentMatchesSpec'. -/
def contingentMatchesSpecUptoCard : Claim7 := { stood := { row := contingentMatchesSpecUptoRow, standIns := [], harness := (true, "aef37adf49b56e675ecc0032e52e0883c904421ff27786cc46e64763447887cf"), looks := false }, kinds := [], alts := [], laidByText := true, laidKinds := [.data, .data, .data], laidTests := true, laidLooks := .later }
def ContingentMatchesSpecUptoCardSaid : Prop := Claim7.holds Tryz.pinned (.plain (OpenSpec.upto contingentMatchesSpecSpec)) contingentMatchesSpecUptoCard

/-- THE SECOND FORM's CARD OF 'helmsmanlaw7.ContingentCheckMatchesSpec'. -/
def contingentCheckMatchesSpecUptoCard : Claim7 := { stood := { row := contingentCheckMatchesSpecUptoRow, standIns := [], harness := (true, "aef37adf49b56e675ecc0032e52e0883c904421ff27786cc46e64763447887cf"), looks := false }, kinds := [], alts := [], laidByText := true, laidKinds := [.data, .data, .data], laidTests := true, laidLooks := .later }
def ContingentCheckMatchesSpecUptoCardSaid : Prop := Claim7.holds Tryz.pinned (.plain (OpenSpec.upto contingentCheckMatchesSpecSpec)) contingentCheckMatchesSpecUptoCard

/-- THE SECOND FORM's CARD OF 'helmsmanlaw7.ContingentPlanChecks'. -/
def contingentPlanChecksUptoCard : Claim7 := { stood := { row := contingentPlanChecksUptoRow, standIns := [], harness := (true, "aef37adf49b56e675ecc0032e52e0883c904421ff27786cc46e64763447887cf"), looks := false }, kinds := [], alts := [], laidByText := true, laidKinds := [.data, .data, .data], laidTests := true, laidLooks := .later }
def ContingentPlanChecksUptoCardSaid : Prop := Claim7.holds Tryz.pinned (.plain (OpenSpec.upto contingentPlanChecksSpec)) contingentPlanChecksUptoCard

/-- THE SECOND FORM's CARD OF 'helmsmanlaw7.ContingentLines'. -/
def contingentLinesUptoCard : Claim7 := { stood := { row := contingentLinesUptoRow, standIns := [], harness := (true, "aef37adf49b56e675ecc0032e52e0883c904421ff27786cc46e64763447887cf"), looks := false }, kinds := [], alts := [], laidByText := true, laidKinds := [.data, .data, .data], laidTests := true, laidLooks := .later }
def ContingentLinesUptoCardSaid : Prop := Claim7.holds Tryz.pinned (.plain (OpenSpec.upto contingentLinesSpec)) contingentLinesUptoCard
end Rows
end Go.Proofs.YtojoehfldbimpaaGreatDoor
