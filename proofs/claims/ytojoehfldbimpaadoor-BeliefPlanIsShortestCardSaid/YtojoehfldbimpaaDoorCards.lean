/-
  DERIVED. GIVEN WITH THE SEED: THE CARDS: each row of YtojoehfldbimpaaDoorRows.lean that lists a variable, with what it lists TIED to the program's text (the seventh form; the later family's looks); each row that meets fmt, with fmt's text TOLD by the authors' own Lean function (tested against real Go, not proved from fmt's source: count such statements apart). THE CARD IS WHAT COUNTS. Prove the row's statement (the work); the ties are given (YtojoehfldbimpaaDoorTie.lean); close each card by the builder's one call (the guide's Derived/Test/ToyasCard.lean, 'card_holds'). Laid BY PROGRAM, IN A SANDBOX (cutbox-door.mjs). By AI agents, Wed Nov 11 2026. No macro, syntax, notation, axiom, sorry.
-/
import Derived.Test.YtojoehfldbimpaaDoorRows
import GoSem.ClaimSeven
namespace Go.Proofs.YtojoehfldbimpaaDoor
namespace Rows

/-- THE TIED CARD OF 'helmsmanlaw7.BeliefLessUnknown'. -/
def beliefLessUnknownCard : Claim7 := { stood := { row := beliefLessUnknownRow, standIns := [], harness := (true, "f15ec99346f57f862d410a401215f3fe5bdba51c613cdf8f248dad9548152ea7"), looks := false }, kinds := [], alts := [], laidByText := true, laidKinds := [.data, .data, .data], laidTests := true, laidLooks := .later }
def BeliefLessUnknownCardSaid : Prop := Claim7.holds Tryd.pinned (.plain (OpenSpec.ofChange beliefLessUnknownSpec)) beliefLessUnknownCard

/-- THE TIED CARD OF 'helmsmanlaw7.BeliefPlanIsShortest'. -/
def beliefPlanIsShortestCard : Claim7 := { stood := { row := beliefPlanIsShortestRow, standIns := [], harness := (true, "f15ec99346f57f862d410a401215f3fe5bdba51c613cdf8f248dad9548152ea7"), looks := false }, kinds := [], alts := [], laidByText := true, laidKinds := [.data, .data, .data], laidTests := true, laidLooks := .later }
def BeliefPlanIsShortestCardSaid : Prop := Claim7.holds Tryd.pinned (.plain (OpenSpec.ofChange beliefPlanIsShortestSpec)) beliefPlanIsShortestCard

/-- THE TIED CARD OF 'helmsmanlaw7.BeliefKnown'. -/
def beliefKnownCard : Claim7 := { stood := { row := beliefKnownRow, standIns := [], harness := (true, "f15ec99346f57f862d410a401215f3fe5bdba51c613cdf8f248dad9548152ea7"), looks := false }, kinds := [], alts := [], laidByText := true, laidKinds := [.data, .data, .data], laidTests := true, laidLooks := .later }
def BeliefKnownCardSaid : Prop := Claim7.holds Tryd.pinned (.plain (OpenSpec.ofChange beliefKnownSpec)) beliefKnownCard

/-- THE SECOND FORM's CARD OF 'helmsmanlaw7.BeliefLessUnknown'. -/
def beliefLessUnknownUptoCard : Claim7 := { stood := { row := beliefLessUnknownUptoRow, standIns := [], harness := (true, "f15ec99346f57f862d410a401215f3fe5bdba51c613cdf8f248dad9548152ea7"), looks := false }, kinds := [], alts := [], laidByText := true, laidKinds := [.data, .data, .data], laidTests := true, laidLooks := .later }
def BeliefLessUnknownUptoCardSaid : Prop := Claim7.holds Tryd.pinned (.plain (OpenSpec.upto beliefLessUnknownSpec)) beliefLessUnknownUptoCard

/-- THE SECOND FORM's CARD OF 'helmsmanlaw7.BeliefPlanIsShortest'. -/
def beliefPlanIsShortestUptoCard : Claim7 := { stood := { row := beliefPlanIsShortestUptoRow, standIns := [], harness := (true, "f15ec99346f57f862d410a401215f3fe5bdba51c613cdf8f248dad9548152ea7"), looks := false }, kinds := [], alts := [], laidByText := true, laidKinds := [.data, .data, .data], laidTests := true, laidLooks := .later }
def BeliefPlanIsShortestUptoCardSaid : Prop := Claim7.holds Tryd.pinned (.plain (OpenSpec.upto beliefPlanIsShortestSpec)) beliefPlanIsShortestUptoCard

/-- THE SECOND FORM's CARD OF 'helmsmanlaw7.BeliefKnown'. -/
def beliefKnownUptoCard : Claim7 := { stood := { row := beliefKnownUptoRow, standIns := [], harness := (true, "f15ec99346f57f862d410a401215f3fe5bdba51c613cdf8f248dad9548152ea7"), looks := false }, kinds := [], alts := [], laidByText := true, laidKinds := [.data, .data, .data], laidTests := true, laidLooks := .later }
def BeliefKnownUptoCardSaid : Prop := Claim7.holds Tryd.pinned (.plain (OpenSpec.upto beliefKnownSpec)) beliefKnownUptoCard
end Rows
end Go.Proofs.YtojoehfldbimpaaDoor
