/-
  DERIVED. GIVEN WITH THE SEED: THE CARDS: each row of YtimillpakjgnoaaGreatDoorRows.lean that lists a variable, with what it lists TIED to the program's text (the seventh form; the later family's looks); each row that meets fmt, with fmt's text TOLD by the authors' own Lean function (tested against real Go, not proved from fmt's source: count such statements apart). THE CARD IS WHAT COUNTS. Prove the row's statement (the work); the ties are given (YtimillpakjgnoaaGreatDoorTie.lean); close each card by the builder's one call (the guide's Derived/Test/ToyasCard.lean, 'card_holds'). Laid BY PROGRAM, IN A SANDBOX (cutbox-door.mjs). By AI agents, Wed Nov 11 2026. No macro, syntax, notation, axiom, sorry.
-/
import Derived.Test.YtimillpakjgnoaaGreatDoorRows
import GoSem.ClaimSeven
namespace Go.Proofs.YtimillpakjgnoaaGreatDoor
namespace Rows

/-- THE TIED CARD OF 'helmsmantop.TopKnownBeliefs'. -/
def topKnownBeliefsCard : Claim7 := { stood := { row := topKnownBeliefsRow, standIns := [], harness := (true, "5af4a26995d0247dfa79dbfc7f881a36bc40ff4ed4f87e819e5922ec47f028bc"), looks := true }, kinds := [], alts := [], laidByText := true, laidKinds := [.data, .data, .data], laidTests := true, laidLooks := .later }
def TopKnownBeliefsCardSaid : Prop := Claim7.holds Tryz.pinned (.plain (OpenSpec.ofChange topKnownBeliefsSpec)) topKnownBeliefsCard

/-- THE TIED CARD OF 'helmsmantop.TopMonitorsFollowPlans'. -/
def topMonitorsFollowPlansCard : Claim7 := { stood := { row := topMonitorsFollowPlansRow, standIns := [], harness := (true, "5af4a26995d0247dfa79dbfc7f881a36bc40ff4ed4f87e819e5922ec47f028bc"), looks := true }, kinds := [], alts := [], laidByText := true, laidKinds := [.data, .data, .data], laidTests := true, laidLooks := .later }
def TopMonitorsFollowPlansCardSaid : Prop := Claim7.holds Tryz.pinned (.plain (OpenSpec.ofChange topMonitorsFollowPlansSpec)) topMonitorsFollowPlansCard

/-- THE SECOND FORM's CARD OF 'helmsmantop.TopKnownBeliefs'. -/
def topKnownBeliefsUptoCard : Claim7 := { stood := { row := topKnownBeliefsUptoRow, standIns := [], harness := (true, "5af4a26995d0247dfa79dbfc7f881a36bc40ff4ed4f87e819e5922ec47f028bc"), looks := true }, kinds := [], alts := [], laidByText := true, laidKinds := [.data, .data, .data], laidTests := true, laidLooks := .later }
def TopKnownBeliefsUptoCardSaid : Prop := Claim7.holds Tryz.pinned (.plain (OpenSpec.upto topKnownBeliefsSpec)) topKnownBeliefsUptoCard

/-- THE SECOND FORM's CARD OF 'helmsmantop.TopMonitorsFollowPlans'. -/
def topMonitorsFollowPlansUptoCard : Claim7 := { stood := { row := topMonitorsFollowPlansUptoRow, standIns := [], harness := (true, "5af4a26995d0247dfa79dbfc7f881a36bc40ff4ed4f87e819e5922ec47f028bc"), looks := true }, kinds := [], alts := [], laidByText := true, laidKinds := [.data, .data, .data], laidTests := true, laidLooks := .later }
def TopMonitorsFollowPlansUptoCardSaid : Prop := Claim7.holds Tryz.pinned (.plain (OpenSpec.upto topMonitorsFollowPlansSpec)) topMonitorsFollowPlansUptoCard
end Rows
end Go.Proofs.YtimillpakjgnoaaGreatDoor
