/- Plans performed by the program; pairs of steps that interfere; two laws. Plain Lean. No condition. -/
import Derived.Test.YtojoehfldbimpaaGreatDoorB5
namespace Go.Proofs.YtojoehfldbimpaaGreatDoor.Pl
open Go Go.RowKit
end Go.Proofs.YtojoehfldbimpaaGreatDoor.Pl

