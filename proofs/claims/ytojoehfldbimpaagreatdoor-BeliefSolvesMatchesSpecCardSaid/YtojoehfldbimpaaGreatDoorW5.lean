/- The walks: from what each function asks to what it does; printed from the code. No condition. -/
import Derived.Test.YtojoehfldbimpaaGreatDoorW4
namespace Go.Proofs.YtojoehfldbimpaaGreatDoor.Pl
open Go Go.RowKit
end Go.Proofs.YtojoehfldbimpaaGreatDoor.Pl

