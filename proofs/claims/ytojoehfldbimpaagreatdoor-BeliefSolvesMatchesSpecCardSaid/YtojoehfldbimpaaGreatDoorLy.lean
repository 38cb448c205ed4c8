/- The library's contract on strconv.AppendInt at base 10, laid at this program. No condition. -/
import Derived.Test.YtojoehfldbimpaaGreatDoorPl11
import Derived.Shelf.Lay
import Derived.Ground.NamesProg
import Derived.Test.YtojoehfldbimpaaGreatDoorChecked
namespace Go.Proofs
open Go.Shelf
shelf_lay LaysM.n176 Nm 176 at Tryz as YtojoehfldbimpaaGreatDoor.lays176
end Go.Proofs

