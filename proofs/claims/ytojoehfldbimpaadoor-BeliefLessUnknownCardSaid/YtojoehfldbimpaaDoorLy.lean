/- The library's contract on strconv.AppendInt at base 10, laid at this program. No condition. -/
import Derived.Test.YtojoehfldbimpaaDoorPl11
import Derived.Shelf.Lay
import Derived.Ground.NamesProg
import Derived.Test.YtojoehfldbimpaaDoorChecked
namespace Go.Proofs
open Go.Shelf
shelf_lay LaysM.n176 Nm 176 at Tryd as YtojoehfldbimpaaDoor.lays176
end Go.Proofs
