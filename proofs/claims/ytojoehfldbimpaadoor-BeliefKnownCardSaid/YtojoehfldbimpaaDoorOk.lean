/- All plain facts. No condition. -/
import Derived.Test.YtojoehfldbimpaaDoorK9
import Derived.Test.YtojoehfldbimpaaDoorK8
import Derived.Test.YtojoehfldbimpaaDoorSx
