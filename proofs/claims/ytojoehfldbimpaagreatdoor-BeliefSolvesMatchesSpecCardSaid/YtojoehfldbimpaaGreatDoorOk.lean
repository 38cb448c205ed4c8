/- All plain facts. No condition. -/
import Derived.Test.YtojoehfldbimpaaGreatDoorK7
import Derived.Test.YtojoehfldbimpaaGreatDoorK8
import Derived.Test.YtojoehfldbimpaaGreatDoorSx

