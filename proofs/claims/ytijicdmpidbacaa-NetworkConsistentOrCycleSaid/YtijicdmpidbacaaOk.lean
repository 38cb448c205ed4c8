/- All plain laws together. No condition. -/
import Derived.Test.YtijicdmpidbacaaOk0
import Derived.Test.YtijicdmpidbacaaOk18
