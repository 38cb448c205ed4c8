/- What each function asks and gives, proved. No condition. -/
import Derived.Test.YtihbfbofbdkmbaaSx
import Derived.Test.YtihbfbofbdkmbaaOk14
