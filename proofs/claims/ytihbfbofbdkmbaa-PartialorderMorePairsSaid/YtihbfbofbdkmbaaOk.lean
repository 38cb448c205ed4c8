/- What each function asks and gives, proved. No condition. -/
import Derived.Test.YtihbfbofbdkmbaaOk11
