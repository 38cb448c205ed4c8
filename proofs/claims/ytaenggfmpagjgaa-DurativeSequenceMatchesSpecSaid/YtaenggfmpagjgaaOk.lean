/- What each function asks and gives, proved. No condition. -/
import Derived.Test.YtaenggfmpagjgaaSx
import Derived.Test.YtaenggfmpagjgaaD9
