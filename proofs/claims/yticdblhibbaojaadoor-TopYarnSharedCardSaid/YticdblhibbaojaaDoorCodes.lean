/- All functions of this text. -/
import Derived.Test.YticdblhibbaojaaDoorCode3
