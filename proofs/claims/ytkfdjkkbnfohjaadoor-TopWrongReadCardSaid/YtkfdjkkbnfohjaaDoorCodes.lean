/- All functions of this text. -/
import Derived.Test.YtkfdjkkbnfohjaaDoorCode2
