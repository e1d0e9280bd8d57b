/- All functions of this text. -/
import Derived.Test.YtkfdjkkbnfohjaaGreatCode3
