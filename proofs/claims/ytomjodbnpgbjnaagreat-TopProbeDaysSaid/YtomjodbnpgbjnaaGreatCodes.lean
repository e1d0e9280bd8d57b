/- All functions of this text. -/
import Derived.Test.YtomjodbnpgbjnaaGreatCode4
