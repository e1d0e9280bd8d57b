/- All functions of this text. -/
import Derived.Test.YtcjpochjapnoaaaGreatCode5
