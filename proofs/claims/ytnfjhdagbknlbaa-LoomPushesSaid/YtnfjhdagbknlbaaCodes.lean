/- All functions of this text. -/
import Derived.Test.YtnfjhdagbknlbaaCode7
