/- All functions of this text. -/
import Derived.Test.YtdkgoipaohacgaaCode5
