/- All functions of this text. -/
import Derived.Test.YtpiaipiehjcflaaCode7
