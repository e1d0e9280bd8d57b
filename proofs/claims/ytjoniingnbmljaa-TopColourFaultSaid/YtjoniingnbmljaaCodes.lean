/- All functions of this text. -/
import Derived.Test.YtjoniingnbmljaaCode4
