/- All functions of this text. -/
import Derived.Test.YtlmibfohllgmeaaCode3
