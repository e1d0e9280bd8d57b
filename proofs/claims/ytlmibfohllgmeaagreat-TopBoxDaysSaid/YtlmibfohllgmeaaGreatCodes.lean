/- All functions of this text. -/
import Derived.Test.YtlmibfohllgmeaaGreatCode3
