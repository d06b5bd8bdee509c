/- The functions, in parts. -/
import Derived.Test.YtfniiaghlkacaaaGreatT20a
import Derived.Test.YtfniiaghlkacaaaGreatT20b
