/- Contracts and plain lemmas of our own, merged. -/
import Derived.Test.YtebfgaapcpehmaaZPT1
import Derived.Test.YtebfgaapcpehmaaProg

