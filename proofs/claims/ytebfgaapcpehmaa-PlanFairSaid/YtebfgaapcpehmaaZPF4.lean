/- Contracts and plain lemmas of our own, merged. -/
import Derived.Test.YtebfgaapcpehmaaZPF1
import Derived.Test.YtebfgaapcpehmaaProg

