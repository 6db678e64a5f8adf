/- Contracts and plain lemmas of our own, merged. -/
import Derived.Test.YtgebcifkbldfoaaDoorZNb22
import Derived.RangeFuncCalls
import Derived.TacticsIn
import Derived.Tactics

