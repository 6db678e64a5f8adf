/- Contracts and plain lemmas of our own, merged. -/
import Derived.Test.YtgebcifkbldfoaaDoorZHJ10
import Derived.Test.YtgebcifkbldfoaaDoorZHJ24
import Derived.Test.YtgebcifkbldfoaaDoorZHJ9

