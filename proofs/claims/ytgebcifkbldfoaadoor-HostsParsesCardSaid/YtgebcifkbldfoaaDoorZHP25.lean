/- Contracts and plain lemmas of our own, merged. -/
import Derived.Test.YtgebcifkbldfoaaDoorZHP10
import Derived.Test.YtgebcifkbldfoaaDoorZHP24
import Derived.Test.YtgebcifkbldfoaaDoorZHP9

