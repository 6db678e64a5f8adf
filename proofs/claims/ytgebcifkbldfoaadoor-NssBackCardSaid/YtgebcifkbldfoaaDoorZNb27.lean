/- Contracts and plain lemmas of our own, merged. -/
import Derived.Test.YtgebcifkbldfoaaDoorZNb10
import Derived.Test.YtgebcifkbldfoaaDoorZNb26
import Derived.Test.YtgebcifkbldfoaaDoorZNb9

