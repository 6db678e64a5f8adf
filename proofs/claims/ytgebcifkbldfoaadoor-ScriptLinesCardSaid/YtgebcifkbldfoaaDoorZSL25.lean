/- Contracts and plain lemmas of our own, merged. -/
import Derived.Test.YtgebcifkbldfoaaDoorZSL10
import Derived.Test.YtgebcifkbldfoaaDoorZSL24
import Derived.Test.YtgebcifkbldfoaaDoorZSL9

