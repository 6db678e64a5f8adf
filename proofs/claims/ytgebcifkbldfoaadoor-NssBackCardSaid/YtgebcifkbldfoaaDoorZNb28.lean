/- Contracts and plain lemmas of our own, merged. -/
import Derived.Test.YtgebcifkbldfoaaDoorZNb11
import Derived.Test.YtgebcifkbldfoaaDoorZNb14
import Derived.Test.YtgebcifkbldfoaaDoorZNb21
import Derived.Test.YtgebcifkbldfoaaDoorZNb27

