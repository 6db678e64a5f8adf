/- Contracts and plain lemmas of our own, merged. -/
import Derived.Test.YtgebcifkbldfoaaDoorZSL28
import Derived.Test.YtgebcifkbldfoaaDoorZSL9
import Derived.OrdersIn

