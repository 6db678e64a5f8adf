/- Contracts and plain lemmas of our own, merged. -/
import Derived.Test.YtgebcifkbldfoaaDoorZHP5
import Derived.OrdersHeld

