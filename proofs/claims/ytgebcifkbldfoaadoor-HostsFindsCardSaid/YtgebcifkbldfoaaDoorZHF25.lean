/- Contracts and plain lemmas of our own, merged. -/
import Derived.Test.YtgebcifkbldfoaaDoorZHF5
import Derived.OrdersHeld

