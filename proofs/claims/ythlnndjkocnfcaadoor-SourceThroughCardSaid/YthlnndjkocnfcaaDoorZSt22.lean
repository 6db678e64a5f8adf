/- Contracts and plain lemmas of our own, merged. -/
import Derived.Test.YthlnndjkocnfcaaDoorZSt5
import Derived.OrdersHeld

