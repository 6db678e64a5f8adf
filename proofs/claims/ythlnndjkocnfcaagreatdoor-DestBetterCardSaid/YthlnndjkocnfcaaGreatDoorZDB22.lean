/- Contracts and plain lemmas of our own, merged. -/
import Derived.Test.YthlnndjkocnfcaaGreatDoorZDB5
import Derived.OrdersHeld

