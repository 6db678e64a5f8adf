/- Contracts and plain lemmas of our own, merged. -/
import Derived.Test.YthlnndjkocnfcaaGreatDoorZZDS5
import Derived.OrdersHeld

