/- Contracts and plain lemmas of our own, merged. -/
import Derived.Test.YtgbdhfjblebeiaaDoorZAG5
import Derived.OrdersHeld

