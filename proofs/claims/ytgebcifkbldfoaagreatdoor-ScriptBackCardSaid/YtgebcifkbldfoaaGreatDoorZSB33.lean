/- Contracts and plain lemmas of our own, merged. -/
import Derived.Test.YtgebcifkbldfoaaGreatDoorZSB28
import Derived.Test.YtgebcifkbldfoaaGreatDoorZSB9
import Derived.OrdersIn

