/- Contracts and plain lemmas of our own, merged. -/
import Derived.Test.YtgebcifkbldfoaaGreatDoorZSB11
import Derived.Test.YtgebcifkbldfoaaGreatDoorZSB21
import Derived.Test.YtgebcifkbldfoaaGreatDoorZSB22

