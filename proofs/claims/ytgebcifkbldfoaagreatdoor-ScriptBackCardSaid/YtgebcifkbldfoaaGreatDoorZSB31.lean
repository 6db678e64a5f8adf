/- Contracts and plain lemmas of our own, merged. -/
import Derived.Test.YtgebcifkbldfoaaGreatDoorZSB10
import Derived.Test.YtgebcifkbldfoaaGreatDoorZSB12
import Derived.Test.YtgebcifkbldfoaaGreatDoorShelf
import Derived.Lib.AsciiSet

