/- Contracts and plain lemmas of our own, merged. -/
import Derived.Test.YtgebcifkbldfoaaDoorZSL10
import Derived.Test.YtgebcifkbldfoaaDoorZSL12
import Derived.Test.YtgebcifkbldfoaaDoorShelf
import Derived.Lib.AsciiSet

