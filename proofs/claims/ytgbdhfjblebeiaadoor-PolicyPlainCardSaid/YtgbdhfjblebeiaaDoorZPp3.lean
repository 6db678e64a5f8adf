/- Contracts and plain lemmas of our own, merged. -/
import Derived.Test.YtgbdhfjblebeiaaDoorZPp2
import Derived.SizedLaws

