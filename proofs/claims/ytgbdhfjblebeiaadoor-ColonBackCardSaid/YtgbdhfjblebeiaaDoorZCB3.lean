/- Contracts and plain lemmas of our own, merged. -/
import Derived.Test.YtgbdhfjblebeiaaDoorZCB2
import Derived.SizedLaws

