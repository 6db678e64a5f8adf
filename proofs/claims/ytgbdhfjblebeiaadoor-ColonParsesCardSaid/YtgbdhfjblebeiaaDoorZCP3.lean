/- Contracts and plain lemmas of our own, merged. -/
import Derived.Test.YtgbdhfjblebeiaaDoorZCP2
import Derived.SizedLaws

