/- Contracts and plain lemmas of our own, merged. -/
import Derived.Test.YtbffkddlkfefoaaDoorZhc2
import Derived.SizedLaws

