/- Contracts and plain lemmas of our own, merged. -/
import Derived.Test.YtolglcgdophcaaaGreatDoorZ2
import Derived.SizedLaws

