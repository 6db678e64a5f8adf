/- Contracts and plain lemmas of our own, merged. -/
import Derived.Test.YtgbdhfjblebeiaaDoorZPp13
import Derived.Test.YtgbdhfjblebeiaaDoorZPp16
import Derived.Test.YtgbdhfjblebeiaaDoorZPp21
import Derived.Test.YtgbdhfjblebeiaaDoorZPp23
/- The contract of works (9). -/
namespace Go.Proofs.YtgbdhfjblebeiaaDoor
open Go.RowKit
attribute [local go_sem] ba_get ext_take ext_drop ext_any ba_app

def w9a : Ad := adOf 192 0 2 1
end Go.Proofs.YtgbdhfjblebeiaaDoor
