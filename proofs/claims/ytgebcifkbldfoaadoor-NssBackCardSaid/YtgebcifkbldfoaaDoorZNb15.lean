/- Contracts and plain lemmas of our own, merged. -/
import Derived.Test.YtgebcifkbldfoaaDoorZNb12
import Derived.Test.YtgebcifkbldfoaaDoorZNb14
import Derived.Test.YtgebcifkbldfoaaDoorZNb5
import Derived.Lib.ItoaLen
import Derived.Lib.AppendIntMem
import Derived.OpenShut
/- The contract of ascii.Digits; the walk of AsciiBack. -/
namespace Go.Proofs.YtgebcifkbldfoaaDoor
open Go.RowKit
attribute [local go_sem] ba_get ba_app

/-- the table that strconv reads. -/
def Tab (w : World) : Prop := Lib.TabIs Tryd.prog w "internal/strconv.uint64pow10" .u64 Lib.pow10Tab
end Go.Proofs.YtgebcifkbldfoaaDoor
