/- The walk of the reference's Parse. -/
import Derived.Test.YtfkmjncchicmpaaDoorDomE
namespace Go.Proofs.YtfkmjncchicmpaaDoor
open Go.RowKit
attribute [local go_sem] ba_get ext_take ext_drop

end Go.Proofs.YtfkmjncchicmpaaDoor
