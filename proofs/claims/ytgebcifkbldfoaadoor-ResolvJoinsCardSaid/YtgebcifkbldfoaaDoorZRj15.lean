/- Contracts and plain lemmas of our own, merged. -/
import Derived.Test.YtgebcifkbldfoaaDoorZRj12
import Derived.Test.YtgebcifkbldfoaaDoorZRj14
import Derived.Test.YtgebcifkbldfoaaDoorZRj5
import Derived.Lib.ItoaLen
import Derived.Lib.AppendIntMem
import Derived.OpenShut
/- The contract of ascii.Digits; the walk of AsciiBack. -/
namespace Go.Proofs.YtgebcifkbldfoaaDoor
open Go.RowKit
attribute [local go_sem] ba_get ba_app

/-- the table that strconv reads. -/
def Tab (w : World) : Prop := Lib.TabIs Tryd.prog w "internal/strconv.uint64pow10" .u64 Lib.pow10Tab
set_option maxHeartbeats 400000 in
theorem digits_any (n : Int) (w : World) (ht : Tab w) (h0 : -9223372036854775808 ≤ n) (h1 : n ≤ 9223372036854775807) : Calls Tryd.prog 163 #[.int .i64 n] w (StrPost w (Lib.itoa n)) := by
  go_enter Tryd.func163, Tryd.ntmps163
  go_wp2_with fail
  refine (Tryd.strconv_Itoa n h0 h1 _ ht).mono ?_
  rintro e w' ⟨rfl, k, os, rfl⟩
  go_wp2_with fail
  go_ret
  exact ⟨rfl, Lib.below_grow _ _ (Nat.le_refl _) _ _⟩

end Go.Proofs.YtgebcifkbldfoaaDoor
