/- Contracts and plain lemmas of our own, merged. -/
import Derived.Test.YtgebcifkbldfoaaGreatDoorZSB11
import Derived.Test.YtgebcifkbldfoaaGreatDoorZSB18
import Derived.Test.YtgebcifkbldfoaaGreatDoorZSB9
/- nss.source, kind, word, status, Plain; the reference's Plain and Same (19). -/
namespace Go.Proofs.YtgebcifkbldfoaaGreatDoor
open Go.RowKit
attribute [local go_sem] ba_get ext_take ext_drop ext_any ba_app

/-- with a flag set. -/
def So.set (s : So) (i : Nat) (b : Bool) : So := ⟨s.k, s.st.set i b, by rw [List.length_set]; exact s.ok⟩
end Go.Proofs.YtgebcifkbldfoaaGreatDoor
