/- Contracts and plain lemmas of our own, merged. -/
import Derived.Test.YtbffkddlkfefoaaDoorZid6
import Derived.Laws.Rows
import Derived.Laws.StructEq
import Derived.Deep.MidRow
import Derived.Stop.BytesEq
/- Addresses: an address as a value of eighteen cells, with its own laws. -/
namespace Go.Proofs.YtbffkddlkfefoaaDoor
open Go.RowKit

structure Ad where
  fam : Int
  ip : List UInt8
  zone : Int
  ok : ip.length = 16 ∧ (-9223372036854775808 ≤ fam ∧ fam ≤ 9223372036854775807) ∧ (-9223372036854775808 ≤ zone ∧ zone ≤ 9223372036854775807)
theorem Ad.same {a b : Ad} (h1 : a.fam = b.fam) (h2 : a.ip = b.ip) (h3 : a.zone = b.zone) : a = b := by
  cases a; cases b; simp only at h1 h2 h3; subst h1 h2 h3; rfl
theorem Ad.same_iff {a b : Ad} : (a.fam = b.fam ∧ a.ip = b.ip ∧ a.zone = b.zone) ↔ a = b := ⟨fun ⟨h1, h2, h3⟩ => Ad.same h1 h2 h3, fun h => by rw [h]; exact ⟨rfl, rfl, rfl⟩⟩
instance : DecidableEq Ad := fun _ _ => decidable_of_iff _ Ad.same_iff
theorem Ad.len (a : Ad) : a.ip.length = 16 := a.ok.1
/-- a byte of an address. -/
def Ad.b (a : Ad) (i : Nat) : UInt8 := a.ip.getD i 0
/-! ### equality -/
end Go.Proofs.YtbffkddlkfefoaaDoor
