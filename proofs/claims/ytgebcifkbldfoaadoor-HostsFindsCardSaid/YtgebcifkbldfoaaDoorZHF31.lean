/- Contracts and plain lemmas of our own, merged. -/
import Derived.Test.YtgebcifkbldfoaaDoorZHF11
import Derived.Test.YtgebcifkbldfoaaDoorZHF22
import Derived.Test.YtgebcifkbldfoaaDoorZHF23
/- The reference's All (16): the lines with fields, with their numbers. -/
namespace Go.Proofs.YtgebcifkbldfoaaDoor
open Go.RowKit
attribute [local go_sem] ba_get ext_take ext_drop ext_any

/-- a line: its number, its fields. -/
abbrev LnT := Nat × List (List UInt8)
def lnC (q : Value × LnT) : List Value := [.int .i64 (q.2.1 : Int), q.1]
/-- lines in a row of the call's own. -/
structure LnsOwn (b : Nat) (w : World) (v : Value) (X : List (Value × LnT)) : Prop where
  own : w.ownsRow b 102 2 v X.length (X.flatMap lnC)
  ok : ∀ q ∈ X, SlB b 9 w 1 q.1 q.2.2.length (q.2.2.map stv)
theorem LnsOwn.nil (b : Nat) (w : World) : LnsOwn b w (.slice none 0 0) [] := ⟨by simpa using World.ownsRow_nil w b 102 2, fun _ h => (by cases h)⟩
theorem LnsOwn.bel {b : Nat} {w w' : World} {v : Value} {X : List (Value × LnT)} (h : LnsOwn b w v X) (hb : Below w.heap.size w w') : LnsOwn b w' v X := ⟨own_below h.own hb, fun q hq => (h.ok q hq).bel hb⟩
theorem LnsOwn.add {b : Nat} {w w' : World} {v v' : Value} {X : List (Value × LnT)} {q : Value × LnT} (h : LnsOwn b w v X) (hx : SlB b 9 w 1 q.1 q.2.2.length (q.2.2.map stv)) (ho : w'.ownsRow b 102 2 v' (X.length + 1) (X.flatMap lnC ++ lnC q)) (hg : w.grownBy w' v.ownBlock) : LnsOwn b w' v' (X ++ [q]) := by
  refine ⟨?_, fun r hr => ?_⟩
  · rw [List.length_append, List.flatMap_append]
    simpa using ho
  · rcases List.mem_append.1 hr with hr | hr
    · exact (h.ok r hr).grown h.own (by decide) hg
    · rw [List.mem_singleton.1 hr]; exact hx.grown h.own (by decide) hg
end Go.Proofs.YtgebcifkbldfoaaDoor
