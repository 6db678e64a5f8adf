/- Contracts and plain lemmas of our own, merged. -/
import Derived.Test.YtgebcifkbldfoaaDoorZSL11
import Derived.Test.YtgebcifkbldfoaaDoorZSL21
import Derived.Test.YtgebcifkbldfoaaDoorZSL22
/- The reference's All (16): the lines with fields, with their numbers. -/
namespace Go.Proofs.YtgebcifkbldfoaaDoor
open Go.RowKit
attribute [local go_sem] ba_get ext_take ext_drop ext_any

/-- a line: its number, its fields. -/
abbrev LnT := Nat × List (List UInt8)
def lnC (q : Value × LnT) : List Value := [.int .i64 (q.2.1 : Int), q.1]
/-- lines in a row of the call's own. -/
structure LnsOwn (b : Nat) (w : World) (v : Value) (X : List (Value × LnT)) : Prop where
  own : w.ownsRow b 102 2 v X.length (X.flatMap lnC)
  ok : ∀ q ∈ X, SlB b 9 w 1 q.1 q.2.2.length (q.2.2.map stv)
theorem LnsOwn.nil (b : Nat) (w : World) : LnsOwn b w (.slice none 0 0) [] := ⟨by simpa using World.ownsRow_nil w b 102 2, fun _ h => (by cases h)⟩
theorem LnsOwn.bel {b : Nat} {w w' : World} {v : Value} {X : List (Value × LnT)} (h : LnsOwn b w v X) (hb : Below w.heap.size w w') : LnsOwn b w' v X := ⟨own_below h.own hb, fun q hq => (h.ok q hq).bel hb⟩
theorem LnsOwn.add {b : Nat} {w w' : World} {v v' : Value} {X : List (Value × LnT)} {q : Value × LnT} (h : LnsOwn b w v X) (hx : SlB b 9 w 1 q.1 q.2.2.length (q.2.2.map stv)) (ho : w'.ownsRow b 102 2 v' (X.length + 1) (X.flatMap lnC ++ lnC q)) (hg : w.grownBy w' v.ownBlock) : LnsOwn b w' v' (X ++ [q]) := by
  refine ⟨?_, fun r hr => ?_⟩
  · rw [List.length_append, List.flatMap_append]
    simpa using ho
  · rcases List.mem_append.1 hr with hr | hr
    · exact (h.ok r hr).grown h.own (by decide) hg
    · rw [List.mem_singleton.1 hr]; exact hx.grown h.own (by decide) hg
theorem spB_goL {s : List UInt8} {i fr : Nat} (hi : i < s.length) (hf : fr ≤ i) (h : s[i] ≠ 10) : spB 10 ((s.take i).drop fr) (s.drop i) = spB 10 ((s.take (i + 1)).drop fr) (s.drop (i + 1)) := by
  rw [List.drop_eq_getElem_cons hi, spB, if_neg h, List.take_succ_eq_append_getElem hi, List.drop_append_of_le_length (by rw [List.length_take]; omega)]
theorem spB_cutL {s : List UInt8} {i fr : Nat} (hi : i < s.length) (h : s[i] = 10) : spB 10 ((s.take i).drop fr) (s.drop i) = ((s.take i).drop fr) :: spB 10 ((s.take (i + 1)).drop (i + 1)) (s.drop (i + 1)) := by
  have h0 : (s.take (i + 1)).drop (i + 1) = [] := List.drop_eq_nil_of_le (by rw [List.length_take]; omega)
  rw [List.drop_eq_getElem_cons hi, spB, if_pos h, h0]
theorem spB_endL {s : List UInt8} {i fr : Nat} (hi : i = s.length) : spB 10 ((s.take i).drop fr) (s.drop i) = [(s.take i).drop fr] := by
  have h0 : s.drop i = [] := List.drop_eq_nil_of_le (by omega)
  rw [h0, spB]
end Go.Proofs.YtgebcifkbldfoaaDoor
