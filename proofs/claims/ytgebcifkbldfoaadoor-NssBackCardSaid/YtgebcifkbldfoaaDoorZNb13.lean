/- Contracts and plain lemmas of our own, merged. -/
import Derived.Test.YtgebcifkbldfoaaDoorZNb12
import Derived.OpenShut
/- The walk of AsciiJoins. -/
namespace Go.Proofs.YtgebcifkbldfoaaDoor
open Go.RowKit
attribute [local go_sem] ba_get

theorem joi_more {A : List (List UInt8)} (c : UInt8) {k : Nat} (h : k + 1 < A.length) : joi [c] (A.drop k) = A[k]'(by omega) ++ c :: joi [c] (A.drop (k + 1)) := by
  rw [List.drop_eq_getElem_cons (show k < A.length by omega), List.drop_eq_getElem_cons h]
  generalize A.drop (k + 1 + 1) = D
  unfold joi
  rw [Lib.join_cons, Lib.join_cons]
  simp [Lib.joinTail]
theorem idx_app {c : UInt8} {x r : List UInt8} (h : idx c x = none) : idx c (x ++ c :: r) = some x.length := by
  refine idx_some_of (by simp) (by simp) fun j hj hjk => ?_
  rw [List.getElem_append_left hjk]
  exact idx_none h j hjk
end Go.Proofs.YtgebcifkbldfoaaDoor

/- Texts joined by a byte, and cut at it: plain words. -/
namespace Go.Proofs.YtgebcifkbldfoaaDoor
open Go.RowKit

/-- joined by a byte, by recursion. -/
def jB {α : Type} (d : α) : List (List α) → List α
  | [] => []
  | [x] => x
  | x :: y :: r => x ++ d :: jB d (y :: r)
/-- a text's parts between separators, as Split has them, the first one behind 'cur'. -/
def spB (d : UInt8) (cur : List UInt8) : List UInt8 → List (List UInt8)
  | [] => [cur]
  | c :: r => if c = d then cur :: spB d [] r else spB d (cur ++ [c]) r
/-- what stands ahead of the first separator, and what behind it. -/
def hdB (d : UInt8) (l : List UInt8) : List UInt8 := match idx d l with | none => l | some k => l.take k
def tlB (d : UInt8) (l : List UInt8) : List UInt8 := match idx d l with | none => [] | some k => l.drop (k + 1)
def hasB (d : UInt8) (l : List UInt8) : Bool := match idx d l with | none => false | some _ => true
end Go.Proofs.YtgebcifkbldfoaaDoor

/- A variable of Go's library that must hold a number; lengths of parts. -/
namespace Go.Proofs.YtgebcifkbldfoaaDoor
open Go.RowKit
/-- a variable of Go's library that holds some number. -/
def MaxI (w : World) : Prop := ∃ m, w.cell? ⟨0, 0, none⟩ = some (.int .i64 m)
theorem MaxI.below {w w' : World} (h : MaxI w) (hb : Below w.heap.size w w') : MaxI w' := by
  obtain ⟨m, hm⟩ := h
  exact ⟨m, (hb.cell (p := ⟨0, 0, none⟩) (block_lt_of_cell hm)).trans hm⟩
end Go.Proofs.YtgebcifkbldfoaaDoor
