/- Contracts and plain lemmas of our own, merged. -/
import Derived.Test.YtgebcifkbldfoaaDoorZHF1
import Derived.Test.YtgebcifkbldfoaaDoorRows
import Derived.ProofKit
import Derived.OpenShut
import Derived.ShutString
import Derived.ChangeOld
import Derived.SliceStrings
/- How the arguments of a law are read: slices of integers and of texts as 'Sl'. -/
namespace Go.Proofs.YtgebcifkbldfoaaDoor
open Go.ChangeShapes Go.WideShapes Go.ChangeAt Go.RowKit

theorem own : ownKnob Tryd.prog.godebug = none := by kernel_rfl
theorem laidOut : laidOutB Tryd.prog = true := by kernel_rfl

section
variable {H : Type} {enc : TypeId × Value → H} {P : Program} {w : World} {base b0 : Nat} {spare : Nat → Bool} {held : Bool} {r : Reach}

/-- a row of cells that is known from its address on, as 'Sl'. -/
theorem sl_of_add {a : Addr} {len cap : Nat} {vs : List Value} (hl : len ≤ cap) (hn : vs.length = len) (hc : ∀ i u, vs[i]? = some u → w.cell? (a.add i) = some u) (hb : 0 < len → a.block < w.heap.size) :
    Sl w 1 (.slice (some a) len cap) len vs := by
  refine ⟨by omega, some a, cap, rfl, hl, fun h => (by cases h), fun ad had hpos => ?_⟩
  injection had with had
  subst had
  obtain ⟨b, off, sp⟩ := a
  have h0 := hc 0 vs[0] (List.getElem?_eq_getElem (by omega))
  have hsp : sp = none := by simpa [Addr.add] using World.cell?_spot h0
  subst hsp
  refine ⟨hb hpos, rfl, fun j u hu => ?_⟩
  have := hc j u hu
  rwa [add_none] at this
theorem lt_of_cell {w : World} {a : Addr} {u : Value} (h : w.cell? a = some u) : a.block < w.heap.size := by
  rcases Nat.lt_or_ge a.block w.heap.size with hlt | hge
  · exact hlt
  · unfold World.cell? at h
    rw [Array.getElem?_eq_none hge] at h
    simp at h
theorem block_add (a : Addr) (n : Nat) : (a.add n).block = a.block := by unfold Addr.add; split <;> rfl

end
end Go.Proofs.YtgebcifkbldfoaaDoor
