/- Contracts and plain lemmas of our own, merged. -/
import Derived.Test.YtgebcifkbldfoaaGreatDoorZSB5
import Derived.Laws.Rows
import Derived.Deep.MidRow
/- Blocks that are known whole: words of our own. -/
namespace Go.Proofs.YtgebcifkbldfoaaGreatDoor
open Go.RowKit

/-- block g is just the cells cs of element type t, none frozen. -/
def Bk (w : World) (g : Nat) (t : TypeId) (cs : Array Value) : Prop := w.heap[g]? = some (.cells cs t (0, 0))
section
variable {w w' : World} {g : Nat} {t : TypeId} {cs : Array Value}
theorem Bk.lt (h : Bk w g t cs) : g < w.heap.size := by
  rcases Nat.lt_or_ge g w.heap.size with hlt | hge
  · exact hlt
  · unfold Bk at h; rw [Array.getElem?_eq_none hge] at h; cases h
theorem Bk.cell (h : Bk w g t cs) (i : Nat) : w.cell? ⟨g, i, none⟩ = cs[i]? := cell_of_row w g i cs t (0, 0) h
theorem Bk.free (h : Bk w g t cs) (i : Nat) : w.frozen? ⟨g, i, none⟩ = false := by
  unfold Bk at h
  simp [World.frozen?, h]
theorem Bk.new (w : World) (t : TypeId) (cs : Array Value) : Bk (w.alloc (.cells cs t)) w.heap.size t cs := heap_alloc_new w _
theorem Bk.alloc (h : Bk w g t cs) (o : Obj) : Bk (w.alloc o) g t cs := (Below.heap_alloc w o g h.lt).trans h
theorem Bk.set_ (h : Bk w g t cs) (i : Nat) (u : Value) : Bk (w.setCell ⟨g, i, none⟩ u) g t (cs.setIfInBounds i u) := by
  unfold Bk at h ⊢
  simp [World.setCell, Array.getElem?_modify, h]
theorem Bk.row (h : Bk w g t cs) (ds : Array Value) : Bk (w.setRow g ds) g t ds := setRow_heap w g cs ds t (0, 0) h
theorem Bk.far (h : Bk w g t cs) {p : Addr} (hp : g ≠ p.block) (u : Value) : Bk (w.setCell p u) g t cs := (Below.heap_setCell w p u g hp).trans h
theorem Bk.below {B : Nat} (h : Bk w g t cs) (hb : Below B w w') (hg : g < B) : Bk w' g t cs := (hb.block g hg).trans h
theorem Bk.bel (h : Bk w g t cs) (hb : Below w.heap.size w w') : Bk w' g t cs := h.below hb h.lt
theorem Bk.grown {row : Option Nat} (h : Bk w g t cs) (hb : w.grownBy w' row) (hg : some g ≠ row) : Bk w' g t cs := (hb.block g h.lt hg).trans h
theorem Bk.sl {cs : List Value} (h : Bk w g t cs.toArray) {size n : Nat} (hn : cs.length = n * size) (c : Nat) (hc : n ≤ c) : Sl w size (.slice (some ⟨g, 0, none⟩) n c) n cs := by
  refine ⟨hn, some ⟨g, 0, none⟩, c, rfl, hc, fun h => (by cases h), fun ad had _ => ?_⟩
  injection had with had
  subst had
  refine ⟨h.lt, rfl, fun j u hu => ?_⟩
  have := h.cell (0 + j)
  rw [this]
  simpa using hu
end
theorem Sl.take {w : World} {b off n c k : Nat} {xs : List Value} (h : Sl w 1 (.slice (some ⟨b, off, none⟩) n c) n xs) (hk : k ≤ n) : Sl w 1 (.slice (some ⟨b, off, none⟩) k c) k (xs.take k) := by
  obtain ⟨h0, A, c', hv, hc, hA, hcell⟩ := h
  injection hv with hv1 _ hv2
  subst hv1 hv2
  refine ⟨by rw [List.length_take]; omega, _, c, rfl, by omega, hA, fun ad had hpos => ?_⟩
  obtain ⟨h1, h2, h3⟩ := hcell ad had (by omega)
  refine ⟨h1, h2, fun j u hu => h3 j u ?_⟩
  rw [List.getElem?_take] at hu
  split at hu
  · exact hu
  · cases hu
/-- a bool in a slot, for a measure. -/
def boolOf : Value → Bool
  | .bool b => b
  | _ => false
end Go.Proofs.YtgebcifkbldfoaaGreatDoor
