/- Words of our own: a block of bytes that came of a text, written byte by byte; a made row. -/
import Derived.Test.YtnelaegjcpkmdaaKB
import Derived.Laws.IdiomStrings
namespace Go.Proofs.Ytnelaegjcpkmdaa
open Go.RowKit

/-- block g holds these bytes. -/
def ByB (W : World) (g c : Nat) (X : List UInt8) : Prop :=
  ∃ cur : Array Value, W.heap[g]? = some (.cells cur 5 (c, c + 1)) ∧ X.length ≤ c ∧ ∀ (j : Nat) (hj : j < X.length), cur[j]? = some (byv X[j])
theorem ByB.cell {W : World} {g c j : Nat} {X : List UInt8} (h : ByB W g c X) (hj : j < X.length) : W.cell? ⟨g, j, none⟩ = some (byv X[j]) := by
  obtain ⟨cur, h1, _, h3⟩ := h
  rw [cell_of_row W g j cur 5 (c, c + 1) h1]
  exact h3 j hj
theorem ByB.free {W : World} {g c j : Nat} {X : List UInt8} (h : ByB W g c X) (hj : j < X.length) : W.frozen? ⟨g, j, none⟩ = false := by
  obtain ⟨cur, h1, h2, _⟩ := h
  simp [World.frozen?, h1]
  omega
theorem ByB.store {W : World} {g c k : Nat} {X : List UInt8} (h : ByB W g c X) (hk : k < X.length) (u : UInt8) : ByB (W.setCell ⟨g, k, none⟩ (byv u)) g c (X.set k u) := by
  obtain ⟨cur, h1, h2, h3⟩ := h
  refine ⟨cur.setIfInBounds k (byv u), by simp [World.setCell, Array.getElem?_modify, h1], by simpa using h2, fun j hj => ?_⟩
  have hs : k < cur.size := (Array.getElem?_eq_some_iff.1 (h3 k hk)).1
  rw [List.length_set] at hj
  rw [Array.getElem?_setIfInBounds, List.getElem_set]
  by_cases e : k = j
  · subst e
    rw [if_pos rfl, if_pos hs, if_pos rfl]
  · rw [if_neg e, if_neg e, h3 j hj]
theorem ByB.lt {W : World} {g c : Nat} {X : List UInt8} (h : ByB W g c X) : g < W.heap.size := by
  obtain ⟨cur, h1, _, _⟩ := h
  rcases Nat.lt_or_ge g W.heap.size with hlt | hge
  · exact hlt
  · rw [Array.getElem?_eq_none hge] at h1; cases h1
theorem ByB.sl {W : World} {g c : Nat} {X : List UInt8} (h : ByB W g c X) (cap : Nat) (hc : X.length ≤ cap) : Sl W 1 (.slice (some ⟨g, 0, none⟩) X.length cap) X.length (X.map byv) := by
  refine ⟨by simp, _, cap, rfl, hc, fun h => (by cases h), fun ad had _ => ?_⟩
  injection had with had
  subst had
  refine ⟨h.lt, rfl, fun j u hu => ?_⟩
  rw [List.getElem?_map, Option.map_eq_some_iff] at hu
  obtain ⟨x, hx, rfl⟩ := hu
  obtain ⟨hj, rfl⟩ := List.getElem?_eq_some_iff.1 hx
  simpa using h.cell hj
theorem bytes_size2 (l : List UInt8) (cap : Nat) : l.length ≤ (bytesRow ⟨l.toArray⟩ cap).size := by
  rcases Nat.eq_zero_or_pos l.length with h | h
  · omega
  · have := bytesRow_at ⟨l.toArray⟩ cap (l.length - 1) (by simp; omega)
    have := (Array.getElem?_eq_some_iff.1 this).1
    omega
theorem ByB.start (W : World) (l : List UInt8) (cap : Nat) :
    ByB (W.alloc (.cells (bytesRow ⟨l.toArray⟩ cap) 5 ((bytesRow ⟨l.toArray⟩ cap).size, (bytesRow ⟨l.toArray⟩ cap).size + 1))) W.heap.size (bytesRow ⟨l.toArray⟩ cap).size l := by
  refine ⟨_, heap_alloc_new W _, bytes_size2 l cap, fun j hj => ?_⟩
  have := bytesRow_at ⟨l.toArray⟩ cap j (by simpa using hj)
  rw [this]
  rfl
end Go.Proofs.Ytnelaegjcpkmdaa
