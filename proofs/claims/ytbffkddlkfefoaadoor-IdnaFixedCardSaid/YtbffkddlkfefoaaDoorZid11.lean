/- Contracts and plain lemmas of our own, merged. -/
import Derived.Test.YtbffkddlkfefoaaDoorZid10
import Derived.Test.YtbffkddlkfefoaaDoorZid6
import Derived.Deep.Onto
/- The contract of the reference's Decode. -/
namespace Go.Proofs.YtbffkddlkfefoaaDoor
open Go.RowKit
attribute [local go_sem] ba_get ba_app

theorem Sl.pre {w : World} {a : Option Addr} {n c k : Nat} {xs : List Value} (h : Sl w 1 (.slice a n c) n xs) (hk : k ≤ n) : Sl w 1 (.slice a k c) k (xs.take k) := by
  obtain ⟨h0, A, c', hv, hc, hA, hcell⟩ := h
  simp only [Value.slice.injEq, true_and] at hv
  obtain ⟨rfl, rfl⟩ := hv
  refine ⟨by rw [List.length_take]; omega, a, c, rfl, by omega, hA, fun ad had hp => ?_⟩
  obtain ⟨h1, h2, h3⟩ := hcell ad had (by omega)
  refine ⟨h1, h2, fun j u hu => h3 j u ?_⟩
  rw [List.getElem?_take] at hu
  split at hu
  · exact hu
  · cases hu
end Go.Proofs.YtbffkddlkfefoaaDoor
