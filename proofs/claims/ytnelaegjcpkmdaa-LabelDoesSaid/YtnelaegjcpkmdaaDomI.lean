/- The walk of DomainBack. -/
import Derived.Test.YtnelaegjcpkmdaaDomH
namespace Go.Proofs.Ytnelaegjcpkmdaa
open Go.RowKit
attribute [local go_sem] ba_get ext_take ext_drop

theorem few_bds {A : List (List UInt8)} (h : fewB A = true) : A.length ≤ 400 ∧ sz A ≤ 401 ∧ ∀ l ∈ A, l.length ≤ 400 := by
  have hs : sz A ≤ 401 := by simpa [fewB] using h
  have h3 : ∀ (B : List (List UInt8)) (n : Nat), n + B.length ≤ B.foldl (fun n l => n + l.length + 1) n ∧ ∀ l ∈ B, n + l.length + 1 ≤ B.foldl (fun n l => n + l.length + 1) n := by
    intro B
    induction B with
    | nil => intro n; simp
    | cons b B ih =>
      intro n
      obtain ⟨i1, i2⟩ := ih (n + b.length + 1)
      rw [List.foldl_cons, List.length_cons]
      refine ⟨by omega, fun l hl => ?_⟩
      rcases List.mem_cons.1 hl with rfl | hl
      · exact Nat.le_trans (by omega) i1
      · have := i2 l hl; omega
  obtain ⟨h4, h5⟩ := h3 A 1
  exact ⟨by unfold sz at hs; omega, hs, fun l hl => by have := h5 l hl; unfold sz at hs; omega⟩

end Go.Proofs.Ytnelaegjcpkmdaa
