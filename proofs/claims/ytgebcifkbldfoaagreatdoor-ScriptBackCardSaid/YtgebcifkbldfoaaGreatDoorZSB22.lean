/- Contracts and plain lemmas of our own, merged. -/
import Derived.Test.YtgebcifkbldfoaaGreatDoorZSB21
import Derived.RangeFuncBox
/- The lines with fields (layer 16): the iterator All. -/
namespace Go.Proofs.YtgebcifkbldfoaaGreatDoor
open Go.RowKit
attribute [local go_sem] ba_get ext_take ext_drop

section
variable {α : Type}
end
theorem spB_mem (d : UInt8) : ∀ (l cur x : List UInt8), x ∈ spB d cur l → x.length ≤ cur.length + l.length
  | [], cur, x, h => by simp [spB] at h; subst h; simp
  | c :: r, cur, x, h => by
    rw [spB] at h
    split at h
    · rcases List.mem_cons.1 h with rfl | h
      · simp
      · have := spB_mem d r [] x h; simp at this ⊢; omega
    · have := spB_mem d r _ x h; simp at this ⊢; omega
theorem gr_none {w w' : World} (h : Below w.heap.size w w') : w.grownBy w' none := ⟨h.os, h.tape, h.output, h.size, fun k hk _ => h.block k hk⟩
theorem keeps_below {B : Nat} {W W' : World} (h : Below W.heap.size W W') : KeepsFrom B W W' := KeepsFrom.of_grownBy (gr_none h) (fun r e => by cases e)
attribute [local go_sem] Oper.semAt_some
end Go.Proofs.YtgebcifkbldfoaaGreatDoor

/- How long fields and lines are: plain. -/
namespace Go.Proofs.YtgebcifkbldfoaaGreatDoor
open Go.RowKit

theorem fldR_mem : ∀ (l word x : List UInt8), x ∈ fldR word l → x.length ≤ word.length + l.length
  | [], word, x, h => by
    unfold fldR at h
    split at h
    · cases h
    · rw [List.mem_singleton.1 h]; simp
  | c :: r, word, x, h => by
    rw [fldR] at h
    split at h
    · split at h
      · have := fldR_mem r [] x h; simp at this ⊢; omega
      · rcases List.mem_cons.1 h with rfl | h
        · simp
        · have := fldR_mem r [] x h; simp at this ⊢; omega
    · have := fldR_mem r _ x h; simp at this ⊢; omega
end Go.Proofs.YtgebcifkbldfoaaGreatDoor
