/- Contracts and plain lemmas of our own, merged. -/
import Derived.Test.YtgebcifkbldfoaaDoorZSL21
import Derived.RangeFuncBox
/- The lines with fields (layer 16): the iterator All. -/
namespace Go.Proofs.YtgebcifkbldfoaaDoor
open Go.RowKit
attribute [local go_sem] ba_get ext_take ext_drop

section
variable {α : Type}
end
theorem spB_mem (d : UInt8) : ∀ (l cur x : List UInt8), x ∈ spB d cur l → x.length ≤ cur.length + l.length
  | [], cur, x, h => by simp [spB] at h; subst h; simp
  | c :: r, cur, x, h => by
    rw [spB] at h
    split at h
    · rcases List.mem_cons.1 h with rfl | h
      · simp
      · have := spB_mem d r [] x h; simp at this ⊢; omega
    · have := spB_mem d r _ x h; simp at this ⊢; omega
/-- the iterator's own variables lie as they lay. -/
def KpA (W W' : World) : Prop := ∀ k v, (Boxed W k 4 v → Boxed W' k 4 v) ∧ (Boxed W k 121 v → Boxed W' k 121 v)
theorem KpA.trans {A B C : World} (h : KpA A B) (k : KpA B C) : KpA A C := fun b v => ⟨fun x => (k b v).1 ((h b v).1 x), fun x => (k b v).2 ((h b v).2 x)⟩
theorem KpA.refl (W : World) : KpA W W := fun _ _ => ⟨id, id⟩
theorem KpA.grown {W W' : World} {row : Option Nat} (hg : W.grownBy W' row) (h : ∀ r, row = some r → ∀ t u, Boxed W r t u → t ≠ 4 ∧ t ≠ 121) : KpA W W' := fun k _ =>
  ⟨fun x => x.kept hg (fun e => (h k e.symm _ _ x).1 rfl), fun x => x.kept hg (fun e => (h k e.symm _ _ x).2 rfl)⟩
theorem KpA.put (W : World) (l : Nat) (o o' : Obj) (h : W.heap[l]? = some o) (hc : o.isCells = false) : KpA W (W.putObj l o') :=
  KpA.grown (grownBy_putObj' W l o') (fun r e t v hb => by cases e; rw [show W.heap[l]? = _ from hb] at h; cases h; cases hc)
theorem gr_none {w w' : World} (h : Below w.heap.size w w') : w.grownBy w' none := ⟨h.os, h.tape, h.output, h.size, fun k hk _ => h.block k hk⟩
theorem KpA.below {W W' : World} (h : Below W.heap.size W W') : KpA W W' := KpA.grown (gr_none h) (fun r e => by cases e)
theorem keeps_below {B : Nat} {W W' : World} (h : Below W.heap.size W W') : KeepsFrom B W W' := KeepsFrom.of_grownBy (gr_none h) (fun r e => by cases e)
attribute [local go_sem] Oper.semAt_some
end Go.Proofs.YtgebcifkbldfoaaDoor

/- How long fields and lines are: plain. -/
namespace Go.Proofs.YtgebcifkbldfoaaDoor
open Go.RowKit

theorem fldR_mem : ∀ (l word x : List UInt8), x ∈ fldR word l → x.length ≤ word.length + l.length
  | [], word, x, h => by
    unfold fldR at h
    split at h
    · cases h
    · rw [List.mem_singleton.1 h]; simp
  | c :: r, word, x, h => by
    rw [fldR] at h
    split at h
    · split at h
      · have := fldR_mem r [] x h; simp at this ⊢; omega
      · rcases List.mem_cons.1 h with rfl | h
        · simp
        · have := fldR_mem r [] x h; simp at this ⊢; omega
    · have := fldR_mem r _ x h; simp at this ⊢; omega
end Go.Proofs.YtgebcifkbldfoaaDoor
