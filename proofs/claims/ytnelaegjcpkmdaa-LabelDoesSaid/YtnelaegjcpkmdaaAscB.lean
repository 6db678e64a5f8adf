/- The contracts of ascii.Same, ascii.Fields and the reference's Lower, Same and Fields. -/
import Derived.Test.YtnelaegjcpkmdaaAscA
import Derived.Test.YtnelaegjcpkmdaaDomC
namespace Go.Proofs.Ytnelaegjcpkmdaa
open Go.RowKit
attribute [local go_sem] ba_get ext_take ext_drop ext_any

def low (l : List UInt8) : List UInt8 := l.map sm
theorem low_take {a b : List UInt8} {k : Nat} (ha : k < a.length) (hb : k < b.length) (h : low (a.take k) = low (b.take k)) (he : sm a[k] = sm b[k]) : low (a.take (k + 1)) = low (b.take (k + 1)) := by
  unfold low at *
  rw [List.take_succ_eq_append_getElem ha, List.take_succ_eq_append_getElem hb, List.map_append, List.map_append, h]
  simp [he]

/-- what stands between blanks, behind a word that has begun. -/
def fldR (word : List UInt8) : List UInt8 → List (List UInt8)
  | [] => if word = [] then [] else [word]
  | b :: r => if blB b = true then (if word = [] then fldR [] r else word :: fldR [] r) else fldR (word ++ [b]) r
def flds (l : List UInt8) : List (List UInt8) := fldR [] l
theorem fldR_blank {l : List UInt8} {k : Nat} (h : k < l.length) (hb : blB l[k] = true) : fldR [] (l.drop k) = fldR [] (l.drop (k + 1)) := by
  rw [List.drop_eq_getElem_cons h, fldR, if_pos hb, if_pos rfl]
theorem fldR_step {l word : List UInt8} {k : Nat} (h : k < l.length) (hb : blB l[k] = false) : fldR word (l.drop k) = fldR (word ++ [l[k]]) (l.drop (k + 1)) := by
  rw [List.drop_eq_getElem_cons h, fldR, if_neg (by simp [hb])]
theorem fldR_word {l word : List UInt8} {k : Nat} (hk : k ≤ l.length) (hw : word ≠ []) (hb : ∀ h : k < l.length, blB l[k] = true) : fldR word (l.drop k) = word :: fldR [] (l.drop k) := by
  by_cases h : k < l.length
  · rw [List.drop_eq_getElem_cons h, fldR, if_pos (hb h), if_neg hw, fldR, if_pos (hb h), if_pos rfl]
  · have : l.drop k = [] := List.drop_eq_nil_of_le (by omega)
    rw [this, fldR, if_neg hw]
    rfl
theorem fldR_len (word l : List UInt8) : (fldR word l).length ≤ l.length + 1 ∧ (word = [] → (fldR word l).length ≤ l.length) := by
  induction l generalizing word with
  | nil => unfold fldR; by_cases h : word = [] <;> simp [h]
  | cons b r ih =>
    unfold fldR
    by_cases hb : blB b = true
    · rw [if_pos hb]
      have h1 := (ih []).2 rfl
      by_cases h : word = []
      · rw [if_pos h]; simp; omega
      · rw [if_neg h]; simp [h]; omega
    · rw [if_neg hb]
      have h1 := (ih (word ++ [b])).1
      simp; omega
theorem flds_len (l : List UInt8) : (flds l).length ≤ l.length := (fldR_len [] l).2 rfl
def TextsPost (w : World) (A : List (List UInt8)) (e : Ending) (w' : World) : Prop := ∃ v, e = .returned v ∧ Sl w' 1 v A.length (A.map stv) ∧ Below w.heap.size w w'
def FldRel (w : World) (l : List UInt8) (k : Nat) (v : Value) (wr : World) : Prop :=
  ∃ done : List (List UInt8), flds l = done ++ fldR [] (l.drop k) ∧ done.length ≤ k ∧ wr.ownsRow w.heap.size 9 1 v done.length (done.map stv) ∧ Below w.heap.size w wr

end Go.Proofs.Ytnelaegjcpkmdaa
