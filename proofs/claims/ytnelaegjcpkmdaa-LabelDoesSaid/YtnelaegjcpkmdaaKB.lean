/- Words of our own for rows of bytes and of texts. -/
import Derived.Test.YtnelaegjcpkmdaaProg
import Derived.Test.YtnelaegjcpkmdaaK2
import Derived.Lib.BufferRead
import Derived.Laws.IdiomStrings
namespace Go.Proofs.Ytnelaegjcpkmdaa
open Go.RowKit

theorem ba_app (a b : List UInt8) : ByteArray.mk a.toArray ++ ByteArray.mk b.toArray = ⟨(a ++ b).toArray⟩ := by
  apply ByteArray.ext
  simp [ByteArray.data_append]
/-- a byte as a value. -/
def byv (b : UInt8) : Value := .int .u8 (b.toNat : Int)
theorem byv_one (l : List UInt8) : ∀ u ∈ l.map byv, u.oneCell' = true := by
  intro u hu
  simp at hu
  obtain ⟨b, _, rfl⟩ := hu
  rfl
theorem str_of_sl {P : Program} {w : World} {v : Value} {l : List UInt8} {src dst e : TypeId} (hs : P.underlying src = some (.slice e)) (he : P.underlying e = some (.int .u8)) (hd : P.underlying dst = some .string)
    (h : Sl w 1 v l.length (l.map byv)) : (convert src dst v).run P w = .ok (.string ⟨l.toArray⟩) w := by
  obtain ⟨_, A, c, rfl, hc, hA, hcell⟩ := h
  match A, hA, hcell with
  | none, hA, _ =>
    have : l = [] := List.eq_nil_of_length_eq_zero (by have := hA rfl; omega)
    subst this
    exact Lib.run_convert_nil_bytes w src dst e c hs he hd
  | some ad, _, hcell =>
    refine run_convert_bytes_back w src dst e ad c l hs he hd fun j hj => ?_
    obtain ⟨_, hsp, hh⟩ := hcell ad rfl (by omega)
    obtain ⟨b, off, sp⟩ := ad
    dsimp only at hsp hh
    subst hsp
    rw [add_none]
    refine hh j _ ?_
    simp [byv, hj]

theorem byv_mk {n : Nat} (h : n < 256) {z : Int} (hz : z = n) : Value.int .u8 z = byv (UInt8.ofNat n) := by
  subst hz
  unfold byv
  rw [UInt8.toNat_ofNat_of_lt' h]

theorem elt_bytes : Elt Try.prog 62 5 1 1 := Elt.mk' (z := .int .u8 0) Try.underlying62 (by kernel_rfl) rfl (by decide)

/-- what an adder leaves: the row, with these behind it. -/
def AddPost (base : Nat) (e : TypeId) (w : World) (n : Nat) (xs us : List Value) (ed : Ending) (w' : World) : Prop :=
  ∃ v', ed = .returned v' ∧ w'.ownsRow base e 1 v' (n + us.length) (xs ++ us) ∧ Below base w w'


/-- a text as a value. -/
def stv (l : List UInt8) : Value := .string ⟨l.toArray⟩
theorem stv_one (A : List (List UInt8)) : ∀ u ∈ A.map stv, u.oneCell' = true := by
  intro u hu
  simp at hu
  obtain ⟨b, _, rfl⟩ := hu
  rfl
theorem sl_at {w : World} {α : Type} {f : α → Value} {A : List α} {b off j : Nat} (hc : ∀ j u, (A.map f)[j]? = some u → w.cell? ⟨b, off + j, none⟩ = some u) (hj : j < A.length) : w.cell? ⟨b, off + j, none⟩ = some (f A[j]) :=
  hc j _ (by simp [hj])
theorem str_run {w : World} {v : Value} {l : List UInt8} (h : Sl w 1 v l.length (l.map byv)) : (convert 62 9 v).run Try.prog w = .ok (.string ⟨l.toArray⟩) w :=
  str_of_sl Try.underlying62 Try.underlying5 Try.underlying9 h
theorem elt_strs : Elt Try.prog 67 9 1 16 := Elt.mk' (z := .string ⟨#[]⟩) Try.underlying67 (by kernel_rfl) rfl (by decide)
theorem elt_name : Elt Try.prog 71 9 1 16 := Elt.mk' (z := .string ⟨#[]⟩) Try.underlying71 (by kernel_rfl) rfl (by decide)
def Good (w : World) (e : Ending) (w' : World) : Prop := e = .returned (.bool true) ∧ Below w.heap.size w w'
theorem bel_tr {a b c : World} (h : Below a.heap.size a b) (k : Below b.heap.size b c) : Below a.heap.size a c := h.trans (k.mono h.size)
theorem bel_n {a b : World} (h : Below a.heap.size a b) (n : Nat) : Below a.heap.size a (b.drewN n) := below_drewN h n
theorem bel_dN {a b : World} {n : Nat} (h : Below (a.drewN n).heap.size (a.drewN n) b) : Below a.heap.size a b := (below_drewN (Below.refl _ _) n).trans h
end Go.Proofs.Ytnelaegjcpkmdaa
