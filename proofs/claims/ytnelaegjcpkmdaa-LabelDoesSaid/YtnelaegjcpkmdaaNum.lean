/- The contracts of ascii.Number and of the reference's Number: both answer what numV says. -/
import Derived.Test.YtnelaegjcpkmdaaProg
import Derived.Test.YtnelaegjcpkmdaaK
namespace Go.Proofs.Ytnelaegjcpkmdaa
open Go.RowKit
attribute [local go_sem] ba_get

def dgB (b : UInt8) : Bool := decide (48 ≤ b.toNat ∧ b.toNat ≤ 57)
def val (l : List UInt8) : Nat := l.foldl (fun n b => 10 * n + (b.toNat - 48)) 0
def numV (l : List UInt8) (most : Int) : Value :=
  if l ≠ [] ∧ l.all dgB = true then if (val l : Int) ≤ most then .tuple #[.int .i64 (val l), .int .i64 0] else .tuple #[.int .i64 0, .int .i64 4] else .tuple #[.int .i64 0, .int .i64 5]
theorem val_snoc (l : List UInt8) (b : UInt8) : val (l ++ [b]) = 10 * val l + (b.toNat - 48) := by unfold val; rw [List.foldl_append]; rfl
theorem val_from (n : Nat) (r : List UInt8) : n ≤ r.foldl (fun n b => 10 * n + (b.toNat - 48)) n := by
  induction r generalizing n with
  | nil => exact Nat.le_refl _
  | cons b r ih => exact Nat.le_trans (by omega) (ih (10 * n + (b.toNat - 48)))
theorem val_take (l : List UInt8) (k : Nat) : val (l.take k) ≤ val l := by
  have e : l = l.take k ++ l.drop k := (List.take_append_drop k l).symm
  have : val l = (l.drop k).foldl (fun n b => 10 * n + (b.toNat - 48)) (val (l.take k)) := by
    conv => lhs; rw [e]
    unfold val
    rw [List.foldl_append]
  rw [this]
  exact val_from _ _
theorem val_next {l : List UInt8} {k : Nat} (h : k < l.length) : val (l.take (k + 1)) = 10 * val (l.take k) + (l[k].toNat - 48) := by
  rw [List.take_succ_eq_append_getElem h, val_snoc]
theorem dgB_t {b : UInt8} (h : dgB b = true) : 48 ≤ b.toNat ∧ b.toNat ≤ 57 := by simpa [dgB] using h
theorem dgB_f {b : UInt8} (h : dgB b = false) : b.toNat < 48 ∨ 57 < b.toNat := by simp [dgB] at h; omega
theorem all_next {l : List UInt8} {k : Nat} {p : UInt8 → Bool} (h : k < l.length) (h1 : (l.take k).all p = true) (h2 : p l[k] = true) : (l.take (k + 1)).all p = true := by
  rw [List.take_succ_eq_append_getElem h, List.all_append, h1]
  simp [h2]
theorem not_all {l : List UInt8} {k : Nat} {p : UInt8 → Bool} (h : k < l.length) (h2 : p l[k] = false) : ¬ l.all p = true := by
  intro h1
  rw [List.all_eq_true] at h1
  have := h1 _ (List.getElem_mem h)
  rw [h2] at this
  cases this
theorem numV_form {l : List UInt8} {most : Int} (h : ¬ (l ≠ [] ∧ l.all dgB = true)) : Ending.returned (.tuple #[.int .i64 0, .int .i64 5]) = .returned (numV l most) := by unfold numV; rw [if_neg h]
theorem numV_range {l : List UInt8} {most : Int} (h0 : l ≠ []) (h : l.all dgB = true) (hr : most < (val l : Int)) : Ending.returned (.tuple #[.int .i64 0, .int .i64 4]) = .returned (numV l most) := by
  unfold numV; rw [if_pos ⟨h0, h⟩, if_neg (by omega)]
theorem numV_ok {l : List UInt8} {most : Int} (h0 : l ≠ []) (h : l.all dgB = true) (hr : (val l : Int) ≤ most) {n : Int} (hn : n = val l) : Ending.returned (.tuple #[.int .i64 n, .int .i64 0]) = .returned (numV l most) := by
  subst hn
  unfold numV; rw [if_pos ⟨h0, h⟩, if_pos hr]

def NumRel (l : List UInt8) (most : Int) (nv iv : Value) : Prop :=
  ∃ (k n : Nat), k ≤ l.length ∧ iv = .int .i64 k ∧ nv = .int .i64 n ∧ n = val (l.take k) ∧ (k = 0 ∨ (n : Int) ≤ most)

end Go.Proofs.Ytnelaegjcpkmdaa
