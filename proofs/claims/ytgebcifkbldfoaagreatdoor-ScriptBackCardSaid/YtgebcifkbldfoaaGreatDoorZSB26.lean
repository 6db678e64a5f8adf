/- Contracts and plain lemmas of our own, merged. -/
import Derived.Test.YtgebcifkbldfoaaGreatDoorZSB11
import Derived.Test.YtgebcifkbldfoaaGreatDoorZSB14
import Derived.Test.YtgebcifkbldfoaaGreatDoorZSB19
import Derived.Test.YtgebcifkbldfoaaGreatDoorZSB25
/- The contracts of addr.Reverse and of the reference's Reverse. -/
namespace Go.Proofs.YtgebcifkbldfoaaGreatDoor
open Go.RowKit
attribute [local go_sem] ba_get ext_take ext_drop ext_any ba_app

theorem shr_u8_4 (c : UInt8) : ((c.toNat : Int)) / 16 = ((c.toNat / 16 : Nat) : Int) := by omega
end Go.Proofs.YtgebcifkbldfoaaGreatDoor

/- The walk of AddrAgain. -/
namespace Go.Proofs.YtgebcifkbldfoaaGreatDoor
open Go.RowKit
attribute [local go_sem] ba_get ext_take ext_drop ext_any ba_app

theorem zoR_err {l : List UInt8} {c : Int} (h : zoR l = .inl c) : c = 4 ∨ c = 5 := by
  unfold zoR at h
  split at h
  · split at h
    · split at h
      · injection h with h; exact .inl h.symm
      · cases h
    · injection h with h; exact .inl h.symm
  · injection h with h; exact .inr h.symm
theorem colP_err {s : List UInt8} {c : Int} (h : colP s = .inl c) : c = 4 ∨ c = 5 := by
  cases hp : plV (hdB 37 s) with
  | none => rw [colP_none hp] at h; injection h with h; exact .inr h.symm
  | some l =>
    cases hz : hasB 37 s with
    | false => rw [colP_pln hp hz] at h; cases h
    | true =>
      cases hn : zoR (tlB 37 s) with
      | inl e => rw [colP_zbad hp hz hn] at h; injection h with h; subst h; exact zoR_err hn
      | inr n => rw [colP_zone hp hz hn (by have := zoR_bd hn; omega)] at h; cases h
theorem adrP_err {s : List UInt8} {c : Int} (h : adrP s = .inl c) : c = 4 ∨ c = 5 := by
  unfold adrP at h
  split at h
  · exact colP_err h
  · cases hq : qpA s with
    | some a => rw [hq] at h; cases h
    | none => rw [hq] at h; injection h with h; exact .inr h.symm
end Go.Proofs.YtgebcifkbldfoaaGreatDoor
