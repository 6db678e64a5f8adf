/- The contracts of small, blank, Hex and the reference's Hex. -/
import Derived.Test.YtnelaegjcpkmdaaProg
import Derived.Test.YtnelaegjcpkmdaaKB
namespace Go.Proofs.Ytnelaegjcpkmdaa
open Go.RowKit
attribute [local go_sem] ba_get

/-- a byte, a great letter made small. -/
def sm (b : UInt8) : UInt8 := if 65 ≤ b.toNat ∧ b.toNat ≤ 90 then UInt8.ofNat (b.toNat + 32) else b
theorem sm_up {b : UInt8} (h : 65 ≤ b.toNat ∧ b.toNat ≤ 90) : (sm b).toNat = b.toNat + 32 := by
  unfold sm; rw [if_pos h, UInt8.toNat_ofNat_of_lt' (show _ < 256 by omega)]
theorem sm_id {b : UInt8} (h : ¬ (65 ≤ b.toNat ∧ b.toNat ≤ 90)) : sm b = b := by unfold sm; rw [if_neg h]
def blB (b : UInt8) : Bool := decide (b.toNat = 32 ∨ b.toNat = 9)

set_option maxHeartbeats 400000 in
theorem small_any (b : UInt8) (w : World) : Calls Try.prog 107 #[.int .u8 (b.toNat : Int)] w fun e w' => e = .returned (.int .u8 ((sm b).toNat : Int)) ∧ w = w' := by
  have hb := b.toNat_lt
  by_cases h : 65 ≤ b.toNat ∧ b.toNat ≤ 90
  · have h1 : (65 : Int) ≤ (b.toNat : Int) := by omega
    have h2 : (b.toNat : Int) ≤ 90 := by omega
    have hs := sm_up h
    have Hs := Lib.hid hs
    clear h hs
    go_enter Try.func107, Try.ntmps107
    go_wp2
    go_ret
    exact ⟨reti (by rw [Hs.out]; omega), rfl⟩
  · have hs := sm_id h
    have Hs := Lib.hid hs
    clear hs
    by_cases h1 : 65 ≤ b.toNat
    · have i1 : (65 : Int) ≤ (b.toNat : Int) := by omega
      have i2 : ¬ (b.toNat : Int) ≤ 90 := by omega
      clear h
      go_enter Try.func107, Try.ntmps107
      go_wp2
      go_ret
      exact ⟨reti (by rw [Hs.out]), rfl⟩
    · have i1 : ¬ (65 : Int) ≤ (b.toNat : Int) := by omega
      clear h
      go_enter Try.func107, Try.ntmps107
      go_wp2
      go_ret
      exact ⟨reti (by rw [Hs.out]), rfl⟩

/-- the number of a digit of the base 16. -/
def hex (c : Int) : Option Int := if 48 ≤ c ∧ c ≤ 57 then some (c - 48) else if 97 ≤ c ∧ c ≤ 102 then some (c - 87) else if 65 ≤ c ∧ c ≤ 70 then some (c - 55) else none
def hexV : Option Int → Value
  | none => .tuple #[.int .i64 0, .bool false]
  | some n => .tuple #[.int .i64 n, .bool true]
theorem hexn {o : Option Int} (h : o = none) : Ending.returned (.tuple #[.int .i64 0, .bool false]) = .returned (hexV o) := by rw [h]; rfl
theorem hexs {o : Option Int} {n m : Int} (h : o = some n) (hm : m = n) : Ending.returned (.tuple #[.int .i64 m, .bool true]) = .returned (hexV o) := by rw [h, hm]; rfl
def hexL : List UInt8 := [48, 49, 50, 51, 52, 53, 54, 55, 56, 57, 97, 98, 99, 100, 101, 102, 65, 66, 67, 68, 69, 70]
theorem hexL_hit : ∀ k : Fin 22, hex ((hexL[k.val]'(by show k.val < 22; omega)).toNat : Int) = some (if k.val ≥ 16 then (k.val : Int) - 6 else (k.val : Int)) := by decide +kernel
theorem hexL_miss : ∀ c : Fin 256, (∀ k : Fin 22, (hexL[k.val]'(by show k.val < 22; omega)).toNat ≠ c.val) → hex (c.val : Int) = none := by decide +kernel
end Go.Proofs.Ytnelaegjcpkmdaa
