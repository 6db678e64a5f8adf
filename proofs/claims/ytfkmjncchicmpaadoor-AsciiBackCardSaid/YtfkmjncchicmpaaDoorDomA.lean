/- The contracts of domain.digit, domain.escaped and the reference's escaped. -/
import Derived.Test.YtfkmjncchicmpaaDoorNumR
namespace Go.Proofs.YtfkmjncchicmpaaDoor
open Go.RowKit
attribute [local go_sem] ba_get ext_take ext_drop

def esc3 (a : UInt8) : List UInt8 → Option (UInt8 × Nat)
  | b :: c :: _ => if dgB b = true ∧ dgB c = true then (if 100 * (a.toNat - 48) + 10 * (b.toNat - 48) + (c.toNat - 48) ≤ 255 then some (UInt8.ofNat (100 * (a.toNat - 48) + 10 * (b.toNat - 48) + (c.toNat - 48)), 3) else none) else none
  | _ => none
def esc : List UInt8 → Option (UInt8 × Nat)
  | [] => none
  | a :: r => if dgB a = true then esc3 a r else some (a, 1)
def escV : Option (UInt8 × Nat) → Value
  | none => .tuple #[.int .u8 0, .int .i64 0, .bool false]
  | some (c, n) => .tuple #[.int .u8 (c.toNat : Int), .int .i64 (n : Int), .bool true]
def rescV : Option (UInt8 × Nat) → Value
  | none => .tuple #[.int .u8 0, .int .i64 0]
  | some (c, n) => .tuple #[.int .u8 (c.toNat : Int), .int .i64 (n : Int)]
theorem esc_t {a : UInt8} {r : List UInt8} (h : dgB a = true) : esc (a :: r) = esc3 a r := by unfold esc; exact if_pos h
theorem esc_f {a : UInt8} {r : List UInt8} (h : dgB a = false) : esc (a :: r) = some (a, 1) := by unfold esc; exact if_neg (by simp [h])
theorem escn {o : Option (UInt8 × Nat)} (h : o = none) : Ending.returned (.tuple #[.int .u8 0, .int .i64 0, .bool false]) = .returned (escV o) := by rw [h]; rfl
theorem escs {o : Option (UInt8 × Nat)} {c : UInt8} {n : Nat} {z m : Int} (h : o = some (c, n)) (hz : z = c.toNat) (hm : m = n) : Ending.returned (.tuple #[.int .u8 z, .int .i64 m, .bool true]) = .returned (escV o) := by rw [h, hz, hm]; rfl
theorem rescn {o : Option (UInt8 × Nat)} (h : o = none) : Ending.returned (.tuple #[.int .u8 0, .int .i64 0]) = .returned (rescV o) := by rw [h]; rfl
theorem rescs {o : Option (UInt8 × Nat)} {c : UInt8} {n : Nat} {z m : Int} (h : o = some (c, n)) (hz : z = c.toNat) (hm : m = n) : Ending.returned (.tuple #[.int .u8 z, .int .i64 m]) = .returned (rescV o) := by rw [h, hz, hm]; rfl

theorem val3 (a b c : UInt8) : val [a, b, c] = 100 * (a.toNat - 48) + 10 * (b.toNat - 48) + (c.toNat - 48) := by
  simp [val]; omega

end Go.Proofs.YtfkmjncchicmpaaDoor
