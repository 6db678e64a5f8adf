/- Contracts and plain lemmas of our own, merged. -/
import Derived.Test.YthlnndjkocnfcaaGreatDoorZZDS10
import Derived.Lib.BitFns
/- Like bits of addresses, in plain words. No walk here. -/
namespace Go.Proofs.YthlnndjkocnfcaaGreatDoor
open Go.RowKit

/-- a bit of a byte, the highest one first. -/
def bitB (x : Nat) (i : Nat) : Nat := x / 2 ^ (7 - i) % 2
/-- a bit of an address. -/
def bitA (a : Ad) (i : Nat) : Nat := bitB (a.b (i / 8)).toNat (i % 8)
/-- like bits from i on, at most k. -/
def comF (a b : Ad) : Nat → Nat → Nat
  | 0, i => i
  | k + 1, i => if bitA a i = bitA b i then comF a b k (i + 1) else i
def mostA (a : Ad) : Nat := if a.fam = 4 then 32 else if a.fam = 6 then 128 else 0
theorem mostA_int (a : Ad) : bitsA a = (mostA a : Int) := by
  unfold bitsA mostA
  split
  · rfl
  · split <;> rfl
/-- with how many like bits two addresses begin. -/
def comA (a b : Ad) : Nat := if a.fam = b.fam then comF a b (mostA a) 0 else 0
theorem comF_bd (a b : Ad) : ∀ k i, i ≤ comF a b k i ∧ comF a b k i ≤ i + k := by
  intro k
  induction k with
  | zero => intro i; rw [comF]; omega
  | succ k ih =>
    intro i
    rw [comF]
    split
    · have := ih (i + 1); omega
    · omega
theorem comA_le (a b : Ad) : comA a b ≤ mostA a := by
  unfold comA
  split
  · have := (comF_bd a b (mostA a) 0).2; omega
  · omega
theorem mostA_le (a : Ad) : mostA a ≤ 128 := by unfold mostA; split <;> (try split) <;> omega
/-- like bits of two bytes from i on, at most k. -/
def bcF (x y : Nat) : Nat → Nat → Nat
  | 0, i => i
  | k + 1, i => if bitB x i = bitB y i then bcF x y k (i + 1) else i
def zcF (z : Nat) : Nat → Nat → Nat
  | 0, i => i
  | k + 1, i => if bitB z i = 0 then zcF z k (i + 1) else i
theorem bitB_xor (x y i : Nat) : bitB x i = bitB y i ↔ bitB (x ^^^ y) i = 0 := by
  have h := Nat.testBit_xor x y (7 - i)
  rw [Nat.testBit_eq_decide_div_mod_eq, Nat.testBit_eq_decide_div_mod_eq, Nat.testBit_eq_decide_div_mod_eq] at h
  unfold bitB
  rcases Nat.mod_two_eq_zero_or_one (x / 2 ^ (7 - i)) with h1 | h1 <;> rcases Nat.mod_two_eq_zero_or_one (y / 2 ^ (7 - i)) with h2 | h2 <;> rcases Nat.mod_two_eq_zero_or_one ((x ^^^ y) / 2 ^ (7 - i)) with h3 | h3 <;> rw [h1, h2, h3] at h <;> rw [h1, h2, h3] <;> simp at h ⊢
theorem bcF_z (x y : Nat) : ∀ k i, bcF x y k i = zcF (x ^^^ y) k i := by
  intro k
  induction k with
  | zero => intro i; rfl
  | succ k ih =>
    intro i
    rw [bcF, zcF, ih]
    by_cases h : bitB x i = bitB y i
    · rw [if_pos h, if_pos ((bitB_xor x y i).1 h)]
    · rw [if_neg h, if_neg (fun k => h ((bitB_xor x y i).2 k))]
theorem zc_all : ∀ z : Fin 256, zcF z.val 8 0 = 8 - Lib.bitLen z.val := by decide +kernel
theorem bitA_at (a : Ad) {j i : Nat} (h : i < 8) : bitA a (8 * j + i) = bitB (a.b j).toNat i := by
  unfold bitA
  rw [show (8 * j + i) / 8 = j by omega, show (8 * j + i) % 8 = i by omega]
theorem comF_part (a b : Ad) (j m : Nat) : ∀ r, r ≤ 8 → comF a b (m + r) (8 * j + (8 - r)) = if bcF (a.b j).toNat (b.b j).toNat r (8 - r) = 8 then comF a b m (8 * j + 8) else 8 * j + bcF (a.b j).toNat (b.b j).toNat r (8 - r) := by
  intro r
  induction r with
  | zero => intro _; rfl
  | succ r ih =>
    intro h
    have e : 8 - (r + 1) + 1 = 8 - r := by omega
    rw [show m + (r + 1) = (m + r) + 1 by omega, comF, bcF, bitA_at a (by omega), bitA_at b (by omega)]
    split
    · rw [show 8 * j + (8 - (r + 1)) + 1 = 8 * j + (8 - r) by omega, ih (by omega), e]
    · rw [if_neg (by omega)]
theorem bc_xor (c d : UInt8) : bcF c.toNat d.toNat 8 0 = 8 - Lib.bitLen (c ^^^ d).toNat := by
  rw [bcF_z, ← UInt8.toNat_xor]
  exact zc_all ⟨(c ^^^ d).toNat, (c ^^^ d).toNat_lt⟩
theorem xor_zero {c d : UInt8} : c ^^^ d = 0 ↔ c = d := by
  constructor
  · intro h
    have : c ^^^ d ^^^ d = d := by rw [h]; simp
    rw [UInt8.xor_assoc, UInt8.xor_self, UInt8.xor_zero] at this
    exact this
  · intro h; subst h; exact UInt8.xor_self
theorem bitLen_pos {n : Nat} (h : 0 < n) (h2 : n < 256) : 0 < Lib.bitLen n := by
  have : ∀ n : Fin 256, n.val = 0 ∨ 0 < Lib.bitLen n.val := by decide +kernel
  have := this ⟨n, h2⟩
  simp only at this
  omega
/-- a byte that is alike; one that is not. -/
theorem comF_like {a b : Ad} {j m : Nat} (h : a.b j = b.b j) : comF a b (m + 8) (8 * j) = comF a b m (8 * j + 8) := by
  have := comF_part a b j m 8 (Nat.le_refl _)
  rw [bc_xor, h, UInt8.xor_self] at this
  rw [if_pos (by decide)] at this
  exact this
theorem comF_else {a b : Ad} {j m : Nat} (h : a.b j ≠ b.b j) : comF a b (m + 8) (8 * j) = 8 * j + (8 - Lib.bitLen (a.b j ^^^ b.b j).toNat) := by
  have := comF_part a b j m 8 (Nat.le_refl _)
  rw [bc_xor] at this
  have hp : 0 < Lib.bitLen (a.b j ^^^ b.b j).toNat := bitLen_pos (by
    rcases Nat.eq_zero_or_pos (a.b j ^^^ b.b j).toNat with h0 | h0
    · exact absurd (xor_zero.1 (u8zero.2 h0)) h
    · exact h0) (UInt8.toNat_lt _)
  rw [if_neg (by omega)] at this
  exact this
end Go.Proofs.YthlnndjkocnfcaaGreatDoor
