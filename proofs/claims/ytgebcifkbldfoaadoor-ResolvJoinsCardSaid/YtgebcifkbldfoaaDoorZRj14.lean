/- Contracts and plain lemmas of our own, merged. -/
import Derived.Test.YtgebcifkbldfoaaDoorZRj5
import Derived.Lib.ItoaNum
/- The contract of the reference's Digits. -/
namespace Go.Proofs.YtgebcifkbldfoaaDoor
open Go.RowKit
attribute [local go_sem] ba_get

def dgOf (m : Nat) (s : List UInt8) : List UInt8 := (if m = 0 then [] else Lib.decDigits m) ++ s
def DgRel (M k m : Nat) (s : List UInt8) : Prop := m < 10 ^ (20 - k) ∧ dgOf m s = Lib.decDigits M
theorem DgRel.next {M k m : Nat} {s : List UInt8} (h : DgRel M k m s) (hk : k < 20) (hm : 0 < m) : DgRel M (k + 1) (m / 10) (UInt8.ofNat (48 + m % 10) :: s) := by
  obtain ⟨h1, h2⟩ := h
  refine ⟨?_, ?_⟩
  · have : 20 - k = (20 - (k + 1)) + 1 := by omega
    rw [this, Nat.pow_succ] at h1
    omega
  · rw [← h2]
    unfold dgOf
    rw [if_neg (show ¬ m = 0 by omega)]
    by_cases h10 : m < 10
    · rw [if_pos (show m / 10 = 0 by omega), Lib.decDigits_one h10, show m % 10 = m by omega]; rfl
    · rw [if_neg (show ¬ m / 10 = 0 by omega)]
      have : Lib.decDigits m = Lib.decDigits (m / 10) ++ [UInt8.ofNat (48 + m % 10)] := by
        rw [Lib.decDigits, dif_neg h10]
      rw [this]; simp
theorem DgRel.fin {M k : Nat} {s : List UInt8} (h : DgRel M k 0 s) : s = Lib.decDigits M := by
  obtain ⟨_, h2⟩ := h
  simpa [dgOf] using h2
theorem DgRel.start {M : Nat} (h : M < 18446744073709551616) (h0 : 0 < M) : DgRel M 0 M [] := by
  refine ⟨by simp; omega, ?_⟩
  unfold dgOf
  rw [if_neg (by omega)]; simp

theorem itoa_pos {n : Int} (h : 0 ≤ n) : Lib.itoa n = Lib.decDigits n.toNat := by unfold Lib.itoa; rw [if_neg (by omega)]
end Go.Proofs.YtgebcifkbldfoaaDoor
