/- Contracts and plain lemmas of our own, merged. -/
import Derived.Test.YtgebcifkbldfoaaGreatDoorZSB5
import Derived.Lib.ItoaNum
/- The contract of the reference's Digits. -/
namespace Go.Proofs.YtgebcifkbldfoaaGreatDoor
open Go.RowKit
attribute [local go_sem] ba_get

def dgOf (m : Nat) (s : List UInt8) : List UInt8 := (if m = 0 then [] else Lib.decDigits m) ++ s
def DgRel (M k m : Nat) (s : List UInt8) : Prop := m < 10 ^ (20 - k) ∧ dgOf m s = Lib.decDigits M
theorem DgRel.next {M k m : Nat} {s : List UInt8} (h : DgRel M k m s) (hk : k < 20) (hm : 0 < m) : DgRel M (k + 1) (m / 10) (UInt8.ofNat (48 + m % 10) :: s) := by
  obtain ⟨h1, h2⟩ := h
  refine ⟨?_, ?_⟩
  · have : 20 - k = (20 - (k + 1)) + 1 := by omega
    rw [this, Nat.pow_succ] at h1
    omega
  · rw [← h2]
    unfold dgOf
    rw [if_neg (show ¬ m = 0 by omega)]
    by_cases h10 : m < 10
    · rw [if_pos (show m / 10 = 0 by omega), Lib.decDigits_one h10, show m % 10 = m by omega]; rfl
    · rw [if_neg (show ¬ m / 10 = 0 by omega)]
      have : Lib.decDigits m = Lib.decDigits (m / 10) ++ [UInt8.ofNat (48 + m % 10)] := by
        rw [Lib.decDigits, dif_neg h10]
      rw [this]; simp
theorem DgRel.fin {M k : Nat} {s : List UInt8} (h : DgRel M k 0 s) : s = Lib.decDigits M := by
  obtain ⟨_, h2⟩ := h
  simpa [dgOf] using h2
theorem DgRel.top {M m : Nat} {s : List UInt8} (h : DgRel M 20 m s) : m = 0 := by
  obtain ⟨h1, _⟩ := h
  simp at h1; omega
theorem DgRel.start {M : Nat} (h : M < 18446744073709551616) (h0 : 0 < M) : DgRel M 0 M [] := by
  refine ⟨by simp; omega, ?_⟩
  unfold dgOf
  rw [if_neg (by omega)]; simp

def digL : List UInt8 := [48, 49, 50, 51, 52, 53, 54, 55, 56, 57]
theorem digL_cut {d : Nat} (h : d < 10) : (digL.take (d + 1)).drop d = [UInt8.ofNat (48 + d)] := by
  have : ∀ d : Fin 10, (digL.take (d.val + 1)).drop d.val = [UInt8.ofNat (48 + d.val)] := by decide +kernel
  exact this ⟨d, h⟩
theorem itoa_zero : Lib.itoa 0 = [48] := by decide +kernel
theorem itoa_pos {n : Int} (h : 0 ≤ n) : Lib.itoa n = Lib.decDigits n.toNat := by unfold Lib.itoa; rw [if_neg (by omega)]
theorem itoa_neg' {n : Int} (h : n < 0) : Lib.itoa n = 45 :: Lib.decDigits n.natAbs := by unfold Lib.itoa; rw [if_pos h]


theorem dig_cut {m : Nat} (T : List UInt8) : Value.string ((ByteArray.mk #[48, 49, 50, 51, 52, 53, 54, 55, 56, 57]).extract (m % 10) (m % 10 + 1) ++ ByteArray.mk T.toArray) = .string ⟨(UInt8.ofNat (48 + m % 10) :: T).toArray⟩ := by
  have : (ByteArray.mk #[48, 49, 50, 51, 52, 53, 54, 55, 56, 57]) = ⟨digL.toArray⟩ := rfl
  rw [this, ext_any, digL_cut (by omega)]
  congr 1

set_option maxRecDepth 100000 in
set_option maxHeartbeats 1000000 in
theorem rdigits_pos (n : Int) (w : World) (h0 : 0 < n) (h1 : n ≤ 9223372036854775807) : Calls Tryz.prog 24 #[.int .i64 n] w fun e w' => e = .returned (.string ⟨(Lib.itoa n).toArray⟩) ∧ w = w' := by
  have hz : (n == 0) = false := by rw [beq_eq_false_iff_ne]; omega
  have hn : ¬ n < 0 := by omega
  have Hit := Lib.hid (itoa_pos (n := n) (by omega))
  obtain ⟨M, hM⟩ : ∃ M : Nat, M = n.toNat := ⟨_, rfl⟩
  have hst := DgRel.start (M := M) (by omega) (by omega)
  have HM := Lib.hid hM
  have Hst := Lib.hid hst
  clear hst
  go_enter Tryz.func24, Tryz.ntmps24
  go_wp2
  clear hM
  go_loop [3, 4, 5, 6] (fun m s i _ => ∃ k m' : Nat, ∃ T : List UInt8, k ≤ 20 ∧ m' ≤ 18446744073709551615 ∧ i = .int .i64 k ∧ m = .int .u64 m' ∧ s = .string ⟨T.toArray⟩ ∧ T.length ≤ k ∧ DgRel M k m' T) (fun _ _ i _ => 20 - (intOf i).toNat)
  case atStart => exact ⟨0, M, [], by omega, by have := HM.out; omega, rfl, by rw [show ((M : Nat) : Int) = n by have := HM.out; omega], rfl, by simp, Hst.out⟩
  case round =>
    obtain ⟨k, m, T, hk, hm, rfl, rfl, rfl, hT, hr⟩ := hrel
    have Hr := Lib.hid hr
    clear hr
    by_cases hk2 : k < 20
    · by_cases hm0 : 0 < m
      · have hnx := Hr.out.next hk2 hm0
        have Hnx := Lib.hid hnx
        clear hnx
        go_wp2
        go_round
        case rel => exact ⟨k + 1, m / 10, _, by omega, by omega, by go_num, by go_num, dig_cut T, by simp; omega, Hnx.out⟩
        case measure => simp [intOf]; omega
      · have hm1 : m = 0 := by omega
        subst hm1
        have HF := Lib.hid (Hr.out.fin)
        go_wp2
        go_ret
        exact ⟨congrArg Ending.returned (vstr (by rw [Hit.out, ← HM.out, ← HF.out])), rfl⟩
    · have hk3 : k = 20 := by omega
      subst hk3
      have hm1 := Hr.out.top
      subst hm1
      have HF := Lib.hid (Hr.out.fin)
      go_wp2
      go_ret
      exact ⟨congrArg Ending.returned (vstr (by rw [Hit.out, ← HM.out, ← HF.out])), rfl⟩

set_option maxRecDepth 100000 in
set_option maxHeartbeats 1000000 in
theorem rdigits_neg (n : Int) (w : World) (h0 : n < 0) (h1 : -9223372036854775808 ≤ n) : Calls Tryz.prog 24 #[.int .i64 n] w fun e w' => e = .returned (.string ⟨(Lib.itoa n).toArray⟩) ∧ w = w' := by
  have hz : (n == 0) = false := by rw [beq_eq_false_iff_ne]; omega
  have hn : n < 0 := by omega
  have Hit := Lib.hid (itoa_neg' (n := n) (by omega))
  obtain ⟨M, hM⟩ : ∃ M : Nat, M = n.natAbs := ⟨_, rfl⟩
  have hst := DgRel.start (M := M) (by omega) (by omega)
  have HM := Lib.hid hM
  have Hst := Lib.hid hst
  clear hst
  go_enter Tryz.func24, Tryz.ntmps24
  go_wp2
  clear hM
  go_loop [3, 4, 5, 6] (fun m s i _ => ∃ k m' : Nat, ∃ T : List UInt8, k ≤ 20 ∧ m' ≤ 18446744073709551615 ∧ i = .int .i64 k ∧ m = .int .u64 m' ∧ s = .string ⟨T.toArray⟩ ∧ T.length ≤ k ∧ DgRel M k m' T) (fun _ _ i _ => 20 - (intOf i).toNat)
  case atStart => exact ⟨0, M, [], by omega, by have := HM.out; omega, rfl, vint (by have := HM.out; rw [IntKind.wrap_u64, IntKind.wrap_u64]; omega), rfl, by simp, Hst.out⟩
  case round =>
    obtain ⟨k, m, T, hk, hm, rfl, rfl, rfl, hT, hr⟩ := hrel
    have Hr := Lib.hid hr
    clear hr
    by_cases hk2 : k < 20
    · by_cases hm0 : 0 < m
      · have hnx := Hr.out.next hk2 hm0
        have Hnx := Lib.hid hnx
        clear hnx
        go_wp2
        go_round
        case rel => exact ⟨k + 1, m / 10, _, by omega, by omega, by go_num, by go_num, dig_cut T, by simp; omega, Hnx.out⟩
        case measure => simp [intOf]; omega
      · have hm1 : m = 0 := by omega
        subst hm1
        have HF := Lib.hid (Hr.out.fin)
        go_wp2
        go_ret
        exact ⟨congrArg Ending.returned (vstr (by rw [Hit.out, ← HM.out, ← HF.out]; rfl)), rfl⟩
    · have hk3 : k = 20 := by omega
      subst hk3
      have hm1 := Hr.out.top
      subst hm1
      have HF := Lib.hid (Hr.out.fin)
      go_wp2
      go_ret
      exact ⟨congrArg Ending.returned (vstr (by rw [Hit.out, ← HM.out, ← HF.out]; rfl)), rfl⟩

theorem rdigits_any (n : Int) (w : World) (h0 : -9223372036854775808 ≤ n) (h1 : n ≤ 9223372036854775807) : Calls Tryz.prog 24 #[.int .i64 n] w fun e w' => e = .returned (.string ⟨(Lib.itoa n).toArray⟩) ∧ w = w' := by
  rcases Int.lt_trichotomy n 0 with h | h | h
  · exact rdigits_neg n w h h0
  · subst h
    go_enter Tryz.func24, Tryz.ntmps24
    go_wp2
    go_ret
    exact ⟨congrArg Ending.returned (vstr itoa_zero.symm), rfl⟩
  · exact rdigits_pos n w h h1
end Go.Proofs.YtgebcifkbldfoaaGreatDoor
