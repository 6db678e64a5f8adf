/- Contracts and plain lemmas of our own, merged. -/
import Derived.Test.YtolglcgdophcaaaGreatDoorZ5
import Derived.Lib.ItoaNum
/- The contract of the reference's Digits. -/
namespace Go.Proofs.YtolglcgdophcaaaGreatDoor
open Go.RowKit
attribute [local go_sem] ba_get

def dgOf (m : Nat) (s : List UInt8) : List UInt8 := (if m = 0 then [] else Lib.decDigits m) ++ s
def DgRel (M k m : Nat) (s : List UInt8) : Prop := m < 10 ^ (20 - k) ∧ dgOf m s = Lib.decDigits M
theorem DgRel.next {M k m : Nat} {s : List UInt8} (h : DgRel M k m s) (hk : k < 20) (hm : 0 < m) : DgRel M (k + 1) (m / 10) (UInt8.ofNat (48 + m % 10) :: s) := by
  obtain ⟨h1, h2⟩ := h
  refine ⟨?_, ?_⟩
  · have : 20 - k = (20 - (k + 1)) + 1 := by omega
    rw [this, Nat.pow_succ] at h1
    omega
  · rw [← h2]
    unfold dgOf
    rw [if_neg (show ¬ m = 0 by omega)]
    by_cases h10 : m < 10
    · rw [if_pos (show m / 10 = 0 by omega), Lib.decDigits_one h10, show m % 10 = m by omega]; rfl
    · rw [if_neg (show ¬ m / 10 = 0 by omega)]
      have : Lib.decDigits m = Lib.decDigits (m / 10) ++ [UInt8.ofNat (48 + m % 10)] := by
        rw [Lib.decDigits, dif_neg h10]
      rw [this]; simp
theorem DgRel.fin {M k : Nat} {s : List UInt8} (h : DgRel M k 0 s) : s = Lib.decDigits M := by
  obtain ⟨_, h2⟩ := h
  simpa [dgOf] using h2
theorem DgRel.top {M m : Nat} {s : List UInt8} (h : DgRel M 20 m s) : m = 0 := by
  obtain ⟨h1, _⟩ := h
  simp at h1; omega
theorem DgRel.start {M : Nat} (h : M < 18446744073709551616) (h0 : 0 < M) : DgRel M 0 M [] := by
  refine ⟨by simp; omega, ?_⟩
  unfold dgOf
  rw [if_neg (by omega)]; simp

def digL : List UInt8 := [48, 49, 50, 51, 52, 53, 54, 55, 56, 57]
theorem digL_cut {d : Nat} (h : d < 10) : (digL.take (d + 1)).drop d = [UInt8.ofNat (48 + d)] := by
  have : ∀ d : Fin 10, (digL.take (d.val + 1)).drop d.val = [UInt8.ofNat (48 + d.val)] := by decide +kernel
  exact this ⟨d, h⟩
theorem itoa_zero : Lib.itoa 0 = [48] := by decide +kernel
theorem itoa_pos {n : Int} (h : 0 ≤ n) : Lib.itoa n = Lib.decDigits n.toNat := by unfold Lib.itoa; rw [if_neg (by omega)]
theorem itoa_neg' {n : Int} (h : n < 0) : Lib.itoa n = 45 :: Lib.decDigits n.natAbs := by unfold Lib.itoa; rw [if_pos h]


theorem dig_cut {m : Nat} (T : List UInt8) : Value.string ((ByteArray.mk #[48, 49, 50, 51, 52, 53, 54, 55, 56, 57]).extract (m % 10) (m % 10 + 1) ++ ByteArray.mk T.toArray) = .string ⟨(UInt8.ofNat (48 + m % 10) :: T).toArray⟩ := by
  have : (ByteArray.mk #[48, 49, 50, 51, 52, 53, 54, 55, 56, 57]) = ⟨digL.toArray⟩ := rfl
  rw [this, ext_any, digL_cut (by omega)]
  congr 1

set_option maxRecDepth 100000 in
set_option maxHeartbeats 1000000 in
theorem rdigits_pos (n : Int) (w : World) (h0 : 0 < n) (h1 : n ≤ 9223372036854775807) : Calls Tryz.prog 35 #[.int .i64 n] w fun e w' => e = .returned (.string ⟨(Lib.itoa n).toArray⟩) ∧ w = w' := by
  have hz : (n == 0) = false := by rw [beq_eq_false_iff_ne]; omega
  have hn : ¬ n < 0 := by omega
  have Hit := Lib.hid (itoa_pos (n := n) (by omega))
  obtain ⟨M, hM⟩ : ∃ M : Nat, M = n.toNat := ⟨_, rfl⟩
  have hst := DgRel.start (M := M) (by omega) (by omega)
  have HM := Lib.hid hM
  have Hst := Lib.hid hst
  clear hst
  go_enter Tryz.func35, Tryz.ntmps35
  go_wp2
  clear hM
  go_loop [3, 4, 5, 6] (fun m s i _ => ∃ k m' : Nat, ∃ T : List UInt8, k ≤ 20 ∧ m' ≤ 18446744073709551615 ∧ i = .int .i64 k ∧ m = .int .u64 m' ∧ s = .string ⟨T.toArray⟩ ∧ T.length ≤ k ∧ DgRel M k m' T) (fun _ _ i _ => 20 - (intOf i).toNat)
  case atStart => exact ⟨0, M, [], by omega, by have := HM.out; omega, rfl, by rw [show ((M : Nat) : Int) = n by have := HM.out; omega], rfl, by simp, Hst.out⟩
  case round =>
    obtain ⟨k, m, T, hk, hm, rfl, rfl, rfl, hT, hr⟩ := hrel
    have Hr := Lib.hid hr
    clear hr
    by_cases hk2 : k < 20
    · by_cases hm0 : 0 < m
      · have hnx := Hr.out.next hk2 hm0
        have Hnx := Lib.hid hnx
        clear hnx
        go_wp2
        go_round
        case rel => exact ⟨k + 1, m / 10, _, by omega, by omega, by go_num, by go_num, dig_cut T, by simp; omega, Hnx.out⟩
        case measure => simp [intOf]; omega
      · have hm1 : m = 0 := by omega
        subst hm1
        have HF := Lib.hid (Hr.out.fin)
        go_wp2
        go_ret
        exact ⟨congrArg Ending.returned (vstr (by rw [Hit.out, ← HM.out, ← HF.out])), rfl⟩
    · have hk3 : k = 20 := by omega
      subst hk3
      have hm1 := Hr.out.top
      subst hm1
      have HF := Lib.hid (Hr.out.fin)
      go_wp2
      go_ret
      exact ⟨congrArg Ending.returned (vstr (by rw [Hit.out, ← HM.out, ← HF.out])), rfl⟩

set_option maxRecDepth 100000 in
set_option maxHeartbeats 1000000 in
theorem rdigits_neg (n : Int) (w : World) (h0 : n < 0) (h1 : -9223372036854775808 ≤ n) : Calls Tryz.prog 35 #[.int .i64 n] w fun e w' => e = .returned (.string ⟨(Lib.itoa n).toArray⟩) ∧ w = w' := by
  have hz : (n == 0) = false := by rw [beq_eq_false_iff_ne]; omega
  have hn : n < 0 := by omega
  have Hit := Lib.hid (itoa_neg' (n := n) (by omega))
  obtain ⟨M, hM⟩ : ∃ M : Nat, M = n.natAbs := ⟨_, rfl⟩
  have hst := DgRel.start (M := M) (by omega) (by omega)
  have HM := Lib.hid hM
  have Hst := Lib.hid hst
  clear hst
  go_enter Tryz.func35, Tryz.ntmps35
  go_wp2
  clear hM
  go_loop [3, 4, 5, 6] (fun m s i _ => ∃ k m' : Nat, ∃ T : List UInt8, k ≤ 20 ∧ m' ≤ 18446744073709551615 ∧ i = .int .i64 k ∧ m = .int .u64 m' ∧ s = .string ⟨T.toArray⟩ ∧ T.length ≤ k ∧ DgRel M k m' T) (fun _ _ i _ => 20 - (intOf i).toNat)
  case atStart => exact ⟨0, M, [], by omega, by have := HM.out; omega, rfl, vint (by have := HM.out; rw [IntKind.wrap_u64, IntKind.wrap_u64]; omega), rfl, by simp, Hst.out⟩
  case round =>
    obtain ⟨k, m, T, hk, hm, rfl, rfl, rfl, hT, hr⟩ := hrel
    have Hr := Lib.hid hr
    clear hr
    by_cases hk2 : k < 20
    · by_cases hm0 : 0 < m
      · have hnx := Hr.out.next hk2 hm0
        have Hnx := Lib.hid hnx
        clear hnx
        go_wp2
        go_round
        case rel => exact ⟨k + 1, m / 10, _, by omega, by omega, by go_num, by go_num, dig_cut T, by simp; omega, Hnx.out⟩
        case measure => simp [intOf]; omega
      · have hm1 : m = 0 := by omega
        subst hm1
        have HF := Lib.hid (Hr.out.fin)
        go_wp2
        go_ret
        exact ⟨congrArg Ending.returned (vstr (by rw [Hit.out, ← HM.out, ← HF.out]; rfl)), rfl⟩
    · have hk3 : k = 20 := by omega
      subst hk3
      have hm1 := Hr.out.top
      subst hm1
      have HF := Lib.hid (Hr.out.fin)
      go_wp2
      go_ret
      exact ⟨congrArg Ending.returned (vstr (by rw [Hit.out, ← HM.out, ← HF.out]; rfl)), rfl⟩

theorem rdigits_any (n : Int) (w : World) (h0 : -9223372036854775808 ≤ n) (h1 : n ≤ 9223372036854775807) : Calls Tryz.prog 35 #[.int .i64 n] w fun e w' => e = .returned (.string ⟨(Lib.itoa n).toArray⟩) ∧ w = w' := by
  rcases Int.lt_trichotomy n 0 with h | h | h
  · exact rdigits_neg n w h h0
  · subst h
    go_enter Tryz.func35, Tryz.ntmps35
    go_wp2
    go_ret
    exact ⟨congrArg Ending.returned (vstr itoa_zero.symm), rfl⟩
  · exact rdigits_pos n w h h1
theorem rdigit_one (n : Int) (w : World) (h0 : 0 ≤ n) (h1 : n ≤ 9) : Calls Tryz.prog 35 #[.int .i64 n] w fun e w' => e = .returned (.string ⟨[UInt8.ofNat (48 + n.toNat)].toArray⟩) ∧ w = w' := by
  refine (rdigits_any n w (by omega) (by omega)).mono ?_
  rintro e w' ⟨rfl, rfl⟩
  rw [itoa_pos h0, Lib.decDigits_one (by omega)]
  exact ⟨rfl, rfl⟩
end Go.Proofs.YtolglcgdophcaaaGreatDoor

/- The contracts of the reference's Plain and Text, of domain.Lower; the walk of DomainTells. -/
namespace Go.Proofs.YtolglcgdophcaaaGreatDoor
open Go.RowKit
attribute [local go_sem] ba_get ext_any ba_app

theorem u8div (c : UInt8) : UInt8.ofNat (c.toNat / 100) = c / 100 := by
  apply UInt8.toNat.inj
  have := c.toNat_lt
  simp
  omega
theorem one_cut {l : List UInt8} {j : Nat} (h : j < l.length) : (l.take (j + 1)).drop j = [l[j]] := by
  rw [List.take_succ_eq_append_getElem h, List.drop_append_of_le_length (by simp; omega)]
  simp
theorem dtxs_last {A : List (List UInt8)} {k : Nat} (hk : k ≤ A.length) (h0 : 0 < k) : (dtxs A k).dropLast ++ [46] = dtxs A k := by
  obtain ⟨j, rfl⟩ : ∃ j, k = j + 1 := ⟨k - 1, by omega⟩
  rw [dtxs_succ (by omega), ← List.append_assoc, List.dropLast_concat]
theorem dtxs_next {A : List (List UInt8)} {k : Nat} (hk : k < A.length) : (dtxs A (k + 1)).dropLast = dtxs A k ++ escl A[k] := by
  rw [dtxs_succ hk, ← List.append_assoc, List.dropLast_concat]

set_option maxRecDepth 100000 in
set_option maxHeartbeats 1000000 in
theorem rplain5_any (A : List (List UInt8)) (v : Value) (w : World) (ha : Sl w 1 v A.length (A.map stv)) (hn : A.length ≤ 100000000) (hs : sz A ≤ 100000000) (hll : ∀ l ∈ A, l.length ≤ 100000000) :
    Calls Tryz.prog 39 #[v] w fun e w' => e = .returned (.string ⟨(dpln A).toArray⟩) ∧ w = w' := by
  rcases Nat.eq_zero_or_pos A.length with h0 | hpos
  · have hA : A = [] := List.eq_nil_of_length_eq_zero h0
    subst hA
    obtain ⟨a1, c1, rfl, _⟩ := ha.zero
    clear ha hll
    go_enter Tryz.func39, Tryz.ntmps39
    go_wp2
    refine wp_loop_rounds 1 ?_
    rw [rounds_succ]; go_wp2
    go_ret
    exact ⟨rfl, rfl⟩
  · obtain ⟨b1, o1, c1, rfl, hc1, hb1, hcA⟩ := ha.pos hpos
    have HcA := Lib.hid hcA
    have Hll := Lib.hid hll
    clear hcA ha hll
    have hA0 : A ≠ [] := by intro h; rw [h] at hpos; simp at hpos
    have hne : ((A.length : Int) == 0) = false := by rw [beq_eq_false_iff_ne]; omega
    have Hfin := Lib.hid (show (dtxs A A.length).dropLast = dpln A by unfold dpln; rw [if_neg hA0, dtxs_all hA0])
    clear hA0
    go_enter Tryz.func39, Tryz.ntmps39
    go_wp2
    go_loop [3, 4, 5, 6] (fun s i _ _ => ∃ k : Nat, ∃ T : List UInt8, k ≤ A.length ∧ i = .int .i64 k ∧ s = .string ⟨T.toArray⟩ ∧ T = (dtxs A k).dropLast) (fun _ i _ _ => A.length - (intOf i).toNat)
    case atStart => exact ⟨0, [], Nat.zero_le _, rfl, rfl, rfl⟩
    case round =>
      obtain ⟨k, T, hk, rfl, rfl, hT⟩ := hrel
      by_cases hlt : k < A.length
      · have i1 : (k : Int) < (A.length : Int) := by omega
        have q1 : w.cell? ⟨b1, o1 + k, none⟩ = some (.string ⟨A[k].toArray⟩) := sl_at HcA.out hlt
        have hlk := Hll.out A[k] (List.getElem_mem _)
        have hdl := dtxs_len k hk
        have hszk := sz_take A k
        have hTl : T.length ≤ (dtxs A k).length := by rw [hT, List.length_dropLast]; omega
        have Hnx := Lib.hid (dtxs_next hlt)
        rcases Nat.eq_zero_or_pos k with h0 | h0
        · have i2 : ¬ (0 : Int) < (k : Int) := by omega
          have HT := Lib.hid (show T = dtxs A k by rw [hT, h0]; rfl)
          clear hT h0
          go_wp2
          go_loop [3, 5, 6] (fun s i _ => ∃ j : Nat, ∃ S : List UInt8, j ≤ A[k].length ∧ i = .int .i64 j ∧ s = .string ⟨S.toArray⟩ ∧ S = dtxs A k ++ escp A[k] j) (fun _ i _ => A[k].length - (intOf i).toNat)
          case atStart => exact ⟨0, _, Nat.zero_le _, rfl, rfl, by rw [HT.out]; simp [escp]⟩
          case round =>
            obtain ⟨j, S, hj, rfl, rfl, hS⟩ := hrel
            have hSl : S.length ≤ (dtxs A k).length + 4 * j := by rw [hS, List.length_append]; have := @escp_len A[k] j; omega
            by_cases hjl : j < A[k].length
            · have j1 : (j : Int) < (A[k].length : Int) := by omega
              have hb := A[k][j].toNat_lt
              have HS := Lib.hid hS
              have Hcut := Lib.hid (one_cut hjl)
              have HN := Lib.hid (show S ++ escb A[k][j] = dtxs A k ++ escp A[k] (j + 1) by rw [hS, escp_succ hjl, List.append_assoc])
              clear hS
              by_cases h1 : A[k][j].toNat = 46 ∨ A[k][j].toNat = 92
              · have He : Hid (escb A[k][j] = [92, A[k][j]]) := Lib.hid (by unfold escb; rw [if_pos h1])
                by_cases h46 : A[k][j].toNat = 46
                · have i3 : (((A[k][j].toNat : Nat) : Int) == 46) = true := by simp; omega
                  clear h1 h46
                  go_wp2
                  go_round
                  case rel => exact ⟨j + 1, _, by omega, by go_num, rfl, by rw [Hcut.out, ← He.out]; exact HN.out⟩
                  case measure => simp [intOf]; omega
                · have i3 : (((A[k][j].toNat : Nat) : Int) == 46) = false := by simp; omega
                  have i4 : (((A[k][j].toNat : Nat) : Int) == 92) = true := by simp; omega
                  clear h1 h46
                  go_wp2
                  go_round
                  case rel => exact ⟨j + 1, _, by omega, by go_num, rfl, by rw [Hcut.out, ← He.out]; exact HN.out⟩
                  case measure => simp [intOf]; omega
              · have i3 : (((A[k][j].toNat : Nat) : Int) == 46) = false := by simp; omega
                have i4 : (((A[k][j].toNat : Nat) : Int) == 92) = false := by simp; omega
                by_cases h2 : A[k][j].toNat < 33 ∨ 126 < A[k][j].toNat
                · have He : Hid (escb A[k][j] = [92, UInt8.ofNat (48 + A[k][j].toNat / 100), UInt8.ofNat (48 + A[k][j].toNat / 10 % 10), UInt8.ofNat (48 + A[k][j].toNat % 10)]) := Lib.hid (by unfold escb; rw [if_neg h1, if_pos h2])
                  have i6 : ¬ ((33 : Int) ≤ ((A[k][j].toNat : Nat) : Int) ∧ ((A[k][j].toNat : Nat) : Int) ≤ 126) := by omega
                  clear h1
                  by_cases h33 : A[k][j].toNat < 33
                  · have i5 : ¬ (33 : Int) ≤ ((A[k][j].toNat : Nat) : Int) := by omega
                    clear h2 h33 i6
                    go_wp2_with fail
                    refine (rdigit_one _ _ (by omega) (by omega)).mono ?_
                    rintro e w' ⟨rfl, rfl⟩
                    go_wp2_with fail
                    refine (rdigit_one _ _ (by omega) (by omega)).mono ?_
                    rintro e w' ⟨rfl, rfl⟩
                    go_wp2_with fail
                    refine (rdigit_one _ _ (by omega) (by omega)).mono ?_
                    rintro e w' ⟨rfl, rfl⟩
                    go_wp2_with fail
                    go_round
                    case rel => exact ⟨j + 1, _, by omega, by go_num, rfl, by rw [← HN.out, He.out]; simp [u8div]⟩
                    case measure => simp [intOf]; omega
                  · have i5 : (33 : Int) ≤ ((A[k][j].toNat : Nat) : Int) := by omega
                    have i7 : ¬ ((A[k][j].toNat : Nat) : Int) ≤ 126 := by omega
                    clear h2 h33 i6
                    go_wp2_with fail
                    refine (rdigit_one _ _ (by omega) (by omega)).mono ?_
                    rintro e w' ⟨rfl, rfl⟩
                    go_wp2_with fail
                    refine (rdigit_one _ _ (by omega) (by omega)).mono ?_
                    rintro e w' ⟨rfl, rfl⟩
                    go_wp2_with fail
                    refine (rdigit_one _ _ (by omega) (by omega)).mono ?_
                    rintro e w' ⟨rfl, rfl⟩
                    go_wp2_with fail
                    go_round
                    case rel => exact ⟨j + 1, _, by omega, by go_num, rfl, by rw [← HN.out, He.out]; simp [u8div]⟩
                    case measure => simp [intOf]; omega
                · have He : Hid (escb A[k][j] = [A[k][j]]) := Lib.hid (by unfold escb; rw [if_neg h1, if_neg h2])
                  have i5 : (33 : Int) ≤ ((A[k][j].toNat : Nat) : Int) := by omega
                  have i7 : ((A[k][j].toNat : Nat) : Int) ≤ 126 := by omega
                  clear h1 h2
                  go_wp2
                  go_round
                  case rel => exact ⟨j + 1, _, by omega, by go_num, rfl, by rw [Hcut.out, ← He.out]; exact HN.out⟩
                  case measure => simp [intOf]; omega
            · have j1 : ¬ (j : Int) < (A[k].length : Int) := by omega
              obtain rfl : j = A[k].length := by omega
              have HS := Lib.hid (show S = (dtxs A (k + 1)).dropLast by rw [hS, Hnx.out, escp_all])
              clear hS
              go_wp2
              go_round
              case rel => exact ⟨k + 1, _, by omega, by go_num, rfl, HS.out⟩
              case measure => simp [intOf]; omega
        · have i2 : (0 : Int) < (k : Int) := by omega
          have HT := Lib.hid (show T ++ [46] = dtxs A k by rw [hT]; exact dtxs_last hk h0)
          clear hT h0
          go_wp2
          go_loop [3, 5, 6] (fun s i _ => ∃ j : Nat, ∃ S : List UInt8, j ≤ A[k].length ∧ i = .int .i64 j ∧ s = .string ⟨S.toArray⟩ ∧ S = dtxs A k ++ escp A[k] j) (fun _ i _ => A[k].length - (intOf i).toNat)
          case atStart => exact ⟨0, _, Nat.zero_le _, rfl, rfl, by rw [HT.out]; simp [escp]⟩
          case round =>
            obtain ⟨j, S, hj, rfl, rfl, hS⟩ := hrel
            have hSl : S.length ≤ (dtxs A k).length + 4 * j := by rw [hS, List.length_append]; have := @escp_len A[k] j; omega
            by_cases hjl : j < A[k].length
            · have j1 : (j : Int) < (A[k].length : Int) := by omega
              have hb := A[k][j].toNat_lt
              have HS := Lib.hid hS
              have Hcut := Lib.hid (one_cut hjl)
              have HN := Lib.hid (show S ++ escb A[k][j] = dtxs A k ++ escp A[k] (j + 1) by rw [hS, escp_succ hjl, List.append_assoc])
              clear hS
              by_cases h1 : A[k][j].toNat = 46 ∨ A[k][j].toNat = 92
              · have He : Hid (escb A[k][j] = [92, A[k][j]]) := Lib.hid (by unfold escb; rw [if_pos h1])
                by_cases h46 : A[k][j].toNat = 46
                · have i3 : (((A[k][j].toNat : Nat) : Int) == 46) = true := by simp; omega
                  clear h1 h46
                  go_wp2
                  go_round
                  case rel => exact ⟨j + 1, _, by omega, by go_num, rfl, by rw [Hcut.out, ← He.out]; exact HN.out⟩
                  case measure => simp [intOf]; omega
                · have i3 : (((A[k][j].toNat : Nat) : Int) == 46) = false := by simp; omega
                  have i4 : (((A[k][j].toNat : Nat) : Int) == 92) = true := by simp; omega
                  clear h1 h46
                  go_wp2
                  go_round
                  case rel => exact ⟨j + 1, _, by omega, by go_num, rfl, by rw [Hcut.out, ← He.out]; exact HN.out⟩
                  case measure => simp [intOf]; omega
              · have i3 : (((A[k][j].toNat : Nat) : Int) == 46) = false := by simp; omega
                have i4 : (((A[k][j].toNat : Nat) : Int) == 92) = false := by simp; omega
                by_cases h2 : A[k][j].toNat < 33 ∨ 126 < A[k][j].toNat
                · have He : Hid (escb A[k][j] = [92, UInt8.ofNat (48 + A[k][j].toNat / 100), UInt8.ofNat (48 + A[k][j].toNat / 10 % 10), UInt8.ofNat (48 + A[k][j].toNat % 10)]) := Lib.hid (by unfold escb; rw [if_neg h1, if_pos h2])
                  have i6 : ¬ ((33 : Int) ≤ ((A[k][j].toNat : Nat) : Int) ∧ ((A[k][j].toNat : Nat) : Int) ≤ 126) := by omega
                  clear h1
                  by_cases h33 : A[k][j].toNat < 33
                  · have i5 : ¬ (33 : Int) ≤ ((A[k][j].toNat : Nat) : Int) := by omega
                    clear h2 h33 i6
                    go_wp2_with fail
                    refine (rdigit_one _ _ (by omega) (by omega)).mono ?_
                    rintro e w' ⟨rfl, rfl⟩
                    go_wp2_with fail
                    refine (rdigit_one _ _ (by omega) (by omega)).mono ?_
                    rintro e w' ⟨rfl, rfl⟩
                    go_wp2_with fail
                    refine (rdigit_one _ _ (by omega) (by omega)).mono ?_
                    rintro e w' ⟨rfl, rfl⟩
                    go_wp2_with fail
                    go_round
                    case rel => exact ⟨j + 1, _, by omega, by go_num, rfl, by rw [← HN.out, He.out]; simp [u8div]⟩
                    case measure => simp [intOf]; omega
                  · have i5 : (33 : Int) ≤ ((A[k][j].toNat : Nat) : Int) := by omega
                    have i7 : ¬ ((A[k][j].toNat : Nat) : Int) ≤ 126 := by omega
                    clear h2 h33 i6
                    go_wp2_with fail
                    refine (rdigit_one _ _ (by omega) (by omega)).mono ?_
                    rintro e w' ⟨rfl, rfl⟩
                    go_wp2_with fail
                    refine (rdigit_one _ _ (by omega) (by omega)).mono ?_
                    rintro e w' ⟨rfl, rfl⟩
                    go_wp2_with fail
                    refine (rdigit_one _ _ (by omega) (by omega)).mono ?_
                    rintro e w' ⟨rfl, rfl⟩
                    go_wp2_with fail
                    go_round
                    case rel => exact ⟨j + 1, _, by omega, by go_num, rfl, by rw [← HN.out, He.out]; simp [u8div]⟩
                    case measure => simp [intOf]; omega
                · have He : Hid (escb A[k][j] = [A[k][j]]) := Lib.hid (by unfold escb; rw [if_neg h1, if_neg h2])
                  have i5 : (33 : Int) ≤ ((A[k][j].toNat : Nat) : Int) := by omega
                  have i7 : ((A[k][j].toNat : Nat) : Int) ≤ 126 := by omega
                  clear h1 h2
                  go_wp2
                  go_round
                  case rel => exact ⟨j + 1, _, by omega, by go_num, rfl, by rw [Hcut.out, ← He.out]; exact HN.out⟩
                  case measure => simp [intOf]; omega
            · have j1 : ¬ (j : Int) < (A[k].length : Int) := by omega
              obtain rfl : j = A[k].length := by omega
              have HS := Lib.hid (show S = (dtxs A (k + 1)).dropLast by rw [hS, Hnx.out, escp_all])
              clear hS
              go_wp2
              go_round
              case rel => exact ⟨k + 1, _, by omega, by go_num, rfl, HS.out⟩
              case measure => simp [intOf]; omega
      · have i1 : ¬ (k : Int) < (A.length : Int) := by omega
        obtain rfl : k = A.length := by omega
        rw [Hfin.out] at hT
        have HT := Lib.hid hT
        clear hT
        go_wp2
        go_ret
        exact ⟨congrArg Ending.returned (vstr HT.out), rfl⟩

end Go.Proofs.YtolglcgdophcaaaGreatDoor
