/- The contracts of the small functions of puny and of its reference. -/
import Derived.Test.YtnelaegjcpkmdaaPunB
import Derived.Test.YtnelaegjcpkmdaaKB
namespace Go.Proofs.Ytnelaegjcpkmdaa
open Go.RowKit
attribute [local go_sem] ba_get

set_option maxHeartbeats 400000 in
theorem pbound_any (k bias : Nat) (w : World) (hk : k ≤ 1000000) (hb : bias ≤ 1000000000000) : Calls Try.prog 83 #[.int .i64 (k : Int), .int .i64 (bias : Int)] w fun e w' => e = .returned (.int .i64 ((Pu.bnd k bias : Nat) : Int)) ∧ w = w' := by
  go_enter Try.func83, Try.ntmps83
  go_wp2
  all_goals
    go_ret
    refine ⟨reti ?_, rfl⟩
    unfold Pu.bnd
    omega

set_option maxHeartbeats 400000 in
theorem rpbound_any (k bias : Nat) (w : World) (hk : k ≤ 1000000) (hb : bias ≤ 1000000000000) : Calls Try.prog 85 #[.int .i64 (k : Int), .int .i64 (bias : Int)] w fun e w' => e = .returned (.int .i64 ((Pu.bnd k bias : Nat) : Int)) ∧ w = w' := by
  go_enter Try.func85, Try.ntmps85
  go_wp2
  all_goals
    go_ret
    refine ⟨reti ?_, rfl⟩
    unfold Pu.bnd
    omega

set_option maxRecDepth 100000 in
set_option maxHeartbeats 800000 in
theorem behind_any (d n : Nat) (first : Bool) (w : World) (hd : d ≤ 100000000000) (hn : 1 ≤ n) (hn2 : n ≤ 1000000) : Calls Try.prog 57 #[.int .i64 (d : Int), .int .i64 (n : Int), .bool first] w fun e w' => e = .returned (.int .i64 ((Pu.beh d n first : Nat) : Int)) ∧ w = w' := by
  obtain ⟨D, hD⟩ : ∃ D, D = Pu.first2 d first + Pu.first2 d first / n := ⟨_, rfl⟩
  have hDl : D ≤ 200000000000 := by
    have h3 := Pu.first2_le d first
    have h4 : Pu.first2 d first / n ≤ Pu.first2 d first := Nat.div_le_self _ _
    omega
  have HB := Lib.hid (show 36 * (Pu.red D 0).2 + 36 * (Pu.red D 0).1 / ((Pu.red D 0).1 + 38) = Pu.beh d n first by rw [hD]; rfl)
  have HD := Lib.hid hD
  clear hD
  have q1 : (0 : Int) ≤ (d : Int) / 2 / (n : Int) := Int.ediv_nonneg (by omega) (by omega)
  have q2 : (d : Int) / 2 / (n : Int) ≤ (d : Int) / 2 := Int.ediv_le_self _ (by omega)
  have q3 : (0 : Int) ≤ (d : Int) / 700 / (n : Int) := Int.ediv_nonneg (by omega) (by omega)
  have q4 : (d : Int) / 700 / (n : Int) ≤ (d : Int) / 700 := Int.ediv_le_self _ (by omega)
  cases first
  all_goals
    go_enter Try.func57, Try.ntmps57
    go_wp2
    go_loop [0, 7] (fun x y => ∃ d' j' : Nat, x = .int .i64 (d' : Int) ∧ y = .int .i64 (j' : Int) ∧ Pu.red d' j' = Pu.red D 0 ∧ d' ≤ D ∧ j' ≤ D ∧ d' + j' ≤ D) (fun x _ => (intOf x).toNat)
    case atStart =>
      refine ⟨D, 0, vint ?_, rfl, rfl, Nat.le_refl _, Nat.zero_le _, Nat.le_refl _⟩
      rw [HD.out]
      unfold Pu.first2
      simp
    case round =>
      obtain ⟨d', j', rfl, rfl, hr, h1, h2, h3⟩ := hrel
      have Hr := Lib.hid hr
      clear hr
      by_cases hlt : 455 < d'
      · have i1 : (455 : Int) < (d' : Int) := by omega
        have HR := Lib.hid ((Pu.red_go hlt).symm.trans Hr.out)
        go_wp2
        go_round
        case rel => exact ⟨d' / 35, j' + 1, by go_num, by go_num, HR.out, by omega, by omega, by omega⟩
        case measure => simp [intOf]; omega
      · have i1 : ¬ (455 : Int) < (d' : Int) := by omega
        have HR := Lib.hid ((Pu.red_stop hlt).symm.trans Hr.out)
        have q5 : (0 : Int) ≤ 36 * (d' : Int) / ((d' : Int) + 38) := Int.ediv_nonneg (by omega) (by omega)
        have q6 : 36 * (d' : Int) / ((d' : Int) + 38) ≤ 36 * (d' : Int) := Int.ediv_le_self _ (by omega)
        go_wp2
        go_ret
        refine ⟨reti ?_, rfl⟩
        rw [← HB.out, ← HR.out]
        simp

set_option maxRecDepth 100000 in
set_option maxHeartbeats 800000 in
theorem adapt_any (d n : Nat) (first : Bool) (w : World) (hd : d ≤ 100000000000) (hn : 1 ≤ n) (hn2 : n ≤ 1000000) : Calls Try.prog 60 #[.int .i64 (d : Int), .int .i64 (n : Int), .bool first] w fun e w' => e = .returned (.int .i64 ((Pu.beh d n first : Nat) : Int)) ∧ w = w' := by
  obtain ⟨D, hD⟩ : ∃ D, D = Pu.first2 d first + Pu.first2 d first / n := ⟨_, rfl⟩
  have hDl : D ≤ 200000000000 := by
    have h3 := Pu.first2_le d first
    have h4 : Pu.first2 d first / n ≤ Pu.first2 d first := Nat.div_le_self _ _
    omega
  have HB := Lib.hid (show 36 * (Pu.red D 0).2 + 36 * (Pu.red D 0).1 / ((Pu.red D 0).1 + 38) = Pu.beh d n first by rw [hD]; rfl)
  have HD := Lib.hid hD
  clear hD
  have q1 : (0 : Int) ≤ (d : Int) / 2 / (n : Int) := Int.ediv_nonneg (by omega) (by omega)
  have q2 : (d : Int) / 2 / (n : Int) ≤ (d : Int) / 2 := Int.ediv_le_self _ (by omega)
  have q3 : (0 : Int) ≤ (d : Int) / 700 / (n : Int) := Int.ediv_nonneg (by omega) (by omega)
  have q4 : (d : Int) / 700 / (n : Int) ≤ (d : Int) / 700 := Int.ediv_le_self _ (by omega)
  cases first
  all_goals
    go_enter Try.func60, Try.ntmps60
    go_wp2
    go_loop [0, 7] (fun x y => ∃ d' j' : Nat, x = .int .i64 (d' : Int) ∧ y = .int .i64 (j' : Int) ∧ Pu.red d' j' = Pu.red D 0 ∧ d' ≤ D ∧ j' ≤ D ∧ d' + j' ≤ D) (fun x _ => (intOf x).toNat)
    case atStart =>
      refine ⟨D, 0, vint ?_, rfl, rfl, Nat.le_refl _, Nat.zero_le _, Nat.le_refl _⟩
      rw [HD.out]
      unfold Pu.first2
      simp
    case round =>
      obtain ⟨d', j', rfl, rfl, hr, h1, h2, h3⟩ := hrel
      have Hr := Lib.hid hr
      clear hr
      by_cases hlt : 455 < d'
      · have i1 : (455 : Int) < (d' : Int) := by omega
        have HR := Lib.hid ((Pu.red_go hlt).symm.trans Hr.out)
        go_wp2
        go_round
        case rel => exact ⟨d' / 35, j' + 1, by go_num, by go_num, HR.out, by omega, by omega, by omega⟩
        case measure => simp [intOf]; omega
      · have i1 : ¬ (455 : Int) < (d' : Int) := by omega
        have HR := Lib.hid ((Pu.red_stop hlt).symm.trans Hr.out)
        have q5 : (0 : Int) ≤ 36 * (d' : Int) / ((d' : Int) + 38) := Int.ediv_nonneg (by omega) (by omega)
        have q6 : 36 * (d' : Int) / ((d' : Int) + 38) ≤ 36 * (d' : Int) := Int.ediv_le_self _ (by omega)
        go_wp2
        go_ret
        refine ⟨reti ?_, rfl⟩
        rw [← HB.out, ← HR.out]
        simp
theorem behind_z (d n : Int) (first : Bool) (w : World) (h0 : 0 ≤ d) (hd : d ≤ 100000000000) (hn : 1 ≤ n) (hn2 : n ≤ 1000000) : Calls Try.prog 57 #[.int .i64 d, .int .i64 n, .bool first] w fun e w' => e = .returned (.int .i64 ((Pu.beh d.toNat n.toNat first : Nat) : Int)) ∧ w = w' := by
  obtain ⟨a, rfl⟩ := Int.eq_ofNat_of_zero_le h0
  obtain ⟨b, rfl⟩ := Int.eq_ofNat_of_zero_le (show 0 ≤ n by omega)
  exact behind_any a b first w (by omega) (by omega) (by omega)
theorem adapt_z (d n : Int) (first : Bool) (w : World) (h0 : 0 ≤ d) (hd : d ≤ 100000000000) (hn : 1 ≤ n) (hn2 : n ≤ 1000000) : Calls Try.prog 60 #[.int .i64 d, .int .i64 n, .bool first] w fun e w' => e = .returned (.int .i64 ((Pu.beh d.toNat n.toNat first : Nat) : Int)) ∧ w = w' := by
  obtain ⟨a, rfl⟩ := Int.eq_ofNat_of_zero_le h0
  obtain ⟨b, rfl⟩ := Int.eq_ofNat_of_zero_le (show 0 ≤ n by omega)
  exact adapt_any a b first w (by omega) (by omega) (by omega)
end Go.Proofs.Ytnelaegjcpkmdaa
