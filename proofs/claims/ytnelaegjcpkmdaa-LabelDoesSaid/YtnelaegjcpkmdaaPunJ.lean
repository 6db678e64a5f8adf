/- The contract of the reference's number. -/
import Derived.Test.YtnelaegjcpkmdaaPunI
namespace Go.Proofs.Ytnelaegjcpkmdaa
open Go.RowKit
attribute [local go_sem] ba_get ba_app

def numU (n : Nat) : Int ⊕ (Nat × List UInt8) → Value
  | .inl e => .tuple #[.int .i64 0, .int .i64 0, .int .i64 e]
  | .inr (x, r) => .tuple #[.int .i64 (x : Int), .int .i64 ((n - r.length : Nat) : Int), .int .i64 0]
theorem numU_err {n : Nat} {N : Int ⊕ (Nat × List UInt8)} {e : Int} (h : N = .inl e) : Ending.returned (.tuple #[.int .i64 0, .int .i64 0, .int .i64 e]) = .returned (numU n N) := by rw [h]; rfl
theorem numU_ok {n : Nat} {N : Int ⊕ (Nat × List UInt8)} {x : Nat} {r : List UInt8} {z y : Int} (h : N = .inr (x, r)) (hz : z = (x : Int)) (hy : y = ((n - r.length : Nat) : Int)) : Ending.returned (.tuple #[.int .i64 z, .int .i64 y, .int .i64 0]) = .returned (numU n N) := by rw [h, hz, hy]; rfl

set_option maxRecDepth 100000 in
set_option maxHeartbeats 2000000 in
theorem rnumber3_any (s : List UInt8) (at0 bias : Nat) (w : World) (hat : at0 ≤ s.length) (hs : s.length ≤ 100000) (hbias : bias ≤ 1000000000000) :
    Calls Try.prog 63 #[.string ⟨s.toArray⟩, .int .i64 (at0 : Int), .int .i64 (bias : Int)] w fun e w' => e = .returned (numU s.length (Pu.numb bias (s.drop at0) 1 0 1)) ∧ Below w.heap.size w w' := by
  generalize hN : Pu.numb bias (s.drop at0) 1 0 1 = N
  have HN := Lib.hid hN
  clear hN
  go_enter Try.func63, Try.ntmps63
  go_wp2
  go_loopw [1, 9, 10, 11, 12] (fun x y z k _ wr => ∃ (a sum wt kk : Nat), x = .int .i64 (a : Int) ∧ y = .int .i64 (sum : Int) ∧ z = .int .i64 (wt : Int) ∧ k = .int .i64 (kk : Int) ∧ a ≤ s.length ∧ sum ≤ 4294967295 ∧ wt ≤ 4294967295 ∧ kk ≤ a + 1 ∧ Pu.numb bias (s.drop a) kk sum wt = N ∧ Below w.heap.size w wr) (fun x _ _ _ _ _ => s.length - (intOf x).toNat)
  case atStart => exact ⟨at0, 0, 1, 1, rfl, rfl, rfl, rfl, hat, by omega, by omega, by omega, HN.out, Below.refl _ _⟩
  case round =>
    obtain ⟨a, sum, wt, kk, rfl, rfl, rfl, rfl, ha, h1, h2, h3, hE, hbw⟩ := hrel
    have HE := Lib.hid hE
    clear hE
    by_cases hlt : a < s.length
    case neg =>
      have HE2 := Lib.hid (show N = .inl 5 by rw [← HE.out, List.drop_of_length_le (by omega)]; rfl)
      have i0 : ¬ (a : Int) < (s.length : Int) := by omega
      go_wp2
      go_ret3
      exact ⟨numU_err HE2.out, hbw⟩
    case pos =>
      have i0 : (a : Int) < (s.length : Int) := by omega
      have hdr := List.drop_eq_getElem_cons hlt
      rw [hdr] at HE
      have Hr := Lib.hid (show (s.drop (a + 1)).length = s.length - (a + 1) by simp)
      clear hdr
      generalize hcc : s[a] = c at *
      have Hcc := Lib.hid hcc
      clear hcc
      have hq0 : ((s[a].toNat : Nat) : Int) = ((c.toNat : Nat) : Int) := by rw [Hcc.out]
      generalize hrd : s.drop (a + 1) = r at *
      have Hrd := Lib.hid hrd
      clear hrd
      rcases hf : Pu.fig c with _ | f
      · have HE2 := Lib.hid (HE.out.symm.trans (numb_none hf))
        have Hf := Lib.hid hf
        clear hf
        go_wp2_with fail
        refine (rvalue_any _ _).mono ?_
        rintro e w1 ⟨rfl, hb1⟩
        have hbw1 := hbw.trans (hb1.mono hbw.size)
        rw [Hf.out]
        unfold valI
        go_wp2
        go_ret3
        exact ⟨numU_err HE2.out, hbw1⟩
      · have HE2 := Lib.hid (HE.out.symm.trans (numb_cons hf))
        have hf35 := Pu.fig_bd hf
        have Hf := Lib.hid hf
        clear hf HE
        obtain ⟨J, hJ⟩ : ∃ J, J = f * wt := ⟨_, rfl⟩
        have hJz : (f : Int) * (wt : Int) = (J : Int) := by rw [hJ, Int.natCast_mul]
        have hJl : J ≤ 35 * 4294967295 := by rw [hJ]; exact Nat.mul_le_mul hf35 h2
        rw [← hJ] at HE2
        clear hJ
        have hbl := Pu.bnd_le kk bias
        have hbp := Pu.bnd_pos kk bias
        go_wp2_with fail
        refine (rvalue_any _ _).mono ?_
        rintro e w1 ⟨rfl, hb1⟩
        have hbw1 := hbw.trans (hb1.mono hbw.size)
        rw [Hf.out]
        unfold valI
        have i9 : ¬ (f : Int) < 0 := by omega
        by_cases ho : 4294967295 < sum + J
        · have i1 : (4294967295 : Int) < (sum : Int) + (J : Int) := by omega
          have HE3 := Lib.hid (show N = .inl 6 by rw [HE2.out, if_pos ho])
          go_wp2_with fail
          refine (rover_z _ _ (by omega) (by omega)).mono ?_
          rintro e w' ⟨rfl, rfl⟩
          rw [show decide (4294967295 < (sum : Int) + (J : Int)) = true from decide_eq_true (by omega)]
          go_wp2
          go_ret3
          exact ⟨numU_err HE3.out, hbw1⟩
        · have i1 : ¬ (4294967295 : Int) < (sum : Int) + (J : Int) := by omega
          have HE3 := HE2.out
          rw [if_neg ho] at HE3
          have HE4 := Lib.hid HE3
          clear HE2 HE3
          go_wp2_with fail
          refine (rover_z _ _ (by omega) (by omega)).mono ?_
          rintro e w' ⟨rfl, rfl⟩
          rw [show decide (4294967295 < (sum : Int) + (J : Int)) = false from decide_eq_false (by omega)]
          go_wp2_with fail
          refine (rpbound_any _ _ _ (by omega) hbias).mono ?_
          rintro e w' ⟨rfl, rfl⟩
          obtain ⟨t, ht⟩ : ∃ t, t = Pu.bnd kk bias := ⟨_, rfl⟩
          have HTT : Hid (∀ W : World, Calls Try.prog 85 #[.int .i64 (kk : Int), .int .i64 (bias : Int)] W fun e w' => e = .returned (.int .i64 ((t : Nat) : Int)) ∧ W = w') := Lib.hid (fun W => by rw [ht]; exact rpbound_any _ _ _ (by omega) hbias)
          rw [← ht] at hbl hbp HE4 ⊢
          clear ht
          by_cases hft : f < t
          · have i2 : (f : Int) < (t : Int) := by omega
            have HE5 := Lib.hid (show N = .inr (sum + J, r) by rw [HE4.out, if_pos hft])
            go_wp2
            go_ret3
            exact ⟨numU_ok (z := (sum : Int) + (J : Int)) (y := (a : Int) + 1) HE5.out (by omega) (by have := Hr.out; omega), hbw1⟩
          · have i2 : ¬ (f : Int) < (t : Int) := by omega
            obtain ⟨Q, hQ⟩ : ∃ Q, Q = wt * (36 - t) := ⟨_, rfl⟩
            have hQz : (wt : Int) * (36 - (t : Int)) = (Q : Int) := by rw [hQ, Int.natCast_mul, Int.natCast_sub (by omega)]; rfl
            have hQl : Q ≤ 4294967295 * 36 := by rw [hQ]; exact Nat.mul_le_mul h2 (by omega)
            have HE5 := HE4.out
            rw [if_neg hft, ← hQ] at HE5
            have HE6 := Lib.hid HE5
            clear hQ HE4 HE5
            by_cases hov : 4294967295 < Q
            · have i3 : (4294967295 : Int) < (Q : Int) := by omega
              have HE7 := Lib.hid (show N = .inl 6 by rw [HE6.out, if_pos hov])
              go_wp2_with fail
              refine (HTT.out _).mono ?_
              rintro e w' ⟨rfl, rfl⟩
              go_wp2_with fail
              refine (rover_z _ _ (by omega) (by omega)).mono ?_
              rintro e w' ⟨rfl, rfl⟩
              rw [show decide (4294967295 < (Q : Int)) = true from decide_eq_true (by omega)]
              go_wp2
              go_ret3
              exact ⟨numU_err HE7.out, hbw1⟩
            · have i3 : ¬ (4294967295 : Int) < (Q : Int) := by omega
              have HE7 := Lib.hid (show Pu.numb bias r (kk + 1) (sum + J) Q = N by rw [HE6.out, if_neg hov])
              go_wp2_with fail
              refine (HTT.out _).mono ?_
              rintro e w' ⟨rfl, rfl⟩
              go_wp2_with fail
              refine (rover_z _ _ (by omega) (by omega)).mono ?_
              rintro e w' ⟨rfl, rfl⟩
              rw [show decide (4294967295 < (Q : Int)) = false from decide_eq_false (by omega)]
              go_wp2
              go_roundw
              case rel => exact ⟨a + 1, sum + J, Q, kk + 1, by go_num, by go_num, rfl, by go_num, by omega, by omega, by omega, by omega, by rw [Hrd.out]; exact HE7.out, hbw1⟩
              case measure => simp [intOf]; omega
end Go.Proofs.Ytnelaegjcpkmdaa
