/- The contracts of puny.number and of the reference's number. -/
import Derived.Test.YtnelaegjcpkmdaaPunH
namespace Go.Proofs.Ytnelaegjcpkmdaa
open Go.RowKit
theorem ext_tail (c : UInt8) (r : List UInt8) : (ByteArray.mk (c :: r).toArray).extract 1 (r.length + 1) = ⟨r.toArray⟩ := by
  rw [ext_any]; simp
attribute [local go_sem] ba_get ext_drop ba_app ext_tail

def numT : Int ⊕ (Nat × List UInt8) → Value
  | .inl e => .tuple #[.int .i64 0, .string ⟨([] : List UInt8).toArray⟩, .int .i64 e]
  | .inr (x, r) => .tuple #[.int .i64 (x : Int), .string ⟨r.toArray⟩, .int .i64 0]
theorem numT_err {N : Int ⊕ (Nat × List UInt8)} {e : Int} (h : N = .inl e) : Ending.returned (.tuple #[.int .i64 0, .string ⟨#[]⟩, .int .i64 e]) = .returned (numT N) := by rw [h]; rfl
theorem numT_ok {N : Int ⊕ (Nat × List UInt8)} {x : Nat} {r : List UInt8} {z : Int} (h : N = .inr (x, r)) (hz : z = (x : Int)) : Ending.returned (.tuple #[.int .i64 z, .string ⟨r.toArray⟩, .int .i64 0]) = .returned (numT N) := by rw [h, hz]; rfl
theorem numb_cons {bias : Nat} {c : UInt8} {r : List UInt8} {k sum w f : Nat} (h : Pu.fig c = some f) : Pu.numb bias (c :: r) k sum w = if 4294967295 < sum + f * w then .inl 6 else if f < Pu.bnd k bias then .inr (sum + f * w, r) else if 4294967295 < w * (36 - Pu.bnd k bias) then .inl 6 else Pu.numb bias r (k + 1) (sum + f * w) (w * (36 - Pu.bnd k bias)) := by
  rw [Pu.numb, h]
theorem numb_none {bias : Nat} {c : UInt8} {r : List UInt8} {k sum w : Nat} (h : Pu.fig c = none) : Pu.numb bias (c :: r) k sum w = .inl 5 := by rw [Pu.numb, h]

set_option maxRecDepth 100000 in
set_option maxHeartbeats 2000000 in
theorem number3_any (s : List UInt8) (bias : Nat) (w : World) (hs : s.length ≤ 100000) (hbias : bias ≤ 1000000000000) :
    Calls Try.prog 62 #[.string ⟨s.toArray⟩, .int .i64 (bias : Int)] w fun e w' => e = .returned (numT (Pu.numb bias s 1 0 1)) ∧ w = w' := by
  generalize hN : Pu.numb bias s 1 0 1 = N
  have HN := Lib.hid hN
  clear hN
  go_enter Try.func62, Try.ntmps62
  go_wp2
  go_loop [0, 7, 8, 9, 10, 11, 12] (fun x y z k _ _ _ => ∃ (r : List UInt8) (sum wt kk : Nat), x = .string ⟨r.toArray⟩ ∧ y = .int .i64 (sum : Int) ∧ z = .int .i64 (wt : Int) ∧ k = .int .i64 (kk : Int) ∧ sum ≤ 4294967295 ∧ wt ≤ 4294967295 ∧ kk + r.length ≤ 100001 ∧ Pu.numb bias r kk sum wt = N) (fun x _ _ _ _ _ _ => strLen x)
  case atStart => exact ⟨s, 0, 1, 1, rfl, rfl, rfl, rfl, by omega, by omega, by omega, HN.out⟩
  case round =>
    obtain ⟨r, sum, wt, kk, rfl, rfl, rfl, rfl, h1, h2, h3, hE⟩ := hrel
    have HE := Lib.hid hE
    clear hE
    rcases r with _ | ⟨c, r⟩
    · have HE2 := Lib.hid (show N = .inl 5 from HE.out.symm)
      go_wp2
      go_ret3
      exact ⟨numT_err HE2.out, rfl⟩
    · rw [List.length_cons] at h3
      rcases hf : Pu.fig c with _ | f
      · have HE2 := Lib.hid (HE.out.symm.trans (numb_none hf))
        have Hf := Lib.hid hf
        clear hf
        go_wp2_with fail
        refine (figure_any _ _).mono ?_
        rintro e w' ⟨rfl, rfl⟩
        rw [Hf.out]
        unfold figV
        go_wp2
        go_ret3
        exact ⟨numT_err HE2.out, rfl⟩
      · have HE2 := Lib.hid (HE.out.symm.trans (numb_cons hf))
        have hf35 := Pu.fig_bd hf
        have Hf := Lib.hid hf
        clear hf HE
        obtain ⟨J, hJ⟩ : ∃ J, J = f * wt := ⟨_, rfl⟩
        have hJz : (f : Int) * (wt : Int) = (J : Int) := by rw [hJ, Int.natCast_mul]
        have hJl : J ≤ 35 * 4294967295 := by rw [hJ]; exact Nat.mul_le_mul hf35 h2
        rw [← hJ] at HE2
        clear hJ
        have hbl := Pu.bnd_le kk bias
        have hbp := Pu.bnd_pos kk bias
        go_wp2_with fail
        refine (figure_any _ _).mono ?_
        rintro e w' ⟨rfl, rfl⟩
        rw [Hf.out]
        unfold figV
        by_cases ho : 4294967295 < sum + J
        · have i1 : (4294967295 : Int) < (sum : Int) + (J : Int) := by omega
          have HE3 := Lib.hid (show N = .inl 6 by rw [HE2.out, if_pos ho])
          go_wp2
          go_ret3
          exact ⟨numT_err HE3.out, rfl⟩
        · have i1 : ¬ (4294967295 : Int) < (sum : Int) + (J : Int) := by omega
          have HE3 := HE2.out
          rw [if_neg ho] at HE3
          have HE4 := Lib.hid HE3
          clear HE2 HE3
          go_wp2_with fail
          refine (pbound_any _ _ _ (by omega) hbias).mono ?_
          rintro e w' ⟨rfl, rfl⟩
          generalize Pu.bnd kk bias = t at *
          by_cases hft : f < t
          · have i2 : (f : Int) < (t : Int) := by omega
            have HE5 := Lib.hid (show N = .inr (sum + J, r) by rw [HE4.out, if_pos hft])
            go_wp2
            go_ret3
            exact ⟨numT_ok (z := (sum : Int) + (J : Int)) HE5.out (by omega), rfl⟩
          · have i2 : ¬ (f : Int) < (t : Int) := by omega
            obtain ⟨Q, hQ⟩ : ∃ Q, Q = wt * (36 - t) := ⟨_, rfl⟩
            have hQz : (wt : Int) * (36 - (t : Int)) = (Q : Int) := by rw [hQ, Int.natCast_mul, Int.natCast_sub (by omega)]; rfl
            have hQl : Q ≤ 4294967295 * 36 := by rw [hQ]; exact Nat.mul_le_mul h2 (by omega)
            have HE5 := HE4.out
            rw [if_neg hft, ← hQ] at HE5
            have HE6 := Lib.hid HE5
            clear hQ HE4 HE5
            by_cases hov : 4294967295 < Q
            · have i3 : (4294967295 : Int) < (Q : Int) := by omega
              have HE7 := Lib.hid (show N = .inl 6 by rw [HE6.out, if_pos hov])
              go_wp2
              go_ret3
              exact ⟨numT_err HE7.out, rfl⟩
            · have i3 : ¬ (4294967295 : Int) < (Q : Int) := by omega
              have HE7 := Lib.hid (show Pu.numb bias r (kk + 1) (sum + J) Q = N by rw [HE6.out, if_neg hov])
              go_wp2
              go_round
              case rel => exact ⟨r, sum + J, Q, kk + 1, rfl, by go_num, rfl, by go_num, by omega, by omega, by omega, HE7.out⟩
              case measure => rw [strLen_mk, strLen_mk]; simp
end Go.Proofs.Ytnelaegjcpkmdaa
