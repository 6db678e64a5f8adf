/- works of layer 4; the walks of LabelFixed and LabelBack. -/
import Derived.Test.YtnelaegjcpkmdaaLabE
namespace Go.Proofs.Ytnelaegjcpkmdaa
open Go.RowKit
attribute [local go_sem] ba_get ext_drop ext_take ba_app

theorem w4a : toA [66, 195, 188, 99, 104, 101, 114] = .inr [120, 110, 45, 45, 98, 99, 104, 101, 114, 45, 107, 118, 97] := by decide +kernel
theorem w4u : toU [88, 78, 45, 45, 66, 67, 72, 69, 82, 45, 75, 86, 65] = [98, 195, 188, 99, 104, 101, 114] := by decide +kernel
theorem w4h : hostB [97, 45, 49] = true := by decide +kernel
theorem w4n : hostB [45, 97] = false := by decide +kernel
set_option maxRecDepth 100000 in
set_option maxHeartbeats 1000000 in
theorem works04_any (w : World) : Calls Try.prog 40 #[] w (Good w) := by
  go_enter Try.func40, Try.ntmps40
  go_wp2_with fail
  refine (toascii_any [66, 195, 188, 99, 104, 101, 114] _ (by simp)).mono ?_
  rintro e w1 ⟨rfl, hb1⟩
  rw [w4a]
  unfold encT
  go_wp2_with fail
  refine (tounicode_any [88, 78, 45, 45, 66, 67, 72, 69, 82, 45, 75, 86, 65] _ (by simp)).mono ?_
  rintro e w2 ⟨rfl, hb2⟩
  rw [w4u]
  go_wp2_with fail
  refine (lhost_any [97, 45, 49] _ (by simp)).mono ?_
  rintro e w' ⟨rfl, rfl⟩
  rw [w4h]
  go_wp2_with fail
  refine (lhost_any [45, 97] _ (by simp)).mono ?_
  rintro e w' ⟨rfl, rfl⟩
  rw [w4n]
  go_wp2
  go_ret
  exact ⟨rfl, bel_tr hb1 hb2⟩
theorem toU_len (s : List UInt8) (h : s.length ≤ 16384) : (toU s).length ≤ 16384 := by
  unfold toU
  split
  · split
    · exact h
    · next l hd =>
      split
      · exact h
      · next t ht =>
        split
        · have h1 := txt_len ht
          have h2 := (dec_bd hd).2
          rw [zs_len] at h1
          omega
        · exact h
  · exact h

set_option maxRecDepth 100000 in
set_option maxHeartbeats 1000000 in
theorem labelFixed_walk (w : World) (s : List UInt8) (hl : s.length ≤ maxLen) : Calls Try.prog 13 #[.string ⟨s.toArray⟩] w (Good w) := by
  unfold maxLen at hl
  by_cases hbig : 300 < s.length
  · have i0 : (300 : Int) < (s.length : Int) := by omega
    go_enter Try.func13, Try.ntmps13
    go_wp2_with fail
    refine (works04_any _).mono ?_
    rintro e w0 ⟨rfl, hb0⟩
    go_wp2_with fail
    refine (works04_any _).mono ?_
    rintro e w1 ⟨rfl, hb1⟩
    go_wp2
    go_ret
    exact ⟨rfl, bel_tr hb0 hb1⟩
  · have i0 : ¬ (300 : Int) < (s.length : Int) := by omega
    go_enter Try.func13, Try.ntmps13
    go_wp2_with fail
    refine (works04_any _).mono ?_
    rintro e w0 ⟨rfl, hb0⟩
    go_wp2_with fail
    refine (toascii_any _ _ (by omega)).mono ?_
    rintro e w1 ⟨rfl, hb1⟩
    have hb01 := bel_tr hb0 hb1
    rcases ha : toA s with c | a
    · have hc := toA_inl ha
      clear ha
      unfold encT
      go_wp2
      go_ret
      exact ⟨rfl, hb01⟩
    · obtain ⟨f1, f2, f3, f4⟩ := toA_fixed ha
      have F1 := Lib.hid f1
      have F3 := Lib.hid f3
      have F4 := Lib.hid f4
      clear ha f1 f3 f4
      unfold encT
      have i1 : (a.length : Int) ≤ 63 := by omega
      go_wp2_with fail
      refine (toascii_any _ _ (by omega)).mono ?_
      rintro e w2 ⟨rfl, hb2⟩
      have hb02 := bel_tr hb01 hb2
      rw [F1.out]
      unfold encT
      go_wp2_with fail
      refine (rhost_any _ _ (by omega)).mono ?_
      rintro e w' ⟨rfl, rfl⟩
      rw [F3.out]
      go_wp2_with fail
      refine (rlower_any _ _ (by omega)).mono ?_
      rintro e w3 ⟨rfl, hb3⟩
      rw [F4.out]
      go_wp2
      go_ret
      exact ⟨by simp, bel_tr hb02 hb3⟩

set_option maxRecDepth 100000 in
set_option maxHeartbeats 1000000 in
theorem labelBack_walk (w : World) (s : List UInt8) (hl : s.length ≤ maxLen) : Calls Try.prog 14 #[.string ⟨s.toArray⟩] w (Good w) := by
  unfold maxLen at hl
  by_cases hbig : 300 < s.length
  · have i0 : (300 : Int) < (s.length : Int) := by omega
    go_enter Try.func14, Try.ntmps14
    go_wp2_with fail
    refine (works04_any _).mono ?_
    rintro e w0 ⟨rfl, hb0⟩
    go_wp2_with fail
    refine (works04_any _).mono ?_
    rintro e w1 ⟨rfl, hb1⟩
    go_wp2
    go_ret
    exact ⟨rfl, bel_tr hb0 hb1⟩
  · have i0 : ¬ (300 : Int) < (s.length : Int) := by omega
    have hul := toU_len s (by omega)
    go_enter Try.func14, Try.ntmps14
    go_wp2_with fail
    refine (works04_any _).mono ?_
    rintro e w0 ⟨rfl, hb0⟩
    go_wp2_with fail
    refine (tounicode_any _ _ (by omega)).mono ?_
    rintro e w1 ⟨rfl, hb1⟩
    have hb01 := bel_tr hb0 hb1
    by_cases hu : toU s = s
    case' pos =>
      rw [hu]
      clear hul hu
      go_wp2_with fail
      have hbX := hb01
    case' neg =>
      have HA := Lib.hid (toU_ne hu)
      have k1 : (toU s == s) = false := by simpa using hu
      have k2 : (toU s != s) = true := by simpa using hu
      clear hu
      generalize toU s = u at *
      go_wp2_with fail
      refine (toascii_any _ _ (by omega)).mono ?_
      rintro e w2 ⟨rfl, hb2⟩
      have hb02 := bel_tr hb01 hb2
      rw [HA.out]
      unfold encT
      go_wp2_with fail
      refine (rlower_any _ _ (by omega)).mono ?_
      rintro e w3 ⟨rfl, hb3⟩
      have hbX := bel_tr hb02 hb3
      clear k1 k2
      go_wp2_with fail
    all_goals
      refine (toascii_any _ _ (by omega)).mono ?_
      rintro e w5 ⟨rfl, hb5⟩
      have hb05 := bel_tr hbX hb5
      rcases ha : toA s with c | a
      · have hc := toA_inl ha
        clear ha
        unfold encT
        go_wp2
        go_ret
        exact ⟨rfl, hb05⟩
      · unfold encT
        have fa := (toA_fixed ha).2.1
        go_wp2_with fail
        refine (far_any _ _ (by omega)).mono ?_
        rintro e w' ⟨rfl, rfl⟩
        rcases hf : farB s
        · clear hf ha
          go_wp2
          go_ret
          exact ⟨rfl, hb05⟩
        · have HU := Lib.hid (toU_of ha hf)
          clear hf ha
          go_wp2_with fail
          refine (tounicode_any _ _ (by omega)).mono ?_
          rintro e w6 ⟨rfl, hb6⟩
          have hb06 := bel_tr hb05 hb6
          rw [HU.out]
          go_wp2_with fail
          refine (rlower_any _ _ (by omega)).mono ?_
          rintro e w7 ⟨rfl, hb7⟩
          go_wp2
          go_ret
          exact ⟨by simp, bel_tr hb06 hb7⟩
end Go.Proofs.Ytnelaegjcpkmdaa
