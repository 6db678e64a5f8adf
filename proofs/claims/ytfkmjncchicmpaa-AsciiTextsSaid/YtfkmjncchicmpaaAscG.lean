/- The walk of AsciiTexts. -/
import Derived.Test.YtfkmjncchicmpaaAscF
import Derived.OpenShut
namespace Go.Proofs.Ytfkmjncchicmpaa
open Go.RowKit
attribute [local go_sem] ba_get

theorem cutV_three (c : UInt8) (l : List UInt8) : ∃ (x y : List UInt8) (b : Bool), cutV c l = .tuple #[.string ⟨x.toArray⟩, .string ⟨y.toArray⟩, .bool b] := by
  unfold cutV
  rcases idx c l with _ | k
  · exact ⟨_, _, _, rfl⟩
  · exact ⟨_, _, _, rfl⟩
set_option maxRecDepth 100000 in
set_option maxHeartbeats 1000000 in
theorem asciiTexts_walk (w : World) (s : List UInt8) (hs : s.length ≤ maxLen) (t : List UInt8) (ht : t.length ≤ maxLen) (z : Int) (hz : (Lit.int .u8 z).wf = true) :
    Calls Try.prog 12 #[.string ⟨s.toArray⟩, .string ⟨t.toArray⟩, .int .u8 z] w (Good w) := by
  unfold maxLen at hs ht
  obtain ⟨hz0, hz1⟩ := Go.bounds_u8 hz
  obtain ⟨c, rfl⟩ : ∃ c : UInt8, z = (c.toNat : Int) := ⟨UInt8.ofNat z.toNat, by rw [UInt8.toNat_ofNat_of_lt' (show _ < 256 by omega)]; omega⟩
  clear hz
  by_cases h1 : s.length ≤ 2000
  · by_cases h2 : t.length ≤ 2000
    · obtain ⟨x, y, b, hxy⟩ := cutV_three c s
      have Hxy := Lib.hid hxy
      have hfl := flds_len s
      clear hxy
      go_enter Try.func12, Try.ntmps12
      go_wp2_with fail
      refine (cut_any _ _ _ (by omega)).mono ?_
      rintro e w1 ⟨rfl, hb1⟩
      rw [Hxy.out]
      go_wp2_with fail
      refine (rcut_any _ _ _ (by omega)).mono ?_
      rintro e w2 ⟨rfl, hb2⟩
      rw [Hxy.out]
      go_wp2_with fail
      refine (works01_any _).mono ?_
      rintro e w3 ⟨rfl, hb3⟩
      go_wp2_with fail
      refine (lower_any _ _ (by omega)).mono ?_
      rintro e w4 ⟨rfl, hb4⟩
      go_wp2_with fail
      refine (rlower_any _ _ (by omega)).mono ?_
      rintro e w5 ⟨rfl, hb5⟩
      go_wp2_with fail
      refine (asame_any _ _ _ (by omega)).mono ?_
      rintro e w6 ⟨rfl, hb6⟩
      go_wp2_with fail
      refine (rsame_any _ _ _ (by omega) (by omega)).mono ?_
      rintro e w7 ⟨rfl, hb7⟩
      generalize decide (low s = low t) = D at *
      go_wp2_with fail
      refine (fields_any _ _ (by omega)).mono ?_
      rintro e w8 ⟨v8, rfl, hs8, hb8⟩
      go_wp2_with fail
      refine (rfields_any _ _ (by omega)).mono ?_
      rintro e w9 ⟨v9, rfl, hs9, hb9⟩
      go_wp2_with fail
      refine (sametexts_any _ _ _ _ _ (hs8.below hb9) hs9 (by omega)).mono ?_
      rintro e w10 ⟨rfl, hb10⟩
      go_wp2
      go_ret
      exact ⟨by simp, bel_tr (bel_tr (bel_tr (bel_tr (bel_tr (bel_tr (bel_tr (bel_tr (bel_tr hb1 hb2) hb3) hb4) hb5) hb6) hb7) hb8) hb9) hb10⟩
    · have h2' : (2000 : Int) < (t.length : Int) := by omega
      go_enter Try.func12, Try.ntmps12
      go_wp2_with fail
      refine (works01_any _).mono ?_
      rintro e w1 ⟨rfl, hb1⟩
      go_wp2
      go_ret
      exact ⟨rfl, hb1⟩
  · have h1' : (2000 : Int) < (s.length : Int) := by omega
    go_enter Try.func12, Try.ntmps12
    go_wp2_with fail
    refine (works01_any _).mono ?_
    rintro e w1 ⟨rfl, hb1⟩
    go_wp2
    go_ret
    exact ⟨rfl, hb1⟩
end Go.Proofs.Ytfkmjncchicmpaa
