/- The contract of ascii.Digits; the walk of AsciiBack. -/
import Derived.Test.YtfkmjncchicmpaaDoorAscC
import Derived.Test.YtfkmjncchicmpaaDoorAscF
import Derived.Test.YtfkmjncchicmpaaDoorDig
import Derived.Lib.ItoaLen
import Derived.Lib.AppendIntMem
import Derived.OpenShut
namespace Go.Proofs.YtfkmjncchicmpaaDoor
open Go.RowKit
attribute [local go_sem] ba_get ba_app

theorem val_app1 (l : List UInt8) (b : UInt8) : val (l ++ [b]) = 10 * val l + (b.toNat - 48) := val_snoc l b
theorem val_zeros (l : List UInt8) : val (48 :: 48 :: l) = val l := by unfold val; rfl
theorem dec_val (u : Nat) : val (Lib.decDigits u) = u ∧ (Lib.decDigits u).all dgB = true := by
  induction u using Nat.strongRecOn with
  | ind u ih =>
    have hd : ∀ d, d < 10 → (UInt8.ofNat (48 + d)).toNat = 48 + d := fun d hd => UInt8.toNat_ofNat_of_lt' (by show 48 + d < 256; omega)
    by_cases h : u < 10
    · rw [Lib.decDigits_one h]
      have := hd u h
      refine ⟨by unfold val; simp only [List.foldl_cons, List.foldl_nil, this]; omega, ?_⟩
      simp only [List.all_cons, List.all_nil, dgB, this]; simp; omega
    · have e : Lib.decDigits u = Lib.decDigits (u / 10) ++ [UInt8.ofNat (48 + u % 10)] := by rw [Lib.decDigits, dif_neg h]
      obtain ⟨i1, i2⟩ := ih (u / 10) (by omega)
      have := hd (u % 10) (by omega)
      rw [e]
      refine ⟨by rw [val_snoc, i1, this]; omega, ?_⟩
      rw [List.all_append, i2]
      simp only [List.all_cons, List.all_nil, dgB, this]; simp; omega
theorem back_neg {n most : Int} (h : n < 0) : numV (48 :: 48 :: Lib.itoa n) most = .tuple #[.int .i64 0, .int .i64 5] := by
  unfold numV
  rw [if_neg]
  rintro ⟨_, h2⟩
  rw [itoa_neg' h] at h2
  simp [dgB] at h2
theorem back_pos {n most : Int} (h : 0 ≤ n) : numV (48 :: 48 :: Lib.itoa n) most = if n ≤ most then .tuple #[.int .i64 n, .int .i64 0] else .tuple #[.int .i64 0, .int .i64 4] := by
  obtain ⟨h1, h2⟩ := dec_val n.toNat
  unfold numV
  rw [if_pos ⟨by simp, by rw [itoa_pos h, List.all_cons, List.all_cons, h2]; simp [dgB]⟩, val_zeros, itoa_pos h, h1, show ((n.toNat : Nat) : Int) = n by omega]
theorem low_low (l : List UInt8) : low (low l) = low l := by
  unfold low
  rw [List.map_map]
  congr 1
  funext c
  have : ∀ c : UInt8, sm (sm c) = sm c := by
    intro c
    by_cases h : 65 ≤ c.toNat ∧ c.toNat ≤ 90
    · apply sm_id
      have := sm_up h
      omega
    · rw [sm_id h]; exact sm_id h
  exact this c

/-- the table that strconv reads. -/
def Tab (w : World) : Prop := Lib.TabIs Tryd.prog w "internal/strconv.uint64pow10" .u64 Lib.pow10Tab
set_option maxHeartbeats 400000 in
theorem digits_any (n : Int) (w : World) (ht : Tab w) (h0 : -9223372036854775808 ≤ n) (h1 : n ≤ 9223372036854775807) : Calls Tryd.prog 5 #[.int .i64 n] w (StrPost w (Lib.itoa n)) := by
  go_enter Tryd.func5, Tryd.ntmps5
  go_wp2_with fail
  refine (Tryd.strconv_Itoa n h0 h1 _ ht).mono ?_
  rintro e w' ⟨rfl, k, os, rfl⟩
  go_wp2_with fail
  go_ret
  exact ⟨rfl, Lib.below_grow _ _ (Nat.le_refl _) _ _⟩

set_option maxRecDepth 100000 in
set_option maxHeartbeats 1000000 in
theorem asciiBack_walk (w : World) (ht : Tab w) (n : Int) (hn : (Lit.int .i64 n).wf = true) (most : Int) (hm : (Lit.int .i64 most).wf = true) (l : List UInt8) (hl : l.length ≤ maxLen) :
    Calls Tryd.prog 3 #[.int .i64 n, .int .i64 most, .string ⟨l.toArray⟩] w (Good w) := by
  unfold maxLen at hl
  obtain ⟨hm0, hm1⟩ := Go.bounds_i64 hm
  obtain ⟨hn0, hn1⟩ := Go.bounds_i64 hn
  clear hm hn
  by_cases hs : l.length ≤ 2000
  · have hs' : ¬ (2000 : Int) < (l.length : Int) := by omega
    obtain ⟨m, e, hne⟩ : ∃ m e : Int, numV (48 :: 48 :: Lib.itoa n) most = .tuple #[.int .i64 m, .int .i64 e] ∧ (if n < 0 then e = 5 ∧ m = 0 else if most < n then e = 4 ∧ m = 0 else e = 0 ∧ m = n) := by
      by_cases h : n < 0
      · exact ⟨0, 5, back_neg h, by rw [if_pos h]; exact ⟨rfl, rfl⟩⟩
      · by_cases h2 : n ≤ most
        · exact ⟨n, 0, by rw [back_pos (by omega), if_pos h2], by rw [if_neg h, if_neg (by omega)]; exact ⟨rfl, rfl⟩⟩
        · exact ⟨0, 4, by rw [back_pos (by omega), if_neg h2], by rw [if_neg h, if_pos (by omega)]; exact ⟨rfl, rfl⟩⟩
    have Hn := Lib.hid hne.1
    have He := Lib.hid hne.2
    have hil := Lib.itoa_length_le n hn0 hn1
    have Hll := Lib.hid (low_low l)
    have hlen : (low l).length ≤ 2000 := by rw [low_len]; exact hs
    have i5 : (((low l).length : Int) != (l.length : Int)) = false := by rw [low_len]; simp
    clear hne
    go_enter Tryd.func3, Tryd.ntmps3
    go_wp2_with fail
    refine (digits_any _ _ ht hn0 hn1).mono ?_
    rintro e1 w1 ⟨rfl, hb1⟩
    go_wp2_with fail
    refine (number_any (48 :: 48 :: Lib.itoa n) _ _ (by simp; omega) hm0 hm1).mono ?_
    rintro e1 w2 ⟨rfl, rfl⟩
    rw [Hn.out]
    go_wp2_with fail
    refine (works01_any _).mono ?_
    rintro e1 w2 ⟨rfl, hb2⟩
    have hb02 := bel_tr hb1 hb2
    go_wp2_with fail
    refine (rdigits_any _ _ hn0 hn1).mono ?_
    rintro e1 w3 ⟨rfl, rfl⟩
    clear Hn
    generalize Lib.itoa n = I at *
    go_wp2_with fail
    refine (lower_any _ _ (by omega)).mono ?_
    rintro e1 w3 ⟨rfl, hb3⟩
    have hb03 := bel_tr hb02 hb3
    go_wp2_with fail
    refine (lower_any _ _ (by omega)).mono ?_
    rintro e1 w4 ⟨rfl, hb4⟩
    have hb04 := bel_tr hb03 hb4
    rw [Hll.out]
    go_wp2_with fail
    refine (lower_any _ _ (by omega)).mono ?_
    rintro e1 w5 ⟨rfl, hb5⟩
    have hb05 := bel_tr hb04 hb5
    go_wp2_with fail
    refine (lower_any _ _ (by omega)).mono ?_
    rintro e1 w6 ⟨rfl, hb6⟩
    have hb06 := bel_tr hb05 hb6
    generalize low l = LL at *
    by_cases h : n < 0
    · obtain ⟨rfl, rfl⟩ : e = 5 ∧ m = 0 := by have := He.out; rwa [if_pos h] at this
      clear He
      go_wp2
      go_ret
      exact ⟨rfl, hb06⟩
    · by_cases h2 : most < n
      · obtain ⟨rfl, rfl⟩ : e = 4 ∧ m = 0 := by have := He.out; rwa [if_neg h, if_pos h2] at this
        clear He
        go_wp2
        go_ret
        exact ⟨rfl, hb06⟩
      · obtain ⟨rfl, rfl⟩ : e = 0 ∧ m = n := by have := He.out; rwa [if_neg h, if_neg h2] at this
        clear He
        go_wp2
        go_ret
        exact ⟨by simp, hb06⟩
  · have hs' : (2000 : Int) < (l.length : Int) := by omega
    go_enter Tryd.func3, Tryd.ntmps3
    go_wp2_with fail
    refine (works01_any _).mono ?_
    rintro e w1 ⟨rfl, hb1⟩
    go_wp2
    go_ret
    exact ⟨rfl, hb1⟩
end Go.Proofs.YtfkmjncchicmpaaDoor
