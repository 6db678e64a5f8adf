/- The contract of the reference's Number. -/
import Derived.Test.YtnelaegjcpkmdaaNum
namespace Go.Proofs.Ytnelaegjcpkmdaa
open Go.RowKit
attribute [local go_sem] ba_get

theorem fold_ge (r : List UInt8) (n m : Nat) (h : m ≤ n) : m * 10 ^ r.length ≤ r.foldl (fun n b => 10 * n + (b.toNat - 48)) n := by
  induction r generalizing n m with
  | nil => simpa using h
  | cons b r ih =>
    have := ih (10 * n + (b.toNat - 48)) (10 * m) (by omega)
    rw [List.foldl_cons, List.length_cons, Nat.pow_succ]
    calc m * (10 ^ r.length * 10) = 10 * m * 10 ^ r.length := by rw [Nat.mul_comm (10 ^ r.length) 10, ← Nat.mul_assoc, Nat.mul_comm m 10]
      _ ≤ _ := this
theorem fold_lt (r : List UInt8) (n m : Nat) (h : n < m) (hd : r.all dgB = true) : r.foldl (fun n b => 10 * n + (b.toNat - 48)) n < m * 10 ^ r.length := by
  induction r generalizing n m with
  | nil => simpa using h
  | cons b r ih =>
    rw [List.all_cons, Bool.and_eq_true] at hd
    have hb := dgB_t hd.1
    have := ih (10 * n + (b.toNat - 48)) (10 * m) (by omega) hd.2
    rw [List.foldl_cons, List.length_cons, Nat.pow_succ]
    calc _ < 10 * m * 10 ^ r.length := this
      _ = m * (10 ^ r.length * 10) := by rw [Nat.mul_comm (10 ^ r.length) 10, ← Nat.mul_assoc, Nat.mul_comm m 10]
theorem val_split (l : List UInt8) (k : Nat) : val l = (l.drop k).foldl (fun n b => 10 * n + (b.toNat - 48)) (val (l.take k)) := by
  conv => lhs; rw [← List.take_append_drop k l]
  unfold val
  rw [List.foldl_append]
theorem pow_mono {a b : Nat} (h : a ≤ b) : 10 ^ a ≤ 10 ^ b := Nat.pow_le_pow_right (by omega) h
/-- of twenty digits or more, the first not nought: it is above all. -/
theorem val_big {l : List UInt8} {k : Nat} (hk : k < l.length) (h19 : 19 < l.length - k) (hd : dgB l[k] = true) (h48 : l[k].toNat ≠ 48) : 9223372036854775807 < val l := by
  have h1 : 1 ≤ val (l.take (k + 1)) := by rw [val_next hk]; have := dgB_t hd; omega
  have h2 := fold_ge (l.drop (k + 1)) _ 1 h1
  rw [← val_split] at h2
  have h3 : 10 ^ 19 ≤ 10 ^ (l.drop (k + 1)).length := pow_mono (by rw [List.length_drop]; omega)
  have h4 : (10 : Nat) ^ 19 = 10000000000000000000 := by decide
  omega
theorem val_small {l : List UInt8} {k j : Nat} (hkj : k ≤ j) (hj : j ≤ l.length) (h0 : val (l.take k) = 0) (ha : l.all dgB = true) : val (l.take j) < 10 ^ (j - k) := by
  have hd : ((l.take j).drop k).all dgB = true := by
    rw [List.all_eq_true] at ha ⊢
    exact fun x hx => ha x (List.mem_of_mem_take (List.mem_of_mem_drop hx))
  have := fold_lt ((l.take j).drop k) 0 1 (by omega) hd
  have e := val_split (l.take j) k
  rw [List.take_take, Nat.min_eq_left hkj, h0] at e
  rw [e]
  rw [List.length_drop, List.length_take, Nat.min_eq_left hj] at this
  omega
theorem val_small18 {l : List UInt8} {k j : Nat} (hkj : k ≤ j) (hj : j ≤ l.length) (h18 : j - k ≤ 18) (h0 : val (l.take k) = 0) (ha : l.all dgB = true) : val (l.take j) < 1000000000000000000 := by
  have h1 := val_small hkj hj h0 ha
  have h3 : 10 ^ (j - k) ≤ 10 ^ 18 := pow_mono h18
  have h4 : (10 : Nat) ^ 18 = 1000000000000000000 := by decide
  omega
theorem val_small19 {l : List UInt8} {k j : Nat} (hkj : k ≤ j) (hj : j ≤ l.length) (h18 : j - k ≤ 19) (h0 : val (l.take k) = 0) (ha : l.all dgB = true) : val (l.take j) < 10000000000000000000 := by
  have h1 := val_small hkj hj h0 ha
  have h3 : 10 ^ (j - k) ≤ 10 ^ 19 := pow_mono h18
  have h4 : (10 : Nat) ^ 19 = 10000000000000000000 := by decide
  omega

set_option maxRecDepth 100000 in
set_option maxHeartbeats 1000000 in
theorem rnumber_any (l : List UInt8) (most : Int) (w : World) (hl : l.length ≤ 140737488351232) (hm0 : -9223372036854775808 ≤ most) (hm1 : most ≤ 9223372036854775807) :
    Calls Try.prog 106 #[.string ⟨l.toArray⟩, .int .i64 most] w fun e w' => e = .returned (numV l most) ∧ w = w' := by
  by_cases h0 : l = []
  · subst h0
    go_enter Try.func106, Try.ntmps106
    go_wp2
    go_ret2
    exact ⟨numV_form (by simp), rfl⟩
  · have h1 : l.isEmpty = false := by simpa using h0
    have hpos : 0 < l.length := List.length_pos_iff.2 h0
    go_enter Try.func106, Try.ntmps106
    go_wp2
    go_loop [6] (fun i => ∃ k : Nat, k ≤ l.length ∧ i = .int .i64 k ∧ (l.take k).all dgB = true) (fun i => l.length - (intOf i).toNat)
    case atStart => exact ⟨0, Nat.zero_le _, rfl, rfl⟩
    case round =>
      obtain ⟨k, hk, rfl, ha⟩ := hrel
      have Ha := Lib.hid ha
      clear ha
      by_cases hlt : k < l.length
      · have i1 : (k : Int) < (l.length : Int) := by omega
        rcases hd : dgB l[k]
        · have hb := dgB_f hd
          have Hd := Lib.hid hd
          clear hd
          rcases hb with hb | hb
          · have hb' : ((l[k].toNat : Nat) : Int) < 48 := by omega
            go_wp2
            go_ret2
            exact ⟨numV_form (fun h => not_all hlt Hd.out h.2), rfl⟩
          · have hb' : (57 : Int) < ((l[k].toNat : Nat) : Int) := by omega
            go_wp2
            go_ret2
            exact ⟨numV_form (fun h => not_all hlt Hd.out h.2), rfl⟩
        · have hb := dgB_t hd
          have hb1 : (48 : Int) ≤ ((l[k].toNat : Nat) : Int) := by omega
          have hb2 : ((l[k].toNat : Nat) : Int) ≤ 57 := by omega
          have Hd := Lib.hid hd
          clear hd hb
          go_wp2
          go_round
          case rel => exact ⟨k + 1, by omega, by go_num, all_next hlt Ha.out Hd.out⟩
          case measure => simp [intOf]; omega
      · have i1 : ¬ (k : Int) < (l.length : Int) := by omega
        obtain rfl : k = l.length := by omega
        have hal := Ha.out
        rw [List.take_length] at hal
        have Hal := Lib.hid hal
        clear hal
        go_wp2
        go_loop [7] (fun i => ∃ k : Nat, k + 1 ≤ l.length ∧ i = .int .i64 k ∧ val (l.take k) = 0) (fun i => l.length - (intOf i).toNat)
        case atStart => exact ⟨0, by omega, rfl, rfl⟩
        case round =>
          obtain ⟨k, hk, rfl, hz⟩ := hrel
          have Hz := Lib.hid hz
          clear hz
          have hk' : k < l.length := by omega
          by_cases hgo : k + 1 < l.length ∧ l[k].toNat = 48
          · obtain ⟨hg1, hg2⟩ := hgo
            have i2 : (k : Int) < (l.length : Int) - 1 := by omega
            have i3 : (((l[k].toNat : Nat) : Int) == 48) = true := by simp; omega
            have hnx : val (l.take (k + 1)) = 0 := by rw [val_next hk', Hz.out]; omega
            have Hnx := Lib.hid hnx
            clear hnx hg2
            go_wp2
            go_round
            case rel => exact ⟨k + 1, by omega, by go_num, Hnx.out⟩
            case measure => simp [intOf]; omega
          · -- behind the noughts
            have hstop : 19 < l.length - k → 9223372036854775807 < val l := by
              intro h19
              refine val_big hk' h19 ((List.all_eq_true.1 Hal.out) _ (List.getElem_mem hk')) ?_
              intro h48
              exact hgo ⟨by omega, h48⟩
            by_cases hrng : 19 < l.length - k ∨ most < 0
            · have hgt : most < (val l : Int) := by
                rcases hrng with h | h
                · have := hstop h; omega
                · omega
              have Hgt := Lib.hid hgt
              clear hgt hstop
              by_cases hg1 : k + 1 < l.length
              · have hg2 : (((l[k].toNat : Nat) : Int) == 48) = false := by
                  have : ¬ l[k].toNat = 48 := fun h => hgo ⟨hg1, h⟩
                  simp; omega
                have i2 : (k : Int) < (l.length : Int) - 1 := by omega
                clear hgo
                by_cases h19 : 19 < l.length - k
                · have i4 : (19 : Int) < (l.length : Int) - (k : Int) := by omega
                  clear hrng
                  go_wp2
                  go_ret2
                  exact ⟨numV_range h0 Hal.out Hgt.out, rfl⟩
                · have i4 : ¬ (19 : Int) < (l.length : Int) - (k : Int) := by omega
                  have i5 : most < 0 := by omega
                  clear hrng
                  go_wp2
                  go_ret2
                  exact ⟨numV_range h0 Hal.out Hgt.out, rfl⟩
              · have i2 : ¬ (k : Int) < (l.length : Int) - 1 := by omega
                have i4 : ¬ (19 : Int) < (l.length : Int) - (k : Int) := by omega
                have i5 : most < 0 := by omega
                clear hrng hgo
                go_wp2
                go_ret2
                exact ⟨numV_range h0 Hal.out Hgt.out, rfl⟩
            · have i4 : ¬ (19 : Int) < (l.length : Int) - (k : Int) := by omega
              have i5 : 0 ≤ most := by omega
              have h19 : l.length - k ≤ 19 := by omega
              clear hrng hstop
              by_cases hg1 : k + 1 < l.length
              · have hg2 : (((l[k].toNat : Nat) : Int) == 48) = false := by
                  have : ¬ l[k].toNat = 48 := fun h => hgo ⟨hg1, h⟩
                  simp; omega
                have i2 : (k : Int) < (l.length : Int) - 1 := by omega
                clear hgo
                go_wp2
                go_loop [8, 9] (fun n i => ∃ (j m : Nat), k ≤ j ∧ j ≤ l.length ∧ i = .int .i64 j ∧ n = .int .u64 m ∧ m = val (l.take j)) (fun _ i => l.length - (intOf i).toNat)
                case atStart => exact ⟨k, 0, Nat.le_refl _, by omega, rfl, rfl, Hz.out.symm⟩
                case round =>
                  obtain ⟨j, m, hkj, hj, rfl, rfl, hm⟩ := hrel
                  have Hm := Lib.hid hm
                  clear hm
                  by_cases hlt : j < l.length
                  · have i6 : (j : Int) < (l.length : Int) := by omega
                    have hdd : dgB l[j] = true := (List.all_eq_true.1 Hal.out) _ (List.getElem_mem hlt)
                    have hb := dgB_t hdd
                    have hb1 : (48 : Int) ≤ ((l[j].toNat : Nat) : Int) := by omega
                    have hb2 : ((l[j].toNat : Nat) : Int) ≤ 57 := by omega
                    clear hdd
                    have hs := val_small18 hkj hj (by omega) Hz.out Hal.out
                    rw [← Hm.out] at hs
                    have hs' : (m : Int) < 1000000000000000000 := by omega
                    have hvn := val_next hlt
                    rw [← Hm.out] at hvn
                    have Hvn := Lib.hid hvn
                    clear hvn hs
                    go_wp2
                    go_round
                    case rel => exact ⟨j + 1, 10 * m + (l[j].toNat - 48), by omega, by omega, by go_num, vint (by omega), Hvn.out.symm⟩
                    case measure => simp [intOf]; omega
                  · have i6 : ¬ (j : Int) < (l.length : Int) := by omega
                    obtain rfl : j = l.length := by omega
                    have hs := val_small19 hkj hj (by omega) Hz.out Hal.out
                    rw [← Hm.out] at hs
                    have hs' : (m : Int) < 10000000000000000000 := by omega
                    have hv := Hm.out
                    rw [List.take_length] at hv
                    have Hv := Lib.hid hv
                    clear hv hs
                    by_cases hle : (m : Int) ≤ most
                    · clear hs'
                      go_wp2
                      go_ret2
                      exact ⟨numV_ok h0 Hal.out (by rw [← Hv.out]; exact hle) (by rw [← Hv.out]), rfl⟩
                    · have hle' : most < (m : Int) := by omega
                      clear hle
                      go_wp2
                      go_ret2
                      exact ⟨numV_range h0 Hal.out (by rw [← Hv.out]; exact hle'), rfl⟩
              · have i2 : ¬ (k : Int) < (l.length : Int) - 1 := by omega
                clear hgo
                go_wp2
                go_loop [8, 9] (fun n i => ∃ (j m : Nat), k ≤ j ∧ j ≤ l.length ∧ i = .int .i64 j ∧ n = .int .u64 m ∧ m = val (l.take j)) (fun _ i => l.length - (intOf i).toNat)
                case atStart => exact ⟨k, 0, Nat.le_refl _, by omega, rfl, rfl, Hz.out.symm⟩
                case round =>
                  obtain ⟨j, m, hkj, hj, rfl, rfl, hm⟩ := hrel
                  have Hm := Lib.hid hm
                  clear hm
                  by_cases hlt : j < l.length
                  · have i6 : (j : Int) < (l.length : Int) := by omega
                    have hdd : dgB l[j] = true := (List.all_eq_true.1 Hal.out) _ (List.getElem_mem hlt)
                    have hb := dgB_t hdd
                    have hb1 : (48 : Int) ≤ ((l[j].toNat : Nat) : Int) := by omega
                    have hb2 : ((l[j].toNat : Nat) : Int) ≤ 57 := by omega
                    clear hdd
                    have hs := val_small18 hkj hj (by omega) Hz.out Hal.out
                    rw [← Hm.out] at hs
                    have hs' : (m : Int) < 1000000000000000000 := by omega
                    have hvn := val_next hlt
                    rw [← Hm.out] at hvn
                    have Hvn := Lib.hid hvn
                    clear hvn hs
                    go_wp2
                    go_round
                    case rel => exact ⟨j + 1, 10 * m + (l[j].toNat - 48), by omega, by omega, by go_num, vint (by omega), Hvn.out.symm⟩
                    case measure => simp [intOf]; omega
                  · have i6 : ¬ (j : Int) < (l.length : Int) := by omega
                    obtain rfl : j = l.length := by omega
                    have hs := val_small19 hkj hj (by omega) Hz.out Hal.out
                    rw [← Hm.out] at hs
                    have hs' : (m : Int) < 10000000000000000000 := by omega
                    have hv := Hm.out
                    rw [List.take_length] at hv
                    have Hv := Lib.hid hv
                    clear hv hs
                    by_cases hle : (m : Int) ≤ most
                    · clear hs'
                      go_wp2
                      go_ret2
                      exact ⟨numV_ok h0 Hal.out (by rw [← Hv.out]; exact hle) (by rw [← Hv.out]), rfl⟩
                    · have hle' : most < (m : Int) := by omega
                      clear hle
                      go_wp2
                      go_ret2
                      exact ⟨numV_range h0 Hal.out (by rw [← Hv.out]; exact hle'), rfl⟩
end Go.Proofs.Ytnelaegjcpkmdaa
