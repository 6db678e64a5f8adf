/- The contracts of label.plain, of label.Host and of their references. -/
import Derived.Test.YtnelaegjcpkmdaaKB
namespace Go.Proofs.Ytnelaegjcpkmdaa
open Go.RowKit
attribute [local go_sem] ba_get

/-- a letter, a digit or a hyphen. -/
def plnB (n : Nat) : Bool := decide ((97 ≤ n ∧ n ≤ 122) ∨ (65 ≤ n ∧ n ≤ 90) ∨ (48 ≤ n ∧ n ≤ 57) ∨ n = 45)
theorem pln_ret {n : Nat} {b : Bool} (h : plnB n = b) : Ending.returned (.bool b) = .returned (.bool (plnB n)) := by rw [h]

set_option maxRecDepth 100000 in
set_option maxHeartbeats 1000000 in
theorem lplain_any (n : Nat) (w : World) (hn : n ≤ 2000000) : Calls Try.prog 77 #[.int .i32 (n : Int)] w fun e w' => e = .returned (.bool (plnB n)) ∧ w = w' := by
  rcases (show n < 45 ∨ n = 45 ∨ (46 ≤ n ∧ n ≤ 47) ∨ (48 ≤ n ∧ n ≤ 57) ∨ (58 ≤ n ∧ n ≤ 64) ∨ (65 ≤ n ∧ n ≤ 90) ∨ (91 ≤ n ∧ n ≤ 96) ∨ (97 ≤ n ∧ n ≤ 122) ∨ 122 < n by omega) with h | h | h | h | h | h | h | h | h
  all_goals
    first
      | have r : plnB n = true := by unfold plnB; simp; omega
        have R := Lib.hid r
        clear r
      | have r : plnB n = false := by unfold plnB; simp; omega
        have R := Lib.hid r
        clear r
    first | have a1 : (97 : Int) ≤ (n : Int) := by omega
          | have a1 : ¬ (97 : Int) ≤ (n : Int) := by omega
    first | have a2 : (n : Int) ≤ 122 := by omega
          | have a2 : ¬ (n : Int) ≤ 122 := by omega
    first | have a3 : (65 : Int) ≤ (n : Int) := by omega
          | have a3 : ¬ (65 : Int) ≤ (n : Int) := by omega
    first | have a4 : (n : Int) ≤ 90 := by omega
          | have a4 : ¬ (n : Int) ≤ 90 := by omega
    first | have a5 : (48 : Int) ≤ (n : Int) := by omega
          | have a5 : ¬ (48 : Int) ≤ (n : Int) := by omega
    first | have a6 : (n : Int) ≤ 57 := by omega
          | have a6 : ¬ (n : Int) ≤ 57 := by omega
    first | have a7 : ((n : Int) == 45) = true := by simp; omega
          | have a7 : ((n : Int) == 45) = false := by simp; omega
    clear h
    go_enter Try.func77, Try.ntmps77
    go_wp2
    go_ret
    exact ⟨pln_ret R.out, rfl⟩
set_option maxRecDepth 100000 in
set_option maxHeartbeats 1000000 in
theorem rplain_any (n : Nat) (w : World) (hn : n ≤ 2000000) : Calls Try.prog 76 #[.int .i64 (n : Int)] w fun e w' => e = .returned (.bool (plnB n)) ∧ w = w' := by
  rcases (show n < 45 ∨ n = 45 ∨ (46 ≤ n ∧ n ≤ 47) ∨ (48 ≤ n ∧ n ≤ 57) ∨ (58 ≤ n ∧ n ≤ 64) ∨ (65 ≤ n ∧ n ≤ 90) ∨ (91 ≤ n ∧ n ≤ 96) ∨ (97 ≤ n ∧ n ≤ 122) ∨ 122 < n by omega) with h | h | h | h | h | h | h | h | h
  all_goals
    first
      | have r : plnB n = true := by unfold plnB; simp; omega
        have R := Lib.hid r
        clear r
      | have r : plnB n = false := by unfold plnB; simp; omega
        have R := Lib.hid r
        clear r
    first | have a1 : (97 : Int) ≤ (n : Int) := by omega
          | have a1 : ¬ (97 : Int) ≤ (n : Int) := by omega
    first | have a2 : (n : Int) ≤ 122 := by omega
          | have a2 : ¬ (n : Int) ≤ 122 := by omega
    first | have a3 : (65 : Int) ≤ (n : Int) := by omega
          | have a3 : ¬ (65 : Int) ≤ (n : Int) := by omega
    first | have a4 : (n : Int) ≤ 90 := by omega
          | have a4 : ¬ (n : Int) ≤ 90 := by omega
    first | have a5 : (48 : Int) ≤ (n : Int) := by omega
          | have a5 : ¬ (48 : Int) ≤ (n : Int) := by omega
    first | have a6 : (n : Int) ≤ 57 := by omega
          | have a6 : ¬ (n : Int) ≤ 57 := by omega
    first | have a7 : ((n : Int) == 45) = true := by simp; omega
          | have a7 : ((n : Int) == 45) = false := by simp; omega
    clear h
    go_enter Try.func76, Try.ntmps76
    go_wp2
    go_ret
    exact ⟨pln_ret R.out, rfl⟩

/-- a label that a host's name may have. -/
def hostB (l : List UInt8) : Bool := decide (1 ≤ l.length ∧ l.length ≤ 63 ∧ l[0]? ≠ some 45 ∧ l[l.length - 1]? ≠ some 45 ∧ ∀ (j : Nat) (hj : j < l.length), plnB l[j].toNat = true)
theorem host_ret {l : List UInt8} {b : Bool} (h : hostB l = b) : Ending.returned (.bool b) = .returned (.bool (hostB l)) := by rw [h]
theorem host_long {l : List UInt8} (h : ¬ l.length ≤ 63) : hostB l = false := by unfold hostB; exact decide_eq_false fun ⟨_, h2, _⟩ => h h2
theorem host_first {l : List UInt8} (hpos : 0 < l.length) (hf : l[0] = 45) : hostB l = false := by
  unfold hostB; exact decide_eq_false fun ⟨_, _, h, _⟩ => h (by rw [List.getElem?_eq_getElem hpos, hf])
theorem host_last {l : List UInt8} (hpos : 0 < l.length) (hf : l[l.length - 1] = 45) : hostB l = false := by
  unfold hostB; exact decide_eq_false fun ⟨_, _, _, h, _⟩ => h (by rw [List.getElem?_eq_getElem (by omega), hf])
theorem host_bad {l : List UInt8} {k : Nat} (hk : k < l.length) (hf : plnB l[k].toNat = false) : hostB l = false := by
  unfold hostB; exact decide_eq_false fun ⟨_, _, _, _, h⟩ => by have := h k hk; rw [hf] at this; cases this
theorem host_good {l : List UInt8} (hpos : 0 < l.length) (h63 : l.length ≤ 63) (h1 : l[0] ≠ 45) (h2 : l[l.length - 1] ≠ 45) (h3 : ∀ (j : Nat) (hj : j < l.length), plnB l[j].toNat = true) : hostB l = true := by
  unfold hostB
  refine decide_eq_true ⟨hpos, h63, ?_, ?_, h3⟩
  · rw [List.getElem?_eq_getElem hpos]; intro h; injection h with h; exact h1 h
  · rw [List.getElem?_eq_getElem (by omega)]; intro h; injection h with h; exact h2 h
theorem ne45 {b : UInt8} (h : b ≠ 45) : (((b.toNat : Nat) : Int) == 45) = false := by
  rw [beq_eq_false_iff_ne]; intro h'; exact h (UInt8.toNat.inj (by simp; omega))

set_option maxRecDepth 100000 in
set_option maxHeartbeats 1000000 in
theorem lhost_any (l : List UInt8) (w : World) (hl : l.length ≤ 140737488351232) : Calls Try.prog 43 #[.string ⟨l.toArray⟩] w fun e w' => e = .returned (.bool (hostB l)) ∧ w = w' := by
  rcases Nat.eq_zero_or_pos l.length with h0 | hpos
  · have hA : l = [] := List.eq_nil_of_length_eq_zero h0
    subst hA
    go_enter Try.func43, Try.ntmps43
    go_wp2
    go_ret
    exact ⟨host_ret (by simp [hostB]), rfl⟩
  · have e0 : l.isEmpty = false := by cases l with | nil => simp at hpos | cons _ _ => rfl
    have i0 : ¬ (l.length : Int) < 1 := by omega
    by_cases h63 : l.length ≤ 63
    · have i1 : ¬ (63 : Int) < (l.length : Int) := by omega
      have e1 : ((l.length : Int) - 1).toNat = l.length - 1 := by omega
      have e2 : (l.length : Int) - 1 < (l.length : Int) := by omega
      have e3 : l.length - 1 < l.length := by omega
      by_cases hf : l[0] = 45
      · have R := Lib.hid (host_first hpos hf)
        have i2 : (((l[0].toNat : Nat) : Int) == 45) = true := by simp [hf]
        clear hf
        go_enter Try.func43, Try.ntmps43
        go_wp2
        go_ret
        exact ⟨host_ret R.out, rfl⟩
      · have i2 := ne45 hf
        by_cases hg : l[l.length - 1] = 45
        · have R := Lib.hid (host_last hpos hg)
          have i3 : (((l[l.length - 1].toNat : Nat) : Int) == 45) = true := by simp [hg]
          clear hf hg
          go_enter Try.func43, Try.ntmps43
          go_wp2
          go_ret
          exact ⟨host_ret R.out, rfl⟩
        · have i3 := ne45 hg
          have R := Lib.hid (host_good hpos h63 hf hg)
          clear hf hg
          go_enter Try.func43, Try.ntmps43
          go_wp2
          go_loop [26] (fun i => ∃ k : Nat, k ≤ l.length ∧ i = .int .i64 k ∧ ∀ (j : Nat) (hj : j < l.length), j < k → plnB l[j].toNat = true) (fun i => l.length - (intOf i).toNat)
          case atStart => exact ⟨0, Nat.zero_le _, rfl, fun j _ h => absurd h (by omega)⟩
          case round =>
            obtain ⟨k, hk, rfl, hm⟩ := hrel
            have Hm := Lib.hid hm
            clear hm
            by_cases hlt : k < l.length
            · have i5 : (k : Int) < (l.length : Int) := by omega
              have hb := l[k].toNat_lt
              rcases hp : plnB l[k].toNat
              · have Hp := Lib.hid hp
                clear hp
                go_wp2_with fail
                refine (lplain_any _ _ (by omega)).mono ?_
                rintro e w' ⟨rfl, rfl⟩
                rw [Hp.out]
                go_wp2
                go_ret
                exact ⟨host_ret (host_bad hlt Hp.out), rfl⟩
              · have Hp := Lib.hid hp
                clear hp
                go_wp2_with fail
                refine (lplain_any _ _ (by omega)).mono ?_
                rintro e w' ⟨rfl, rfl⟩
                rw [Hp.out]
                go_wp2
                go_round
                case rel =>
                  refine ⟨k + 1, by omega, by go_num, fun j hj hjk => ?_⟩
                  by_cases hjk2 : j < k
                  · exact Hm.out j hj hjk2
                  · obtain rfl : j = k := by omega
                    exact Hp.out
                case measure => simp [intOf]; omega
            · have i5 : ¬ (k : Int) < (l.length : Int) := by omega
              have R2 := Lib.hid (R.out (fun j hj => Hm.out j hj (by omega)))
              go_wp2
              go_ret
              exact ⟨host_ret R2.out, rfl⟩
    · have i1 : (63 : Int) < (l.length : Int) := by omega
      have R := Lib.hid (host_long h63)
      go_enter Try.func43, Try.ntmps43
      go_wp2
      go_ret
      exact ⟨host_ret R.out, rfl⟩

set_option maxRecDepth 100000 in
set_option maxHeartbeats 1000000 in
theorem rhost_any (l : List UInt8) (w : World) (hl : l.length ≤ 140737488351232) : Calls Try.prog 44 #[.string ⟨l.toArray⟩] w fun e w' => e = .returned (.bool (hostB l)) ∧ w = w' := by
  rcases Nat.eq_zero_or_pos l.length with h0 | hpos
  · have hA : l = [] := List.eq_nil_of_length_eq_zero h0
    subst hA
    go_enter Try.func44, Try.ntmps44
    go_wp2
    go_ret
    exact ⟨host_ret (by simp [hostB]), rfl⟩
  · have e0 : l.isEmpty = false := by cases l with | nil => simp at hpos | cons _ _ => rfl
    have i0 : ¬ (l.length : Int) < 1 := by omega
    by_cases h63 : l.length ≤ 63
    · have i1 : ¬ (63 : Int) < (l.length : Int) := by omega
      have e1 : ((l.length : Int) - 1).toNat = l.length - 1 := by omega
      have e2 : (l.length : Int) - 1 < (l.length : Int) := by omega
      have e3 : l.length - 1 < l.length := by omega
      by_cases hf : l[0] = 45
      · have R := Lib.hid (host_first hpos hf)
        have i2 : (((l[0].toNat : Nat) : Int) == 45) = true := by simp [hf]
        clear hf
        go_enter Try.func44, Try.ntmps44
        go_wp2
        go_ret
        exact ⟨host_ret R.out, rfl⟩
      · have i2 := ne45 hf
        by_cases hg : l[l.length - 1] = 45
        · have R := Lib.hid (host_last hpos hg)
          have i3 : (((l[l.length - 1].toNat : Nat) : Int) == 45) = true := by simp [hg]
          clear hf hg
          go_enter Try.func44, Try.ntmps44
          go_wp2
          go_ret
          exact ⟨host_ret R.out, rfl⟩
        · have i3 := ne45 hg
          have R := Lib.hid (host_good hpos h63 hf hg)
          clear hf hg
          go_enter Try.func44, Try.ntmps44
          go_wp2
          go_loop [3] (fun i => ∃ k : Nat, k ≤ l.length ∧ i = .int .i64 k ∧ ∀ (j : Nat) (hj : j < l.length), j < k → plnB l[j].toNat = true) (fun i => l.length - (intOf i).toNat)
          case atStart => exact ⟨0, Nat.zero_le _, rfl, fun j _ h => absurd h (by omega)⟩
          case round =>
            obtain ⟨k, hk, rfl, hm⟩ := hrel
            have Hm := Lib.hid hm
            clear hm
            by_cases hlt : k < l.length
            · have i5 : (k : Int) < (l.length : Int) := by omega
              have hb := l[k].toNat_lt
              rcases hp : plnB l[k].toNat
              · have Hp := Lib.hid hp
                clear hp
                go_wp2_with fail
                refine (rplain_any _ _ (by omega)).mono ?_
                rintro e w' ⟨rfl, rfl⟩
                rw [Hp.out]
                go_wp2
                go_ret
                exact ⟨host_ret (host_bad hlt Hp.out), rfl⟩
              · have Hp := Lib.hid hp
                clear hp
                go_wp2_with fail
                refine (rplain_any _ _ (by omega)).mono ?_
                rintro e w' ⟨rfl, rfl⟩
                rw [Hp.out]
                go_wp2
                go_round
                case rel =>
                  refine ⟨k + 1, by omega, by go_num, fun j hj hjk => ?_⟩
                  by_cases hjk2 : j < k
                  · exact Hm.out j hj hjk2
                  · obtain rfl : j = k := by omega
                    exact Hp.out
                case measure => simp [intOf]; omega
            · have i5 : ¬ (k : Int) < (l.length : Int) := by omega
              have R2 := Lib.hid (R.out (fun j hj => Hm.out j hj (by omega)))
              go_wp2
              go_ret
              exact ⟨host_ret R2.out, rfl⟩
    · have i1 : (63 : Int) < (l.length : Int) := by omega
      have R := Lib.hid (host_long h63)
      go_enter Try.func44, Try.ntmps44
      go_wp2
      go_ret
      exact ⟨host_ret R.out, rfl⟩
end Go.Proofs.Ytnelaegjcpkmdaa
