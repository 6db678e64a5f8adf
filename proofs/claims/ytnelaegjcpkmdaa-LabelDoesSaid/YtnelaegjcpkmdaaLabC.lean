/- The contracts of label.basic, may, ToASCII, ToUnicode and of their references. -/
import Derived.Test.YtnelaegjcpkmdaaLabB
namespace Go.Proofs.Ytnelaegjcpkmdaa
open Go.RowKit
attribute [local go_sem] ba_get ext_drop ext_take ba_app

theorem far_next {s : List UInt8} {k : Nat} (h : k < s.length) (h1 : farB (s.take k) = false) (h2 : ¬ 128 ≤ s[k].toNat) : farB (s.take (k + 1)) = false := by
  unfold farB at *
  rw [List.take_succ_eq_append_getElem h, List.any_append, h1]
  simp
  omega
theorem far_hit {s : List UInt8} {k : Nat} (h : k < s.length) (h2 : 128 ≤ s[k].toNat) : farB s = true := by
  unfold farB
  exact List.any_eq_true.2 ⟨s[k], List.getElem_mem _, by simpa using h2⟩
set_option maxHeartbeats 400000 in
theorem basic_any (s : List UInt8) (w : World) (hl : s.length ≤ 140737488351232) : Calls Try.prog 71 #[.string ⟨s.toArray⟩] w fun e w' => e = .returned (.bool (!farB s)) ∧ w = w' := by
  go_enter Try.func71, Try.ntmps71
  go_wp2
  go_loop [3, 6] (fun _ i => ∃ k : Nat, k ≤ s.length ∧ i = .int .i64 (k : Int) ∧ farB (s.take k) = false) (fun _ i => s.length - (intOf i).toNat)
  case atStart => exact ⟨0, Nat.zero_le _, rfl, rfl⟩
  case round =>
    obtain ⟨k, hk, rfl, hf⟩ := hrel
    have Hf := Lib.hid hf
    clear hf
    by_cases hlt : k < s.length
    · have i1 : (k : Int) < (s.length : Int) := by omega
      by_cases hc : 128 ≤ s[k].toNat
      · have i2 : (128 : Int) ≤ ((s[k].toNat : Nat) : Int) := by omega
        have H := Lib.hid (far_hit hlt hc)
        go_wp2
        go_ret
        exact ⟨retb (by rw [H.out]; rfl), rfl⟩
      · have i2 : ¬ (128 : Int) ≤ ((s[k].toNat : Nat) : Int) := by omega
        have H := Lib.hid (far_next hlt Hf.out hc)
        go_wp2
        go_round
        case rel => exact ⟨k + 1, by omega, by go_num, H.out⟩
        case measure => simp [intOf]; omega
    · have i1 : ¬ (k : Int) < (s.length : Int) := by omega
      have H := Lib.hid (show farB s = false by have := Hf.out; rwa [List.take_of_length_le (by omega)] at this)
      go_wp2
      go_ret
      exact ⟨retb (by rw [H.out]; rfl), rfl⟩
set_option maxHeartbeats 400000 in
theorem far_any (s : List UInt8) (w : World) (hl : s.length ≤ 140737488351232) : Calls Try.prog 48 #[.string ⟨s.toArray⟩] w fun e w' => e = .returned (.bool (farB s)) ∧ w = w' := by
  go_enter Try.func48, Try.ntmps48
  go_wp2
  go_loop [3] (fun i => ∃ k : Nat, k ≤ s.length ∧ i = .int .i64 (k : Int) ∧ farB (s.take k) = false) (fun i => s.length - (intOf i).toNat)
  case atStart => exact ⟨0, Nat.zero_le _, rfl, rfl⟩
  case round =>
    obtain ⟨k, hk, rfl, hf⟩ := hrel
    have Hf := Lib.hid hf
    clear hf
    by_cases hlt : k < s.length
    · have i1 : (k : Int) < (s.length : Int) := by omega
      by_cases hc : 128 ≤ s[k].toNat
      · have i2 : (128 : Int) ≤ ((s[k].toNat : Nat) : Int) := by omega
        have H := Lib.hid (far_hit hlt hc)
        go_wp2
        go_ret
        exact ⟨retb (by rw [H.out]), rfl⟩
      · have i2 : ¬ (128 : Int) ≤ ((s[k].toNat : Nat) : Int) := by omega
        have H := Lib.hid (far_next hlt Hf.out hc)
        go_wp2
        go_round
        case rel => exact ⟨k + 1, by omega, by go_num, H.out⟩
        case measure => simp [intOf]; omega
    · have i1 : ¬ (k : Int) < (s.length : Int) := by omega
      have H := Lib.hid (show farB s = false by have := Hf.out; rwa [List.take_of_length_le (by omega)] at this)
      go_wp2
      go_ret
      exact ⟨retb (by rw [H.out]), rfl⟩

theorem mayc_bad1 {m : Nat} (h : m < 128) (hp : plnB m = false) : mayc (m : Int) = false := by
  unfold mayc; exact decide_eq_false fun ⟨h1, _⟩ => by
    rcases h1 with h1 | h1
    · omega
    · rw [Int.toNat_natCast, hp] at h1; cases h1
theorem mayc_bad2 {m : Nat} (h : m = 12290 ∨ m = 65294 ∨ m = 65377) : mayc (m : Int) = false := by
  unfold mayc; exact decide_eq_false fun ⟨_, h1, h2, h3⟩ => by omega
theorem mayc_good {m : Nat} (h : 128 ≤ m ∨ plnB m = true) (h1 : m ≠ 12290) (h2 : m ≠ 65294) (h3 : m ≠ 65377) : mayc (m : Int) = true := by
  unfold mayc
  refine decide_eq_true ⟨?_, by omega, by omega, by omega⟩
  rcases h with h | h
  · exact Or.inl (by omega)
  · exact Or.inr (by rw [Int.toNat_natCast]; exact h)
theorem may_bad {A : List Int} {k : Nat} (h : k < A.length) (hc : mayc A[k] = false) : mayB A = false := by
  unfold mayB
  refine decide_eq_false fun ⟨h1, _⟩ => ?_
  rw [List.all_eq_true] at h1
  have := h1 _ (List.getElem_mem h)
  rw [hc] at this; cases this
theorem may_next {A : List Int} {k : Nat} (h : k < A.length) (h1 : (A.take k).all mayc = true) (h2 : mayc A[k] = true) : (A.take (k + 1)).all mayc = true := by
  rw [List.take_succ_eq_append_getElem h, List.all_append, h1]; simp [h2]
theorem may_fin {A : List Int} (hpos : 0 < A.length) (h1 : A.all mayc = true) : mayB A = (decide (A[0] ≠ 45) && decide (A[A.length - 1] ≠ 45)) := by
  unfold mayB
  rw [Bool.eq_iff_iff, decide_eq_true_iff, List.getElem?_eq_getElem hpos, List.getElem?_eq_getElem (show A.length - 1 < A.length by omega)]
  simp [h1]

set_option maxRecDepth 100000 in
set_option maxHeartbeats 1000000 in
theorem may_any (A : List Int) (v : Value) (w : World) (ha : Sl w 1 v A.length (A.map (Value.int .i32))) (hn : A.length ≤ 1000000000) (hpos : 0 < A.length) (hr : ∀ x ∈ A, 0 ≤ x ∧ x ≤ 1114111) :
    Calls Try.prog 74 #[v] w fun e w' => e = .returned (.bool (mayB A)) ∧ w = w' := by
  obtain ⟨b1, o1, c1, rfl, hc1, hb1, hcA⟩ := ha.pos hpos
  have HcA := Lib.hid hcA
  have Hr := Lib.hid hr
  clear hcA ha hr
  go_enter Try.func74, Try.ntmps74
  go_wp2
  go_loop [4, 7] (fun _ i => ∃ k : Nat, k ≤ A.length ∧ i = .int .i64 (k : Int) ∧ (A.take k).all mayc = true) (fun _ i => A.length - (intOf i).toNat)
  case atStart => exact ⟨0, Nat.zero_le _, rfl, rfl⟩
  case round =>
    obtain ⟨k, hk, rfl, hm⟩ := hrel
    have Hm := Lib.hid hm
    clear hm
    by_cases hlt : k < A.length
    · have i1 : (k : Int) < (A.length : Int) := by omega
      have q1 : w.cell? ⟨b1, o1 + k, none⟩ = some (.int .i32 A[k]) := sl_cell HcA.out hlt
      obtain ⟨g1, g2⟩ := Hr.out A[k] (List.getElem_mem _)
      have Hbad : Hid (mayc A[k] = false → mayB A = false) := Lib.hid (may_bad hlt)
      have Hgood : Hid (mayc A[k] = true → (A.take (k + 1)).all mayc = true) := Lib.hid (may_next hlt Hm.out)
      generalize A[k] = c at *
      obtain ⟨m, rfl⟩ := Int.eq_ofNat_of_zero_le g1
      by_cases h128 : m < 128
      · have i2 : (m : Int) < 128 := by omega
        rcases hp : plnB m
        · have HB := Lib.hid (Hbad.out (mayc_bad1 h128 hp))
          have Hp := Lib.hid hp
          clear hp
          go_wp2_with fail
          refine (lplain_any _ _ (by omega)).mono ?_
          rintro e w' ⟨rfl, rfl⟩
          rw [Hp.out]
          go_wp2
          go_ret
          exact ⟨retb (by rw [HB.out]), rfl⟩
        · have HG := Lib.hid (Hgood.out (mayc_good (Or.inr hp) (by omega) (by omega) (by omega)))
          have Hp := Lib.hid hp
          clear hp
          have j1 : ((m : Int) == 12290) = false := by rw [beq_eq_false_iff_ne]; omega
          have j2 : ((m : Int) == 65294) = false := by rw [beq_eq_false_iff_ne]; omega
          have j3 : ((m : Int) == 65377) = false := by rw [beq_eq_false_iff_ne]; omega
          go_wp2_with fail
          refine (lplain_any _ _ (by omega)).mono ?_
          rintro e w' ⟨rfl, rfl⟩
          rw [Hp.out]
          go_wp2
          go_round
          case rel => exact ⟨k + 1, by omega, by go_num, HG.out⟩
          case measure => simp [intOf]; omega
      · have i2 : ¬ (m : Int) < 128 := by omega
        by_cases h3 : m = 12290 ∨ m = 65294 ∨ m = 65377
        · have HB := Lib.hid (Hbad.out (mayc_bad2 h3))
          by_cases e1 : m = 12290
          · have j1 : ((m : Int) == 12290) = true := by rw [beq_iff_eq]; omega
            clear h3 e1
            go_wp2
            go_ret
            exact ⟨retb (by rw [HB.out]), rfl⟩
          · have j1 : ((m : Int) == 12290) = false := by rw [beq_eq_false_iff_ne]; omega
            by_cases e2 : m = 65294
            · have j2 : ((m : Int) == 65294) = true := by rw [beq_iff_eq]; omega
              clear h3 e1 e2
              go_wp2
              go_ret
              exact ⟨retb (by rw [HB.out]), rfl⟩
            · have j2 : ((m : Int) == 65294) = false := by rw [beq_eq_false_iff_ne]; omega
              have j3 : ((m : Int) == 65377) = true := by rw [beq_iff_eq]; omega
              clear h3 e1 e2
              go_wp2
              go_ret
              exact ⟨retb (by rw [HB.out]), rfl⟩
        · have HG := Lib.hid (Hgood.out (mayc_good (Or.inl (by omega)) (by omega) (by omega) (by omega)))
          have j1 : ((m : Int) == 12290) = false := by rw [beq_eq_false_iff_ne]; omega
          have j2 : ((m : Int) == 65294) = false := by rw [beq_eq_false_iff_ne]; omega
          have j3 : ((m : Int) == 65377) = false := by rw [beq_eq_false_iff_ne]; omega
          clear h3
          go_wp2
          go_round
          case rel => exact ⟨k + 1, by omega, by go_num, HG.out⟩
          case measure => simp [intOf]; omega
    · have i1 : ¬ (k : Int) < (A.length : Int) := by omega
      have HF := Lib.hid (may_fin hpos (by have := Hm.out; rwa [List.take_of_length_le (by omega)] at this))
      have q1 : w.cell? ⟨b1, o1, none⟩ = some (.int .i32 A[0]) := by have := sl_cell HcA.out hpos; simpa using this
      have q2 : w.cell? ⟨b1, o1 + (A.length - 1), none⟩ = some (.int .i32 A[A.length - 1]) := sl_cell HcA.out (by omega)
      have e1 : ((A.length : Int) - 1).toNat = A.length - 1 := by omega
      have j3 : (A.length : Int) - 1 < (A.length : Int) := by omega
      have j4 : (0 : Int) ≤ (A.length : Int) - 1 := by omega
      have j5 : (0 : Int) < (A.length : Int) := by omega
      have j6 : (1 : Int) ≤ (A.length : Int) := by omega
      generalize A[0] = x at *
      generalize A[A.length - 1] = y at *
      by_cases hx : x = 45
      · have k1 : (x != 45) = false := by simp [hx]
        go_wp2
        go_ret
        exact ⟨retb (by rw [HF.out]; simp [hx]), rfl⟩
      · have k1 : (x != 45) = true := by simp [hx]
        by_cases hy : y = 45
        · have k2 : (y != 45) = false := by simp [hy]
          go_wp2
          go_ret
          exact ⟨retb (by rw [HF.out]; simp [hy]), rfl⟩
        · have k2 : (y != 45) = true := by simp [hy]
          go_wp2
          go_ret
          exact ⟨retb (by rw [HF.out]; simp [hx, hy]), rfl⟩
end Go.Proofs.Ytnelaegjcpkmdaa
