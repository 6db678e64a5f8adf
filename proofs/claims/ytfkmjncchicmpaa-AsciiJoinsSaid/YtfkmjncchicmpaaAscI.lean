/- The walk of AsciiJoins. -/
import Derived.Test.YtfkmjncchicmpaaAscH
import Derived.OpenShut
namespace Go.Proofs.Ytfkmjncchicmpaa
open Go.RowKit
attribute [local go_sem] ba_get

theorem joi_last {A : List (List UInt8)} (b : List UInt8) {k : Nat} (h : k + 1 = A.length) : joi b (A.drop k) = A[k]'(by omega) := by
  rw [List.drop_eq_getElem_cons (by omega), List.drop_eq_nil_of_le (by omega)]
  exact Lib.join_one _ _
theorem joi_more {A : List (List UInt8)} (c : UInt8) {k : Nat} (h : k + 1 < A.length) : joi [c] (A.drop k) = A[k]'(by omega) ++ c :: joi [c] (A.drop (k + 1)) := by
  rw [List.drop_eq_getElem_cons (show k < A.length by omega), List.drop_eq_getElem_cons h]
  generalize A.drop (k + 1 + 1) = D
  unfold joi
  rw [Lib.join_cons, Lib.join_cons]
  simp [Lib.joinTail]
theorem idx_app {c : UInt8} {x r : List UInt8} (h : idx c x = none) : idx c (x ++ c :: r) = some x.length := by
  refine idx_some_of (by simp) (by simp) fun j hj hjk => ?_
  rw [List.getElem_append_left hjk]
  exact idx_none h j hjk
theorem cutV_last {c : UInt8} {x : List UInt8} (h : idx c x = none) : cutV c x = .tuple #[.string ⟨x.toArray⟩, .string ⟨([] : List UInt8).toArray⟩, .bool false] := by unfold cutV; rw [h]
theorem cutV_more {c : UInt8} {x r : List UInt8} (h : idx c x = none) : cutV c (x ++ c :: r) = .tuple #[.string ⟨x.toArray⟩, .string ⟨r.toArray⟩, .bool true] := by unfold cutV; rw [idx_app h]; simp

set_option maxRecDepth 100000 in
set_option maxHeartbeats 2000000 in
theorem asciiJoins_walk (w : World) (A : List (List UInt8)) (va : Value) (ha : Sl w 1 va A.length (A.map stv)) (hlA : A.length ≤ maxLen) (hll : ∀ l ∈ A, l.length ≤ 140737488351232) (z : Int) (hz : (Lit.int .u8 z).wf = true) (s : List UInt8) (hs : s.length ≤ 140737488351232) :
    Calls Try.prog 10 #[va, .int .u8 z, .string ⟨s.toArray⟩] w (Good w) := by
  unfold maxLen at hlA
  obtain ⟨hz0, hz1⟩ := Go.bounds_u8 hz
  obtain ⟨c, rfl⟩ : ∃ c : UInt8, z = (c.toNat : Int) := ⟨UInt8.ofNat z.toNat, by rw [UInt8.toNat_ofNat_of_lt' (show _ < 256 by omega)]; omega⟩
  clear hz hz0 hz1
  rcases Nat.eq_zero_or_pos A.length with h0 | hpos
  · have hA : A = [] := List.eq_nil_of_length_eq_zero h0
    subst hA
    clear hll hlA h0
    have Ha := Lib.hid ha
    obtain ⟨a1, c1, rfl, _⟩ := ha.zero
    clear ha
    go_enter Try.func10, Try.ntmps10
    go_wp2
    refine wp_loop_rounds 1 ?_
    rw [rounds_succ]; go_wp2_with fail
    refine (works01_any _).mono ?_
    rintro e w1 ⟨rfl, hb1⟩
    go_wp2_with fail
    refine (join_any s [] _ _ (Ha.out.below hb1) (by simp) (by simp [joi_nil])).mono ?_
    rintro e w2 ⟨rfl, hb2⟩
    go_wp2_with fail
    refine (rjoin_any s [] _ _ (Ha.out.below (bel_tr hb1 hb2)) (by simp) (by simp [joi_nil])).mono ?_
    rintro e w' ⟨rfl, rfl⟩
    go_wp2
    refine wp_loop_rounds 1 ?_
    rw [rounds_succ]
    have hcv := str_run (l := [c]) (Sl.new w2 [byv c] 5)
    have hb3 : Below w.heap.size w (w2.alloc (.cells [byv c].toArray 5)) := bel_tr (bel_tr hb1 hb2) ((Below.refl _ _).alloc (Nat.le_refl _) _)
    simp only [byv, List.length_cons, List.length_nil] at hcv hb3
    go_wp2_with fail
    refine (join_any [c] [] _ _ (Ha.out.below hb3) (by simp) (by simp [joi_nil])).mono ?_
    rintro e w4 ⟨rfl, hb4⟩
    go_wp2
    refine wp_loop_rounds 1 ?_
    rw [rounds_succ]; go_wp2
    go_ret
    exact ⟨rfl, bel_tr hb3 hb4⟩
  · have Ha := Lib.hid ha
    obtain ⟨b1, o1, c1, rfl, hc1, hbs, hcA⟩ := ha.pos hpos
    have HcA := Lib.hid hcA
    have Hll := Lib.hid hll
    clear hcA ha hll
    go_enter Try.func10, Try.ntmps10
    go_wp2
    go_loop [7, 8] (fun n i => ∃ k m : Nat, k ≤ A.length ∧ i = .int .i64 k ∧ n = .int .i64 m ∧ m = s.length + Lib.lens (A.take k) ∧ (k = 0 ∨ (k ≤ 60 ∧ m ≤ 2000))) (fun _ i => A.length - (intOf i).toNat)
    case atStart => exact ⟨0, s.length, Nat.zero_le _, rfl, rfl, rfl, Or.inl rfl⟩
    case round =>
      obtain ⟨k, m, hk, rfl, rfl, hm, hkm⟩ := hrel
      have hm47 : m ≤ 140737488351232 := by
        rcases hkm with h | h
        · subst h; simp [Lib.lens] at hm; omega
        · omega
      have Hm := Lib.hid hm
      clear hm
      by_cases hlt : k < A.length
      · have i1 : (k : Int) < (A.length : Int) := by omega
        have q1 : w.cell? ⟨b1, o1 + k, none⟩ = some (.string ⟨A[k].toArray⟩) := sl_at HcA.out hlt
        have hlk := Hll.out A[k] (List.getElem_mem _)
        have hnx := Lib.lens_take_succ A k A[k] (List.getElem?_eq_getElem hlt)
        have Hnx := Lib.hid hnx
        clear hnx
        by_cases h60 : 60 ≤ k
        · have t1 : (60 : Int) ≤ (k : Int) := by omega
          clear hkm
          go_wp2_with fail
          refine (works01_any _).mono ?_
          rintro e w1 ⟨rfl, hb1⟩
          go_wp2
          go_ret
          exact ⟨rfl, hb1⟩
        · have t1 : ¬ (60 : Int) ≤ (k : Int) := by omega
          clear hkm
          by_cases h2 : m + A[k].length ≤ 2000
          · have t2 : ¬ (2000 : Int) < (m : Int) + (A[k].length : Int) := by omega
            go_wp2
            go_round
            case rel => exact ⟨k + 1, m + A[k].length, by omega, by go_num, vint (by omega), (by have h1 := Hnx.out; have h2 := Hm.out; omega), Or.inr ⟨by omega, by omega⟩⟩
            case measure => simp [intOf]; omega
          · have t2 : (2000 : Int) < (m : Int) + (A[k].length : Int) := by omega
            go_wp2_with fail
            refine (works01_any _).mono ?_
            rintro e w1 ⟨rfl, hb1⟩
            go_wp2
            go_ret
            exact ⟨rfl, hb1⟩
      · have i1 : ¬ (k : Int) < (A.length : Int) := by omega
        obtain rfl : k = A.length := by omega
        have hkm' : A.length ≤ 60 ∧ m ≤ 2000 := by omega
        obtain ⟨hA60, hm2⟩ := hkm'
        have hs2 : s.length ≤ 2000 := by have := Hm.out; omega
        have hj1 : (joi s A).length ≤ 1000000000 := by
          have := joi_len (A := A) s hs2 A.length (Nat.le_refl _)
          have h2 := Hm.out
          rw [joi_all] at this
          omega
        have hj2 : (joi [c] A).length ≤ 1000000000 := by
          have := joi_len (A := A) [c] (by simp) A.length (Nat.le_refl _)
          have h2 := Hm.out
          rw [joi_all] at this
          omega
        have Hj1 := Lib.hid hj1
        have Hj2 := Lib.hid hj2
        clear hj1 hj2 hkm hm47
        go_wp2_with fail
        refine (works01_any _).mono ?_
        rintro e w1 ⟨rfl, hb1⟩
        go_wp2_with fail
        refine (join_any s A _ _ (Ha.out.below hb1) (by omega) Hj1.out).mono ?_
        rintro e w2 ⟨rfl, hb2⟩
        have hb02 := bel_tr hb1 hb2
        go_wp2_with fail
        refine (rjoin_any s A _ _ (Ha.out.below hb02) (by omega) Hj1.out).mono ?_
        rintro e w' ⟨rfl, rfl⟩
        generalize joi s A = J at *
        go_wp2
        go_loop [9] (fun i => ∃ k : Nat, k ≤ A.length ∧ i = .int .i64 k ∧ ∀ (j : Nat) (hj : j < A.length), j < k → idx c A[j] = none) (fun i => A.length - (intOf i).toNat)
        case atStart => exact ⟨0, Nat.zero_le _, rfl, fun j _ h => absurd h (by omega)⟩
        case round =>
          obtain ⟨k, hk, rfl, hno⟩ := hrel
          have Hno := Lib.hid hno
          clear hno
          by_cases hlt : k < A.length
          · have i2 : (k : Int) < (A.length : Int) := by omega
            have q1 : w2.cell? ⟨b1, o1 + k, none⟩ = some (.string ⟨A[k].toArray⟩) := (bel_cells hb02 hbs (o1 + k)).trans (sl_at HcA.out hlt)
            have hlk := Hll.out A[k] (List.getElem_mem _)
            obtain ⟨X, hX⟩ : ∃ X, X = A[k] := ⟨_, rfl⟩
            rw [← hX] at q1 hlk
            have HX := Lib.hid hX
            clear hX
            go_wp2
            go_loop [10] (fun i => ∃ n : Nat, n ≤ X.length ∧ i = .int .i64 n ∧ ∀ (j : Nat) (hj : j < X.length), j < n → X[j] ≠ c) (fun i => X.length - (intOf i).toNat)
            case atStart => exact ⟨0, Nat.zero_le _, rfl, fun j _ h => absurd h (by omega)⟩
            case round =>
              obtain ⟨n, hn, rfl, hx⟩ := hrel
              have Hx := Lib.hid hx
              clear hx
              by_cases hln : n < X.length
              · have i3 : (n : Int) < (X.length : Int) := by omega
                by_cases he : X[n] = c
                · have i4 : (((X[n].toNat : Nat) : Int) == (c.toNat : Int)) = true := by simp [he]
                  clear he
                  go_wp2
                  go_ret
                  exact ⟨rfl, hb02⟩
                · have i4 : (((X[n].toNat : Nat) : Int) == (c.toNat : Int)) = false := by
                    rw [beq_eq_false_iff_ne]
                    intro h
                    exact he (UInt8.toNat.inj (by omega))
                  have He := Lib.hid he
                  clear he
                  go_wp2
                  go_round
                  case rel =>
                    refine ⟨n + 1, by omega, by go_num, fun j hj hjk => ?_⟩
                    by_cases hjk2 : j < n
                    · exact Hx.out j hj hjk2
                    · obtain rfl : j = n := by omega
                      exact He.out
                  case measure => simp [intOf]; omega
              · have i3 : ¬ (n : Int) < (X.length : Int) := by omega
                have hnone : idx c X = none := idx_none_of (fun j hj => Hx.out j hj (by omega))
                have Hnone := Lib.hid hnone
                clear hnone
                go_wp2
                go_round
                case rel =>
                  refine ⟨k + 1, by omega, by go_num, fun j hj hjk => ?_⟩
                  by_cases hjk2 : j < k
                  · exact Hno.out j hj hjk2
                  · obtain rfl : j = k := by omega
                    rw [← HX.out]
                    exact Hnone.out
                case measure => simp [intOf]; omega
          · have i2 : ¬ (k : Int) < (A.length : Int) := by omega
            obtain rfl : k = A.length := by omega
            have hcv := str_run (l := [c]) (Sl.new w2 [byv c] 5)
            have hb3 : Below w.heap.size w (w2.alloc (.cells [byv c].toArray 5)) := bel_tr hb02 ((Below.refl _ _).alloc (Nat.le_refl _) _)
            simp only [byv, List.length_cons, List.length_nil] at hcv hb3
            go_wp2_with fail
            refine (join_any [c] A _ _ (Ha.out.below hb3) (by omega) Hj2.out).mono ?_
            rintro e w4 ⟨rfl, hb4⟩
            have hb04 := bel_tr hb3 hb4
            clear hb3 hb4 hcv
            obtain ⟨R, hR⟩ : ∃ R, R = joi [c] A := ⟨_, rfl⟩
            have hRl := Hj2.out
            rw [← hR] at hRl ⊢
            have HR := Lib.hid hR
            clear hR
            go_wp2
            go_loopw [11, 12] (fun r i wr => ∃ (k : Nat) (R : List UInt8), k ≤ A.length ∧ i = .int .i64 k ∧ r = .string ⟨R.toArray⟩ ∧ R.length ≤ 1000000000 ∧ R = joi [c] (A.drop k) ∧ Below w.heap.size w wr) (fun _ i _ => A.length - (intOf i).toNat)
            case atStart => exact ⟨0, R, Nat.zero_le _, rfl, rfl, hRl, HR.out, hb04⟩
            case round =>
              obtain ⟨k, Y, hk, rfl, rfl, hYl, hY, hbY⟩ := hrel
              by_cases hlt : k < A.length
              · have i4 : (k : Int) < (A.length : Int) := by omega
                have hnk := Hno.out k hlt hlt
                by_cases hl1 : k + 1 < A.length
                · have hY2 := joi_more c hl1
                  rw [← hY] at hY2
                  obtain ⟨X, hX⟩ : ∃ X, X = A[k] := ⟨_, rfl⟩
                  obtain ⟨Z, hZ⟩ : ∃ Z, Z = joi [c] (A.drop (k + 1)) := ⟨_, rfl⟩
                  rw [← hX, ← hZ] at hY2
                  rw [← hX] at hnk
                  have hZl : Z.length ≤ 1000000000 := by rw [hY2] at hYl; simp at hYl; omega
                  have hcut := cutV_more (r := Z) hnk
                  rw [← hY2] at hcut
                  have Hcut := Lib.hid hcut
                  have HX := Lib.hid hX
                  have HZ := Lib.hid hZ
                  clear hX hZ hY2 hcut hnk hY
                  go_wp2_with fail
                  refine (cut_any _ _ _ (by omega)).mono ?_
                  rintro e w5 ⟨rfl, hb5⟩
                  rw [Hcut.out]
                  have hb05 := bel_tr hbY hb5
                  have q1 : w5.cell? ⟨b1, o1 + k, none⟩ = some (.string ⟨X.toArray⟩) := (bel_cells hb05 hbs (o1 + k)).trans (by rw [HX.out]; exact sl_at HcA.out hlt)
                  have i5 : (k : Int) < (A.length : Int) - 1 := by omega
                  go_wp2
                  go_roundw
                  case rel => exact ⟨k + 1, Z, by omega, by go_num, rfl, hZl, HZ.out, hb05⟩
                  case measure => simp [intOf]; omega
                · have hl2 : k + 1 = A.length := by omega
                  have hY2 := joi_last [c] hl2
                  rw [← hY] at hY2
                  rw [← hY2] at hnk
                  have hcut := cutV_last hnk
                  have Hcut := Lib.hid hcut
                  have HX := Lib.hid hY2
                  clear hY2 hcut hnk hY
                  go_wp2_with fail
                  refine (cut_any _ _ _ (by omega)).mono ?_
                  rintro e w5 ⟨rfl, hb5⟩
                  rw [Hcut.out]
                  have hb05 := bel_tr hbY hb5
                  have q1 : w5.cell? ⟨b1, o1 + k, none⟩ = some (.string ⟨Y.toArray⟩) := (bel_cells hb05 hbs (o1 + k)).trans (by rw [HX.out]; exact sl_at HcA.out hlt)
                  have i5 : ¬ (k : Int) < (A.length : Int) - 1 := by omega
                  go_wp2
                  go_roundw
                  case rel => exact ⟨k + 1, [], by omega, by go_num, rfl, by simp, by rw [hl2, List.drop_length]; rfl, hb05⟩
                  case measure => simp [intOf]; omega
              · have i4 : ¬ (k : Int) < (A.length : Int) := by omega
                obtain rfl : k = A.length := by omega
                rw [List.drop_length] at hY
                have hY0 : Y = [] := hY
                subst hY0
                clear hY
                go_wp2
                go_ret
                exact ⟨rfl, hbY⟩
end Go.Proofs.Ytfkmjncchicmpaa
