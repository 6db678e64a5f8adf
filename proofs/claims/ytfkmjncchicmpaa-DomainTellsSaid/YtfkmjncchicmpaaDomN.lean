/- The contracts of the reference's Plain and Text, of domain.Lower; the walk of DomainTells. -/
import Derived.Test.YtfkmjncchicmpaaDig
import Derived.Test.YtfkmjncchicmpaaDomI
import Derived.Test.YtfkmjncchicmpaaDomM
import Derived.Test.YtfkmjncchicmpaaAscF
namespace Go.Proofs.Ytfkmjncchicmpaa
open Go.RowKit
theorem ba_app (a b : List UInt8) : ByteArray.mk a.toArray ++ ByteArray.mk b.toArray = ⟨(a ++ b).toArray⟩ := by
  apply ByteArray.ext
  simp [ByteArray.data_append]
attribute [local go_sem] ba_get ext_any ba_app

theorem u8div (c : UInt8) : UInt8.ofNat (c.toNat / 100) = c / 100 := by
  apply UInt8.toNat.inj
  have := c.toNat_lt
  simp
  omega
theorem one_cut {l : List UInt8} {j : Nat} (h : j < l.length) : (l.take (j + 1)).drop j = [l[j]] := by
  rw [List.take_succ_eq_append_getElem h, List.drop_append_of_le_length (by simp; omega)]
  simp
theorem dtxs_last {A : List (List UInt8)} {k : Nat} (hk : k ≤ A.length) (h0 : 0 < k) : (dtxs A k).dropLast ++ [46] = dtxs A k := by
  obtain ⟨j, rfl⟩ : ∃ j, k = j + 1 := ⟨k - 1, by omega⟩
  rw [dtxs_succ (by omega), ← List.append_assoc, List.dropLast_concat]
theorem dtxs_next {A : List (List UInt8)} {k : Nat} (hk : k < A.length) : (dtxs A (k + 1)).dropLast = dtxs A k ++ escl A[k] := by
  rw [dtxs_succ hk, ← List.append_assoc, List.dropLast_concat]

set_option maxRecDepth 100000 in
set_option maxHeartbeats 1000000 in
theorem rplain5_any (A : List (List UInt8)) (v : Value) (w : World) (ha : Sl w 1 v A.length (A.map stv)) (hn : A.length ≤ 100000000) (hs : sz A ≤ 100000000) (hll : ∀ l ∈ A, l.length ≤ 100000000) :
    Calls Try.prog 59 #[v] w fun e w' => e = .returned (.string ⟨(dpln A).toArray⟩) ∧ w = w' := by
  rcases Nat.eq_zero_or_pos A.length with h0 | hpos
  · have hA : A = [] := List.eq_nil_of_length_eq_zero h0
    subst hA
    obtain ⟨a1, c1, rfl, _⟩ := ha.zero
    clear ha hll
    go_enter Try.func59, Try.ntmps59
    go_wp2
    refine wp_loop_rounds 1 ?_
    rw [rounds_succ]; go_wp2
    go_ret
    exact ⟨rfl, rfl⟩
  · obtain ⟨b1, o1, c1, rfl, hc1, hb1, hcA⟩ := ha.pos hpos
    have HcA := Lib.hid hcA
    have Hll := Lib.hid hll
    clear hcA ha hll
    have hA0 : A ≠ [] := by intro h; rw [h] at hpos; simp at hpos
    have hne : ((A.length : Int) == 0) = false := by rw [beq_eq_false_iff_ne]; omega
    have Hfin := Lib.hid (show (dtxs A A.length).dropLast = dpln A by unfold dpln; rw [if_neg hA0, dtxs_all hA0])
    clear hA0
    go_enter Try.func59, Try.ntmps59
    go_wp2
    go_loop [3, 4, 5, 6] (fun s i _ _ => ∃ k : Nat, ∃ T : List UInt8, k ≤ A.length ∧ i = .int .i64 k ∧ s = .string ⟨T.toArray⟩ ∧ T = (dtxs A k).dropLast) (fun _ i _ _ => A.length - (intOf i).toNat)
    case atStart => exact ⟨0, [], Nat.zero_le _, rfl, rfl, rfl⟩
    case round =>
      obtain ⟨k, T, hk, rfl, rfl, hT⟩ := hrel
      by_cases hlt : k < A.length
      · have i1 : (k : Int) < (A.length : Int) := by omega
        have q1 : w.cell? ⟨b1, o1 + k, none⟩ = some (.string ⟨A[k].toArray⟩) := sl_at HcA.out hlt
        have hlk := Hll.out A[k] (List.getElem_mem _)
        have hdl := dtxs_len k hk
        have hszk := sz_take A k
        have hTl : T.length ≤ (dtxs A k).length := by rw [hT, List.length_dropLast]; omega
        have Hnx := Lib.hid (dtxs_next hlt)
        rcases Nat.eq_zero_or_pos k with h0 | h0
        · have i2 : ¬ (0 : Int) < (k : Int) := by omega
          have HT := Lib.hid (show T = dtxs A k by rw [hT, h0]; rfl)
          clear hT h0
          go_wp2
          go_loop [3, 5, 6] (fun s i _ => ∃ j : Nat, ∃ S : List UInt8, j ≤ A[k].length ∧ i = .int .i64 j ∧ s = .string ⟨S.toArray⟩ ∧ S = dtxs A k ++ escp A[k] j) (fun _ i _ => A[k].length - (intOf i).toNat)
          case atStart => exact ⟨0, _, Nat.zero_le _, rfl, rfl, by rw [HT.out]; simp [escp]⟩
          case round =>
            obtain ⟨j, S, hj, rfl, rfl, hS⟩ := hrel
            have hSl : S.length ≤ (dtxs A k).length + 4 * j := by rw [hS, List.length_append]; have := @escp_len A[k] j; omega
            by_cases hjl : j < A[k].length
            · have j1 : (j : Int) < (A[k].length : Int) := by omega
              have hb := A[k][j].toNat_lt
              have HS := Lib.hid hS
              have Hcut := Lib.hid (one_cut hjl)
              have HN := Lib.hid (show S ++ escb A[k][j] = dtxs A k ++ escp A[k] (j + 1) by rw [hS, escp_succ hjl, List.append_assoc])
              clear hS
              by_cases h1 : A[k][j].toNat = 46 ∨ A[k][j].toNat = 92
              · have He : Hid (escb A[k][j] = [92, A[k][j]]) := Lib.hid (by unfold escb; rw [if_pos h1])
                by_cases h46 : A[k][j].toNat = 46
                · have i3 : (((A[k][j].toNat : Nat) : Int) == 46) = true := by simp; omega
                  clear h1 h46
                  go_wp2
                  go_round
                  case rel => exact ⟨j + 1, _, by omega, by go_num, rfl, by rw [Hcut.out, ← He.out]; exact HN.out⟩
                  case measure => simp [intOf]; omega
                · have i3 : (((A[k][j].toNat : Nat) : Int) == 46) = false := by simp; omega
                  have i4 : (((A[k][j].toNat : Nat) : Int) == 92) = true := by simp; omega
                  clear h1 h46
                  go_wp2
                  go_round
                  case rel => exact ⟨j + 1, _, by omega, by go_num, rfl, by rw [Hcut.out, ← He.out]; exact HN.out⟩
                  case measure => simp [intOf]; omega
              · have i3 : (((A[k][j].toNat : Nat) : Int) == 46) = false := by simp; omega
                have i4 : (((A[k][j].toNat : Nat) : Int) == 92) = false := by simp; omega
                by_cases h2 : A[k][j].toNat < 33 ∨ 126 < A[k][j].toNat
                · have He : Hid (escb A[k][j] = [92, UInt8.ofNat (48 + A[k][j].toNat / 100), UInt8.ofNat (48 + A[k][j].toNat / 10 % 10), UInt8.ofNat (48 + A[k][j].toNat % 10)]) := Lib.hid (by unfold escb; rw [if_neg h1, if_pos h2])
                  have i6 : ¬ ((33 : Int) ≤ ((A[k][j].toNat : Nat) : Int) ∧ ((A[k][j].toNat : Nat) : Int) ≤ 126) := by omega
                  clear h1
                  by_cases h33 : A[k][j].toNat < 33
                  · have i5 : ¬ (33 : Int) ≤ ((A[k][j].toNat : Nat) : Int) := by omega
                    clear h2 h33 i6
                    go_wp2_with fail
                    refine (rdigit_one _ _ (by omega) (by omega)).mono ?_
                    rintro e w' ⟨rfl, rfl⟩
                    go_wp2_with fail
                    refine (rdigit_one _ _ (by omega) (by omega)).mono ?_
                    rintro e w' ⟨rfl, rfl⟩
                    go_wp2_with fail
                    refine (rdigit_one _ _ (by omega) (by omega)).mono ?_
                    rintro e w' ⟨rfl, rfl⟩
                    go_wp2_with fail
                    go_round
                    case rel => exact ⟨j + 1, _, by omega, by go_num, rfl, by rw [← HN.out, He.out]; simp [u8div]⟩
                    case measure => simp [intOf]; omega
                  · have i5 : (33 : Int) ≤ ((A[k][j].toNat : Nat) : Int) := by omega
                    have i7 : ¬ ((A[k][j].toNat : Nat) : Int) ≤ 126 := by omega
                    clear h2 h33 i6
                    go_wp2_with fail
                    refine (rdigit_one _ _ (by omega) (by omega)).mono ?_
                    rintro e w' ⟨rfl, rfl⟩
                    go_wp2_with fail
                    refine (rdigit_one _ _ (by omega) (by omega)).mono ?_
                    rintro e w' ⟨rfl, rfl⟩
                    go_wp2_with fail
                    refine (rdigit_one _ _ (by omega) (by omega)).mono ?_
                    rintro e w' ⟨rfl, rfl⟩
                    go_wp2_with fail
                    go_round
                    case rel => exact ⟨j + 1, _, by omega, by go_num, rfl, by rw [← HN.out, He.out]; simp [u8div]⟩
                    case measure => simp [intOf]; omega
                · have He : Hid (escb A[k][j] = [A[k][j]]) := Lib.hid (by unfold escb; rw [if_neg h1, if_neg h2])
                  have i5 : (33 : Int) ≤ ((A[k][j].toNat : Nat) : Int) := by omega
                  have i7 : ((A[k][j].toNat : Nat) : Int) ≤ 126 := by omega
                  clear h1 h2
                  go_wp2
                  go_round
                  case rel => exact ⟨j + 1, _, by omega, by go_num, rfl, by rw [Hcut.out, ← He.out]; exact HN.out⟩
                  case measure => simp [intOf]; omega
            · have j1 : ¬ (j : Int) < (A[k].length : Int) := by omega
              obtain rfl : j = A[k].length := by omega
              have HS := Lib.hid (show S = (dtxs A (k + 1)).dropLast by rw [hS, Hnx.out, escp_all])
              clear hS
              go_wp2
              go_round
              case rel => exact ⟨k + 1, _, by omega, by go_num, rfl, HS.out⟩
              case measure => simp [intOf]; omega
        · have i2 : (0 : Int) < (k : Int) := by omega
          have HT := Lib.hid (show T ++ [46] = dtxs A k by rw [hT]; exact dtxs_last hk h0)
          clear hT h0
          go_wp2
          go_loop [3, 5, 6] (fun s i _ => ∃ j : Nat, ∃ S : List UInt8, j ≤ A[k].length ∧ i = .int .i64 j ∧ s = .string ⟨S.toArray⟩ ∧ S = dtxs A k ++ escp A[k] j) (fun _ i _ => A[k].length - (intOf i).toNat)
          case atStart => exact ⟨0, _, Nat.zero_le _, rfl, rfl, by rw [HT.out]; simp [escp]⟩
          case round =>
            obtain ⟨j, S, hj, rfl, rfl, hS⟩ := hrel
            have hSl : S.length ≤ (dtxs A k).length + 4 * j := by rw [hS, List.length_append]; have := @escp_len A[k] j; omega
            by_cases hjl : j < A[k].length
            · have j1 : (j : Int) < (A[k].length : Int) := by omega
              have hb := A[k][j].toNat_lt
              have HS := Lib.hid hS
              have Hcut := Lib.hid (one_cut hjl)
              have HN := Lib.hid (show S ++ escb A[k][j] = dtxs A k ++ escp A[k] (j + 1) by rw [hS, escp_succ hjl, List.append_assoc])
              clear hS
              by_cases h1 : A[k][j].toNat = 46 ∨ A[k][j].toNat = 92
              · have He : Hid (escb A[k][j] = [92, A[k][j]]) := Lib.hid (by unfold escb; rw [if_pos h1])
                by_cases h46 : A[k][j].toNat = 46
                · have i3 : (((A[k][j].toNat : Nat) : Int) == 46) = true := by simp; omega
                  clear h1 h46
                  go_wp2
                  go_round
                  case rel => exact ⟨j + 1, _, by omega, by go_num, rfl, by rw [Hcut.out, ← He.out]; exact HN.out⟩
                  case measure => simp [intOf]; omega
                · have i3 : (((A[k][j].toNat : Nat) : Int) == 46) = false := by simp; omega
                  have i4 : (((A[k][j].toNat : Nat) : Int) == 92) = true := by simp; omega
                  clear h1 h46
                  go_wp2
                  go_round
                  case rel => exact ⟨j + 1, _, by omega, by go_num, rfl, by rw [Hcut.out, ← He.out]; exact HN.out⟩
                  case measure => simp [intOf]; omega
              · have i3 : (((A[k][j].toNat : Nat) : Int) == 46) = false := by simp; omega
                have i4 : (((A[k][j].toNat : Nat) : Int) == 92) = false := by simp; omega
                by_cases h2 : A[k][j].toNat < 33 ∨ 126 < A[k][j].toNat
                · have He : Hid (escb A[k][j] = [92, UInt8.ofNat (48 + A[k][j].toNat / 100), UInt8.ofNat (48 + A[k][j].toNat / 10 % 10), UInt8.ofNat (48 + A[k][j].toNat % 10)]) := Lib.hid (by unfold escb; rw [if_neg h1, if_pos h2])
                  have i6 : ¬ ((33 : Int) ≤ ((A[k][j].toNat : Nat) : Int) ∧ ((A[k][j].toNat : Nat) : Int) ≤ 126) := by omega
                  clear h1
                  by_cases h33 : A[k][j].toNat < 33
                  · have i5 : ¬ (33 : Int) ≤ ((A[k][j].toNat : Nat) : Int) := by omega
                    clear h2 h33 i6
                    go_wp2_with fail
                    refine (rdigit_one _ _ (by omega) (by omega)).mono ?_
                    rintro e w' ⟨rfl, rfl⟩
                    go_wp2_with fail
                    refine (rdigit_one _ _ (by omega) (by omega)).mono ?_
                    rintro e w' ⟨rfl, rfl⟩
                    go_wp2_with fail
                    refine (rdigit_one _ _ (by omega) (by omega)).mono ?_
                    rintro e w' ⟨rfl, rfl⟩
                    go_wp2_with fail
                    go_round
                    case rel => exact ⟨j + 1, _, by omega, by go_num, rfl, by rw [← HN.out, He.out]; simp [u8div]⟩
                    case measure => simp [intOf]; omega
                  · have i5 : (33 : Int) ≤ ((A[k][j].toNat : Nat) : Int) := by omega
                    have i7 : ¬ ((A[k][j].toNat : Nat) : Int) ≤ 126 := by omega
                    clear h2 h33 i6
                    go_wp2_with fail
                    refine (rdigit_one _ _ (by omega) (by omega)).mono ?_
                    rintro e w' ⟨rfl, rfl⟩
                    go_wp2_with fail
                    refine (rdigit_one _ _ (by omega) (by omega)).mono ?_
                    rintro e w' ⟨rfl, rfl⟩
                    go_wp2_with fail
                    refine (rdigit_one _ _ (by omega) (by omega)).mono ?_
                    rintro e w' ⟨rfl, rfl⟩
                    go_wp2_with fail
                    go_round
                    case rel => exact ⟨j + 1, _, by omega, by go_num, rfl, by rw [← HN.out, He.out]; simp [u8div]⟩
                    case measure => simp [intOf]; omega
                · have He : Hid (escb A[k][j] = [A[k][j]]) := Lib.hid (by unfold escb; rw [if_neg h1, if_neg h2])
                  have i5 : (33 : Int) ≤ ((A[k][j].toNat : Nat) : Int) := by omega
                  have i7 : ((A[k][j].toNat : Nat) : Int) ≤ 126 := by omega
                  clear h1 h2
                  go_wp2
                  go_round
                  case rel => exact ⟨j + 1, _, by omega, by go_num, rfl, by rw [Hcut.out, ← He.out]; exact HN.out⟩
                  case measure => simp [intOf]; omega
            · have j1 : ¬ (j : Int) < (A[k].length : Int) := by omega
              obtain rfl : j = A[k].length := by omega
              have HS := Lib.hid (show S = (dtxs A (k + 1)).dropLast by rw [hS, Hnx.out, escp_all])
              clear hS
              go_wp2
              go_round
              case rel => exact ⟨k + 1, _, by omega, by go_num, rfl, HS.out⟩
              case measure => simp [intOf]; omega
      · have i1 : ¬ (k : Int) < (A.length : Int) := by omega
        obtain rfl : k = A.length := by omega
        rw [Hfin.out] at hT
        have HT := Lib.hid hT
        clear hT
        go_wp2
        go_ret
        exact ⟨congrArg Ending.returned (vstr HT.out), rfl⟩

set_option maxRecDepth 100000 in
set_option maxHeartbeats 400000 in
theorem rtext5_any (A : List (List UInt8)) (v : Value) (w : World) (ha : Sl w 1 v A.length (A.map stv)) (hn : A.length ≤ 100000000) (hs : sz A ≤ 100000000) (hll : ∀ l ∈ A, l.length ≤ 100000000) :
    Calls Try.prog 58 #[v] w fun e w' => e = .returned (.string ⟨(dtxt A).toArray⟩) ∧ w = w' := by
  have hp := @dtxt_pos A
  have hl := @dtxt_len A
  have Ha := Lib.hid ha
  obtain ⟨a1, c1, hv, _⟩ := ha.any
  subst hv
  by_cases h0 : A = []
  · subst h0
    clear ha hll
    go_enter Try.func58, Try.ntmps58
    go_wp2
    go_ret
    exact ⟨rfl, rfl⟩
  · have hfin : dpln A ++ [46] = dtxt A := by
      have := @dtxs_last A A.length (Nat.le_refl _) (List.length_pos_iff.2 h0)
      rw [dtxs_all h0] at this
      unfold dpln; rw [if_neg h0, this]
    have Hfin := Lib.hid hfin
    have hz : ((A.length : Int) == 0) = false := by rw [beq_eq_false_iff_ne]; have := List.length_pos_iff.2 h0; omega
    have hdl : (dpln A).length ≤ (dtxt A).length := by rw [← hfin, List.length_append]; omega
    clear ha hfin h0
    go_enter Try.func58, Try.ntmps58
    go_wp2_with fail
    refine (rplain5_any _ _ _ Ha.out hn hs hll).mono ?_
    rintro e w1 ⟨rfl, rfl⟩
    generalize dpln A = T at *
    go_wp2
    go_ret
    exact ⟨congrArg Ending.returned (vstr Hfin.out), rfl⟩

set_option maxRecDepth 100000 in
set_option maxHeartbeats 800000 in
theorem dlower_any (A : List (List UInt8)) (v : Value) (w : World) (ha : Sl w 1 v A.length (A.map stv)) (hn : A.length ≤ 1000000000) (hll : ∀ l ∈ A, l.length ≤ 1000000000) :
    Calls Try.prog 62 #[v] w (TextsPost w (lows A)) := by
  rcases Nat.eq_zero_or_pos A.length with h0 | hpos
  · have hA : A = [] := List.eq_nil_of_length_eq_zero h0
    subst hA
    obtain ⟨a1, c1, rfl, _⟩ := ha.zero
    clear ha hll
    go_enter Try.func62, Try.ntmps62
    go_wp2_with (at_make; refine wpList_mk0 rfl _ _ _ rfl elt_name (base := w.heap.size) 0 rfl rfl (by omega) (by omega) (by omega) (Nat.le_refl _) ?_; intro w0 ho0 hbw0)
    refine wp_loop_rounds 1 ?_
    rw [rounds_succ]; go_wp2
    go_ret
    exact ⟨_, rfl, Sl.own ho0, hbw0⟩
  · obtain ⟨b1, o1, c1, rfl, hc1, hb1, hcA⟩ := ha.pos hpos
    have HcA := Lib.hid hcA
    have Hll := Lib.hid hll
    clear hcA ha hll
    go_enter Try.func62, Try.ntmps62
    go_wp2_with (at_make; refine wpList_mk0 rfl _ _ _ rfl elt_name (base := w.heap.size) A.length rfl rfl (by omega) (by omega) (by omega) (Nat.le_refl _) ?_; intro w0 ho0 hbw0)
    go_loopw [3, 11] (fun v i wr => ∃ k : Nat, k ≤ A.length ∧ i = .int .i64 k ∧ RdRel w A k v wr) (fun _ i _ => A.length - (intOf i).toNat)
    case atStart => exact ⟨0, Nat.zero_le _, rfl, ho0, hbw0⟩
    case round =>
      obtain ⟨k, hk, rfl, h3, h4⟩ := hrel
      have hsz := h4.size
      by_cases hlt : k < A.length
      · have i1 : (k : Int) < (A.length : Int) := by omega
        have q1 : wr.cell? ⟨b1, o1 + k, none⟩ = some (.string ⟨A[k].toArray⟩) := (bel_cells h4 hb1 (o1 + k)).trans (sl_at HcA.out hlt)
        have hlk := Hll.out A[k] (List.getElem_mem _)
        clear ho0 hbw0
        go_wp2_with fail
        refine (lower_any _ _ hlk).mono ?_
        rintro e w1 ⟨rfl, hb0⟩
        have h3' := own_below h3 hb0
        have h4' := h4.trans (hb0.mono hsz)
        have hsz' := h4'.size
        clear h3
        go_wp2_with (at_builtin; refine wpList_appLit rfl _ _ _ rfl elt_name (n := k) rfl h3' [stv (low A[k])] (m := 1) rfl rfl (by simp [Value.oneCell', stv]) hsz' (by omega) (by omega) ?_; intro v1 w2 ho1 hbw1 hg1)
        have R := RdRel.next hlt ho1 h4' hbw1
        clear ho1 hbw1 hg1
        go_roundw
        case rel => exact ⟨k + 1, by omega, by go_num, R⟩
        case measure => simp [intOf]; omega
      · have i1 : ¬ (k : Int) < (A.length : Int) := by omega
        obtain rfl : k = A.length := by omega
        go_wp2
        go_ret
        refine ⟨_, rfl, ?_, h4⟩
        have := Sl.own h3
        rw [List.take_length] at this
        rw [lows_len]
        exact this

set_option maxRecDepth 100000 in
set_option maxHeartbeats 1000000 in
theorem domainTells_walk (w : World) (A : List (List UInt8)) (v : Value) (ha : Sl w 1 v A.length (A.map stv)) (hl : A.length ≤ maxLen) (hll : ∀ l ∈ A, l.length ≤ 140737488351232) :
    Calls Try.prog 13 #[v] w (Good w) := by
  obtain ⟨a0, c0, hv, _⟩ := ha.any
  subst hv
  have Ha := Lib.hid ha
  have Hll := Lib.hid hll
  clear ha hll
  rcases hf : fewB A
  · have Hf := Lib.hid hf
    clear hf
    go_enter Try.func13, Try.ntmps13
    go_wp2_with fail
    refine (few_any _ _ _ Ha.out hl Hll.out).mono ?_
    rintro e w' ⟨rfl, rfl⟩
    rw [Hf.out]
    go_wp2_with fail
    refine (works05_any _).mono ?_
    rintro e w1 ⟨rfl, hb1⟩
    go_wp2_with fail
    go_ret
    exact ⟨rfl, hb1⟩
  · obtain ⟨g1, g2, g3⟩ := few_bds hf
    have G1 : Hid (∀ l ∈ A, l.length ≤ 100000000) := Lib.hid (fun l hl => by have := g3 l hl; omega)
    have G2 : Hid (∀ l ∈ A, l.length ≤ 1000000000) := Lib.hid (fun l hl => by have := g3 l hl; omega)
    have Hf := Lib.hid hf
    clear hf g3
    go_enter Try.func13, Try.ntmps13
    go_wp2_with fail
    refine (few_any _ _ _ Ha.out hl Hll.out).mono ?_
    rintro e w' ⟨rfl, rfl⟩
    rw [Hf.out]
    go_wp2_with fail
    refine (works05_any _).mono ?_
    rintro e w1 ⟨rfl, hb1⟩
    go_wp2_with fail
    refine (check_any _ _ _ (Ha.out.below hb1) (by omega) Hll.out).mono ?_
    rintro e w' ⟨rfl, rfl⟩
    go_wp2_with fail
    refine (rcheck_any _ _ _ (Ha.out.below hb1) (by omega) Hll.out).mono ?_
    rintro e w' ⟨rfl, rfl⟩
    generalize chk A = C at *
    go_wp2_with fail
    refine (size_any _ _ _ (Ha.out.below hb1) (by omega) (by omega)).mono ?_
    rintro e w' ⟨rfl, rfl⟩
    go_wp2_with fail
    refine (rsize_any _ _ _ (Ha.out.below hb1) (by omega) (by omega)).mono ?_
    rintro e w' ⟨rfl, rfl⟩
    go_wp2_with fail
    refine (dtext_any _ _ _ (Ha.out.below hb1) (by omega) (by omega) G1.out).mono ?_
    rintro e w2 ⟨rfl, hb2⟩
    have hb02 := bel_tr hb1 hb2
    go_wp2_with fail
    refine (rtext5_any _ _ _ (Ha.out.below hb02) (by omega) (by omega) G1.out).mono ?_
    rintro e w' ⟨rfl, rfl⟩
    generalize dtxt A = T1 at *
    go_wp2_with fail
    refine (dplain_any _ _ _ (Ha.out.below hb02) (by omega) (by omega) G1.out).mono ?_
    rintro e w3 ⟨rfl, hb3⟩
    have hb03 := bel_tr hb02 hb3
    go_wp2_with fail
    refine (rplain5_any _ _ _ (Ha.out.below hb03) (by omega) (by omega) G1.out).mono ?_
    rintro e w' ⟨rfl, rfl⟩
    generalize dpln A = T2 at *
    go_wp2_with fail
    refine (dhost_any _ _ _ (Ha.out.below hb03) (by omega) Hll.out).mono ?_
    rintro e w' ⟨rfl, rfl⟩
    go_wp2_with fail
    refine (rdhost_any _ _ _ (Ha.out.below hb03) (by omega) (by omega) Hll.out).mono ?_
    rintro e w' ⟨rfl, rfl⟩
    generalize hostsB A = T3 at *
    go_wp2_with fail
    refine (dlower_any _ _ _ (Ha.out.below hb03) (by omega) G2.out).mono ?_
    rintro e w4 ⟨v4, rfl, hs4, hb4⟩
    have hb04 := bel_tr hb03 hb4
    go_wp2_with fail
    refine (rdlower_any _ _ _ (Ha.out.below hb04) (by omega) G2.out).mono ?_
    rintro e w5 ⟨v5, rfl, hs5, hb5⟩
    have hb05 := bel_tr hb04 hb5
    go_wp2_with fail
    refine (exact_any _ _ _ _ _ (hs4.below hb5) hs5 (by rw [lows_len]; omega)).mono ?_
    rintro e w6 ⟨rfl, hb6⟩
    go_wp2
    go_ret
    exact ⟨by simp, bel_tr hb05 hb6⟩
end Go.Proofs.Ytfkmjncchicmpaa
