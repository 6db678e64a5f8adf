/- The walk of PunyCase. -/
import Derived.Test.YtnelaegjcpkmdaaPunN
import Derived.Test.YtnelaegjcpkmdaaBlk
namespace Go.Proofs.Ytnelaegjcpkmdaa
open Go.RowKit
attribute [local go_sem] ba_get ba_app

theorem head_dash {l : List Nat} {em : List UInt8} (h : ∀ c ∈ em, c ≠ 45) : Pu.dash (Pu.head l ++ em) = (Pu.head l).length := by
  unfold Pu.head
  by_cases h0 : Pu.bas1 l = []
  · rw [if_pos h0]
    simp [Pu.dash_none h]
  · rw [if_neg h0, List.append_assoc, List.cons_append, List.nil_append, Pu.dash_app _ _ h]
    simp
/-- the figures, the first i of them great. -/
def upTo (hd em : List UInt8) (i : Nat) : List UInt8 := hd ++ ((em.take i).map Pu.up ++ em.drop i)
theorem upTo_len (hd em : List UInt8) (i : Nat) : (upTo hd em i).length = (hd ++ em).length := by
  unfold upTo
  simp only [List.length_append, List.length_map, List.length_take, List.length_drop]
  omega
theorem upTo_zero (hd em : List UInt8) : upTo hd em 0 = hd ++ em := by simp [upTo]
theorem upTo_all (hd em : List UInt8) : upTo hd em em.length = hd ++ em.map Pu.up := by simp [upTo]
theorem upTo_at {hd em : List UInt8} {i : Nat} (h : i < em.length) (h2 : hd.length + i < (upTo hd em i).length) : (upTo hd em i)[hd.length + i] = em[i] := by
  have : (upTo hd em i)[hd.length + i]? = some em[i] := by
    unfold upTo
    rw [List.getElem?_append_right (by omega), List.getElem?_append_right (by simp; omega), List.getElem?_drop]
    rw [show i + (hd.length + i - hd.length - (List.map Pu.up (em.take i)).length) = i by simp; omega]
    exact List.getElem?_eq_getElem h
  exact (List.getElem?_eq_some_iff.1 this).2
theorem upTo_set {hd em : List UInt8} {i : Nat} (h : i < em.length) : (upTo hd em i).set (hd.length + i) (Pu.up em[i]) = upTo hd em (i + 1) := by
  unfold upTo
  rw [List.set_append_right _ _ (by omega), List.set_append_right _ _ (by simp; omega), List.take_succ_eq_append_getElem h, List.map_append, List.append_assoc]
  congr 2
  have e : hd.length + i - hd.length - (List.map Pu.up (em.take i)).length = 0 := by simp; omega
  rw [e, List.drop_eq_getElem_cons h, List.set_cons_zero]
  rfl
theorem upTo_skip {hd em : List UInt8} {i : Nat} (h : i < em.length) (hu : Pu.up em[i] = em[i]) : upTo hd em i = upTo hd em (i + 1) := by
  unfold upTo
  rw [List.take_succ_eq_append_getElem h, List.map_append, List.drop_eq_getElem_cons h, List.append_assoc]
  simp [hu]

set_option maxRecDepth 100000 in
set_option maxHeartbeats 2000000 in
theorem punyCase_walk (w : World) (l : List Int) (v : Value) (ha : Sl w 1 v l.length (l.map (Value.int .i32))) (hl : l.length ≤ maxLen) (hr : ∀ x ∈ l, -2147483648 ≤ x ∧ x ≤ 2147483647) :
    Calls Try.prog 9 #[v] w (Good w) := by
  obtain ⟨a0, c0, hv, _⟩ := ha.any
  subst hv
  have Ha := Lib.hid ha
  have Hr := Lib.hid hr
  have Hl := Lib.hid hl
  unfold maxLen at hl
  clear ha hr
  by_cases h150 : 150 < l.length
  · have i0 : (150 : Int) < (l.length : Int) := by omega
    go_enter Try.func9, Try.ntmps9
    go_wp2_with fail
    refine (works03_any _).mono ?_
    rintro e w0 ⟨rfl, hb0⟩
    go_wp2_with fail
    refine (works03_any _).mono ?_
    rintro e w1 ⟨rfl, hb1⟩
    go_wp2
    go_ret
    exact ⟨rfl, bel_tr hb0 hb1⟩
  · have i0 : ¬ (150 : Int) < (l.length : Int) := by omega
    by_cases hok : l.all okp = true
    · obtain ⟨em, q1, q2, q3, q4, q5⟩ := short_back (by omega) hok
      have Q6 := Lib.hid (q5 (em.map Pu.up) (Or.inr rfl))
      have Q7 := Lib.hid (head_dash (l := nats l) (fun c hc => (q3 c hc).2))
      have Hz := Lib.hid (nats_zs hok)
      have Hbd := Lib.hid (zs_bd (nats_back hok).2)
      have hzl : (zs (nats l)).length ≤ 150 := by rw [zs_len, nats_len]; omega
      have Q1 := Lib.hid q1
      clear q1 q2 q3 q5 hok
      generalize Pu.head (nats l) = hd at *
      obtain ⟨T, hT⟩ : ∃ T, T = hd ++ em := ⟨_, rfl⟩
      have hTl : T.length ≤ 2000 := by rw [hT]; exact q4
      have hTe : T.length ≤ hd.length + em.length := by rw [hT, List.length_append]; omega
      have hTe2 : hd.length + em.length ≤ T.length := by rw [hT, List.length_append]; omega
      rw [← hT] at Q1 Q7
      have HT := Lib.hid hT
      clear hT q4
      have hcv := fun W : World => run_bytes_of_string (P := Try.prog) W 9 62 5 ⟨T.toArray⟩ Try.underlying9 Try.underlying62 Try.underlying5
      have Hcv := Lib.hid hcv
      clear hcv
      go_enter Try.func9, Try.ntmps9
      go_wp2_with fail
      refine (works03_any _).mono ?_
      rintro e w0 ⟨rfl, hb0⟩
      go_wp2_with fail
      refine (encode_any _ _ _ (Ha.out.below hb0) Hl.out Hr.out).mono ?_
      rintro e w1 ⟨rfl, hb1⟩
      rw [Q1.out]
      unfold encT
      have hb01 := bel_tr hb0 hb1
      have hcv := Hcv.out
      go_wp2
      have hcap := grownCap_ge w1 T.length 0 5
      generalize grownCap w1 T.length 0 5 = cap at *
      have hst := ByB.start w1 T cap
      have hbw0 : Below w.heap.size w (w1.alloc (.cells (bytesRow ⟨T.toArray⟩ cap) 5 ((bytesRow ⟨T.toArray⟩ cap).size, (bytesRow ⟨T.toArray⟩ cap).size + 1))).drew := (hb01.alloc hb01.size _).drew
      have hg : w.heap.size ≤ w1.heap.size := hb01.size
      generalize (bytesRow ⟨T.toArray⟩ cap).size = c at *
      have hst' : ByB (w1.alloc (.cells (bytesRow ⟨T.toArray⟩ cap) 5 (c, c + 1))).drew w1.heap.size c T := hst
      generalize (w1.alloc (.cells (bytesRow ⟨T.toArray⟩ cap) 5 (c, c + 1))).drew = W0 at *
      clear hcv hst Hcv
      generalize w1.heap.size = g at *
      go_loop [6, 7] (fun d i => ∃ k x : Nat, k ≤ T.length ∧ i = .int .i64 (k : Int) ∧ d = .int .i64 (x : Int) ∧ x = Pu.dash (T.take k)) (fun _ i => T.length - (intOf i).toNat)
      case atStart => exact ⟨0, 0, Nat.zero_le _, rfl, rfl, rfl⟩
      case round =>
        obtain ⟨k, x, hk, rfl, rfl, hx⟩ := hrel
        by_cases hlt : k < T.length
        · have i1 : (k : Int) < (T.length : Int) := by omega
          have q1 : W0.cell? ⟨g, k, none⟩ = some (.int .u8 ((T[k].toNat : Nat) : Int)) := hst'.cell hlt
          have Hn := Lib.hid (show Pu.dash (T.take (k + 1)) = if T[k] = 45 then k + 1 else x by
            rw [List.take_succ_eq_append_getElem hlt, Pu.dash_snoc, hx, List.length_take, Nat.min_eq_left hk])
          clear hx
          by_cases hc : T[k] = 45
          · have i2 : (((T[k].toNat : Nat) : Int) == 45) = true := by rw [hc]; rfl
            go_wp2
            go_round
            case rel => exact ⟨k + 1, k + 1, by omega, by go_num, by go_num, by rw [Hn.out, if_pos hc]⟩
            case measure => simp [intOf]; omega
          · have i2 : (((T[k].toNat : Nat) : Int) == 45) = false := by
              rw [beq_eq_false_iff_ne]; intro h'; exact hc (UInt8.toNat.inj (by simp; omega))
            go_wp2
            go_round
            case rel => exact ⟨k + 1, x, by omega, by go_num, rfl, by rw [Hn.out, if_neg hc]⟩
            case measure => simp [intOf]; omega
        · have i1 : ¬ (k : Int) < (T.length : Int) := by omega
          obtain rfl : k = T.length := by omega
          obtain rfl : x = hd.length := by rw [hx, List.take_length]; exact Q7.out
          clear hx
          go_wp2
          go_loopw [8] (fun i W => ∃ k : Nat, k ≤ em.length ∧ i = .int .i64 ((hd.length + k : Nat) : Int) ∧ ByB W g c (upTo hd em k) ∧ Below w.heap.size w W) (fun i _ => T.length - (intOf i).toNat)
          case atStart => exact ⟨0, Nat.zero_le _, rfl, by rw [upTo_zero, ← HT.out]; exact hst', hbw0⟩
          case round =>
            obtain ⟨j, hj, rfl, hL, hbj⟩ := hrel
            have hul := upTo_len hd em j
            rw [← HT.out] at hul
            have Hul := Lib.hid hul
            by_cases hjl : j < em.length
            · have i4 : ((hd.length + j : Nat) : Int) < (T.length : Int) := by omega
              have q1 : wr.cell? ⟨g, hd.length + j, none⟩ = some (.int .u8 ((em[j].toNat : Nat) : Int)) := by
                have := hL.cell (j := hd.length + j) (by omega)
                rw [upTo_at hjl] at this
                exact this
              have q2 := hL.free (j := hd.length + j) (by omega)
              have hS := hL.store (k := hd.length + j) (by omega) (Pu.up em[j])
              rw [upTo_set hjl] at hS
              have Hskip : Hid (Pu.up em[j] = em[j] → ByB wr g c (upTo hd em (j + 1))) := Lib.hid (fun h => by rw [← upTo_skip hjl h]; exact hL)
              have hb := em[j].toNat_lt
              clear hul
              by_cases hu : 97 ≤ em[j].toNat ∧ em[j].toNat ≤ 122
              · have i5 : (97 : Int) ≤ ((em[j].toNat : Nat) : Int) := by omega
                have i6 : ((em[j].toNat : Nat) : Int) ≤ 122 := by omega
                have Hv := Lib.hid (show Value.int .u8 (((em[j].toNat : Nat) : Int) - 32) = byv (Pu.up em[j]) by
                  unfold Pu.up; rw [if_pos hu]; exact byv_mk (n := em[j].toNat - 32) (by omega) (by omega))
                have HS := Lib.hid hS
                clear hS hu
                go_wp2
                go_roundw
                case rel => exact ⟨j + 1, by omega, by go_num, by rw [Hv.out]; exact HS.out, hbj.setCell (by exact hg) _⟩
                case measure => simp [intOf]; omega
              · have Hs := Lib.hid (Hskip.out (by unfold Pu.up; rw [if_neg hu]))
                by_cases h97 : 97 ≤ em[j].toNat
                · have i5 : (97 : Int) ≤ ((em[j].toNat : Nat) : Int) := by omega
                  have i6 : ¬ ((em[j].toNat : Nat) : Int) ≤ 122 := by omega
                  clear hS hu
                  go_wp2
                  go_roundw
                  case rel => exact ⟨j + 1, by omega, by go_num, Hs.out, hbj⟩
                  case measure => simp [intOf]; omega
                · have i5 : ¬ (97 : Int) ≤ ((em[j].toNat : Nat) : Int) := by omega
                  clear hS hu
                  go_wp2
                  go_roundw
                  case rel => exact ⟨j + 1, by omega, by go_num, Hs.out, hbj⟩
                  case measure => simp [intOf]; omega
            · have i4 : ¬ ((hd.length + j : Nat) : Int) < (T.length : Int) := by omega
              obtain rfl : j = em.length := by omega
              rw [upTo_all] at hL hul
              have hcs := str_run (hL.sl cap (by omega))
              rw [hul] at hcs
              generalize hd ++ em.map Pu.up = U at *
              have hUl : U.length ≤ 2000 := by omega
              clear hul
              go_wp2_with fail
              refine (decode_any _ _ (by unfold maxLen; omega)).mono ?_
              intro e w2 h2
              obtain ⟨v2, rfl, hs2, hb2⟩ := dec_open h2 Q6.out
              clear h2
              have hb02 := hbj.trans (hb2.mono hbj.size)
              go_wp2_with fail
              refine (ints_any _ _ _ hs2 Hbd.out (by omega)).mono ?_
              rintro e w3 ⟨v3, rfl, hs3, hb3⟩
              have hb03 := bel_tr hb02 hb3
              go_wp2_with fail
              refine (ints_any _ _ _ (Ha.out.below hb03) Hr.out (by omega)).mono ?_
              rintro e w4 ⟨v4, rfl, hs4, hb4⟩
              have hb04 := bel_tr hb03 hb4
              go_wp2_with fail
              refine (same_any _ _ _ _ _ (hs3.below hb4) hs4 (by omega)).mono ?_
              rintro e w5 ⟨rfl, n, rfl⟩
              rw [show decide (zs (nats l) = l) = true by simp [Hz.out]]
              go_wp2
              go_ret
              exact ⟨rfl, below_drewN hb04 _⟩
    · have Hb := Lib.hid (encR_bad (by omega) hok)
      clear hok
      go_enter Try.func9, Try.ntmps9
      go_wp2_with fail
      refine (works03_any _).mono ?_
      rintro e w0 ⟨rfl, hb0⟩
      go_wp2_with fail
      refine (encode_any _ _ _ (Ha.out.below hb0) Hl.out Hr.out).mono ?_
      rintro e w1 ⟨rfl, hb1⟩
      rw [Hb.out]
      unfold encT
      go_wp2
      go_ret
      exact ⟨rfl, bel_tr hb0 hb1⟩
end Go.Proofs.Ytnelaegjcpkmdaa
