/- The contracts of the reference's ToASCII and ToUnicode; the walk of LabelDoes. -/
import Derived.Test.YtnelaegjcpkmdaaLabF
namespace Go.Proofs.Ytnelaegjcpkmdaa
open Go.RowKit
attribute [local go_sem] ba_get ext_drop ext_take ba_app

theorem may_end {A : List Int} {k : Nat} (h : k < A.length) (hk : k = 0 ∨ k = A.length - 1) (hc : A[k] = 45) : mayB A = false := by
  unfold mayB
  refine decide_eq_false fun ⟨_, h2, h3⟩ => ?_
  rcases hk with rfl | rfl
  · exact h2 (by rw [List.getElem?_eq_getElem h, hc])
  · exact h3 (by rw [List.getElem?_eq_getElem h, hc])
theorem may_all {A : List Int} (hpos : 0 < A.length) (h1 : A.all mayc = true) (h2 : ∀ (j : Nat) (hj : j < A.length), (j = 0 ∨ j = A.length - 1) → A[j] ≠ 45) : mayB A = true := by
  rw [may_fin hpos h1]
  have a := h2 0 hpos (Or.inl rfl)
  have b := h2 (A.length - 1) (by omega) (Or.inr rfl)
  simp [a, b]

set_option maxRecDepth 100000 in
set_option maxHeartbeats 2000000 in
theorem rtoascii_any (s : List UInt8) (w : World) (hl : s.length ≤ 100000000) : Calls Try.prog 42 #[.string ⟨s.toArray⟩] w (AscPost w s) := by
  rcases hf : farB s
  · have Hn := Lib.hid (toA_near hf)
    have Hf := Lib.hid hf
    clear hf
    go_enter Try.func42, Try.ntmps42
    go_wp2_with fail
    refine (far_any _ _ (by omega)).mono ?_
    rintro e w' ⟨rfl, rfl⟩
    rw [Hf.out]
    go_wp2_with fail
    refine (rhost_any _ _ (by omega)).mono ?_
    rintro e w' ⟨rfl, rfl⟩
    rcases hh : hostB s
    · have H := Lib.hid (show toA s = .inl 7 by rw [Hn.out, hh]; rfl)
      clear hh
      go_wp2
      go_ret2
      exact AscPost.err H.out (Below.refl _ _)
    · have H := Lib.hid (show toA s = .inr (low s) by rw [Hn.out, hh]; rfl)
      clear hh
      go_wp2_with fail
      refine (rlower_any _ _ (by omega)).mono ?_
      rintro e w1 ⟨rfl, hb1⟩
      go_wp2
      go_ret2
      exact AscPost.ok H.out hb1
  · have Hf := Lib.hid hf
    have hll := low_len s
    have hll2 : (low s).length ≤ 100000000 := by omega
    rcases hr : rns (low s) with _ | l
    · have H := Lib.hid (toA_none hf hr)
      have Hr := Lib.hid hr
      clear hf hr hll
      go_enter Try.func42, Try.ntmps42
      go_wp2_with fail
      refine (far_any _ _ (by omega)).mono ?_
      rintro e w' ⟨rfl, rfl⟩
      rw [Hf.out]
      go_wp2_with fail
      refine (rlower_any _ _ (by omega)).mono ?_
      rintro e w1 ⟨rfl, hb1⟩
      go_wp2_with fail
      refine (rrunes_any _ _ (by omega)).mono ?_
      intro e w2 h2
      obtain ⟨v2, rfl, hb2⟩ := rns_no h2 Hr.out
      clear h2
      go_wp2
      go_ret2
      exact AscPost.err H.out (bel_tr hb1 hb2)
    · have H := Lib.hid (toA_some hf hr)
      have Hr := Lib.hid hr
      obtain ⟨hbd1, hbd2⟩ := rns_bd hr
      obtain ⟨c0, hc0, _⟩ := rns_far hr (by rw [farB_low]; exact hf)
      have hpos : 0 < l.length := List.length_pos_of_mem hc0
      have Hbd : Hid (∀ x ∈ l, 0 ≤ x ∧ x ≤ 1114111) := Lib.hid (fun x hx => ptB_bd (hbd2 x hx))
      have Hbd2 : Hid (∀ x ∈ l, -2147483648 ≤ x ∧ x ≤ 2147483647) := Lib.hid (fun x hx => by have := ptB_bd (hbd2 x hx); omega)
      have HM0 : Hid (mayB l = false → toA s = .inl 7) := Lib.hid (fun h => by rw [H.out, h]; rfl)
      clear hf hr hll hbd2 hc0
      go_enter Try.func42, Try.ntmps42
      go_wp2_with fail
      refine (far_any _ _ (by omega)).mono ?_
      rintro e w' ⟨rfl, rfl⟩
      rw [Hf.out]
      go_wp2_with fail
      refine (rlower_any _ _ (by omega)).mono ?_
      rintro e w1 ⟨rfl, hb1⟩
      go_wp2_with fail
      refine (rrunes_any _ _ (by omega)).mono ?_
      intro e w2 h2
      obtain ⟨v2, rfl, hs2, hb2⟩ := rns_sl h2 Hr.out
      clear h2
      have hb02 := bel_tr hb1 hb2
      have HS2 := Lib.hid hs2
      obtain ⟨b1, o1, c1, rfl, hc1, hbb1, hcA⟩ := hs2.pos hpos
      have HcA := Lib.hid hcA
      clear hcA hs2
      go_wp2
      go_loop [6] (fun i => ∃ k : Nat, k ≤ l.length ∧ i = .int .i64 (k : Int) ∧ (l.take k).all mayc = true ∧ ∀ (j : Nat) (hj : j < l.length), j < k → (j = 0 ∨ j = l.length - 1) → l[j] ≠ 45) (fun i => l.length - (intOf i).toNat)
      case atStart => exact ⟨0, Nat.zero_le _, rfl, rfl, fun _ _ h => absurd h (Nat.not_lt_zero _)⟩
      case round =>
        obtain ⟨k, hk, rfl, hm, hm2⟩ := hrel
        have Hm := Lib.hid hm
        have Hm2 := Lib.hid hm2
        clear hm hm2
        by_cases hlt : k < l.length
        · have i1 : (k : Int) < (l.length : Int) := by omega
          have q1 : w2.cell? ⟨b1, o1 + k, none⟩ = some (.int .i64 l[k]) := sl_cell HcA.out hlt
          obtain ⟨g1, g2⟩ := Hbd.out l[k] (List.getElem_mem _)
          have Hbad : Hid (mayc l[k] = false → toA s = .inl 7) := Lib.hid (fun h => HM0.out (may_bad hlt h))
          have Hend : Hid ((k = 0 ∨ k = l.length - 1) → l[k] = 45 → toA s = .inl 7) := Lib.hid (fun h1 h2 => HM0.out (may_end hlt h1 h2))
          have Hgood : Hid (mayc l[k] = true → ((k = 0 ∨ k = l.length - 1) → l[k] ≠ 45) → ∃ k' : Nat, k' ≤ l.length ∧ Value.int .i64 ((k : Int) + 1) = .int .i64 (k' : Int) ∧ (l.take k').all mayc = true ∧ ∀ (j : Nat) (hj : j < l.length), j < k' → (j = 0 ∨ j = l.length - 1) → l[j] ≠ 45) := Lib.hid (fun h1 h2 => ⟨k + 1, by omega, by go_num, may_next hlt Hm.out h1, fun j hj hjk he => by
            by_cases hjk2 : j < k
            · exact Hm2.out j hj hjk2 he
            · obtain rfl : j = k := by omega
              exact h2 he⟩)
          generalize l[k] = c at *
          obtain ⟨m, rfl⟩ := Int.eq_ofNat_of_zero_le g1
          by_cases h128 : m < 128
          · have i2 : (m : Int) < 128 := by omega
            rcases hp : plnB m
            · have HB := Lib.hid (Hbad.out (mayc_bad1 h128 hp))
              have Hp := Lib.hid hp
              clear hp
              go_wp2_with fail
              refine (rplain_any _ _ (by omega)).mono ?_
              rintro e w' ⟨rfl, rfl⟩
              rw [Hp.out]
              go_wp2
              go_ret2
              exact AscPost.err HB.out hb02
            · have j1 : ((m : Int) == 12290) = false := by rw [beq_eq_false_iff_ne]; omega
              have j2 : ((m : Int) == 65294) = false := by rw [beq_eq_false_iff_ne]; omega
              have j3 : ((m : Int) == 65377) = false := by rw [beq_eq_false_iff_ne]; omega
              have Hmc := Lib.hid (mayc_good (Or.inr hp) (by omega) (by omega) (by omega))
              have Hp := Lib.hid hp
              clear hp
              by_cases h45 : m = 45
              · have j4 : ((m : Int) == 45) = true := by rw [beq_iff_eq]; omega
                by_cases hk0 : k = 0
                · have j5 : ((k : Int) == 0) = true := by rw [beq_iff_eq]; omega
                  have HB := Lib.hid (Hend.out (Or.inl hk0) (by omega))
                  clear h45 hk0
                  go_wp2_with fail
                  refine (rplain_any _ _ (by omega)).mono ?_
                  rintro e w' ⟨rfl, rfl⟩
                  rw [Hp.out]
                  go_wp2
                  go_ret2
                  exact AscPost.err HB.out hb02
                · have j5 : ((k : Int) == 0) = false := by rw [beq_eq_false_iff_ne]; omega
                  by_cases hkl : k = l.length - 1
                  · have j6 : ((k : Int) == (l.length : Int) - 1) = true := by rw [beq_iff_eq]; omega
                    have HB := Lib.hid (Hend.out (Or.inr hkl) (by omega))
                    clear h45 hk0 hkl
                    go_wp2_with fail
                    refine (rplain_any _ _ (by omega)).mono ?_
                    rintro e w' ⟨rfl, rfl⟩
                    rw [Hp.out]
                    go_wp2
                    go_ret2
                    exact AscPost.err HB.out hb02
                  · have j6 : ((k : Int) == (l.length : Int) - 1) = false := by rw [beq_eq_false_iff_ne]; omega
                    have HG := Lib.hid (Hgood.out Hmc.out (fun h => by omega))
                    clear h45 hk0 hkl
                    go_wp2_with fail
                    refine (rplain_any _ _ (by omega)).mono ?_
                    rintro e w' ⟨rfl, rfl⟩
                    rw [Hp.out]
                    go_wp2
                    go_round
                    case rel => exact HG.out
                    case measure => simp [intOf]; omega
              · have j4 : ((m : Int) == 45) = false := by rw [beq_eq_false_iff_ne]; omega
                have HG := Lib.hid (Hgood.out Hmc.out (fun _ => by omega))
                clear h45
                go_wp2_with fail
                refine (rplain_any _ _ (by omega)).mono ?_
                rintro e w' ⟨rfl, rfl⟩
                rw [Hp.out]
                go_wp2
                go_round
                case rel => exact HG.out
                case measure => simp [intOf]; omega
          · have i2 : ¬ (m : Int) < 128 := by omega
            by_cases h3 : m = 12290 ∨ m = 65294 ∨ m = 65377
            · have HB := Lib.hid (Hbad.out (mayc_bad2 h3))
              by_cases e1 : m = 12290
              · have j1 : ((m : Int) == 12290) = true := by rw [beq_iff_eq]; omega
                clear h3 e1
                go_wp2
                go_ret2
                exact AscPost.err HB.out hb02
              · have j1 : ((m : Int) == 12290) = false := by rw [beq_eq_false_iff_ne]; omega
                by_cases e2 : m = 65294
                · have j2 : ((m : Int) == 65294) = true := by rw [beq_iff_eq]; omega
                  clear h3 e1 e2
                  go_wp2
                  go_ret2
                  exact AscPost.err HB.out hb02
                · have j2 : ((m : Int) == 65294) = false := by rw [beq_eq_false_iff_ne]; omega
                  have j3 : ((m : Int) == 65377) = true := by rw [beq_iff_eq]; omega
                  clear h3 e1 e2
                  go_wp2
                  go_ret2
                  exact AscPost.err HB.out hb02
            · have HG := Lib.hid (Hgood.out (mayc_good (Or.inl (by omega)) (by omega) (by omega) (by omega)) (fun _ => by omega))
              have j1 : ((m : Int) == 12290) = false := by rw [beq_eq_false_iff_ne]; omega
              have j2 : ((m : Int) == 65294) = false := by rw [beq_eq_false_iff_ne]; omega
              have j3 : ((m : Int) == 65377) = false := by rw [beq_eq_false_iff_ne]; omega
              clear h3
              go_wp2
              go_round
              case rel => exact HG.out
              case measure => simp [intOf]; omega
        · have i1 : ¬ (k : Int) < (l.length : Int) := by omega
          have hm := may_all hpos (by have := Hm.out; rwa [List.take_of_length_le (by omega)] at this) (fun j hj he => Hm2.out j hj (by omega) he)
          have H2 := H.out
          rw [hm, if_pos rfl] at H2
          have H3 := Lib.hid H2
          clear hm H2 H
          go_wp2_with fail
          refine (rencode_any _ _ _ HS2.out (by unfold maxLen; omega) Hbd2.out).mono ?_
          rintro e w3 ⟨rfl, hb3⟩
          have hb03 := bel_tr hb02 hb3
          rcases he : encR l with c | t
          · have hc := encR_inl he
            have H4 := Lib.hid (show toA s = .inl c by rw [H3.out, he])
            clear he
            unfold encT
            go_wp2
            go_ret2
            exact AscPost.err H4.out hb03
          · have H4 := Lib.hid (show toA s = if 63 < t.length + 4 then .inl 7 else .inr (mrk ++ t) by rw [H3.out, he])
            have htl := encR_len he
            clear he
            unfold encT
            by_cases hbig : 63 < t.length + 4
            · have H5 := Lib.hid (show toA s = .inl 7 by rw [H4.out, if_pos hbig])
              have k1 : (59 : Int) < (t.length : Int) := by omega
              go_wp2
              go_ret2
              exact AscPost.err H5.out hb03
            · have H5 := Lib.hid (show toA s = .inr (mrk ++ t) by rw [H4.out, if_neg hbig])
              have k1 : ¬ (59 : Int) < (t.length : Int) := by omega
              go_wp2
              go_ret2
              exact AscPost.ok H5.out hb03

theorem txt_nil : txt [] = some [] := rfl
set_option maxRecDepth 100000 in
set_option maxHeartbeats 1000000 in
theorem rtounicode_any (s : List UInt8) (w : World) (hl : s.length ≤ 100000000) : Calls Try.prog 46 #[.string ⟨s.toArray⟩] w (StrPost w (toU s)) := by
  have hll : (low s).length ≤ 100000000 := by rw [low_len]; exact hl
  rcases hh : hostB (low s)
  · have H := Lib.hid (toU_not (s := s) (by rw [hh]; simp))
    have Hh := Lib.hid hh
    clear hh
    go_enter Try.func46, Try.ntmps46
    go_wp2_with fail
    refine (rlower_any _ _ (by omega)).mono ?_
    rintro e w1 ⟨rfl, hb1⟩
    go_wp2_with fail
    refine (rhost_any _ _ (by omega)).mono ?_
    rintro e w' ⟨rfl, rfl⟩
    rw [Hh.out]
    go_wp2
    go_ret
    exact str_ret H.out hb1
  · have Hh := Lib.hid hh
    have hl63 := (host_mem hh).2.1
    have HPOST : Hid (∀ w' : World, Below w.heap.size w w' → toU s = s → StrPost w (toU s) (.returned (.string ⟨s.toArray⟩)) w') := Lib.hid (fun w' hb h => str_ret h hb)
    have HPOST2 : Hid (∀ (w' : World) (t : List UInt8), Below w.heap.size w w' → toU s = t → StrPost w (toU s) (.returned (.string ⟨t.toArray⟩)) w') := Lib.hid (fun w' t hb h => str_ret h hb)
    have HNot : Hid ((low s).take 4 ≠ mrk → toU s = s) := Lib.hid (fun h => toU_not (fun h2 => h h2.2))
    have HYes : Hid ((low s).take 4 = mrk → hostB (low s) = true ∧ (low s).take 4 = mrk) := Lib.hid (fun h => ⟨hh, h⟩)
    clear hh
    go_enter Try.func46, Try.ntmps46
    go_wp2_with fail
    refine (rlower_any _ _ (by omega)).mono ?_
    rintro e w1 ⟨rfl, hb1⟩
    go_wp2_with fail
    refine (rhost_any _ _ (by omega)).mono ?_
    rintro e w' ⟨rfl, rfl⟩
    rw [Hh.out]
    generalize hX : low s = X at *
    have HX := Lib.hid hX
    clear hX
    by_cases h4 : X.length < 4
    · have H := Lib.hid (HNot.out (fun h => by have := congrArg List.length h; simp [mrk] at this; omega))
      have k0 : (X.length : Int) < 4 := by omega
      go_wp2
      go_ret
      exact HPOST.out _ hb1 H.out
    · have k0 : ¬ (X.length : Int) < 4 := by omega
      by_cases hp : X.take 4 = mrk
      · have HC := Lib.hid (HYes.out hp)
        have k1 : X.take 4 = [120, 110, 45, 45] := hp
        clear hp
        go_wp2_with fail
        refine (rdecode_any (X.drop 4) _ (by unfold maxLen; simp; omega)).mono ?_
        intro e w2 h2
        clear k1
        rcases hd : Pu.dec (X.drop 4) with c | l
        · have HU := Lib.hid (toU_bad (s := s) (c := c) (by rw [HX.out]; exact HC.out) (by rw [HX.out]; exact hd))
          have hc := dec_inl hd
          obtain ⟨rfl, hb2⟩ : e = .returned (.tuple #[.slice none 0 0, .int .i64 c]) ∧ Below w1.heap.size w1 w2 := by
            rcases h2 with ⟨c', g1, g2, g3⟩ | ⟨l', v', g1, _⟩
            · rw [hd] at g1; injection g1 with g1; subst g1; exact ⟨g2, g3⟩
            · rw [hd] at g1; cases g1
          have hb02 := bel_tr hb1 hb2
          clear h2 hd
          go_wp2_with fail
          refine (rtext_any [] _ _ (Sl.nil _ _) (by simp)).mono ?_
          rintro e w3 ⟨rfl, hb3⟩
          rw [txt_nil]
          unfold txtV
          go_wp2
          go_ret
          exact HPOST.out _ (bel_tr hb02 hb3) HU.out
        · obtain ⟨v2, rfl, hs2, hb2⟩ : ∃ v, e = .returned (.tuple #[v, .int .i64 0]) ∧ Sl w2 1 v (zs l).length ((zs l).map (Value.int .i64)) ∧ Below w1.heap.size w1 w2 := by
            rcases h2 with ⟨c', g1, _⟩ | ⟨l', v', g1, g2, g3, g4⟩
            · rw [hd] at g1; cases g1
            · rw [hd] at g1; injection g1 with g1; subst g1
              exact ⟨v', g2, by rw [zs_len, ← inv_zs]; exact g3, g4⟩
          have d2 := (dec_bd hd).2
          have hzl : (zs l).length ≤ 4096 := by rw [zs_len]; exact d2
          have hb02 := bel_tr hb1 hb2
          have Hd := Lib.hid hd
          clear h2 hd
          go_wp2_with fail
          refine (rtext_any _ _ _ hs2 (by omega)).mono ?_
          rintro e w3 ⟨rfl, hb3⟩
          have hb03 := bel_tr hb02 hb3
          rcases ht : txt (zs l) with _ | t
          · have HU := Lib.hid (toU_txt (s := s) (by rw [HX.out]; exact HC.out) (by rw [HX.out]; exact Hd.out) ht)
            clear ht
            unfold txtV
            go_wp2
            go_ret
            exact HPOST.out _ hb03 HU.out
          · have HU := Lib.hid (toU_back (s := s) (by rw [HX.out]; exact HC.out) (by rw [HX.out]; exact Hd.out) ht)
            have htl := txt_len ht
            clear ht
            unfold txtV
            go_wp2_with fail
            refine (rtoascii_any _ _ (by omega)).mono ?_
            rintro e w4 ⟨rfl, hb4⟩
            have hb04 := bel_tr hb03 hb4
            rcases hta : toA t with c | back
            · have hc := toA_inl hta
              have HU2 := Lib.hid (show toU s = s by rw [HU.out, hta, if_neg (by simp)])
              clear hta
              unfold encT
              go_wp2
              go_ret
              exact HPOST.out _ hb04 HU2.out
            · unfold encT
              by_cases hbk : back = X
              · have HU2 := Lib.hid (show toU s = t by rw [HU.out, hta, HX.out, hbk, if_pos rfl])
                subst hbk
                clear hta
                go_wp2
                go_ret
                exact HPOST2.out _ _ hb04 HU2.out
              · have HU2 := Lib.hid (show toU s = s by rw [HU.out, hta, HX.out, if_neg (by intro h; injection h with h; exact hbk h)])
                have k1 : (back == X) = false := by simpa using hbk
                have k2 : (back != X) = true := by simpa using hbk
                clear hta
                go_wp2
                go_ret
                exact HPOST.out _ hb04 HU2.out
      · have H := Lib.hid (HNot.out hp)
        have k1 : (X.take 4 == [120, 110, 45, 45]) = false := by simpa [mrk] using hp
        have k2 : (X.take 4 != [120, 110, 45, 45]) = true := by simpa [mrk] using hp
        clear hp
        go_wp2
        go_ret
        exact HPOST.out _ hb1 H.out

set_option maxRecDepth 100000 in
set_option maxHeartbeats 1000000 in
theorem labelDoes_walk (w : World) (s : List UInt8) (hl : s.length ≤ maxLen) : Calls Try.prog 12 #[.string ⟨s.toArray⟩] w (Good w) := by
  unfold maxLen at hl
  by_cases hbig : 300 < s.length
  · have i0 : (300 : Int) < (s.length : Int) := by omega
    go_enter Try.func12, Try.ntmps12
    go_wp2_with fail
    refine (works04_any _).mono ?_
    rintro e w1 ⟨rfl, hb1⟩
    go_wp2
    go_ret
    exact ⟨rfl, hb1⟩
  · have i0 : ¬ (300 : Int) < (s.length : Int) := by omega
    obtain ⟨a, c, hac⟩ := encT_two (toA s)
    have Hac := Lib.hid hac
    clear hac
    go_enter Try.func12, Try.ntmps12
    go_wp2_with fail
    refine (toascii_any _ _ (by omega)).mono ?_
    rintro e w1 ⟨rfl, hb1⟩
    rw [Hac.out]
    go_wp2_with fail
    refine (rtoascii_any _ _ (by omega)).mono ?_
    rintro e w2 ⟨rfl, hb2⟩
    have hb02 := bel_tr hb1 hb2
    rw [Hac.out]
    go_wp2_with fail
    refine (works04_any _).mono ?_
    rintro e w3 ⟨rfl, hb3⟩
    have hb03 := bel_tr hb02 hb3
    go_wp2_with fail
    refine (lhost_any _ _ (by omega)).mono ?_
    rintro e w' ⟨rfl, rfl⟩
    go_wp2_with fail
    refine (rhost_any _ _ (by omega)).mono ?_
    rintro e w' ⟨rfl, rfl⟩
    generalize hostB s = B at *
    go_wp2_with fail
    refine (tounicode_any _ _ (by omega)).mono ?_
    rintro e w4 ⟨rfl, hb4⟩
    have hb04 := bel_tr hb03 hb4
    go_wp2_with fail
    refine (rtounicode_any _ _ (by omega)).mono ?_
    rintro e w5 ⟨rfl, hb5⟩
    generalize toU s = U at *
    go_wp2
    go_ret
    exact ⟨by simp, bel_tr hb04 hb5⟩
end Go.Proofs.Ytnelaegjcpkmdaa
