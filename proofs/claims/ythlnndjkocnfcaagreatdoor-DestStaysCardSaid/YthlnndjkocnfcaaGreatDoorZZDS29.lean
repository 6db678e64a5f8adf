/- Contracts and plain lemmas of our own, merged. -/
import Derived.Test.YthlnndjkocnfcaaGreatDoorZZDS1
import Derived.Test.YthlnndjkocnfcaaGreatDoorZZDS10
import Derived.Test.YthlnndjkocnfcaaGreatDoorZZDS12
import Derived.Test.YthlnndjkocnfcaaGreatDoorZZDS13
import Derived.Test.YthlnndjkocnfcaaGreatDoorZZDS21
import Derived.Test.YthlnndjkocnfcaaGreatDoorZZDS23
import Derived.Test.YthlnndjkocnfcaaGreatDoorZZDS24
import Derived.Test.YthlnndjkocnfcaaGreatDoorZZDS28
/- The reference's Pick (38), at any net (printed by mk_dsl.py). -/
namespace Go.Proofs.YthlnndjkocnfcaaGreatDoor
open Go.RowKit
attribute [local go_sem] ba_get ext_take ext_drop ext_any ba_app

structure RkRel (w : World) (g2 g3 g4 : Nat) (vi vr vp : Value) (d : Ad) (An : Option Addr) (R : List Ifc) (lo : Nat) (wr : World) : Prop where
  b2 : Bk wr g2 26 #[vi, vr, vp]
  b3 : Bk wr g3 29 (adA d)
  b4 : Bk wr g4 42 (ifcA ifc0)
  r : SRow ifcL 23 wr An R lo
  b : Below w.heap.size w wr
theorem RkRel.bel {w wr w' : World} {g2 g3 g4 lo : Nat} {vi vr vp : Value} {d : Ad} {An : Option Addr} {R : List Ifc} (h : RkRel w g2 g3 g4 vi vr vp d An R lo wr) (k : Below wr.heap.size wr w') : RkRel w g2 g3 g4 vi vr vp d An R lo w' := ⟨h.b2.bel k, h.b3.bel k, h.b4.bel k, h.r.bel k, bel_tr h.b k⟩
theorem ownN_len (N : Nt) (a : Ad) : (ownN N a).length ≤ 32 := by
  unfold ownN
  split
  · exact Nat.le_trans (List.length_filter_le _ _) (ifcN_len _)
  · exact Nat.zero_le _
theorem topB_take {N : Nt} {d : Ad} {R : List Ifc} {x : Ifc} {k : Nat} (h : k < R.length) : topB N d (R.take (k + 1)) x = (topB N d (R.take k) x && decide (bsg N d R[k] x ≤ 0)) := by
  unfold topB
  rw [List.take_succ_eq_append_getElem h, List.all_append]
  simp
set_option maxRecDepth 100000 in
set_option maxHeartbeats 40000000 in
theorem rpick_any (vi vr vp : Value) (N : Nt) (d : Ad) (w : World) (hN : NetRaw w vi vr vp N) (hlI : N.I.length ≤ 1000000) (hlR : N.R.length ≤ 1000000) (hlP : N.P.length ≤ 1000000) :
    Calls Tryz.prog 17 #[.agg #[vi, vr, vp], .agg (adA d)] w (PickPost w (pickN N d)) := by
  have HN := Lib.hid hN
  have Hns := Lib.hid (show (Tryz.prog.info? 26).map (·.size) = some (#[vi, vr, vp] : Array Value).size from net_size)
  have HO : Hid (∀ w', NetRaw w' vi vr vp N → Calls Tryz.prog 31 #[.agg #[vi, vr, vp], .agg (adA d)] w' (IfcsPost w' (ownN N d))) := Lib.hid (fun w' h => rown_any vi vr vp N d w' h hlI hlR)
  have HB : Hid (∀ a b w', NetRaw w' vi vr vp N → Calls Tryz.prog 32 #[.agg #[vi, vr, vp], .agg (adA d), .agg (ifcA a), .agg (ifcA b)] w' (BetPost w' (betL N d a b))) := Lib.hid (fun a b w' h => rbetter38_any vi vr vp N d a b w' h hlR hlP)
  have Hp : Hid (pickN N d = (((ownN N d).find? (topB N d (ownN N d))).getD ifc0, ((ownN N d).find? (topB N d (ownN N d))).isSome)) := Lib.hid (pick_find N d)
  have HRl := Lib.hid (ownN_len N d)
  clear hN hlI hlR hlP
  generalize ownN N d = R at *
  generalize pickN N d = T at *
  obtain ⟨q, hq⟩ : ∃ q, R.find? (topB N d R) = q := ⟨_, rfl⟩
  rw [hq] at Hp
  have Hq := Lib.hid hq
  clear hq
  go_enter Tryz.func17, Tryz.ntmps17
  go_wp2_with (first
    | ((with_reducible refine wpList_boxB (o := ⟨some 2, _, _, _, _, _⟩) rfl _ _ rfl rfl ?_); intro g2 w1 hg hB2 hb1 hs; clear hg hs)
    | ((with_reducible refine wpList_boxB (o := ⟨some 3, _, _, _, _, _⟩) rfl _ _ rfl rfl ?_); intro g3 w2 hg hB3 hb2 hs; have hB22 := hB2.bel hb2; have hb02 := bel_tr hb1 hb2; clear hg hs)
    | ((with_reducible refine wpList_alloc_ifc (o := ⟨some 4, _, _, _, _, _⟩) rfl rfl ?_); intro g4 w3 hg hB4 hb3 hs; have hw4 : w.heap.size ≤ g4 := Nat.le_trans hb02.size (Nat.le_of_eq hg.symm); have hB23 := hB22.bel hb3; have hB33 := hB3.bel hb3; have hb03 := bel_tr hb02 hb3; clear hg hs)
    | (with_reducible refine wpList_loadB (o := ⟨some 12, _, _, _, _, _⟩) rfl _ _ rfl rfl hB23 net_under rfl Hns.out ?_)
    | (with_reducible refine wpList_loadAd (o := ⟨some 13, _, _, _, _, _⟩) rfl _ rfl rfl hB33 ?_)
    | (go_at_call 31; refine (HO.out _ (HN.out.below hb03)).mono ?_; rintro e w4 ⟨v4, rfl, ho4, hb4⟩; obtain ⟨A4, c4, rfl, hc4⟩ := (Sl.own ho4).any; have hr4 := SRow.own ifcL_len ho4; have hX2 := hB23.bel hb4; have hX3 := hB33.bel hb4; have hX4 := hB4.bel hb4; have hb04 := bel_tr hb03 hb4; clear ho4))
  generalize w3.heap.size = lo at *
  have R0 : RkRel w g2 g3 g4 vi vr vp d A4 R lo w4 := ⟨hX2, hX3, hX4, hr4, hb04⟩
  clear hB2 hB22 hB23 hB3 hB33 hB4 hX2 hX3 hX4 hr4 hb1 hb2 hb3 hb4 hb02 hb03 hb04 HO
  have hRl := HRl.out
  go_loopw [7] (fun iv wr => ∃ i : Nat, i ≤ R.length ∧ iv = .int .i64 i ∧ (R.drop i).find? (topB N d R) = q ∧ RkRel w g2 g3 g4 vi vr vp d A4 R lo wr) (fun iv _ => R.length - (intOf iv).toNat)
  case atStart => exact ⟨0, by omega, rfl, by rw [List.drop_zero]; exact Hq.out, R0⟩
  case round =>
    obtain ⟨i, hi, rfl, hf, ro⟩ := hrel
    clear R0 Hq
    obtain ⟨wo, rfl⟩ : ∃ wo, wo = wr := ⟨_, rfl⟩
    by_cases hlt : i < R.length
    · obtain ⟨b, off, rfl, hblo, hblt, hrg⟩ := ro.r i hlt
      have j0 : (i : Int) < (R.length : Int) := by omega
      rw [List.drop_eq_getElem_cons hlt, List.find?_cons] at hf
      generalize hx : R[i] = x at *
      have hcs : (topB N d R x = true ∧ some x = q) ∨ (topB N d R x = false ∧ (R.drop (i + 1)).find? (topB N d R) = q) := by
        cases ht : topB N d R x with
        | true => rw [ht] at hf; exact .inl ⟨rfl, hf⟩
        | false => rw [ht] at hf; exact .inr ⟨rfl, hf⟩
      have Hcs := Lib.hid hcs
      have Hx := Lib.hid hx
      have RO := Lib.hid ro
      clear hcs hf hx hrg hblo hblt ro
      go_wp2_with (fail)
      go_loopw [8, 9] (fun bv kv wr => ∃ k : Nat, k ≤ R.length ∧ kv = .int .i64 k ∧ bv = .bool (topB N d (R.take k) x) ∧ RkRel w g2 g3 g4 vi vr vp d (some ⟨b, off, none⟩) R lo wr) (fun _ kv _ => R.length - (intOf kv).toNat)
      case atStart => exact ⟨0, by omega, rfl, by simp [topB], RO.out⟩
      case round =>
        obtain ⟨k, hk, rfl, rfl, rr⟩ := hrel
        clear RO
        have hrx : wr.rangeAt b (off + i * 23) (ifcL x) := by rw [← Hx.out]; exact (rr.r.rng hlt).2
        by_cases hkl : k < R.length
        · have hry := (rr.r.rng hkl).2
          have j1 : (k : Int) < (R.length : Int) := by omega
          have hnx := topB_take (N := N) (d := d) (x := x) hkl
          generalize R[k] = y at *
          have Hnx : Hid (topB N d (R.take (k + 1)) x = (topB N d (R.take k) x && decide (fst1 (betL N d y x) ≤ 0))) := Lib.hid hnx
          clear hnx
          have HBt : Hid (∀ w', NetRaw w' vi vr vp N → Calls Tryz.prog 32 #[.agg #[vi, vr, vp], .agg (adA d), .agg (ifcA y), .agg (ifcA x)] w' fun e w'' => e = .returned (.tuple #[.int .i64 (fst1 (betL N d y x)), .int .i64 (fstI (betL N d y x) 0)]) ∧ Below w'.heap.size w' w'') := Lib.hid (fun w' h => HB.out y x w' h)
          generalize fst1 (betL N d y x) = z at *
          have LN := Lib.hid rr.b2.rangeNet
          have LD := Lib.hid rr.b3.rangeAd
          have LX := Lib.hid hrx
          have LY := Lib.hid hry
          have RR := Lib.hid rr
          have HIx : Hid ((Tryz.prog.info? 42).map (·.size) = some (ifcL x).length) := Lib.hid (by rw [ifcL_len]; exact ifc_size)
          have HIy : Hid ((Tryz.prog.info? 42).map (·.size) = some (ifcL y).length) := Lib.hid (by rw [ifcL_len]; exact ifc_size)
          generalize fstI (betL N d y x) 0 = u at *
          generalize topB N d (R.take k) x = tb at *
          clear rr hrx hry HB
          go_wp2_with (fail)
          refine wp_region_bel (by kernel_rfl) (by kernel_rfl) ?_
          repeat (first
            | go_big_quiet_skip
            | (go_big_quiet_want; first
                | ((with_reducible show (⟨some 28, _, _, _, _, _⟩ : Oper).quiet _ _ _ _); refine quiet_loadK (o := ⟨some 28, _, _, _, _, _⟩) 26 _ rfl rfl (cs := #[vi, vr, vp]) rfl LN.out net_under rfl net_size (by simp only [Act.put, List.setIfInBounds_toArray, List.set_cons_succ, List.set_cons_zero]; exact rfl) ?_; go_big_quiet_on)
                | ((with_reducible show (⟨some 29, _, _, _, _, _⟩ : Oper).quiet _ _ _ _); refine quiet_loadAd (o := ⟨some 29, _, _, _, _, _⟩) _ rfl rfl LD.out (by simp only [Act.put, List.setIfInBounds_toArray, List.set_cons_succ, List.set_cons_zero]; exact rfl) ?_; go_big_quiet_on)
                | ((with_reducible show (⟨some 33, _, _, _, _, _⟩ : Oper).quiet _ _ _ _); refine quiet_loadK (o := ⟨some 33, _, _, _, _, _⟩) 42 _ rfl rfl (cs := ifcA y) rfl LY.out ifc_under rfl HIy.out (by simp only [Act.put, List.setIfInBounds_toArray, List.set_cons_succ, List.set_cons_zero]; exact rfl) ?_; go_big_quiet_on)
                | ((with_reducible show (⟨some 37, _, _, _, _, _⟩ : Oper).quiet _ _ _ _); refine quiet_loadK (o := ⟨some 37, _, _, _, _, _⟩) 42 _ rfl rfl (cs := ifcA x) rfl LX.out ifc_under rfl HIx.out (by simp only [Act.put, List.setIfInBounds_toArray, List.set_cons_succ, List.set_cons_zero]; exact rfl) ?_; go_big_quiet_on)
                | (go_big_quiet_op; first | go_big_quiet_on | go_big_quiet_call ((go_at_call 32; with_reducible refine bel_call (HBt.out _ (HN.out.below (bel_tr RR.out.b (BelT.bel _)))))))))
          refine wpQuiet_nil ?_
          rintro _ ⟨v, rfl⟩
          have RX := Lib.hid (RR.out.bel v.bel)
          clear LN LD LX LY RR
          have hz : decide (z ≤ 0) = true ∨ decide (z ≤ 0) = false := by cases decide (z ≤ 0) <;> simp
          cases tb <;> rcases hz with hz | hz
          all_goals
            have Hn := Lib.hid (Hnx.out.trans (by rw [hz]))
            go_wp2_with (fail)
            go_roundw
            case rel => exact ⟨k + 1, by omega, by go_num, by rw [Hn.out]; rfl, RX.out⟩
            case measure => simp [intOf]; omega
        · have hkR : k = R.length := by omega
          have hke : topB N d (R.take k) x = topB N d R x := by rw [hkR, List.take_length]
          have j1 : ¬ (k : Int) < (R.length : Int) := by omega
          rw [hke]
          rcases Hcs.out with ⟨ht, hq⟩ | ⟨ht, hq⟩
          · rw [ht]
            have r4 := rr.b4
            have Hb := Lib.hid rr.b
            have Hh : Hid (T = (x, true)) := Lib.hid (by rw [Hp.out, ← hq]; rfl)
            clear rr Hcs Hp hq
            go_wp2_with (first
              | (with_reducible refine wpList_loadM_ifc (o := ⟨some 50, _, _, _, _, _⟩) rfl _ rfl rfl hrx ?_)
              | ((with_reducible refine wpList_store_ifc (o := ⟨none, _, _, _, _, _⟩) rfl (.tmp 4) _ rfl rfl rfl r4 ?_); intro wc hB4c hSc))
            exact ret_ifcE Tryz.results17 rfl rfl hB4c rfl ⟨by rw [Hh.out]; rfl, Hb.out.trans (hSc.below hw4)⟩
          · rw [ht]
            have Hq := Lib.hid hq
            have RX := Lib.hid rr
            clear rr Hcs hq hrx
            go_wp2_with (fail)
            go_roundw
            case rel => exact ⟨i + 1, by omega, by go_num, Hq.out, RX.out⟩
            case measure => simp [intOf]; omega
    · have hiR : i = R.length := by omega
      have j0 : ¬ (i : Int) < (R.length : Int) := by omega
      rw [hiR, List.drop_length, List.find?_nil] at hf
      have Hh : Hid (T = (ifc0, false)) := Lib.hid (by rw [Hp.out, ← hf]; rfl)
      have r4 := ro.b4
      have Hb := Lib.hid ro.b
      clear ro hf Hp
      go_wp2_with (first
        | (with_reducible refine wpList_buildL (o := ⟨some 51, _, _, _, _, _⟩) rfl 42 _ rfl built_ifc0 rfl ?_)
        | ((with_reducible refine wpList_store_ifc (o := ⟨none, _, _, _, _, _⟩) rfl (.tmp 4) _ rfl rfl rfl r4 ?_); intro wc hB4c hSc))
      exact ret_ifcE Tryz.results17 rfl rfl hB4c rfl ⟨by rw [Hh.out]; rfl, Hb.out.trans (hSc.below hw4)⟩
end Go.Proofs.YthlnndjkocnfcaaGreatDoor
