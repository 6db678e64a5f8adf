/- Contracts and plain lemmas of our own, merged. -/
import Derived.Test.YthlnndjkocnfcaaGreatDoorZDO1
import Derived.Test.YthlnndjkocnfcaaGreatDoorZDO10
import Derived.Test.YthlnndjkocnfcaaGreatDoorZDO12
import Derived.Test.YthlnndjkocnfcaaGreatDoorZDO13
import Derived.Test.YthlnndjkocnfcaaGreatDoorZDO21
import Derived.Test.YthlnndjkocnfcaaGreatDoorZDO23
import Derived.Test.YthlnndjkocnfcaaGreatDoorZDO24
import Derived.Test.YthlnndjkocnfcaaGreatDoorZDO33
/- The reference's Better (39). -/
namespace Go.Proofs.YthlnndjkocnfcaaGreatDoor
open Go.RowKit
attribute [local go_sem] ba_get ext_take ext_drop ext_any ba_app

theorem rbetter39_any (vi vr vp : Value) (N : Nt) (a b : Ad) (w : World) (hN : NetRaw w vi vr vp N) (hlI : N.I.length ≤ 1000000) (hlR : N.R.length ≤ 1000000) (hlP : N.P.length ≤ 1000000) :
    Calls Tryz.prog 9 #[.agg #[vi, vr, vp], .agg (adA a), .agg (adA b)] w (DbPost w (dbet (dwN N a) (dwN N b))) := by
  obtain ⟨⟨x, p⟩, hx⟩ : ∃ v, pickN N a = v := ⟨_, rfl⟩
  obtain ⟨⟨y, q⟩, hy⟩ : ∃ v, pickN N b = v := ⟨_, rfl⟩
  cases p <;> cases q
  · exact rbetter39_ff vi vr vp N a b x y hx hy w hN hlI hlR hlP
  · exact rbetter39_ft vi vr vp N a b x y hx hy w hN hlI hlR hlP
  · exact rbetter39_tf vi vr vp N a b x y hx hy w hN hlI hlR hlP
  · exact rbetter39_tt vi vr vp N a b x y hx hy w hN hlI hlR hlP
end Go.Proofs.YthlnndjkocnfcaaGreatDoor

/- The reference's Order (39) (printed by mk_dsr.py). -/
namespace Go.Proofs.YthlnndjkocnfcaaGreatDoor
open Go.RowKit
attribute [local go_sem] ba_get ext_take ext_drop ext_any ba_app

set_option maxRecDepth 100000 in
set_option maxHeartbeats 40000000 in
theorem rOrder_any (vi vr vp v : Value) (N : Nt) (l : List Ad) (w : World) (hN : NetRaw w vi vr vp N) (hlI : N.I.length ≤ 1000000) (hlR : N.R.length ≤ 1000000) (hlP : N.P.length ≤ 1000000) (hs : Sl w 18 v l.length (l.flatMap adL)) (hl : l.length ≤ 1000) :
    Calls Tryz.prog 12 #[.agg #[vi, vr, vp], v] w (AdsPost w (ordF (dcm N) l)) := by
  have HN := Lib.hid hN
  have Hns := Lib.hid (show (Tryz.prog.info? 26).map (·.size) = some (#[vi, vr, vp] : Array Value).size from net_size)
  have HB : Hid (∀ a b w', NetRaw w' vi vr vp N → Calls Tryz.prog 9 #[.agg #[vi, vr, vp], .agg (adA a), .agg (adA b)] w' fun e w'' => e = .returned (.tuple #[.int .i64 (dcm N a b), .int .i64 (dbet (dwN N a) (dwN N b)).2]) ∧ Below w'.heap.size w' w'') := Lib.hid (fun a b w' h => rbetter39_any vi vr vp N a b w' h hlI hlR hlP)
  obtain ⟨A, c, rfl, hc⟩ := hs.any
  have Hsl := Lib.hid hs
  clear hN hlI hlR hlP hs
  obtain ⟨n, hn⟩ : ∃ n, n = l.length := ⟨_, rfl⟩
  rw [← hn] at hl hc Hsl ⊢
  have Hn := Lib.hid hn
  clear hn
  go_enter Tryz.func12, Tryz.ntmps12
  go_wp2_with (first
    | ((with_reducible refine wpList_boxB (o := ⟨some 2, _, _, _, _, _⟩) rfl _ _ rfl rfl ?_); intro g2 w1 hg hB2 hb1 hs; have HB2 := Lib.hid hB2; have Hb1 := Lib.hid hb1; clear hg hs hB2 hb1))
  go_loopw [5, 6] (fun ov iv wr => ∃ k : Nat, k ≤ n ∧ iv = .int .i64 k ∧ wr.ownsRow w1.heap.size 29 18 ov k ((ordF (dcm N) (l.take k)).flatMap adL) ∧ Below w1.heap.size w1 wr) (fun _ iv _ => n - (intOf iv).toNat)
  case atStart => exact ⟨0, by omega, rfl, by rw [List.take_zero]; exact World.ownsRow_nil _ _ _ _, Below.refl _ _⟩
  case round =>
    obtain ⟨k, hk, rfl, hown, hbel⟩ := hrel
    obtain ⟨wo, rfl⟩ : ∃ wo, wo = wr := ⟨_, rfl⟩
    obtain ⟨ao, co, rfl⟩ := own_anyF hown
    by_cases hlt : k < n
    · have hkl : k < l.length := by have := Hn.out; omega
      have hPl : (ordF (dcm N) (l.take k)).length = k := ordF_take_len _ _ (by omega)
      have j0 : (k : Int) < (n : Int) := by omega
      have HSn : Hid (∀ j, goF (dcm N) l[k] (ordF (dcm N) (l.take k)) k = j → ((ordF (dcm N) (l.take k)).take j).flatMap adL ++ (adL l[k] ++ ((ordF (dcm N) (l.take k)).drop j).flatMap adL) = (ordF (dcm N) (l.take (k + 1))).flatMap adL) := Lib.hid (fun j hj => by
        rw [ordF_snoc (dcm N) l hkl]
        unfold insF
        rw [hPl, hj, List.flatMap_append, List.flatMap_cons])
      have HBm : Hid (∀ y w', NetRaw w' vi vr vp N → Calls Tryz.prog 9 #[.agg #[vi, vr, vp], .agg (adA l[k]), .agg (adA y)] w' fun e w'' => e = .returned (.tuple #[.int .i64 (dcm N l[k] y), .int .i64 (dbet (dwN N l[k]) (dwN N y)).2]) ∧ Below w'.heap.size w' w'') := Lib.hid (fun y w' h => HB.out _ y w' h)
      obtain ⟨b, off, c', hv, hc', hbl, hcell⟩ := (Hsl.out.below (bel_tr Hb1.out hbel)).pos (by omega)
      injection hv with hv1 hv2 hv3
      subst hv1 hv3
      have hR := range_of adL_len hcell hkl
      clear hcell hv2 hc'
      generalize hO1 : (ordF (dcm N) (l.take (k + 1))).flatMap adL = O1 at *
      generalize l[k] = x at *
      generalize ordF (dcm N) (l.take k) = P at *
      have HO1 := Lib.hid hO1
      have LR : Hid (∀ j u, (adL x)[j]? = some u → wo.cell? ⟨b, off + k * 18 + j, none⟩ = some u) := Lib.hid hR
      have Hbl := Lib.hid hbl
      have HO := Lib.hid hown
      have HPl := Lib.hid hPl
      have H2 := Lib.hid (HB2.out.bel hbel)
      clear hO1 hR hbl hown hPl hkl HB
      go_wp2_with (fail)
      go_loopw [7] (fun jv wr => ∃ (j : Nat) (z : Int), j ≤ k ∧ jv = .int .i64 z ∧ z = (j : Int) ∧ goF (dcm N) x P k = goF (dcm N) x P j ∧ Below wo.heap.size wo wr) (fun jv _ => (intOf jv).toNat)
      case atStart => exact ⟨k, (k : Int), Nat.le_refl _, rfl, rfl, rfl, Below.refl _ _⟩
      case round =>
        obtain ⟨j, z, hj, rfl, hz, hg, hbi⟩ := hrel
        have HbI := Lib.hid hbi
        rcases Nat.eq_zero_or_pos j with h0 | h0
        · subst h0
          obtain rfl : z = 0 := by omega
          have G : Hid (goF (dcm N) x P k = 0) := Lib.hid hg
          clear hz hg hbi HBm
          have Sq := Lib.hid ((Sl.own HO.out).below HbI.out)
          have Lq := Lib.hid (fun (w' : World) (h : Below wr.heap.size wr w') j u hu => (h.cell (p := ⟨b, off + k * 18 + j, none⟩) (Nat.lt_of_lt_of_le Hbl.out HbI.out.size)).trans ((HbI.out.cell (p := ⟨b, off + k * 18 + j, none⟩) Hbl.out).trans (LR.out j u hu)))
          have hJ : 0 ≤ k := by omega
          go_wp2_with (first
            | ((with_reducible show wpList _ _ _ (⟨some 42, _, _, _, _, _⟩ :: _) _ _); refine wpList_sliceHi (J := 0) (o := ⟨some 42, _, _, _, _, _⟩) rfl _ _ rfl elt_ads rfl rfl rfl hJ Sq.out ?_; intro v42 s42; rw [flatO_take adL_len] at s42)
            | (at_builtin; refine wpList_app rfl (.tmp 39) (.tmp 42) _ rfl elt_ads rfl (World.ownsRow_nil wr wr.heap.size 29 18) rfl s42 (fun u hu => by obtain ⟨y, _, hy⟩ := List.mem_flatMap.1 hu; exact adL_one y u hy) (Nat.le_refl _) (by omega) (by omega) ?_; intro v43 w43 o43 b43 g43
               have O43 := Lib.hid o43
               have B43 := Lib.hid b43
               clear o43 b43 g43 s42
               refine hold ?_))
          refine Lib.hid ?_
          have L43 : w43.rangeAt b (off + k * 18) (adL x) := Lq.out w43 B43.out
          go_wp2_with (first
            | (with_reducible refine wpList_loadAdM (o := ⟨some 48, _, _, _, _, _⟩) rfl _ rfl rfl L43 ?_)
            | ((with_reducible show wpList _ _ _ (⟨some 49, _, _, _, _, _⟩ :: _) _ _); refine wpList_lit (o := ⟨some 49, _, _, _, _, _⟩) rfl _ _ rfl elt_ads [.agg (adA x)] rfl (by decide) (by decide) (fun v hv => by rw [List.mem_singleton.1 hv]; exact adA_size _) rfl ?_; intro w49 hB49 hx49 hb49 hs49; clear hx49 hs49; have hB49 := bk_list (l := adL x) hB49 rfl)
            | (at_builtin; refine wpList_app rfl (.tmp 44) (.tmp 49) _ rfl elt_ads rfl (own_below O43.out hb49) rfl (hB49.sl (size := 18) (n := 1) (by rw [adL_len]) 1 (Nat.le_refl _)) (adL_one _) (Nat.le_trans B43.out.size hb49.size) (by omega) (by omega) ?_; intro v50 w50 o50 b50 g50
               have O50 := Lib.hid o50
               have B50 := Lib.hid ((bel_tr B43.out hb49).trans b50)
               clear o50 b50 g50 hB49 hb49 L43 O43 B43
               refine hold ?_))
          refine Lib.hid ?_
          have S50 := Lib.hid (Sq.out.below B50.out)
          go_wp2_with (first
            | ((with_reducible show wpList _ _ _ (⟨some 54, _, _, _, _, _⟩ :: _) _ _); refine wpList_sliceLo (J := 0) (o := ⟨some 54, _, _, _, _, _⟩) rfl _ _ rfl elt_ads rfl rfl rfl hJ S50.out ?_; intro v54 s54; rw [flatO_drop adL_len] at s54)
            | (at_builtin; refine wpList_app rfl (.tmp 51) (.tmp 54) _ rfl elt_ads rfl O50.out rfl s54 (fun u hu => by obtain ⟨y, _, hy⟩ := List.mem_flatMap.1 hu; exact adL_one y u hy) B50.out.size (by omega) (by omega) ?_; intro v55 w55 o55 b55 g55
               have O55 := Lib.hid o55
               have B55 := Lib.hid (B50.out.trans b55)
               clear o55 b55 g55 s54 O50 B50 S50 Lq Sq
               refine hold ?_))
          refine Lib.hid ?_
          go_wp2_with (fail)
          go_roundw
          case rel =>
            refine ⟨k + 1, by omega, by go_num, ?_, hbel.trans ((bel_tr HbI.out B55.out).mono hbel.size)⟩
            rw [HO1.out, ← HSn.out _ G.out]
            have h := own_base O55.out (Nat.le_trans hbel.size HbI.out.size)
            rw [show 0 + 0 + 1 + (k - 0) = k + 1 by omega] at h
            simpa using h
          case measure => (simp [intOf]) <;> omega
        · obtain ⟨m, rfl⟩ : ∃ m, j = m + 1 := ⟨j - 1, by omega⟩
          obtain rfl : z = (m : Int) + 1 := by omega
          have hmP : m < P.length := by have := HPl.out; omega
          obtain ⟨b5, off5, c5', hv5, hc5', hbl5, hcell5⟩ := (Sl.own HO.out).pos (by omega)
          injection hv5 with e51 e52 e53
          subst e51 e53
          have hr5 := range_of adL_len hcell5 hmP
          have LP : Hid (wr.rangeAt b5 (off5 + m * 18) (adL P[m])) := Lib.hid (fun j u hu => (hbi.cell (p := ⟨b5, off5 + m * 18 + j, none⟩) hbl5).trans (hr5 j u hu))
          have LX : Hid (wr.rangeAt b (off + k * 18) (adL x)) := Lib.hid (fun j u hu => (hbi.cell (p := ⟨b, off + k * 18 + j, none⟩) Hbl.out).trans (LR.out j u hu))
          have LN := Lib.hid (H2.out.bel hbi).rangeNet
          have HBt := Lib.hid (HBm.out P[m])
          have HNb := Lib.hid (bel_tr (bel_tr Hb1.out hbel) hbi)
          have Hst : Hid (dcm N x P[m] ≤ 0 → goF (dcm N) x P (m + 1) = m + 1) := Lib.hid (fun h => goF_stop (by rw [passB_at hmP]; exact decide_eq_false (by omega)))
          have Hon : Hid (0 < dcm N x P[m] → goF (dcm N) x P (m + 1) = goF (dcm N) x P m) := Lib.hid (fun h => goF_on (by rw [passB_at hmP]; exact decide_eq_true h))
          generalize dcm N x P[m] = D at *
          generalize (dbet (dwN N x) (dwN N P[m])).2 = D2 at *
          generalize P[m] = y at *
          have HG := Lib.hid hg
          have m1 : (m : Int) + 1 ≤ (k : Int) := by omega
          have m0 : (m : Int) < (k : Int) := by omega
          have n1 : (0 : Int) < (m : Int) + 1 := by omega
          have n2 : (0 : Int) ≤ (m : Int) := by omega
          have wm : IntKind.i64.wrap (m : Int) = (m : Int) := IntWalk.i64_in _ (by omega)
          clear hg hz h0 hmP hcell5 hr5 e52 hc5' hbl5 hbi HBm
          go_wp2_with (fail)
          refine wp_region_bel (by kernel_rfl) (by kernel_rfl) ?_
          repeat (first
            | go_big_quiet_skip
            | (go_big_quiet_want; first
                | ((with_reducible show (⟨some 22, _, _, _, _, _⟩ : Oper).quiet _ _ _ _); refine quiet_loadK (o := ⟨some 22, _, _, _, _, _⟩) 26 _ rfl rfl (cs := #[vi, vr, vp]) rfl LN.out net_under rfl net_size (by simp only [Act.put, List.setIfInBounds_toArray, List.set_cons_succ, List.set_cons_zero]; exact rfl) ?_; go_big_quiet_on)
                | ((with_reducible show (⟨some 26, _, _, _, _, _⟩ : Oper).quiet _ _ _ _); refine quiet_loadAd (o := ⟨some 26, _, _, _, _, _⟩) _ rfl rfl LX.out (by simp only [Act.put, List.setIfInBounds_toArray, List.set_cons_succ, List.set_cons_zero]; exact rfl) ?_; go_big_quiet_on)
                | ((with_reducible show (⟨some 31, _, _, _, _, _⟩ : Oper).quiet _ _ _ _); refine quiet_loadAd (o := ⟨some 31, _, _, _, _, _⟩) _ rfl rfl LP.out (by simp only [Act.put, List.setIfInBounds_toArray, List.set_cons_succ, List.set_cons_zero]; exact rfl) ?_; go_big_quiet_on)
                | (go_big_quiet_op; first | go_big_quiet_on | go_big_quiet_call ((go_at_call 9; with_reducible refine bel_call (HBt.out _ (HN.out.below (bel_tr HNb.out (BelT.bel _)))))))))
          refine wpQuiet_nil ?_
          rintro _ ⟨u, rfl⟩
          have HbJ := Lib.hid (bel_tr HbI.out u.bel)
          clear LP LX LN HBt HNb HbI
          obtain ⟨wq, hwq⟩ : ∃ wq, wq = u.at_ := ⟨_, rfl⟩
          rw [← hwq] at HbJ ⊢
          clear hwq
          by_cases hD : D ≤ 0
          · have G : Hid (goF (dcm N) x P k = m + 1) := Lib.hid (HG.out.trans (Hst.out (by omega)))
            clear HG Hst Hon
            have Sq := Lib.hid ((Sl.own HO.out).below HbJ.out)
            have Lq := Lib.hid (fun (w' : World) (h : Below wq.heap.size wq w') j u hu => (h.cell (p := ⟨b, off + k * 18 + j, none⟩) (Nat.lt_of_lt_of_le Hbl.out HbJ.out.size)).trans ((HbJ.out.cell (p := ⟨b, off + k * 18 + j, none⟩) Hbl.out).trans (LR.out j u hu)))
            have hJ : (m + 1) ≤ k := by omega
            go_wp2_with (first
              | ((with_reducible show wpList _ _ _ (⟨some 42, _, _, _, _, _⟩ :: _) _ _); refine wpList_sliceHi (J := (m + 1)) (o := ⟨some 42, _, _, _, _, _⟩) rfl _ _ rfl elt_ads rfl rfl (by omega) hJ Sq.out ?_; intro v42 s42; rw [flatO_take adL_len] at s42)
              | (at_builtin; refine wpList_app rfl (.tmp 39) (.tmp 42) _ rfl elt_ads rfl (World.ownsRow_nil wq wq.heap.size 29 18) rfl s42 (fun u hu => by obtain ⟨y, _, hy⟩ := List.mem_flatMap.1 hu; exact adL_one y u hy) (Nat.le_refl _) (by omega) (by omega) ?_; intro v43 w43 o43 b43 g43
                 have O43 := Lib.hid o43
                 have B43 := Lib.hid b43
                 clear o43 b43 g43 s42
                 refine hold ?_))
            refine Lib.hid ?_
            have L43 : w43.rangeAt b (off + k * 18) (adL x) := Lq.out w43 B43.out
            go_wp2_with (first
              | (with_reducible refine wpList_loadAdM (o := ⟨some 48, _, _, _, _, _⟩) rfl _ rfl rfl L43 ?_)
              | ((with_reducible show wpList _ _ _ (⟨some 49, _, _, _, _, _⟩ :: _) _ _); refine wpList_lit (o := ⟨some 49, _, _, _, _, _⟩) rfl _ _ rfl elt_ads [.agg (adA x)] rfl (by decide) (by decide) (fun v hv => by rw [List.mem_singleton.1 hv]; exact adA_size _) rfl ?_; intro w49 hB49 hx49 hb49 hs49; clear hx49 hs49; have hB49 := bk_list (l := adL x) hB49 rfl)
              | (at_builtin; refine wpList_app rfl (.tmp 44) (.tmp 49) _ rfl elt_ads rfl (own_below O43.out hb49) rfl (hB49.sl (size := 18) (n := 1) (by rw [adL_len]) 1 (Nat.le_refl _)) (adL_one _) (Nat.le_trans B43.out.size hb49.size) (by omega) (by omega) ?_; intro v50 w50 o50 b50 g50
                 have O50 := Lib.hid o50
                 have B50 := Lib.hid ((bel_tr B43.out hb49).trans b50)
                 clear o50 b50 g50 hB49 hb49 L43 O43 B43
                 refine hold ?_))
            refine Lib.hid ?_
            have S50 := Lib.hid (Sq.out.below B50.out)
            go_wp2_with (first
              | ((with_reducible show wpList _ _ _ (⟨some 54, _, _, _, _, _⟩ :: _) _ _); refine wpList_sliceLo (J := (m + 1)) (o := ⟨some 54, _, _, _, _, _⟩) rfl _ _ rfl elt_ads rfl rfl (by omega) hJ S50.out ?_; intro v54 s54; rw [flatO_drop adL_len] at s54)
              | (at_builtin; refine wpList_app rfl (.tmp 51) (.tmp 54) _ rfl elt_ads rfl O50.out rfl s54 (fun u hu => by obtain ⟨y, _, hy⟩ := List.mem_flatMap.1 hu; exact adL_one y u hy) B50.out.size (by omega) (by omega) ?_; intro v55 w55 o55 b55 g55
                 have O55 := Lib.hid o55
                 have B55 := Lib.hid (B50.out.trans b55)
                 clear o55 b55 g55 s54 O50 B50 S50 Lq Sq
                 refine hold ?_))
            refine Lib.hid ?_
            go_wp2_with (fail)
            go_roundw
            case rel =>
              refine ⟨k + 1, by omega, by go_num, ?_, hbel.trans ((bel_tr HbJ.out B55.out).mono hbel.size)⟩
              rw [HO1.out, ← HSn.out _ G.out]
              have h := own_base O55.out (Nat.le_trans hbel.size HbJ.out.size)
              rw [show 0 + (m + 1) + 1 + (k - (m + 1)) = k + 1 by omega] at h
              simpa using h
            case measure => (simp [intOf]) <;> omega
          · have G : Hid (goF (dcm N) x P k = goF (dcm N) x P m) := Lib.hid (HG.out.trans (Hon.out (by omega)))
            have hD' : 0 < D := by omega
            clear HG Hst Hon
            go_wp2_with (fail)
            go_roundw
            case rel => exact ⟨m, (m : Int), by omega, by go_num, rfl, G.out, HbJ.out⟩
            case measure => (simp [intOf]) <;> omega
    · have hkn : k = n := by omega
      subst hkn
      have hfin : ordF (dcm N) (l.take k) = ordF (dcm N) l := by rw [Hn.out, List.take_length]
      have hfl : (ordF (dcm N) l).length = k := by rw [ordF_len]; exact Hn.out.symm
      have j0 : ¬ (k : Int) < (k : Int) := by omega
      rw [hfin] at hown
      have HO := Lib.hid hown
      have HF := Lib.hid hfl
      clear hown hfin hfl
      go_wp2_with (fail)
      go_ret
      exact ⟨_, rfl, by rw [HF.out]; exact own_base HO.out Hb1.out.size, bel_tr Hb1.out hbel⟩
end Go.Proofs.YthlnndjkocnfcaaGreatDoor

/- How often an address is in a list (law 39's count). -/
namespace Go.Proofs.YthlnndjkocnfcaaGreatDoor
open Go.RowKit

/-- how many times an address is in a list. -/
def cnL (a : Ad) (L : List Ad) : Nat := (L.filter fun p => decide (p = a)).length
theorem cnL_next {a : Ad} {L : List Ad} {k : Nat} (h : k < L.length) : cnL a (L.take (k + 1)) = cnL a (L.take k) + if decide (L[k] = a) = true then 1 else 0 := by
  unfold cnL
  rw [List.take_succ_eq_append_getElem h, List.filter_append, List.length_append]
  congr 1
  rw [List.filter_cons]
  split <;> rfl
theorem cnL_le (a : Ad) (L : List Ad) : cnL a L ≤ L.length := List.length_filter_le _ _
theorem cnL_perm {a : Ad} {L M : List Ad} (h : L.Perm M) : cnL a L = cnL a M := (h.filter _).length_eq
set_option maxRecDepth 100000 in
set_option maxHeartbeats 8000000 in
theorem lcount_any (v : Value) (l : List Ad) (a : Ad) (w : World) (hs : Sl w 18 v l.length (l.flatMap adL)) (hl : l.length ≤ 1000) :
    Calls Tryz.prog 13 #[v, .agg (adA a)] w fun e w'' => e = .returned (.int .i64 (cnL a l : Nat)) ∧ Below w.heap.size w w'' := by
  obtain ⟨A, c, rfl, hc⟩ := hs.any
  have Hsl := Lib.hid hs
  clear hs hc
  go_enter Tryz.func13, Tryz.ntmps13
  go_wp2_with (first
    | ((with_reducible refine wpList_boxB (o := ⟨some 3, _, _, _, _, _⟩) rfl _ _ rfl rfl ?_); intro g3 w1 hg hB3 hb1 hs; have HB3 := Lib.hid hB3; have Hb1 := Lib.hid hb1; clear hg hs hB3 hb1))
  go_loopw [5, 6] (fun nv iv wr => ∃ k : Nat, k ≤ l.length ∧ iv = .int .i64 k ∧ nv = .int .i64 (cnL a (l.take k)) ∧ Below w1.heap.size w1 wr) (fun _ iv _ => l.length - (intOf iv).toNat)
  case atStart => exact ⟨0, Nat.zero_le _, rfl, rfl, Below.refl _ _⟩
  case round =>
    obtain ⟨k, hk, rfl, rfl, hbel⟩ := hrel
    have hcl := cnL_le a (l.take k)
    have htl := List.length_take_le k l
    by_cases hlt : k < l.length
    · have hltI : (k : Int) < (l.length : Int) := by omega
      have hk0 : (0 : Int) ≤ (k : Int) := by omega
      obtain ⟨b, off, c', hv, hc', hbl, hcell⟩ := (Hsl.out.below (bel_tr Hb1.out hbel)).pos (by omega)
      injection hv with hv1 _ hv2
      subst hv1 hv2
      have hR := range_of adL_len hcell hlt
      have hA := (HB3.out.bel hbel).rangeAd
      have Hnx := Lib.hid (cnL_next (a := a) hlt)
      clear hcell
      obtain ⟨r, Hr⟩ : ∃ r, Hid (decide (l[k] = a) = r) := ⟨_, Lib.hid rfl⟩
      go_wp2
      refine wp_region_bel (by kernel_rfl) (by kernel_rfl) ?_
      repeat (first
        | go_big_quiet_skip
        | (go_big_quiet_want; first
            | ((with_reducible show (⟨some 16, _, _, _, _, _⟩ : Oper).quiet _ _ _ _); refine quiet_loadAd (o := ⟨some 16, _, _, _, _, _⟩) _ rfl rfl hR (by simp only [Act.put, List.setIfInBounds_toArray, List.set_cons_succ, List.set_cons_zero]; exact rfl) ?_; go_big_quiet_on)
            | ((with_reducible show (⟨some 17, _, _, _, _, _⟩ : Oper).quiet _ _ _ _); refine quiet_loadAd (o := ⟨some 17, _, _, _, _, _⟩) _ rfl rfl hA (by simp only [Act.put, List.setIfInBounds_toArray, List.set_cons_succ, List.set_cons_zero]; exact rfl) ?_; go_big_quiet_on)
            | ((with_reducible show (⟨some 18, _, _, _, _, _⟩ : Oper).quiet _ _ _ _); refine quiet_eqlAd _ _ rfl rfl rfl Hr.out (by simp only [Act.put, List.setIfInBounds_toArray, List.set_cons_succ, List.set_cons_zero]; exact rfl) ?_; go_big_quiet_on)
            | (go_big_quiet_op; go_big_quiet_on)))
      refine wpQuiet_nil ?_
      rintro _ ⟨x, rfl⟩
      have hby := hbel.trans (x.bel.mono hbel.size)
      cases r
      all_goals go_wp2
      · go_roundw
        case rel => exact ⟨k + 1, by omega, by go_num, by rw [Hnx.out, Hr.out, if_neg (by decide)]; go_num, hby⟩
        case measure => simp [intOf]; omega
      · go_roundw
        case rel => exact ⟨k + 1, by omega, by go_num, by rw [Hnx.out, Hr.out, if_pos rfl]; go_num, hby⟩
        case measure => simp [intOf]; omega
    · have hltI : ¬ (k : Int) < (l.length : Int) := by omega
      obtain rfl : k = l.length := by omega
      rw [List.take_length]
      go_wp2
      go_ret
      exact ⟨rfl, bel_tr Hb1.out hbel⟩
end Go.Proofs.YthlnndjkocnfcaaGreatDoor
