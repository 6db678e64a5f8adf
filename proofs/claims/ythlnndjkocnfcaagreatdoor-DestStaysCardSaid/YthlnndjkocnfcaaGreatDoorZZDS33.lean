/- Contracts and plain lemmas of our own, merged. -/
import Derived.Test.YthlnndjkocnfcaaGreatDoorZZDS1
import Derived.Test.YthlnndjkocnfcaaGreatDoorZZDS10
import Derived.Test.YthlnndjkocnfcaaGreatDoorZZDS12
import Derived.Test.YthlnndjkocnfcaaGreatDoorZZDS13
import Derived.Test.YthlnndjkocnfcaaGreatDoorZZDS21
import Derived.Test.YthlnndjkocnfcaaGreatDoorZZDS23
import Derived.Test.YthlnndjkocnfcaaGreatDoorZZDS24
import Derived.Test.YthlnndjkocnfcaaGreatDoorZZDS32
/- The reference's Better (39), one of four ways (printed by mk_dsm.py). -/
namespace Go.Proofs.YthlnndjkocnfcaaGreatDoor
open Go.RowKit
attribute [local go_sem] ba_get ext_take ext_drop ext_any ba_app

set_option maxRecDepth 100000 in
set_option maxHeartbeats 40000000 in
theorem rbetter39_tf (vi vr vp : Value) (N : Nt) (a b : Ad) (x y : Ifc) (hx : pickN N a = (x, true)) (hy : pickN N b = (y, false)) (w : World) (hN : NetRaw w vi vr vp N) (hlI : N.I.length ≤ 1000000) (hlR : N.R.length ≤ 1000000) (hlP : N.P.length ≤ 1000000) :
    Calls Tryz.prog 9 #[.agg #[vi, vr, vp], .agg (adA a), .agg (adA b)] w (DbPost w (dbet (dwN N a) (dwN N b))) := by
  have HN := Lib.hid hN
  have Hns := Lib.hid (show (Tryz.prog.info? 26).map (·.size) = some (#[vi, vr, vp] : Array Value).size from net_size)
  have HPa : Hid (∀ w', NetRaw w' vi vr vp N → Calls Tryz.prog 17 #[.agg #[vi, vr, vp], .agg (adA a)] w' (PickPost w' (pickN N a))) := Lib.hid (fun w' h => rpick_any vi vr vp N a w' h hlI hlR hlP)
  have HPb : Hid (∀ w', NetRaw w' vi vr vp N → Calls Tryz.prog 17 #[.agg #[vi, vr, vp], .agg (adA b)] w' (PickPost w' (pickN N b))) := Lib.hid (fun w' h => rpick_any vi vr vp N b w' h hlI hlR hlP)
  have HWa : Hid (∀ w', NetRaw w' vi vr vp N → Calls Tryz.prog 18 #[.agg #[vi, vr, vp], .agg (adA a)] w' (WayPost w' (wayP a (rtN N.R)))) := Lib.hid (fun w' h => rway_any vi vr vp N a w' h hlR)
  have HWb : Hid (∀ w', NetRaw w' vi vr vp N → Calls Tryz.prog 18 #[.agg #[vi, vr, vp], .agg (adA b)] w' (WayPost w' (wayP b (rtN N.R)))) := Lib.hid (fun w' h => rway_any vi vr vp N b w' h hlR)
  have HQ : Hid (∀ z w', NetRaw w' vi vr vp N → Calls Tryz.prog 19 #[.agg #[vi, vr, vp], .agg (adA z)] w' (PolPost w' (ofP z (polN N.P)))) := Lib.hid (fun z w' h => rpofN_any vi vr vp N z w' h hlP)
  obtain ⟨D, hD⟩ : ∃ D, D = dtelL (dwN N a) (dwN N b) := ⟨_, rfl⟩
  have Hf : Hid (dbet (dwN N a) (dwN N b) = (fst1 D, if fst1 D = 0 then 10 else fstI D 0)) := Lib.hid (by rw [hD]; rfl)
  rw [rd_eq hx hy] at hD
  rw [hx] at HPa
  rw [hy] at HPb
  generalize dbet (dwN N a) (dwN N b) = T at *
  have HQa := Lib.hid (HQ.out a)
  have HQb := Lib.hid (HQ.out b)
  have HQx := Lib.hid (HQ.out x.ad)
  have HQy := Lib.hid (HQ.out y.ad)
  have HSa : Hid (∀ w', Calls Tryz.prog 20 #[.agg (adA a)] w' (InPost w' (scoA a))) := Lib.hid (rscope_any a)
  have HSb : Hid (∀ w', Calls Tryz.prog 20 #[.agg (adA b)] w' (InPost w' (scoA b))) := Lib.hid (rscope_any b)
  have HSx : Hid (∀ w', Calls Tryz.prog 20 #[.agg (adA x.ad)] w' (InPost w' (scoA x.ad))) := Lib.hid (rscope_any x.ad)
  have HSy : Hid (∀ w', Calls Tryz.prog 20 #[.agg (adA y.ad)] w' (InPost w' (scoA y.ad))) := Lib.hid (rscope_any y.ad)
  have HCa : Hid (∀ w', Calls Tryz.prog 22 #[.agg (adA a), .agg (adA x.ad)] w' (InPost w' (comA a x.ad : Int))) := Lib.hid (fun w' => rcommon_any a x.ad w')
  have HCb : Hid (∀ w', Calls Tryz.prog 22 #[.agg (adA b), .agg (adA y.ad)] w' (InPost w' (comA b y.ad : Int))) := Lib.hid (fun w' => rcommon_any b y.ad w')
  have H9 : Hid (rd9 a b x y true false = if a.fam = b.fam then ordB (decide (comB b y false < comB a x true)) (decide (comB a x true < comB b y false)) else 0) := Lib.hid rfl
  have Hca : Hid (comB a x true = if true = true then min (comA a x.ad : Int) x.bits else 0) := Lib.hid rfl
  have Hcb : Hid (comB b y false = if false = true then min (comA b y.ad : Int) y.bits else 0) := Lib.hid rfl
  generalize rd9 a b x y true false = o8 at *
  unfold rd8 at hD
  clear hN hlI hlR hlP HQ hx hy
  generalize wayP a (rtN N.R) = wva at *
  obtain ⟨r, wa⟩ := wva
  generalize wayP b (rtN N.R) = wvb at *
  obtain ⟨s, wb⟩ := wvb
  generalize ofP a (polN N.P) = Pa at *
  generalize ofP b (polN N.P) = Pb at *
  generalize ofP x.ad (polN N.P) = Px at *
  generalize ofP y.ad (polN N.P) = Py at *
  generalize scoA a = sa at *
  generalize scoA b = sb at *
  generalize scoA x.ad = sx at *
  generalize scoA y.ad = sy at *
  generalize comB a x true = ca at *
  generalize comB b y false = cb at *
  generalize ((comA a x.ad : Nat) : Int) = cma at *
  generalize ((comA b y.ad : Nat) : Int) = cmb at *
  have HBy : Hid (∀ u v w', Calls Tryz.prog 21 #[.bool u, .bool v] w' (InPost w' (ordB u v))) := Lib.hid (fun u v w' => rby39_any u v w')
  go_enter Tryz.func9, Tryz.ntmps9
  go_wp2_with (first
    | ((with_reducible refine wpList_boxB (o := ⟨some 3, _, _, _, _, _⟩) rfl _ _ rfl rfl ?_); intro g3 w1 hg hB3 hb1 hs; clear hg hs)
    | ((with_reducible refine wpList_boxB (o := ⟨some 4, _, _, _, _, _⟩) rfl _ _ rfl rfl ?_); intro g4 w2 hg hB4 hb2 hs; have hB32 := hB3.bel hb2; have hb02 := bel_tr hb1 hb2; clear hg hs)
    | ((with_reducible refine wpList_boxB (o := ⟨some 5, _, _, _, _, _⟩) rfl _ _ rfl rfl ?_); intro g5 w3 hg hB5 hb3 hs; have X3 := Lib.hid (hB32.bel hb3); have X4 := Lib.hid (hB4.bel hb3); have X5 := Lib.hid hB5; have Xb := Lib.hid (bel_tr hb02 hb3); clear hg hs hB3 hB32 hB4 hB5 hb1 hb2 hb3 hb02; refine hold ?_))
  refine Lib.hid ?_
  go_wp2_with (first
    | (with_reducible refine wpList_loadB (o := ⟨some 25, _, _, _, _, _⟩) rfl _ _ rfl rfl X3.out net_under rfl Hns.out ?_)
    | (with_reducible refine wpList_loadAd (o := ⟨some 26, _, _, _, _, _⟩) rfl _ rfl rfl X4.out ?_)
    | (go_at_call 17; refine (HPa.out _ (HN.out.below Xb.out)).mono ?_; rintro e v1 ⟨rfl, hk1⟩)
    | ((with_reducible refine wpList_alloc_ifc (o := ⟨some 8, _, _, _, _, _⟩) rfl rfl ?_); intro g8 v2 hg hBz hk2 hs; have hgz : v1.heap.size ≤ g8 := Nat.le_of_eq hg.symm; clear hg hs)
    | ((with_reducible refine wpList_store_ifc (o := ⟨none, _, _, _, _, _⟩) rfl (.tmp 8) _ rfl rfl rfl hBz ?_); intro v3 hBy hSy
       have hkx := bel_tr hk1 (hk2.trans (hSy.below hgz))
       have Y := Lib.hid (X3.out.bel hkx); clear X3; have X3 := Y; clear Y
       have Y := Lib.hid (X4.out.bel hkx); clear X4; have X4 := Y; clear Y
       have Y := Lib.hid (X5.out.bel hkx); clear X5; have X5 := Y; clear Y
       have X8 := Lib.hid hBy
       have Y := Lib.hid (bel_tr Xb.out hkx); clear Xb; have Xb := Y; clear Y
       clear hBz hBy hSy hk1 hk2 hkx hgz
       refine hold ?_))
  refine Lib.hid ?_
  obtain ⟨wq8, hwq⟩ : ∃ wq, wq = v3 := ⟨_, rfl⟩
  rw [← hwq] at X3 X4 X5 X8 Xb ⊢
  clear hwq
  go_wp2_with (first
    | (with_reducible refine wpList_loadB (o := ⟨some 31, _, _, _, _, _⟩) rfl _ _ rfl rfl X3.out net_under rfl Hns.out ?_)
    | (with_reducible refine wpList_loadAd (o := ⟨some 32, _, _, _, _, _⟩) rfl _ rfl rfl X5.out ?_)
    | (go_at_call 17; refine (HPb.out _ (HN.out.below Xb.out)).mono ?_; rintro e v1 ⟨rfl, hk1⟩)
    | ((with_reducible refine wpList_alloc_ifc (o := ⟨some 10, _, _, _, _, _⟩) rfl rfl ?_); intro g10 v2 hg hBz hk2 hs; have hgz : v1.heap.size ≤ g10 := Nat.le_of_eq hg.symm; clear hg hs)
    | ((with_reducible refine wpList_store_ifc (o := ⟨none, _, _, _, _, _⟩) rfl (.tmp 10) _ rfl rfl rfl hBz ?_); intro v3 hBy hSy
       have hkx := bel_tr hk1 (hk2.trans (hSy.below hgz))
       have Y := Lib.hid (X3.out.bel hkx); clear X3; have X3 := Y; clear Y
       have Y := Lib.hid (X4.out.bel hkx); clear X4; have X4 := Y; clear Y
       have Y := Lib.hid (X5.out.bel hkx); clear X5; have X5 := Y; clear Y
       have Y := Lib.hid (X8.out.bel hkx); clear X8; have X8 := Y; clear Y
       have X10 := Lib.hid hBy
       have Y := Lib.hid (bel_tr Xb.out hkx); clear Xb; have Xb := Y; clear Y
       clear hBz hBy hSy hk1 hk2 hkx hgz
       refine hold ?_))
  refine Lib.hid ?_
  obtain ⟨wq10, hwq⟩ : ∃ wq, wq = v3 := ⟨_, rfl⟩
  rw [← hwq] at X3 X4 X5 X8 X10 Xb ⊢
  clear hwq
  go_wp2_with (first
    | (with_reducible refine wpList_loadB (o := ⟨some 37, _, _, _, _, _⟩) rfl _ _ rfl rfl X3.out net_under rfl Hns.out ?_)
    | (with_reducible refine wpList_loadAd (o := ⟨some 38, _, _, _, _, _⟩) rfl _ rfl rfl X4.out ?_)
    | (go_at_call 18; refine (HWa.out _ (HN.out.below Xb.out)).mono ?_; rintro e v1 ⟨rfl, hk1⟩)
    | ((with_reducible refine wpList_alloc_rt (o := ⟨some 12, _, _, _, _, _⟩) rfl rfl ?_); intro g12 v2 hg hBz hk2 hs; have hgz : v1.heap.size ≤ g12 := Nat.le_of_eq hg.symm; clear hg hs)
    | ((with_reducible refine wpList_store_rt (o := ⟨none, _, _, _, _, _⟩) rfl (.tmp 12) _ rfl rfl rfl hBz ?_); intro v3 hBy hSy
       have hkx := bel_tr hk1 (hk2.trans (hSy.below hgz))
       have Y := Lib.hid (X3.out.bel hkx); clear X3; have X3 := Y; clear Y
       have Y := Lib.hid (X4.out.bel hkx); clear X4; have X4 := Y; clear Y
       have Y := Lib.hid (X5.out.bel hkx); clear X5; have X5 := Y; clear Y
       have Y := Lib.hid (X8.out.bel hkx); clear X8; have X8 := Y; clear Y
       have Y := Lib.hid (X10.out.bel hkx); clear X10; have X10 := Y; clear Y
       have X12 := Lib.hid hBy
       have Y := Lib.hid (bel_tr Xb.out hkx); clear Xb; have Xb := Y; clear Y
       clear hBz hBy hSy hk1 hk2 hkx hgz
       refine hold ?_))
  refine Lib.hid ?_
  obtain ⟨wq12, hwq⟩ : ∃ wq, wq = v3 := ⟨_, rfl⟩
  rw [← hwq] at X3 X4 X5 X8 X10 X12 Xb ⊢
  clear hwq
  go_wp2_with (first
    | (with_reducible refine wpList_loadB (o := ⟨some 43, _, _, _, _, _⟩) rfl _ _ rfl rfl X3.out net_under rfl Hns.out ?_)
    | (with_reducible refine wpList_loadAd (o := ⟨some 44, _, _, _, _, _⟩) rfl _ rfl rfl X5.out ?_)
    | (go_at_call 18; refine (HWb.out _ (HN.out.below Xb.out)).mono ?_; rintro e v1 ⟨rfl, hk1⟩)
    | ((with_reducible refine wpList_alloc_rt (o := ⟨some 14, _, _, _, _, _⟩) rfl rfl ?_); intro g14 v2 hg hBz hk2 hs; have hgz : v1.heap.size ≤ g14 := Nat.le_of_eq hg.symm; clear hg hs)
    | ((with_reducible refine wpList_store_rt (o := ⟨none, _, _, _, _, _⟩) rfl (.tmp 14) _ rfl rfl rfl hBz ?_); intro v3 hBy hSy
       have hkx := bel_tr hk1 (hk2.trans (hSy.below hgz))
       have Y := Lib.hid (X3.out.bel hkx); clear X3; have X3 := Y; clear Y
       have Y := Lib.hid (X4.out.bel hkx); clear X4; have X4 := Y; clear Y
       have Y := Lib.hid (X5.out.bel hkx); clear X5; have X5 := Y; clear Y
       have Y := Lib.hid (X8.out.bel hkx); clear X8; have X8 := Y; clear Y
       have Y := Lib.hid (X10.out.bel hkx); clear X10; have X10 := Y; clear Y
       have Y := Lib.hid (X12.out.bel hkx); clear X12; have X12 := Y; clear Y
       have X14 := Lib.hid hBy
       have Y := Lib.hid (bel_tr Xb.out hkx); clear Xb; have Xb := Y; clear Y
       clear hBz hBy hSy hk1 hk2 hkx hgz
       refine hold ?_))
  refine Lib.hid ?_
  obtain ⟨wq14, hwq⟩ : ∃ wq, wq = v3 := ⟨_, rfl⟩
  rw [← hwq] at X3 X4 X5 X8 X10 X12 X14 Xb ⊢
  clear hwq
  clear HPa HPb HWa HWb
  go_wp2_with (fail)
  apply wp_region_bel_new2 6 (by kernel_rfl) (by exact rfl) rfl rfl pol_zero (by exact rfl) rfl rfl pol_zero
  case hB => intro G; kernel_rfl
  case hds => kernel_rfl
  case hH =>
    intro w0 hb0
    have L3 := Lib.hid (X3.out.bel hb0).rangeNet
    have L4 := Lib.hid (X4.out.bel hb0).rangeAd
    have L5 := Lib.hid (X5.out.bel hb0).rangeAd
    have Hb := Lib.hid (bel_tr Xb.out hb0)
    simp only [List.take_succ_cons, List.take_zero]
    repeat (first
      | go_big_quiet_skip
      | (go_big_quiet_want; first
          | ((with_reducible show (⟨some 48, _, _, _, _, _⟩ : Oper).quiet _ _ _ _); refine quiet_loadK (o := ⟨some 48, _, _, _, _, _⟩) 26 _ rfl rfl (cs := #[vi, vr, vp]) rfl L3.out net_under rfl net_size (by simp only [Act.put, List.setIfInBounds_toArray, List.set_cons_succ, List.set_cons_zero]; exact rfl) ?_; go_big_quiet_on)
          | ((with_reducible show (⟨some 51, _, _, _, _, _⟩ : Oper).quiet _ _ _ _); refine quiet_loadK (o := ⟨some 51, _, _, _, _, _⟩) 26 _ rfl rfl (cs := #[vi, vr, vp]) rfl L3.out net_under rfl net_size (by simp only [Act.put, List.setIfInBounds_toArray, List.set_cons_succ, List.set_cons_zero]; exact rfl) ?_; go_big_quiet_on)
          | ((with_reducible show (⟨some 49, _, _, _, _, _⟩ : Oper).quiet _ _ _ _); refine quiet_loadAd (o := ⟨some 49, _, _, _, _, _⟩) _ rfl rfl L4.out (by simp only [Act.put, List.setIfInBounds_toArray, List.set_cons_succ, List.set_cons_zero]; exact rfl) ?_; go_big_quiet_on)
          | ((with_reducible show (⟨some 52, _, _, _, _, _⟩ : Oper).quiet _ _ _ _); refine quiet_loadAd (o := ⟨some 52, _, _, _, _, _⟩) _ rfl rfl L5.out (by simp only [Act.put, List.setIfInBounds_toArray, List.set_cons_succ, List.set_cons_zero]; exact rfl) ?_; go_big_quiet_on)
          | (go_big_quiet_op; first | go_big_quiet_on | go_big_quiet_call ((go_at_call 19; (first | (with_reducible refine bel_call (HQa.out _ (HN.out.below (bel_tr Hb.out (BelT.bel _))))) | (with_reducible refine bel_call (HQb.out _ (HN.out.below (bel_tr Hb.out (BelT.bel _)))))))))))
    refine wpQuiet_nil ?_
    rfl
  case hT =>
  intro g16 g17 wz hz16 hz17 hne hB16 hB17 hbz
  simp only [List.drop_succ_cons, List.drop_zero, Act.put, List.setIfInBounds_toArray, List.set_cons_succ, List.set_cons_zero]
  have Z3 := Lib.hid (X3.out.bel hbz)
  have Z4 := Lib.hid (X4.out.bel hbz)
  have Z5 := Lib.hid (X5.out.bel hbz)
  have Z8 := Lib.hid (X8.out.bel hbz)
  have Z10 := Lib.hid (X10.out.bel hbz)
  have Z12 := Lib.hid (X12.out.bel hbz)
  have Z14 := Lib.hid (X14.out.bel hbz)
  have Zlt := Lib.hid (show g3 < wq14.heap.size ∧ g4 < wq14.heap.size ∧ g5 < wq14.heap.size ∧ g8 < wq14.heap.size ∧ g10 < wq14.heap.size ∧ g12 < wq14.heap.size ∧ g14 < wq14.heap.size from ⟨X3.out.lt, X4.out.lt, X5.out.lt, X8.out.lt, X10.out.lt, X12.out.lt, X14.out.lt⟩)
  have Zs := Lib.hid (show w.heap.size ≤ g16 ∧ w.heap.size ≤ g17 from ⟨Nat.le_trans Xb.out.size hz16, Nat.le_trans Xb.out.size hz17⟩)
  have Zb := Lib.hid (bel_tr Xb.out hbz)
  have Zg := Lib.hid (show wq14.heap.size ≤ g16 ∧ wq14.heap.size ≤ g17 ∧ g16 ≠ g17 from ⟨hz16, hz17, hne⟩)
  clear X3 X4 X5 X8 X10 X12 X14 Xb hz16 hz17 hne hbz HQa HQb
  go_wp2_with (first
    | ((with_reducible refine wpList_storePol (o := ⟨none, _, _, _, _, _⟩) rfl (.tmp 16) _ rfl rfl rfl hB16 ?_); intro v1 hB16b hS1; have hB17a := hB17.stays hS1 (Ne.symm Zg.out.2.2))
    | ((with_reducible refine wpList_storePol (o := ⟨none, _, _, _, _, _⟩) rfl (.tmp 17) _ rfl rfl rfl hB17a ?_); intro v2 hB17b hS2
       have R : Hid (RdS w g3 g4 g5 g8 g10 g12 g14 g16 g17 vi vr vp a b x y r s Pa Pb v2) := by
         have h := Zlt.out
         have k := Zg.out
         have t : ∀ {g : Nat} {t : TypeId} {cs : Array Value}, g < wq14.heap.size → Bk wz g t cs → Bk v2 g t cs := fun hl hB => (hB.stays hS1 (by omega)).stays hS2 (by omega)
         exact Lib.hid ⟨t h.1 Z3.out, t h.2.1 Z4.out, t h.2.2.1 Z5.out, t h.2.2.2.1 Z8.out, t h.2.2.2.2.1 Z10.out, t h.2.2.2.2.2.1 Z12.out, t h.2.2.2.2.2.2 Z14.out, hB16b.stays hS2 k.2.2, hB17b, (Zb.out.trans (hS1.below Zs.out.1)).trans (hS2.below Zs.out.2)⟩
       clear Z3 Z4 Z5 Z8 Z10 Z12 Z14 Zlt Zs Zb Zg hB16 hB17 hB17a hB16b hB17b hS1 hS2
       refine hold ?_))
  refine Lib.hid ?_
  go_wp2_with (fail)
  have La := Lib.hid R.out.b4.rangeAd
  have Lb := Lib.hid R.out.b5.rangeAd
  refine wp_region_bel (by kernel_rfl) (by kernel_rfl) ?_
  repeat (first
    | go_big_quiet_skip
    | (go_big_quiet_want; first
        | ((with_reducible show (⟨some 54, _, _, _, _, _⟩ : Oper).quiet _ _ _ _); refine quiet_loadAd (o := ⟨some 54, _, _, _, _, _⟩) _ rfl rfl La.out (by simp only [Act.put, List.setIfInBounds_toArray, List.set_cons_succ, List.set_cons_zero]; exact rfl) ?_; go_big_quiet_on)
        | ((with_reducible show (⟨some 56, _, _, _, _, _⟩ : Oper).quiet _ _ _ _); refine quiet_loadAd (o := ⟨some 56, _, _, _, _, _⟩) _ rfl rfl Lb.out (by simp only [Act.put, List.setIfInBounds_toArray, List.set_cons_succ, List.set_cons_zero]; exact rfl) ?_; go_big_quiet_on)
        | (go_big_quiet_op; first | go_big_quiet_on | go_big_quiet_call ((go_at_call 20; (first | (with_reducible refine bel_call (HSa.out _)) | (with_reducible refine bel_call (HSb.out _))))))))
  refine wpQuiet_nil ?_
  rintro _ ⟨zz, rfl⟩
  have R2 := Lib.hid (R.out.bel zz.bel)
  clear R La Lb
  have R := R2
  clear R2
  go_upto_region 7 with (fail)
  go_cut [20] (fun s20 wx => RdA w g3 g4 g5 g8 g10 g12 g14 g16 g17 vi vr vp a b x y r s Pa Pb [ordB true false, ordB (true && (sa == sx)) (false && (sb == sy)), ordB (!x.dep) (!y.dep), ordB x.hom y.hom, ordB (true && (Pa.lab == Px.lab)) (false && (Pb.lab == Py.lab)), ordB (decide (Pb.prec < Pa.prec)) (decide (Pa.prec < Pb.prec)), ordB (!r.tun) (!s.tun), ordB (decide (sa < sb)) (decide (sb < sa)), 0] s20 wx)
  case first =>
    clear Hf hD H9 Hca Hcb HCa HCb
    have B0 : Hid (∀ w', Calls Tryz.prog 21 #[.bool true, .bool false] w' (InPost w' (ordB true false))) := Lib.hid (HBy.out true false)
    have B1 : Hid (∀ w', Calls Tryz.prog 21 #[.bool (sa == sx), .bool false] w' (InPost w' (ordB (sa == sx) false))) := Lib.hid (HBy.out (sa == sx) false)
    have B2 : Hid (∀ w', Calls Tryz.prog 21 #[.bool (!x.dep), .bool (!y.dep)] w' (InPost w' (ordB (!x.dep) (!y.dep)))) := Lib.hid (HBy.out (!x.dep) (!y.dep))
    have B3 : Hid (∀ w', Calls Tryz.prog 21 #[.bool x.hom, .bool y.hom] w' (InPost w' (ordB x.hom y.hom))) := Lib.hid (HBy.out x.hom y.hom)
    have B4 : Hid (∀ w', Calls Tryz.prog 21 #[.bool (Pa.lab == Px.lab), .bool false] w' (InPost w' (ordB (Pa.lab == Px.lab) false))) := Lib.hid (HBy.out (Pa.lab == Px.lab) false)
    have B5 : Hid (∀ w', Calls Tryz.prog 21 #[.bool (decide (Pb.prec < Pa.prec)), .bool (decide (Pa.prec < Pb.prec))] w' (InPost w' (ordB (decide (Pb.prec < Pa.prec)) (decide (Pa.prec < Pb.prec))))) := Lib.hid (HBy.out (decide (Pb.prec < Pa.prec)) (decide (Pa.prec < Pb.prec)))
    have B6 : Hid (∀ w', Calls Tryz.prog 21 #[.bool (!r.tun), .bool (!s.tun)] w' (InPost w' (ordB (!r.tun) (!s.tun)))) := Lib.hid (HBy.out (!r.tun) (!s.tun))
    have B7 : Hid (∀ w', Calls Tryz.prog 21 #[.bool (decide (sa < sb)), .bool (decide (sb < sa))] w' (InPost w' (ordB (decide (sa < sb)) (decide (sb < sa))))) := Lib.hid (HBy.out (decide (sa < sb)) (decide (sb < sa)))
    have HE : Hid (Tryz.prog.built 60 [(0, .int .i64 (ordB true false)), (1, .int .i64 (ordB (sa == sx) false)), (2, .int .i64 (ordB (!x.dep) (!y.dep))), (3, .int .i64 (ordB x.hom y.hom)), (4, .int .i64 (ordB (Pa.lab == Px.lab) false)), (5, .int .i64 (ordB (decide (Pb.prec < Pa.prec)) (decide (Pa.prec < Pb.prec)))), (6, .int .i64 (ordB (!r.tun) (!s.tun))), (7, .int .i64 (ordB (decide (sa < sb)) (decide (sb < sa))))] = some (giA [ordB true false, ordB (sa == sx) false, ordB (!x.dep) (!y.dep), ordB x.hom y.hom, ordB (Pa.lab == Px.lab) false, ordB (decide (Pb.prec < Pa.prec)) (decide (Pa.prec < Pb.prec)), ordB (!r.tun) (!s.tun), ordB (decide (sa < sb)) (decide (sb < sa)), 0])) := Lib.hid (built_i9b _ _ _ _ _ _ _ _)
    clear HBy
    generalize ho0 : ordB true false = o0 at B0 HE
    generalize ho1 : ordB (sa == sx) false = o1 at B1 HE
    generalize ho2 : ordB (!x.dep) (!y.dep) = o2 at B2 HE
    generalize ho3 : ordB x.hom y.hom = o3 at B3 HE
    generalize ho4 : ordB (Pa.lab == Px.lab) false = o4 at B4 HE
    generalize ho5 : ordB (decide (Pb.prec < Pa.prec)) (decide (Pa.prec < Pb.prec)) = o5 at B5 HE
    generalize ho6 : ordB (!r.tun) (!s.tun) = o6 at B6 HE
    generalize ho7 : ordB (decide (sa < sb)) (decide (sb < sa)) = o7 at B7 HE
    apply wp_region_bel_new1 81 (by kernel_rfl) (by exact rfl) rfl rfl i9_zero
    case hB => exact hB39
    case hds => kernel_rfl
    case hH =>
      intro w0 hb0
      have R0 := R.out.bel hb0
      have k8_20 := R0.b8.cell 20
      rw [ifcA_20] at k8_20
      have x8_20 := fun z : BelT w0 => z.cell k8_20
      clear k8_20
      have k8_21 := R0.b8.cell 21
      rw [ifcA_21] at k8_21
      have x8_21 := fun z : BelT w0 => z.cell k8_21
      clear k8_21
      have k10_20 := R0.b10.cell 20
      rw [ifcA_20] at k10_20
      have x10_20 := fun z : BelT w0 => z.cell k10_20
      clear k10_20
      have k10_21 := R0.b10.cell 21
      rw [ifcA_21] at k10_21
      have x10_21 := fun z : BelT w0 => z.cell k10_21
      clear k10_21
      have k12_20 := R0.b12.cell 20
      rw [rtA_20] at k12_20
      have x12_20 := fun z : BelT w0 => z.cell k12_20
      clear k12_20
      have k14_20 := R0.b14.cell 20
      rw [rtA_20] at k14_20
      have x14_20 := fun z : BelT w0 => z.cell k14_20
      clear k14_20
      have k16_19 := R0.b16.cell 19
      rw [polA_19] at k16_19
      have x16_19 := fun z : BelT w0 => z.cell k16_19
      clear k16_19
      have k17_19 := R0.b17.cell 19
      rw [polA_19] at k17_19
      have x17_19 := fun z : BelT w0 => z.cell k17_19
      clear k17_19
      have k16_20 := R0.b16.cell 20
      rw [polA_20] at k16_20
      have x16_20 := fun z : BelT w0 => z.cell k16_20
      clear k16_20
      have L3 := Lib.hid R0.b3.rangeNet
      have L4 := Lib.hid R0.b4.rangeAd
      have L5 := Lib.hid R0.b5.rangeAd
      have L8 := Lib.hid R0.b8.rangehd_ifc
      have L10 := Lib.hid R0.b10.rangehd_ifc
      have Hb := Lib.hid R0.b
      clear R0
      simp only [List.append_eq, List.cons_append, List.nil_append, List.take_succ_cons, List.take_zero]
      repeat (first
        | go_big_quiet_skip
        | (go_big_quiet_want; first
            | ((with_reducible show (⟨some 65, _, _, _, _, _⟩ : Oper).quiet _ _ _ _); refine quiet_loadAd (o := ⟨some 65, _, _, _, _, _⟩) _ rfl rfl L8.out (by simp only [Act.put, List.setIfInBounds_toArray, List.set_cons_succ, List.set_cons_zero]; exact rfl) ?_; go_big_quiet_on)
            | ((with_reducible show (⟨some 94, _, _, _, _, _⟩ : Oper).quiet _ _ _ _); refine quiet_loadK (o := ⟨some 94, _, _, _, _, _⟩) 26 _ rfl rfl (cs := #[vi, vr, vp]) rfl L3.out net_under rfl net_size (by simp only [Act.put, List.setIfInBounds_toArray, List.set_cons_succ, List.set_cons_zero]; exact rfl) ?_; go_big_quiet_on)
            | ((with_reducible show (⟨some 96, _, _, _, _, _⟩ : Oper).quiet _ _ _ _); refine quiet_loadAd (o := ⟨some 96, _, _, _, _, _⟩) _ rfl rfl L8.out (by simp only [Act.put, List.setIfInBounds_toArray, List.set_cons_succ, List.set_cons_zero]; exact rfl) ?_; go_big_quiet_on)
            | ((with_reducible show (⟨some 98, _, _, _, _, _⟩ : Oper).quiet _ _ _ _); refine quiet_fieldOne (o := ⟨some 98, _, _, _, _, _⟩) _ _ 2 rfl rfl pol_under (ty := 3) (off := 20) (by kernel_rfl) Tryz.underlying3 rfl (polA_20 _) (by simp only [Act.put, List.setIfInBounds_toArray, List.set_cons_succ, List.set_cons_zero]; exact rfl) ?_; go_big_quiet_on)
            | ((with_reducible show (⟨some 138, _, _, _, _, _⟩ : Oper).quiet _ _ _ _); refine quiet_bld (o := ⟨some 138, _, _, _, _, _⟩) 60 _ rfl HE.out rfl (by simp only [Act.put, List.setIfInBounds_toArray, List.set_cons_succ, List.set_cons_zero]; exact rfl) ?_; go_big_quiet_on)
            | (go_big_quiet_op; first | go_big_quiet_on | go_big_quiet_call ((go_at_call 20; (first | (with_reducible refine bel_call (HSx.out _))))) | go_big_quiet_call ((go_at_call 21; (first | (with_reducible refine bel_call (B0.out _)) | (with_reducible refine bel_call (B1.out _)) | (with_reducible refine bel_call (B2.out _)) | (with_reducible refine bel_call (B3.out _)) | (with_reducible refine bel_call (B4.out _)) | (with_reducible refine bel_call (B5.out _)) | (with_reducible refine bel_call (B6.out _)) | (with_reducible refine bel_call (B7.out _))))) | go_big_quiet_call ((go_at_call 19; (first | (with_reducible refine bel_call (HQx.out _ (HN.out.below (bel_tr Hb.out (BelT.bel _)))))))))))
      refine wpQuiet_nil ?_
      rfl
    case hT =>
      intro g20 wz hz20 hB20 hbz
      simp only [List.append_eq, List.cons_append, List.nil_append, List.drop_succ_cons, List.drop_zero, Act.put, List.setIfInBounds_toArray, List.set_cons_succ, List.set_cons_zero]
      have R2 := Lib.hid (R.out.bel hbz)
      have hz : w.heap.size ≤ g20 := Nat.le_trans R.out.b.size hz20
      have Hlt := Lib.hid (show g3 < g20 ∧ g4 < g20 ∧ g5 < g20 ∧ g8 < g20 ∧ g10 < g20 ∧ g12 < g20 ∧ g14 < g20 ∧ g16 < g20 ∧ g17 < g20 from ⟨Nat.lt_of_lt_of_le R.out.b3.lt hz20, Nat.lt_of_lt_of_le R.out.b4.lt hz20, Nat.lt_of_lt_of_le R.out.b5.lt hz20, Nat.lt_of_lt_of_le R.out.b8.lt hz20, Nat.lt_of_lt_of_le R.out.b10.lt hz20, Nat.lt_of_lt_of_le R.out.b12.lt hz20, Nat.lt_of_lt_of_le R.out.b14.lt hz20, Nat.lt_of_lt_of_le R.out.b16.lt hz20, Nat.lt_of_lt_of_le R.out.b17.lt hz20⟩)
      clear R hz20 hbz
      go_wp2_with (first
        | ((with_reducible show wpList _ _ _ (⟨none, .store _ _ _, _, _, _, _⟩ :: _) _ _); refine wpList_storeB (o := ⟨none, _, _, _, _, _⟩) rfl _ (.tmp 20) _ rfl rfl rfl hB20 i9_size rfl (giA_one _) ?_; intro v2 hB2 hS2
           have h := Hlt.out
           have RF : Hid (RdS w g3 g4 g5 g8 g10 g12 g14 g16 g17 vi vr vp a b x y r s Pa Pb v2) := Lib.hid ⟨R2.out.b3.stays hS2 (by omega), R2.out.b4.stays hS2 (by omega), R2.out.b5.stays hS2 (by omega), R2.out.b8.stays hS2 (by omega), R2.out.b10.stays hS2 (by omega), R2.out.b12.stays hS2 (by omega), R2.out.b14.stays hS2 (by omega), R2.out.b16.stays hS2 (by omega), R2.out.b17.stays hS2 (by omega), R2.out.b.trans (hS2.below hz)⟩
           have BF := Lib.hid hB2
           clear R2 hB20 hB2 hS2 Hlt h))
      go_meet
      refine ⟨g20, rfl, hz, ?_, RF.out⟩
      subst ho0 ho1 ho2 ho3 ho4 ho5 ho6 ho7
      exact BF.out
  case rest =>
    obtain ⟨g20, rfl, hz, hB20, hR⟩ := hcut
    have R := Lib.hid hR
    have BF := Lib.hid hB20
    clear hR hB20 HQx HQy HSa HSb HSx HSy
    obtain ⟨wo, hwo⟩ : ∃ wo, wo = wc := ⟨_, rfl⟩
    rw [← hwo] at R BF ⊢
    clear hwo
    generalize ordB true false = o0 at *
    generalize ordB (true && (sa == sx)) (false && (sb == sy)) = o1 at *
    generalize ordB (!x.dep) (!y.dep) = o2 at *
    generalize ordB x.hom y.hom = o3 at *
    generalize ordB (true && (Pa.lab == Px.lab)) (false && (Pb.lab == Py.lab)) = o4 at *
    generalize ordB (decide (Pb.prec < Pa.prec)) (decide (Pa.prec < Pb.prec)) = o5 at *
    generalize ordB (!r.tun) (!s.tun) = o6 at *
    generalize ordB (decide (sa < sb)) (decide (sb < sa)) = o7 at *
    have k4 := R.out.b4.cell 0
    rw [adA_0] at k4
    have k5 := R.out.b5.cell 0
    rw [adA_0] at k5
    go_upto_if 143 with (fail)
    go_cut [21] (fun s21 wx => Bk wx g20 60 (giA [o0, o1, o2, o3, o4, o5, o6, o7, o8]) ∧ Below w.heap.size w wx)
    case first =>
      clear hD Hf
      by_cases hf : a.fam = b.fam
      · have i6 : (a.fam == b.fam) = true := by simpa using hf
        have Ho : Hid (o8 = ordB (decide (cb < ca)) (decide (ca < cb))) := Lib.hid (by rw [H9.out, if_pos hf])
        clear hf H9
        have Ea : Hid (ca = min cma x.bits) := Lib.hid Hca.out
        have Eb : Hid (cb = 0) := Lib.hid Hcb.out
        clear Hca Hcb
        go_wp2_with (fail)
        have LA := Lib.hid R.out.b4.rangeAd
        have LX := Lib.hid R.out.b8.rangehd_ifc
        have k19 := R.out.b8.cell 19
        rw [ifcA_19] at k19
        have x19 := fun z : BelT wo => z.cell k19
        clear k19
        refine wp_region_bel_tail 6 (by kernel_rfl) (by kernel_rfl) ?_
        simp only [List.take_succ_cons, List.take_zero, List.drop_succ_cons, List.drop_zero]
        repeat (first
          | go_big_quiet_skip
          | (go_big_quiet_want; first
              | ((with_reducible show (⟨some 145, _, _, _, _, _⟩ : Oper).quiet _ _ _ _); refine quiet_loadAd (o := ⟨some 145, _, _, _, _, _⟩) _ rfl rfl LA.out (by simp only [Act.put, List.setIfInBounds_toArray, List.set_cons_succ, List.set_cons_zero]; exact rfl) ?_; go_big_quiet_on)
              | ((with_reducible show (⟨some 147, _, _, _, _, _⟩ : Oper).quiet _ _ _ _); refine quiet_loadAd (o := ⟨some 147, _, _, _, _, _⟩) _ rfl rfl LX.out (by simp only [Act.put, List.setIfInBounds_toArray, List.set_cons_succ, List.set_cons_zero]; exact rfl) ?_; go_big_quiet_on)
              | (go_big_quiet_op; first | go_big_quiet_on | go_big_quiet_call ((go_at_call 22; with_reducible refine bel_call (HCa.out _))))))
        refine wpQuiet_nil ?_
        rintro _ ⟨ua, rfl⟩
        have R2 := Lib.hid (R.out.bel ua.bel)
        have BF2 := Lib.hid (BF.out.bel ua.bel)
        clear x19 LA LX R BF
        have R := R2
        have BF := BF2
        clear R2 BF2
        go_wp2_with (go_at_call 21; (with_reducible refine (HBy.out _ _ _).mono ?_); rintro e w7 ⟨rfl, hb7⟩; have hB7 := BF.out.bel hb7; have c8 : w7.cell? ⟨g20, 8, none⟩ = some (.int .i64 0) := hB7.cell 8; have f8 := hB7.free 8; have HB7 := Lib.hid hB7; have Hbz := Lib.hid (bel_tr R.out.b hb7); clear hB7 hb7 BF R; refine hold ?_)
        refine Lib.hid ?_
        go_wp2_with (fail)
        go_meet
        refine ⟨?_, Hbz.out.setCell (p := ⟨g20, 8, none⟩) hz _⟩
        rw [Ho.out, Ea.out, Eb.out]
        exact HB7.out.set_ 8 _
      · have i6 : (a.fam == b.fam) = false := by simpa using hf
        have Ho : Hid (o8 = 0) := Lib.hid (by rw [H9.out, if_neg hf])
        clear hf
        go_wp2_with (fail)
        go_meet
        exact ⟨by rw [Ho.out]; exact BF.out, R.out.b⟩
    case rest =>
      obtain ⟨hB20, hb20⟩ := hcut
      obtain ⟨wf, hwf⟩ : ∃ wf, wf = wc := ⟨_, rfl⟩
      rw [← hwf] at hB20 hb20 ⊢
      clear hwf R BF k4 k5 H9 Hca Hcb HCa HCb HBy
      have hD9 : D = [o0, o1, o2, o3, o4, o5, o6, o7, o8] := hD
      have B12 : Hid (Bk wf g20 60 (giA D)) := Lib.hid (by rw [hD9]; exact hB20)
      have HLn : Hid (D.length = 9) := Lib.hid (by rw [hD9]; rfl)
      have Hb9 := Lib.hid hb20
      clear hD hD9 hB20 hb20
      go_wp2_with (fail)
      go_loopw [23] (fun i wr => ∃ k : Nat, k ≤ 9 ∧ i = .int .i64 k ∧ fst1 D = fst1 (D.drop k) ∧ fstI D 0 = fstI (D.drop k) k ∧ wr = wf) (fun i _ => 9 - (intOf i).toNat)
      case atStart => exact ⟨0, by omega, rfl, rfl, rfl, rfl⟩
      case round =>
        obtain ⟨k, hk, rfl, h1, h2, rfl⟩ := hrel
        by_cases hlt : k < 9
        · have hkL : k < D.length := by rw [HLn.out]; exact hlt
          obtain ⟨v, hd, hc⟩ : ∃ v : Int, D.drop k = v :: D.drop (k + 1) ∧ wr.cell? ⟨g20, k, none⟩ = some (.int .i64 v) := ⟨D[k], List.drop_eq_getElem_cons hkL, by have := B12.out.cell k; rw [giA_at hkL] at this; exact this⟩
          rw [hd] at h1 h2
          have j0 : (k : Int) < 9 := by omega
          by_cases hv : v = 0
          · rw [fst1_cons _ _ hv] at h1
            rw [fstI_cons _ _ _ hv] at h2
            have G1 := Lib.hid h1
            have G2 := Lib.hid h2
            have i1 : (v != 0) = false := by simp [hv]
            clear h1 h2 hd hv hkL
            go_wp2_with (fail)
            go_roundw
            case rel => exact ⟨k + 1, by omega, by go_num, G1.out, G2.out, by first | rfl | trivial⟩
            case measure => simp [intOf]; omega
          · rw [fst1_hit _ _ hv] at h1
            rw [fstI_hit _ _ _ hv] at h2
            have G : Hid (T = (v, (k : Int) + 1)) := Lib.hid (by rw [Hf.out, h1, h2, if_neg hv])
            have i1 : (v != 0) = true := by simpa using hv
            clear h1 h2 hd hv hkL
            go_wp2_with (fail)
            go_ret2
            exact ⟨by rw [G.out]; rfl, Hb9.out⟩
        · have hk9 : k = 9 := by omega
          subst hk9
          have hd : D.drop 9 = [] := List.drop_eq_nil_of_le (by rw [HLn.out]; omega)
          rw [hd] at h1 h2
          have G : Hid (T = (0, 10)) := Lib.hid (by rw [Hf.out, h1]; rfl)
          clear h1 h2 hd
          go_wp2_with (fail)
          go_ret2
          exact ⟨by rw [G.out]; rfl, Hb9.out⟩
end Go.Proofs.YthlnndjkocnfcaaGreatDoor
