/- Contracts and plain lemmas of our own, merged. -/
import Derived.Test.YthlnndjkocnfcaaGreatDoorZZDS1
import Derived.Test.YthlnndjkocnfcaaGreatDoorZZDS10
import Derived.Test.YthlnndjkocnfcaaGreatDoorZZDS12
import Derived.Test.YthlnndjkocnfcaaGreatDoorZZDS13
import Derived.Test.YthlnndjkocnfcaaGreatDoorZZDS21
import Derived.Test.YthlnndjkocnfcaaGreatDoorZZDS23
import Derived.Test.YthlnndjkocnfcaaGreatDoorZZDS24
import Derived.Test.YthlnndjkocnfcaaGreatDoorZZDS25
/- source.aimOf (its drawn region is printed by mk_srf.py). -/
namespace Go.Proofs.YthlnndjkocnfcaaGreatDoor
open Go.RowKit
attribute [local go_sem] ba_get ext_take ext_drop ext_any ba_app

/-! ### aimOf -/
structure EnvS (w : World) : Prop where
  t : Tab w
  m : MaxI w
  a : TabA w
theorem EnvS.below {w w' : World} (h : EnvS w) (hb : Below w.heap.size w w') : EnvS w' := ⟨h.t.below hb, h.m.below hb, h.a.below hb⟩
def AimPost (w : World) (x : Aim) (e : Ending) (w' : World) : Prop := e = .returned (.agg (aimA x)) ∧ Below w.heap.size w w'
theorem Bk.rangeNet {w : World} {g : Nat} {t : TypeId} {vi vr vp : Value} (h : Bk w g t #[vi, vr, vp]) : w.rangeAt g 0 [vi, vr, vp] := h.rangeL (cs := [vi, vr, vp]) 0 [vi, vr, vp] [] (by simp)
theorem aimA_z (d : Ad) (s l i : Int) (b : Bool) (h : (-9223372036854775808 ≤ s ∧ s ≤ 9223372036854775807) ∧ (-9223372036854775808 ≤ l ∧ l ≤ 9223372036854775807) ∧ (-9223372036854775808 ≤ i ∧ i ≤ 9223372036854775807)) : (aimA ⟨d, s, l, i, b, h⟩).setIfInBounds 17 (.int .i64 0) = aimA ⟨z0A d, s, l, i, b, h⟩ := by
  unfold aimA aimL
  simp only
  rw [List.setIfInBounds_toArray, List.set_append_left _ _ (by rw [adL_len]; omega)]
  have := adA_setZ d 0 (by decide)
  unfold adA at this
  rw [List.setIfInBounds_toArray] at this
  have := congrArg Array.toList this
  simp only at this
  rw [this]
  rfl
set_option maxRecDepth 100000 in
set_option maxHeartbeats 4000000 in
theorem aimof_any (vi vr vp : Value) (N : Nt) (d : Ad) (w : World) (hN : NetRaw w vi vr vp N) (hE : EnvS w) (hlP : N.P.length ≤ 1000000) (hlR : N.R.length ≤ 1000000) :
    Calls Tryz.prog 51 #[.agg #[vi, vr, vp], .agg (adA d)] w (AimPost w (aimN N d)) := by
  have HN := Lib.hid hN
  have HE := Lib.hid hE
  have Hns := Lib.hid (show (Tryz.prog.info? 26).map (·.size) = some (#[vi, vr, vp] : Array Value).size from net_size)
  have HW : Hid (∀ w', NetRaw w' vi vr vp N → Calls Tryz.prog 27 #[.agg #[vi, vr, vp], .agg (adA d)] w' (WayPost w' (wayP d (rtN N.R)))) := Lib.hid (fun w' h' => way_any vi vr vp N d w' h' hlR)
  have HP : Hid (∀ w', NetRaw w' vi vr vp N → EnvS w' → Calls Tryz.prog 26 #[.agg #[vi, vr, vp], .agg (adA d)] w' (PolPost w' (ofP d (polN N.P)))) := Lib.hid (fun w' h' k => polof_any vi vr vp N d w' h' k.t k.m hlP)
  have HS : Hid (∀ w', EnvS w' → Calls Tryz.prog 28 #[.agg (adA d)] w' (InPost w' (scoA d))) := Lib.hid (fun w' k => scope_any d w' k.a)
  have H1 := Lib.hid (built_aim d (scoA d) (ofP d (polN N.P)).lab (wayP d (rtN N.R)).1.idx (wayP d (rtN N.R)).2 ⟨by have := scoA_ok d; omega, (ofP d (polN N.P)).ok.2, (wayP d (rtN N.R)).1.ok⟩)
  have Hz := Lib.hid (aimA_z d (scoA d) (ofP d (polN N.P)).lab (wayP d (rtN N.R)).1.idx (wayP d (rtN N.R)).2 ⟨by have := scoA_ok d; omega, (ofP d (polN N.P)).ok.2, (wayP d (rtN N.R)).1.ok⟩)
  generalize hA : (⟨d, scoA d, (ofP d (polN N.P)).lab, (wayP d (rtN N.R)).1.idx, (wayP d (rtN N.R)).2, ⟨by have := scoA_ok d; omega, (ofP d (polN N.P)).ok.2, (wayP d (rtN N.R)).1.ok⟩⟩ : Aim) = A at *
  have Hf : Hid ((aimA A).setIfInBounds 17 (.int .i64 0) = aimA (aimN N d)) := Lib.hid Hz.out
  clear hN hE Hz hA hlP hlR
  generalize aimN N d = A2 at *
  generalize hw : wayP d (rtN N.R) = wv at *
  obtain ⟨r, wb⟩ := wv
  generalize ofP d (polN N.P) = P at *
  generalize scoA d = s at *
  clear hw
  go_enter Tryz.func51, Tryz.ntmps51
  go_wp2_with (first
    | ((with_reducible refine wpList_boxB (o := ⟨some 2, _, _, _, _, _⟩) rfl _ _ rfl rfl ?_); intro g2 w1 hg hB2 hb1 hs; have hg2 : w.heap.size ≤ g2 := Nat.le_of_eq hg.symm; clear hg hs)
    | ((with_reducible refine wpList_boxB (o := ⟨some 3, _, _, _, _, _⟩) rfl _ _ rfl rfl ?_); intro g3 w2 hg hB3 hb2 hs; have hg3 : w1.heap.size ≤ g3 := Nat.le_of_eq hg.symm; have hB22 := hB2.bel hb2; have hb02 := bel_tr hb1 hb2; clear hg hs)
    | ((with_reducible refine wpList_alloc_aim (o := ⟨some 4, _, _, _, _, _⟩) rfl rfl ?_); intro g4 w3 hg hB4 hb3 hs; have hg4 : w2.heap.size ≤ g4 := Nat.le_of_eq hg.symm; have hB23 := hB22.bel hb3; have hB33 := hB3.bel hb3; have hb03 := bel_tr hb02 hb3; have hw4 : w.heap.size ≤ g4 := Nat.le_trans hb02.size hg4; clear hg hs)
    | (with_reducible refine wpList_loadB (o := ⟨some 9, _, _, _, _, _⟩) rfl _ _ rfl rfl hB23 net_under rfl Hns.out ?_)
    | (with_reducible refine wpList_loadAd (o := ⟨some 10, _, _, _, _, _⟩) rfl _ rfl rfl hB33 ?_)
    | (go_at_call 27; refine (HW.out _ (HN.out.below hb03)).mono ?_; rintro e w4 ⟨rfl, hb4⟩; have hB24 := hB23.bel hb4; have hB34 := hB33.bel hb4; have hB44 := hB4.bel hb4; have hb04 := bel_tr hb03 hb4)
    | ((with_reducible refine wpList_alloc_rt (o := ⟨some 5, _, _, _, _, _⟩) rfl rfl ?_); intro g5 w5 hg hB5 hb5 hs; have hg5 : w4.heap.size ≤ g5 := Nat.le_of_eq hg.symm; have hB25 := hB24.bel hb5; have hB35 := hB34.bel hb5; have hB45 := hB44.bel hb5; have hb05 := bel_tr hb04 hb5; clear hg hs)
    | ((with_reducible refine wpList_store_rt (o := ⟨none, _, _, _, _, _⟩) rfl (.tmp 5) _ rfl rfl rfl hB5 ?_); intro w6 hB56 hS6
       have hB26 := hB25.stays hS6 (by have := hB24.lt; omega)
       have hB36 := hB35.stays hS6 (by have := hB34.lt; omega)
       have hB46 := hB45.stays hS6 (by have := hB44.lt; omega)
       have hb06 : Below w.heap.size w w6 := hb05.trans (hS6.below (Nat.le_trans hb04.size hg5))
       clear hB25 hB35 hB45 hB24 hB34 hB44 hB23 hB33 hB22 hB2 hB3 hB4 hB5 hS6))
  have hR2 : ∀ w', Below w6.heap.size w6 w' → w'.rangeAt g2 0 [vi, vr, vp] := fun w' h => (hB26.bel h).rangeNet
  have hR3 : ∀ w', Below w6.heap.size w6 w' → w'.rangeAt g3 0 (adL d) := fun w' h => (hB36.bel h).rangeAd
  have hC5 : ∀ w', Below w6.heap.size w6 w' → w'.cell? ⟨g5, 19, none⟩ = some (.int .i64 r.idx) := fun w' h => by have := (hB56.bel h).cell 19; rw [rtA_19] at this; exact this
  apply region_cut (R := fun g w' => Bk w' g 77 (aimA A) ∧ w6.heap.size ≤ g ∧ Below w6.heap.size w6 w')
  case h =>
    refine wp_region_held (S := fun w' => Below w6.heap.size w6 w') (by kernel_rfl) ?_
    refine wpAnyH_take (i := 0) (oi := ⟨some 14, Op.load 29 (Operand.tmp 3), _, _, _, none⟩) (v := Value.agg (adA d)) rfl (by kernel_rfl) (by kernel_rfl) (by kernel_rfl) (fun _ _ _ h => nomatch h.1) (yieldsIf_loadAd (by rfl) _ rfl rfl hR3) (Below.refl _ _).drew ?_
    simp only [Act.put, List.setIfInBounds_toArray, List.set_cons_zero, List.set_cons_succ]
    refine wpAnyH_take (i := 1) (oi := ⟨some 15, Op.load 29 (Operand.tmp 3), _, _, _, none⟩) (v := Value.agg (adA d)) rfl (by kernel_rfl) (by kernel_rfl) (by kernel_rfl) (fun _ _ _ h => nomatch h.1) (yieldsIf_loadAd (by rfl) _ rfl rfl hR3) (Below.refl _ _).drew ?_
    simp only [Act.put, List.setIfInBounds_toArray, List.set_cons_zero, List.set_cons_succ]
    refine wpAnyH_take (i := 3) (oi := ⟨some 17, Op.load 26 (Operand.tmp 2), _, _, _, none⟩) (v := Value.agg #[vi, vr, vp]) rfl (by kernel_rfl) (by kernel_rfl) (by kernel_rfl) (fun _ _ _ h => nomatch h.1) (yieldsIf_load_mid (by rfl) _ _ rfl _ _ rfl [vi, vr, vp] _ hR2 net_under rfl net_size) (Below.refl _ _).drew ?_
    simp only [Act.put, List.setIfInBounds_toArray, List.set_cons_zero, List.set_cons_succ]
    refine wpAnyH_take (i := 4) (oi := ⟨some 18, Op.load 29 (Operand.tmp 3), _, _, _, none⟩) (v := Value.agg (adA d)) rfl (by kernel_rfl) (by kernel_rfl) (by kernel_rfl) (fun _ _ _ h => nomatch h.1) (yieldsIf_loadAd (by rfl) _ rfl rfl hR3) (Below.refl _ _).drew ?_
    simp only [Act.put, List.setIfInBounds_toArray, List.set_cons_zero, List.set_cons_succ]
    refine wpAnyH_take (i := 7) (oi := ⟨some 21, Op.fieldAddr 46 (Operand.tmp 5) 1, _, _, _, none⟩) (v := Value.pointer (some ⟨g5, 19, none⟩)) rfl (by kernel_rfl) (by kernel_rfl) (by kernel_rfl) (fun _ _ _ h => nomatch h.1) (Or.inl ⟨by rfl, fun w' hS' => by go_simp⟩) (Below.refl _ _).drew ?_
    simp only [Act.put, List.setIfInBounds_toArray, List.set_cons_zero, List.set_cons_succ]
    refine wpAnyH_take (i := 8) (oi := ⟨some 22, Op.load 3 (Operand.tmp 21), _, _, _, none⟩) (v := Value.int .i64 r.idx) rfl (by kernel_rfl) (by kernel_rfl) (by kernel_rfl) (fun _ _ _ h => nomatch h.1) (yieldsIf_loadC (by rfl) _ _ rfl rfl hC5 Tryz.underlying3 rfl) (Below.refl _ _).drew ?_
    simp only [Act.put, List.setIfInBounds_toArray, List.set_cons_zero, List.set_cons_succ]
    refine wpAnyH_take (i := 9) (oi := ⟨some 23, Op.move (Operand.tmp 6), _, _, _, none⟩) (v := Value.bool wb) rfl (by kernel_rfl) (by kernel_rfl) (by kernel_rfl) (fun _ _ _ h => nomatch h.1) (Or.inl ⟨by rfl, fun w' hS' => by go_simp⟩) (Below.refl _ _).drew ?_
    simp only [Act.put, List.setIfInBounds_toArray, List.set_cons_zero, List.set_cons_succ]
    refine wpAnyH_all (rs := [2, 11]) (by kernel_rfl) (by decide) ?_
    intro i hi
    simp only [List.mem_cons, List.not_mem_nil, or_false] at hi
    rcases hi with rfl | rfl
    · skip
      refine wpOp_callM (o := ⟨some 16, Op.call { callee := Callee.value (Operand.func 28), args := #[Operand.tmp 15], argTypes := #[29] }, _, _, _, none⟩) rfl (by rfl) (by go_simp) (HS.out _ (HE.out.below (bel_tr hb06 ((Below.refl _ _).drew)))) ?_
      rintro e x1 ⟨rfl, hy1⟩
      have hx1 := bel_drew hy1
      refine ⟨_, rfl, ?_⟩
      show _ ∧ _
      refine ⟨hx1, ?_⟩
      simp only [Act.put, List.setIfInBounds_toArray, List.set_cons_zero, List.set_cons_succ]
      refine wpAnyH_all (rs := [5, 11]) (by kernel_rfl) (by decide) ?_
      intro i hi
      simp only [List.mem_cons, List.not_mem_nil, or_false] at hi
      rcases hi with rfl | rfl
      · skip
        refine wpOp_callM (o := ⟨some 19, Op.call { callee := Callee.value (Operand.func 26), args := #[Operand.tmp 17, Operand.tmp 18], argTypes := #[26, 29] }, _, _, _, none⟩) rfl (by rfl) (by go_simp) (HP.out _ (HN.out.below (bel_tr hb06 (hx1))) (HE.out.below (bel_tr hb06 (hx1)))) ?_
        rintro e x2 ⟨rfl, hy2⟩
        have hx2 := bel_tr hx1 hy2
        refine ⟨_, rfl, ?_⟩
        show _ ∧ _
        refine ⟨hx2, ?_⟩
        simp only [Act.put, List.setIfInBounds_toArray, List.set_cons_zero, List.set_cons_succ]
        refine wpAnyH_take (i := 6) (oi := ⟨some 20, Op.field 56 (Operand.tmp 19) 2, _, _, _, none⟩) (v := Value.int .i64 P.lab) rfl (by kernel_rfl) (by kernel_rfl) (by kernel_rfl) (fun _ _ _ h => nomatch h.1) (yieldsIf_fieldOne (by rfl) _ _ 2 rfl rfl pol_under (ty := 3) (off := 20) (by kernel_rfl) Tryz.underlying3 rfl (polA_20 _)) hx2 ?_
        simp only [Act.put, List.setIfInBounds_toArray, List.set_cons_zero, List.set_cons_succ]
        refine wpAnyH_take (i := 10) (oi := ⟨some 24, Op.build 77 #[(0 , Operand.tmp 14), (1 , Operand.tmp 16), (2 , Operand.tmp 20), (3 , Operand.tmp 22), (4 , Operand.tmp 23)], _, _, _, none⟩) (v := Value.agg (aimA A)) rfl (by kernel_rfl) (by kernel_rfl) (by kernel_rfl) (fun _ _ _ h => nomatch h.1) (yieldsIf_buildL (by rfl) 77 _ rfl H1.out rfl) hx2 ?_
        simp only [Act.put, List.setIfInBounds_toArray, List.set_cons_zero, List.set_cons_succ]
        refine wpAnyH_all (rs := [11]) (by kernel_rfl) (by decide) ?_
        intro i hi
        obtain rfl := List.mem_singleton.1 hi
        refine wpOp_of_list (o := ⟨some 7, Op.alloc 77, _, _, _, none⟩) rfl ?_
        refine wpList_allocZ rfl _ rfl aim_zero ?_
        intro g7 x3 hgg7 hBg7 hy3 hs
        have hlg7 : w6.heap.size ≤ g7 := Nat.le_trans (hx2 : Below w6.heap.size w6 _).size (Nat.le_of_eq hgg7.symm)
        clear hgg7 hs
        have hx3 := bel_tr hx2 hy3
        show _ ∧ _
        refine ⟨hx3, ?_⟩
        simp only [Act.put, List.setIfInBounds_toArray, List.set_cons_zero, List.set_cons_succ]
        refine wpAnyH_all (rs := [12]) (by kernel_rfl) (by decide) ?_
        intro i hi
        obtain rfl := List.mem_singleton.1 hi
        refine wpOp_of_list (o := ⟨none, Op.store 77 (Operand.tmp 7) (Operand.tmp 24), _, _, _, none⟩) rfl ?_
        refine wpList_store_aim rfl _ _ rfl rfl rfl hBg7 ?_
        intro x4 hBz hSz
        have hx4 := (hx3 : Below w6.heap.size w6 _).trans (hSz.below hlg7)
        show _ ∧ _
        refine ⟨hx4, ?_⟩
        simp only [Act.put]
        refine wpAnyH_done (by kernel_rfl) ?_ _
        exact ⟨rfl, g7, rfl, hBz, hlg7, hx4⟩
      · skip
        refine wpOp_of_list (o := ⟨some 7, Op.alloc 77, _, _, _, none⟩) rfl ?_
        refine wpList_allocZ rfl _ rfl aim_zero ?_
        intro g7 x2 hgg7 hBg7 hy2 hs
        have hlg7 : w6.heap.size ≤ g7 := Nat.le_trans (hx1 : Below w6.heap.size w6 _).size (Nat.le_of_eq hgg7.symm)
        clear hgg7 hs
        have hx2 := bel_tr hx1 hy2
        show _ ∧ _
        refine ⟨hx2, ?_⟩
        simp only [Act.put, List.setIfInBounds_toArray, List.set_cons_zero, List.set_cons_succ]
        refine wpAnyH_all (rs := [5]) (by kernel_rfl) (by decide) ?_
        intro i hi
        obtain rfl := List.mem_singleton.1 hi
        refine wpOp_callM (o := ⟨some 19, Op.call { callee := Callee.value (Operand.func 26), args := #[Operand.tmp 17, Operand.tmp 18], argTypes := #[26, 29] }, _, _, _, none⟩) rfl (by rfl) (by go_simp) (HP.out _ (HN.out.below (bel_tr hb06 (hx2))) (HE.out.below (bel_tr hb06 (hx2)))) ?_
        rintro e x3 ⟨rfl, hy3⟩
        have hx3 := bel_tr hx2 hy3
        have hBg7 := hBg7.bel hy3
        refine ⟨_, rfl, ?_⟩
        show _ ∧ _
        refine ⟨hx3, ?_⟩
        simp only [Act.put, List.setIfInBounds_toArray, List.set_cons_zero, List.set_cons_succ]
        refine wpAnyH_take (i := 6) (oi := ⟨some 20, Op.field 56 (Operand.tmp 19) 2, _, _, _, none⟩) (v := Value.int .i64 P.lab) rfl (by kernel_rfl) (by kernel_rfl) (by kernel_rfl) (fun _ _ _ h => nomatch h.1) (yieldsIf_fieldOne (by rfl) _ _ 2 rfl rfl pol_under (ty := 3) (off := 20) (by kernel_rfl) Tryz.underlying3 rfl (polA_20 _)) hx3 ?_
        simp only [Act.put, List.setIfInBounds_toArray, List.set_cons_zero, List.set_cons_succ]
        refine wpAnyH_take (i := 10) (oi := ⟨some 24, Op.build 77 #[(0 , Operand.tmp 14), (1 , Operand.tmp 16), (2 , Operand.tmp 20), (3 , Operand.tmp 22), (4 , Operand.tmp 23)], _, _, _, none⟩) (v := Value.agg (aimA A)) rfl (by kernel_rfl) (by kernel_rfl) (by kernel_rfl) (fun _ _ _ h => nomatch h.1) (yieldsIf_buildL (by rfl) 77 _ rfl H1.out rfl) hx3 ?_
        simp only [Act.put, List.setIfInBounds_toArray, List.set_cons_zero, List.set_cons_succ]
        refine wpAnyH_all (rs := [12]) (by kernel_rfl) (by decide) ?_
        intro i hi
        obtain rfl := List.mem_singleton.1 hi
        refine wpOp_of_list (o := ⟨none, Op.store 77 (Operand.tmp 7) (Operand.tmp 24), _, _, _, none⟩) rfl ?_
        refine wpList_store_aim rfl _ _ rfl rfl rfl hBg7 ?_
        intro x4 hBz hSz
        have hx4 := (hx3 : Below w6.heap.size w6 _).trans (hSz.below hlg7)
        show _ ∧ _
        refine ⟨hx4, ?_⟩
        simp only [Act.put]
        refine wpAnyH_done (by kernel_rfl) ?_ _
        exact ⟨rfl, g7, rfl, hBz, hlg7, hx4⟩
    · skip
      refine wpOp_of_list (o := ⟨some 7, Op.alloc 77, _, _, _, none⟩) rfl ?_
      refine wpList_allocZ rfl _ rfl aim_zero ?_
      intro g7 x1 hgg7 hBg7 hy1 hs
      have hlg7 : w6.heap.size ≤ g7 := Nat.le_trans ((Below.refl _ _).drew : Below w6.heap.size w6 _).size (Nat.le_of_eq hgg7.symm)
      clear hgg7 hs
      have hx1 := bel_drew hy1
      show _ ∧ _
      refine ⟨hx1, ?_⟩
      simp only [Act.put, List.setIfInBounds_toArray, List.set_cons_zero, List.set_cons_succ]
      refine wpAnyH_all (rs := [2]) (by kernel_rfl) (by decide) ?_
      intro i hi
      obtain rfl := List.mem_singleton.1 hi
      refine wpOp_callM (o := ⟨some 16, Op.call { callee := Callee.value (Operand.func 28), args := #[Operand.tmp 15], argTypes := #[29] }, _, _, _, none⟩) rfl (by rfl) (by go_simp) (HS.out _ (HE.out.below (bel_tr hb06 (hx1)))) ?_
      rintro e x2 ⟨rfl, hy2⟩
      have hx2 := bel_tr hx1 hy2
      have hBg7 := hBg7.bel hy2
      refine ⟨_, rfl, ?_⟩
      show _ ∧ _
      refine ⟨hx2, ?_⟩
      simp only [Act.put, List.setIfInBounds_toArray, List.set_cons_zero, List.set_cons_succ]
      refine wpAnyH_all (rs := [5]) (by kernel_rfl) (by decide) ?_
      intro i hi
      obtain rfl := List.mem_singleton.1 hi
      refine wpOp_callM (o := ⟨some 19, Op.call { callee := Callee.value (Operand.func 26), args := #[Operand.tmp 17, Operand.tmp 18], argTypes := #[26, 29] }, _, _, _, none⟩) rfl (by rfl) (by go_simp) (HP.out _ (HN.out.below (bel_tr hb06 (hx2))) (HE.out.below (bel_tr hb06 (hx2)))) ?_
      rintro e x3 ⟨rfl, hy3⟩
      have hx3 := bel_tr hx2 hy3
      have hBg7 := hBg7.bel hy3
      refine ⟨_, rfl, ?_⟩
      show _ ∧ _
      refine ⟨hx3, ?_⟩
      simp only [Act.put, List.setIfInBounds_toArray, List.set_cons_zero, List.set_cons_succ]
      refine wpAnyH_take (i := 6) (oi := ⟨some 20, Op.field 56 (Operand.tmp 19) 2, _, _, _, none⟩) (v := Value.int .i64 P.lab) rfl (by kernel_rfl) (by kernel_rfl) (by kernel_rfl) (fun _ _ _ h => nomatch h.1) (yieldsIf_fieldOne (by rfl) _ _ 2 rfl rfl pol_under (ty := 3) (off := 20) (by kernel_rfl) Tryz.underlying3 rfl (polA_20 _)) hx3 ?_
      simp only [Act.put, List.setIfInBounds_toArray, List.set_cons_zero, List.set_cons_succ]
      refine wpAnyH_take (i := 10) (oi := ⟨some 24, Op.build 77 #[(0 , Operand.tmp 14), (1 , Operand.tmp 16), (2 , Operand.tmp 20), (3 , Operand.tmp 22), (4 , Operand.tmp 23)], _, _, _, none⟩) (v := Value.agg (aimA A)) rfl (by kernel_rfl) (by kernel_rfl) (by kernel_rfl) (fun _ _ _ h => nomatch h.1) (yieldsIf_buildL (by rfl) 77 _ rfl H1.out rfl) hx3 ?_
      simp only [Act.put, List.setIfInBounds_toArray, List.set_cons_zero, List.set_cons_succ]
      refine wpAnyH_all (rs := [12]) (by kernel_rfl) (by decide) ?_
      intro i hi
      obtain rfl := List.mem_singleton.1 hi
      refine wpOp_of_list (o := ⟨none, Op.store 77 (Operand.tmp 7) (Operand.tmp 24), _, _, _, none⟩) rfl ?_
      refine wpList_store_aim rfl _ _ rfl rfl rfl hBg7 ?_
      intro x4 hBz hSz
      have hx4 := (hx3 : Below w6.heap.size w6 _).trans (hSz.below hlg7)
      show _ ∧ _
      refine ⟨hx4, ?_⟩
      simp only [Act.put]
      refine wpAnyH_done (by kernel_rfl) ?_ _
      exact ⟨rfl, g7, rfl, hBz, hlg7, hx4⟩
  case k =>
    rintro g7 w8 ⟨hB78, hlg7, hb68⟩
    have hw7 : w.heap.size ≤ g7 := Nat.le_trans hb06.size hlg7
    have hB48 := hB46.bel hb68
    have n47 : g4 ≠ g7 := by have := hB46.lt; omega
    have hb08 := bel_tr hb06 hb68
    have c17 := hB78.cell 17
    rw [aimA_17] at c17
    have f17 := hB78.free 17
    have hX := hB78.set_ 17 (.int .i64 0)
    rw [Hf.out] at hX
    have hY := hB48.far (p := ⟨g7, 17, none⟩) (by show g4 ≠ g7; exact n47) (.int .i64 0)
    have hby := hb08.setCell (p := ⟨g7, 17, none⟩) (show w.heap.size ≤ g7 from hw7) (.int .i64 0)
    clear hB78 hB48 hB26 hB36 hB46 hB56 hR2 hR3 hC5 hb08 hb68
    go_wp2_with (first
      | (with_reducible refine wpList_load_aim (o := ⟨some 27, _, _, _, _, _⟩) rfl _ rfl rfl hX ?_)
      | ((with_reducible refine wpList_store_aim (o := ⟨none, .store _ (.tmp 4) _, _, _, _, _⟩) rfl (.tmp 4) _ rfl rfl rfl hY ?_); intro wc hBc hSc))
    exact ret_aim Tryz.results51 rfl hBc rfl ⟨rfl, hby.trans (hSc.below hw4)⟩
end Go.Proofs.YthlnndjkocnfcaaGreatDoor

/- source.worthOf (printed by mk_srg.py). -/
namespace Go.Proofs.YthlnndjkocnfcaaGreatDoor
open Go.RowKit
attribute [local go_sem] ba_get ext_take ext_drop ext_any ba_app

def WorPost (w : World) (x : Wor) (e : Ending) (w' : World) : Prop := e = .returned (.agg (worA x)) ∧ Below w.heap.size w w'
set_option maxRecDepth 100000 in
set_option maxHeartbeats 4000000 in
theorem worthof_any (vi vr vp : Value) (N : Nt) (t : Aim) (f : Ifc) (w : World) (hN : NetRaw w vi vr vp N) (hE : EnvS w) (hlP : N.P.length ≤ 1000000) :
    Calls Tryz.prog 52 #[.agg #[vi, vr, vp], .agg (aimA t), .agg (ifcA f)] w (WorPost w (worN N t f)) := by
  have HN := Lib.hid hN
  have HE := Lib.hid hE
  have HP : Hid (∀ w', NetRaw w' vi vr vp N → EnvS w' → Calls Tryz.prog 26 #[.agg #[vi, vr, vp], .agg (adA f.ad)] w' (PolPost w' (ofP f.ad (polN N.P)))) := Lib.hid (fun w' h' k => polof_any vi vr vp N f.ad w' h' k.t k.m hlP)
  have HS : Hid (∀ w', EnvS w' → Calls Tryz.prog 28 #[.agg (adA f.ad)] w' (InPost w' (scoA f.ad))) := Lib.hid (fun w' k => scope_any f.ad w' k.a)
  have HC : Hid (∀ w', Calls Tryz.prog 30 #[.agg (adA f.ad), .agg (adA t.ad)] w' (InPost w' (comA f.ad t.ad : Int))) := Lib.hid (fun w' => common_any f.ad t.ad w')
  have H1 : Hid (Tryz.prog.built 80 [(0, .bool (decide (z0A f.ad = t.ad))), (1, .int .i64 (scoA f.ad)), (2, .bool (!f.dep)), (3, .bool f.hom), (4, .bool (t.way && (f.idx == t.idx))), (5, .bool ((ofP f.ad (polN N.P)).lab == t.lab)), (6, .bool f.tem), (7, .int .i64 (min (comA f.ad t.ad : Int) f.bits))] = some (worA (worN N t f))) := Lib.hid (built_wor _ _ _ _ _ _ _ _ _)
  have HzerA : Hid (z0A f.ad = f.ad.setZ 0 (by decide)) := Lib.hid rfl
  clear hN hE hlP
  generalize worN N t f = W at *
  generalize ofP f.ad (polN N.P) = P at *
  generalize scoA f.ad = s at *
  generalize ((comA f.ad t.ad : Nat) : Int) = cm at *
  go_enter Tryz.func52, Tryz.ntmps52
  go_wp2_with (first
    | ((with_reducible refine wpList_boxB (o := ⟨some 3, _, _, _, _, _⟩) rfl _ _ rfl rfl ?_); intro g3 w1 hg hB3 hb1 hs; have hg3 : w.heap.size ≤ g3 := Nat.le_of_eq hg.symm; clear hg hs)
    | ((with_reducible refine wpList_boxB (o := ⟨some 4, _, _, _, _, _⟩) rfl _ _ rfl rfl ?_); intro g4 w2 hg hB4 hb2 hs; have hg4 : w1.heap.size ≤ g4 := Nat.le_of_eq hg.symm; have hB32 := hB3.bel hb2; have hb02 := bel_tr hb1 hb2; clear hg hs)
    | ((with_reducible refine wpList_boxB (o := ⟨some 5, _, _, _, _, _⟩) rfl _ _ rfl rfl ?_); intro g5 w3 hg hB5 hb3 hs; have hg5 : w2.heap.size ≤ g5 := Nat.le_of_eq hg.symm; have hB33 := hB32.bel hb3; have hB43 := hB4.bel hb3; have hb03 := bel_tr hb02 hb3; clear hg hs)
    | ((with_reducible refine wpList_alloc_wor (o := ⟨some 6, _, _, _, _, _⟩) rfl rfl ?_); intro g6 w4 hg hB6 hb4 hs; have hg6 : w3.heap.size ≤ g6 := Nat.le_of_eq hg.symm; have hB34 := hB33.bel hb4; have hB44 := hB43.bel hb4; have hB54 := hB5.bel hb4; have hb04 := bel_tr hb03 hb4; have hR5 := hB54.rangehd_ifc; clear hg hs)
    | (with_reducible refine wpList_loadAdM (o := ⟨some 9, _, _, _, _, _⟩) rfl _ rfl rfl hR5 ?_)
    | ((with_reducible refine wpList_allocAd (o := ⟨some 7, _, _, _, _, _⟩) rfl rfl ?_); intro g7 w5 hg hB7 hb5 hs; have hg7 : w4.heap.size ≤ g7 := Nat.le_of_eq hg.symm; have hB35 := hB34.bel hb5; have hB45 := hB44.bel hb5; have hB55 := hB54.bel hb5; have hB65 := hB6.bel hb5; have hb05 := bel_tr hb04 hb5; clear hg hs)
    | ((with_reducible refine wpList_storeAd (o := ⟨none, _, _, _, _, _⟩) rfl (.tmp 7) _ rfl rfl rfl hB7 ?_); intro w6 hB76 hS6
       have l3 := hB34.lt
       have l4 := hB44.lt
       have l5 := hB54.lt
       have l6 := hB6.lt
       have hB36 := hB35.stays hS6 (by omega)
       have hB46 := hB45.stays hS6 (by omega)
       have hB56 := hB55.stays hS6 (by omega)
       have hB66 := hB65.stays hS6 (by omega)
       have hb06 : Below w.heap.size w w6 := hb05.trans (hS6.below (Nat.le_trans hb04.size hg7))
       have c17 := hB76.cell 17
       rw [adA_17] at c17
       have f17 := hB76.free 17
       have hne : g3 < g7 ∧ g4 < g7 ∧ g5 < g7 ∧ g6 < g7 ∧ w.heap.size ≤ g6 ∧ w.heap.size ≤ g7 ∧ g3 < g6 ∧ g4 < g6 ∧ g5 < g6 := ⟨by omega, by omega, by omega, by omega, by have := hb03.size; omega, by have := hb04.size; omega, by have := hB33.lt; omega, by have := hB43.lt; omega, by have := hB5.lt; omega⟩
       clear l3 l4 l5 l6
       refine hold ?_))
  refine Lib.hid ?_
  have hX := hB76.set_ 17 (.int .i64 0)
  rw [adA_setZ f.ad 0 (by decide), ← HzerA.out] at hX
  have hY3 := hB36.far (p := ⟨g7, 17, none⟩) (by show g3 ≠ g7; omega) (.int .i64 0)
  have hY4 := hB46.far (p := ⟨g7, 17, none⟩) (by show g4 ≠ g7; omega) (.int .i64 0)
  have hY5 := hB56.far (p := ⟨g7, 17, none⟩) (by show g5 ≠ g7; omega) (.int .i64 0)
  have hY6 := hB66.far (p := ⟨g7, 17, none⟩) (by show g6 ≠ g7; omega) (.int .i64 0)
  have hby := hb06.setCell (p := ⟨g7, 17, none⟩) (show w.heap.size ≤ g7 by omega) (.int .i64 0)
  have hw6 : w.heap.size ≤ g6 := hne.2.2.2.2.1
  have n3 : some g3 ≠ some g6 := fun e => by injection e; omega
  have n4 : some g4 ≠ some g6 := fun e => by injection e; omega
  have n5 : some g5 ≠ some g6 := fun e => by injection e; omega
  have n7 : some g7 ≠ some g6 := fun e => by injection e; omega
  generalize z0A f.ad = B at *
  clear HzerA hB3 hB32 hB33 hB34 hB35 hB36 hB4 hB43 hB44 hB45 hB46 hB5 hB54 hB55 hB56 hB6 hB65 hB66 hB7 hB76 hS6 hb1 hb2 hb3 hb4 hb5 hb02 hb03 hb04 hb05 hb06 hne hg3 hg4 hg5 hg6 hg7 hR5
  go_wp2_with (fail)
  obtain ⟨wy, hwy⟩ : ∃ wy, wy = w6.setCell ⟨g7, 17, none⟩ (.int .i64 0) := ⟨_, rfl⟩
  rw [← hwy] at hX hY3 hY4 hY5 hY6 hby ⊢
  clear hwy c17 f17
  have hR3 : Hid (∀ w', wy.grownBy w' (some g6) → w'.rangeAt g3 0 [vi, vr, vp]) := Lib.hid (fun w' h => (hY3.grown h n3).rangeNet)
  have hR4 : Hid (∀ w', wy.grownBy w' (some g6) → w'.rangeAt g4 0 (adL t.ad)) := Lib.hid (fun w' h => (hY4.grown h n4).rangehd_aim)
  have hR5 : Hid (∀ w', wy.grownBy w' (some g6) → w'.rangeAt g5 0 (adL f.ad)) := Lib.hid (fun w' h => (hY5.grown h n5).rangehd_ifc)
  have hR7 : Hid (∀ w', wy.grownBy w' (some g6) → w'.rangeAt g7 0 (adL B)) := Lib.hid (fun w' h => (hX.grown h n7).rangeAd)
  have k19 : Hid (∀ w', wy.grownBy w' (some g6) → w'.cell? ⟨g4, 19, none⟩ = some (.int .i64 t.lab)) := Lib.hid (fun w' h => by have := (hY4.grown h n4).cell 19; rw [aimA_19] at this; exact this)
  have k20 : Hid (∀ w', wy.grownBy w' (some g6) → w'.cell? ⟨g4, 20, none⟩ = some (.int .i64 t.idx)) := Lib.hid (fun w' h => by have := (hY4.grown h n4).cell 20; rw [aimA_20] at this; exact this)
  have f18 : Hid (∀ w', wy.grownBy w' (some g6) → w'.cell? ⟨g5, 18, none⟩ = some (.int .i64 f.idx)) := Lib.hid (fun w' h => by have := (hY5.grown h n5).cell 18; rw [ifcA_18] at this; exact this)
  have f19 : Hid (∀ w', wy.grownBy w' (some g6) → w'.cell? ⟨g5, 19, none⟩ = some (.int .i64 f.bits)) := Lib.hid (fun w' h => by have := (hY5.grown h n5).cell 19; rw [ifcA_19] at this; exact this)
  have f20 : Hid (∀ w', wy.grownBy w' (some g6) → w'.cell? ⟨g5, 20, none⟩ = some (.bool f.dep)) := Lib.hid (fun w' h => by have := (hY5.grown h n5).cell 20; rw [ifcA_20] at this; exact this)
  have f21 : Hid (∀ w', wy.grownBy w' (some g6) → w'.cell? ⟨g5, 21, none⟩ = some (.bool f.hom)) := Lib.hid (fun w' h => by have := (hY5.grown h n5).cell 21; rw [ifcA_21] at this; exact this)
  have f22 : Hid (∀ w', wy.grownBy w' (some g6) → w'.cell? ⟨g5, 22, none⟩ = some (.bool f.tem)) := Lib.hid (fun w' h => by have := (hY5.grown h n5).cell 22; rw [ifcA_22] at this; exact this)
  cases hway : t.way
  · have k21 : Hid (∀ w', wy.grownBy w' (some g6) → w'.cell? ⟨g4, 21, none⟩ = some (.bool false)) := Lib.hid (fun w' h => by have := (hY4.grown h n4).cell 21; rw [aimA_21, hway] at this; exact this)
    rw [hway] at H1
    have HY6 := Lib.hid hY6
    clear hway hX hY3 hY4 hY5 hY6 n3 n4 n5 n7
    apply region_cut0 (R := fun w' => Bk w' g6 80 (worA W) ∧ Below w.heap.size w w')
    case h =>
      refine wp_region_held (S := fun w' => wy.grownBy w' (some g6)) (by kernel_rfl) ?_
      refine wpAnyH_take (i := 0) (oi := ⟨some 11, Op.load 29 (Operand.tmp 7), _, _, _, none⟩) (v := Value.agg (adA B)) rfl (by kernel_rfl) (by kernel_rfl) (by kernel_rfl) (fun _ _ _ h => nomatch h.1) (yieldsIf_loadAd (by rfl) _ rfl rfl hR7.out) (gr_of (Below.refl _ _).drew) ?_
      simp only [Act.put, List.setIfInBounds_toArray, List.set_cons_zero, List.set_cons_succ]
      refine wpAnyH_take (i := 1) (oi := ⟨some 12, Op.fieldAddr 77 (Operand.tmp 4) 0, _, _, _, none⟩) (v := Value.pointer (some ⟨g4, 0, none⟩)) rfl (by kernel_rfl) (by kernel_rfl) (by kernel_rfl) (fun _ _ _ h => nomatch h.1) (Or.inl ⟨by rfl, fun w' hS' => by go_simp⟩) (gr_of (Below.refl _ _).drew) ?_
      simp only [Act.put, List.setIfInBounds_toArray, List.set_cons_zero, List.set_cons_succ]
      refine wpAnyH_take (i := 2) (oi := ⟨some 13, Op.load 29 (Operand.tmp 12), _, _, _, none⟩) (v := Value.agg (adA t.ad)) rfl (by kernel_rfl) (by kernel_rfl) (by kernel_rfl) (fun _ _ _ h => nomatch h.1) (yieldsIf_loadAd (by rfl) _ rfl rfl hR4.out) (gr_of (Below.refl _ _).drew) ?_
      simp only [Act.put, List.setIfInBounds_toArray, List.set_cons_zero, List.set_cons_succ]
      refine wpAnyH_take (i := 3) (oi := ⟨some 14, Op.binOp BinOp.eql 29 (Operand.tmp 11) (Operand.tmp 13) 29, _, _, _, none⟩) (v := Value.bool (decide (B = t.ad))) rfl (by kernel_rfl) (by kernel_rfl) (by kernel_rfl) (fun _ _ _ h => nomatch h.1) (yieldsIf_eqlAd (by rfl) _ _ rfl rfl rfl rfl) (gr_of (Below.refl _ _).drew) ?_
      simp only [Act.put, List.setIfInBounds_toArray, List.set_cons_zero, List.set_cons_succ]
      refine wpAnyH_take (i := 4) (oi := ⟨some 15, Op.fieldAddr 42 (Operand.tmp 5) 0, _, _, _, none⟩) (v := Value.pointer (some ⟨g5, 0, none⟩)) rfl (by kernel_rfl) (by kernel_rfl) (by kernel_rfl) (fun _ _ _ h => nomatch h.1) (Or.inl ⟨by rfl, fun w' hS' => by go_simp⟩) (gr_of (Below.refl _ _).drew) ?_
      simp only [Act.put, List.setIfInBounds_toArray, List.set_cons_zero, List.set_cons_succ]
      refine wpAnyH_take (i := 5) (oi := ⟨some 16, Op.load 29 (Operand.tmp 15), _, _, _, none⟩) (v := Value.agg (adA f.ad)) rfl (by kernel_rfl) (by kernel_rfl) (by kernel_rfl) (fun _ _ _ h => nomatch h.1) (yieldsIf_loadAd (by rfl) _ rfl rfl hR5.out) (gr_of (Below.refl _ _).drew) ?_
      simp only [Act.put, List.setIfInBounds_toArray, List.set_cons_zero, List.set_cons_succ]
      refine wpAnyH_take (i := 7) (oi := ⟨some 18, Op.fieldAddr 42 (Operand.tmp 5) 3, _, _, _, none⟩) (v := Value.pointer (some ⟨g5, 20, none⟩)) rfl (by kernel_rfl) (by kernel_rfl) (by kernel_rfl) (fun _ _ _ h => nomatch h.1) (Or.inl ⟨by rfl, fun w' hS' => by go_simp⟩) (gr_of (Below.refl _ _).drew) ?_
      simp only [Act.put, List.setIfInBounds_toArray, List.set_cons_zero, List.set_cons_succ]
      refine wpAnyH_take (i := 8) (oi := ⟨some 19, Op.load 4 (Operand.tmp 18), _, _, _, none⟩) (v := Value.bool f.dep) rfl (by kernel_rfl) (by kernel_rfl) (by kernel_rfl) (fun _ _ _ h => nomatch h.1) (yieldsIf_loadC (by rfl) _ _ rfl rfl f20.out Tryz.underlying4 rfl) (gr_of (Below.refl _ _).drew) ?_
      simp only [Act.put, List.setIfInBounds_toArray, List.set_cons_zero, List.set_cons_succ]
      refine wpAnyH_take (i := 9) (oi := ⟨some 20, Op.unOp UnOp.not 4 (Operand.tmp 19), _, _, _, none⟩) (v := Value.bool (!f.dep)) rfl (by kernel_rfl) (by kernel_rfl) (by kernel_rfl) (fun _ _ _ h => nomatch h.1) (Or.inl ⟨by rfl, fun w' hS' => by go_simp⟩) (gr_of (Below.refl _ _).drew) ?_
      simp only [Act.put, List.setIfInBounds_toArray, List.set_cons_zero, List.set_cons_succ]
      refine wpAnyH_take (i := 10) (oi := ⟨some 21, Op.fieldAddr 42 (Operand.tmp 5) 4, _, _, _, none⟩) (v := Value.pointer (some ⟨g5, 21, none⟩)) rfl (by kernel_rfl) (by kernel_rfl) (by kernel_rfl) (fun _ _ _ h => nomatch h.1) (Or.inl ⟨by rfl, fun w' hS' => by go_simp⟩) (gr_of (Below.refl _ _).drew) ?_
      simp only [Act.put, List.setIfInBounds_toArray, List.set_cons_zero, List.set_cons_succ]
      refine wpAnyH_take (i := 11) (oi := ⟨some 22, Op.load 4 (Operand.tmp 21), _, _, _, none⟩) (v := Value.bool f.hom) rfl (by kernel_rfl) (by kernel_rfl) (by kernel_rfl) (fun _ _ _ h => nomatch h.1) (yieldsIf_loadC (by rfl) _ _ rfl rfl f21.out Tryz.underlying4 rfl) (gr_of (Below.refl _ _).drew) ?_
      simp only [Act.put, List.setIfInBounds_toArray, List.set_cons_zero, List.set_cons_succ]
      refine wpAnyH_take (i := 12) (oi := ⟨some 23, Op.fieldAddr 77 (Operand.tmp 4) 4, _, _, _, none⟩) (v := Value.pointer (some ⟨g4, 21, none⟩)) rfl (by kernel_rfl) (by kernel_rfl) (by kernel_rfl) (fun _ _ _ h => nomatch h.1) (Or.inl ⟨by rfl, fun w' hS' => by go_simp⟩) (gr_of (Below.refl _ _).drew) ?_
      simp only [Act.put, List.setIfInBounds_toArray, List.set_cons_zero, List.set_cons_succ]
      refine wpAnyH_take (i := 13) (oi := ⟨some 24, Op.load 4 (Operand.tmp 23), _, _, _, none⟩) (v := Value.bool false) rfl (by kernel_rfl) (by kernel_rfl) (by kernel_rfl) (fun _ _ _ h => nomatch h.1) (yieldsIf_loadC (by rfl) _ _ rfl rfl k21.out Tryz.underlying4 rfl) (gr_of (Below.refl _ _).drew) ?_
      simp only [Act.put, List.setIfInBounds_toArray, List.set_cons_zero, List.set_cons_succ]
      refine wpAnyH_take (i := 21) (oi := ⟨some 32, Op.load 26 (Operand.tmp 3), _, _, _, none⟩) (v := Value.agg #[vi, vr, vp]) rfl (by kernel_rfl) (by kernel_rfl) (by kernel_rfl) (fun _ _ _ h => nomatch h.1) (yieldsIf_load_mid (by rfl) _ _ rfl _ _ rfl [vi, vr, vp] _ hR3.out net_under rfl net_size) (gr_of (Below.refl _ _).drew) ?_
      simp only [Act.put, List.setIfInBounds_toArray, List.set_cons_zero, List.set_cons_succ]
      refine wpAnyH_take (i := 22) (oi := ⟨some 33, Op.fieldAddr 42 (Operand.tmp 5) 0, _, _, _, none⟩) (v := Value.pointer (some ⟨g5, 0, none⟩)) rfl (by kernel_rfl) (by kernel_rfl) (by kernel_rfl) (fun _ _ _ h => nomatch h.1) (Or.inl ⟨by rfl, fun w' hS' => by go_simp⟩) (gr_of (Below.refl _ _).drew) ?_
      simp only [Act.put, List.setIfInBounds_toArray, List.set_cons_zero, List.set_cons_succ]
      refine wpAnyH_take (i := 23) (oi := ⟨some 34, Op.load 29 (Operand.tmp 33), _, _, _, none⟩) (v := Value.agg (adA f.ad)) rfl (by kernel_rfl) (by kernel_rfl) (by kernel_rfl) (fun _ _ _ h => nomatch h.1) (yieldsIf_loadAd (by rfl) _ rfl rfl hR5.out) (gr_of (Below.refl _ _).drew) ?_
      simp only [Act.put, List.setIfInBounds_toArray, List.set_cons_zero, List.set_cons_succ]
      refine wpAnyH_take (i := 26) (oi := ⟨some 37, Op.fieldAddr 77 (Operand.tmp 4) 2, _, _, _, none⟩) (v := Value.pointer (some ⟨g4, 19, none⟩)) rfl (by kernel_rfl) (by kernel_rfl) (by kernel_rfl) (fun _ _ _ h => nomatch h.1) (Or.inl ⟨by rfl, fun w' hS' => by go_simp⟩) (gr_of (Below.refl _ _).drew) ?_
      simp only [Act.put, List.setIfInBounds_toArray, List.set_cons_zero, List.set_cons_succ]
      refine wpAnyH_take (i := 27) (oi := ⟨some 38, Op.load 3 (Operand.tmp 37), _, _, _, none⟩) (v := Value.int .i64 t.lab) rfl (by kernel_rfl) (by kernel_rfl) (by kernel_rfl) (fun _ _ _ h => nomatch h.1) (yieldsIf_loadC (by rfl) _ _ rfl rfl k19.out Tryz.underlying3 rfl) (gr_of (Below.refl _ _).drew) ?_
      simp only [Act.put, List.setIfInBounds_toArray, List.set_cons_zero, List.set_cons_succ]
      refine wpAnyH_take (i := 29) (oi := ⟨some 40, Op.fieldAddr 42 (Operand.tmp 5) 5, _, _, _, none⟩) (v := Value.pointer (some ⟨g5, 22, none⟩)) rfl (by kernel_rfl) (by kernel_rfl) (by kernel_rfl) (fun _ _ _ h => nomatch h.1) (Or.inl ⟨by rfl, fun w' hS' => by go_simp⟩) (gr_of (Below.refl _ _).drew) ?_
      simp only [Act.put, List.setIfInBounds_toArray, List.set_cons_zero, List.set_cons_succ]
      refine wpAnyH_take (i := 30) (oi := ⟨some 41, Op.load 4 (Operand.tmp 40), _, _, _, none⟩) (v := Value.bool f.tem) rfl (by kernel_rfl) (by kernel_rfl) (by kernel_rfl) (fun _ _ _ h => nomatch h.1) (yieldsIf_loadC (by rfl) _ _ rfl rfl f22.out Tryz.underlying4 rfl) (gr_of (Below.refl _ _).drew) ?_
      simp only [Act.put, List.setIfInBounds_toArray, List.set_cons_zero, List.set_cons_succ]
      refine wpAnyH_take (i := 31) (oi := ⟨some 42, Op.fieldAddr 42 (Operand.tmp 5) 0, _, _, _, none⟩) (v := Value.pointer (some ⟨g5, 0, none⟩)) rfl (by kernel_rfl) (by kernel_rfl) (by kernel_rfl) (fun _ _ _ h => nomatch h.1) (Or.inl ⟨by rfl, fun w' hS' => by go_simp⟩) (gr_of (Below.refl _ _).drew) ?_
      simp only [Act.put, List.setIfInBounds_toArray, List.set_cons_zero, List.set_cons_succ]
      refine wpAnyH_take (i := 32) (oi := ⟨some 43, Op.load 29 (Operand.tmp 42), _, _, _, none⟩) (v := Value.agg (adA f.ad)) rfl (by kernel_rfl) (by kernel_rfl) (by kernel_rfl) (fun _ _ _ h => nomatch h.1) (yieldsIf_loadAd (by rfl) _ rfl rfl hR5.out) (gr_of (Below.refl _ _).drew) ?_
      simp only [Act.put, List.setIfInBounds_toArray, List.set_cons_zero, List.set_cons_succ]
      refine wpAnyH_take (i := 33) (oi := ⟨some 44, Op.fieldAddr 77 (Operand.tmp 4) 0, _, _, _, none⟩) (v := Value.pointer (some ⟨g4, 0, none⟩)) rfl (by kernel_rfl) (by kernel_rfl) (by kernel_rfl) (fun _ _ _ h => nomatch h.1) (Or.inl ⟨by rfl, fun w' hS' => by go_simp⟩) (gr_of (Below.refl _ _).drew) ?_
      simp only [Act.put, List.setIfInBounds_toArray, List.set_cons_zero, List.set_cons_succ]
      refine wpAnyH_take (i := 34) (oi := ⟨some 45, Op.load 29 (Operand.tmp 44), _, _, _, none⟩) (v := Value.agg (adA t.ad)) rfl (by kernel_rfl) (by kernel_rfl) (by kernel_rfl) (fun _ _ _ h => nomatch h.1) (yieldsIf_loadAd (by rfl) _ rfl rfl hR4.out) (gr_of (Below.refl _ _).drew) ?_
      simp only [Act.put, List.setIfInBounds_toArray, List.set_cons_zero, List.set_cons_succ]
      refine wpAnyH_take (i := 36) (oi := ⟨some 47, Op.fieldAddr 42 (Operand.tmp 5) 2, _, _, _, none⟩) (v := Value.pointer (some ⟨g5, 19, none⟩)) rfl (by kernel_rfl) (by kernel_rfl) (by kernel_rfl) (fun _ _ _ h => nomatch h.1) (Or.inl ⟨by rfl, fun w' hS' => by go_simp⟩) (gr_of (Below.refl _ _).drew) ?_
      simp only [Act.put, List.setIfInBounds_toArray, List.set_cons_zero, List.set_cons_succ]
      refine wpAnyH_take (i := 37) (oi := ⟨some 48, Op.load 3 (Operand.tmp 47), _, _, _, none⟩) (v := Value.int .i64 f.bits) rfl (by kernel_rfl) (by kernel_rfl) (by kernel_rfl) (fun _ _ _ h => nomatch h.1) (yieldsIf_loadC (by rfl) _ _ rfl rfl f19.out Tryz.underlying3 rfl) (gr_of (Below.refl _ _).drew) ?_
      simp only [Act.put, List.setIfInBounds_toArray, List.set_cons_zero, List.set_cons_succ]
      refine wpAnyH_all (rs := [6]) (by kernel_rfl) (by decide) ?_
      intro i hi
      obtain rfl := List.mem_singleton.1 hi
      refine wpOp_callM (o := ⟨some 17, Op.call { callee := Callee.value (Operand.func 28), args := #[Operand.tmp 16], argTypes := #[29] }, _, _, _, none⟩) rfl (by rfl) (by go_simp) (HS.out _ (HE.out.below (bel_tr hby ((Below.refl _ _).drew)))) ?_
      rintro e x1 ⟨rfl, hy1⟩
      have hx1 := bel_drew hy1
      refine ⟨_, rfl, ?_⟩
      show _ ∧ _
      refine ⟨(gr_of hx1), ?_⟩
      simp only [Act.put, List.setIfInBounds_toArray, List.set_cons_zero, List.set_cons_succ]
      refine wpAnyH_take (i := 14) (oi := ⟨some 25, Op.move (Operand.tmp 24), _, _, _, none⟩) (v := Value.bool false) rfl (by kernel_rfl) (by kernel_rfl) (by kernel_rfl) (fun _ _ _ h => nomatch h.1) (Or.inl ⟨by rfl, fun w' hS' => by go_simp⟩) (gr_of hx1) ?_
      simp only [Act.put, List.setIfInBounds_toArray, List.set_cons_zero, List.set_cons_succ]
      refine wpAnyH_take (i := 15) (oi := ⟨some 26, Op.fieldAddr 42 (Operand.tmp 5) 1, _, _, _, some (14 , true)⟩) (v := undef) rfl (by kernel_rfl) (by kernel_rfl) (by kernel_rfl) (fun _ _ _ h => nomatch h.1) (Or.inr ⟨by rfl, rfl⟩) (gr_of hx1) ?_
      simp only [Act.put, List.setIfInBounds_toArray, List.set_cons_zero, List.set_cons_succ]
      refine wpAnyH_take (i := 16) (oi := ⟨some 27, Op.load 3 (Operand.tmp 26), _, _, _, some (14 , true)⟩) (v := undef) rfl (by kernel_rfl) (by kernel_rfl) (by kernel_rfl) (fun _ _ _ h => nomatch h.1) (Or.inr ⟨by rfl, rfl⟩) (gr_of hx1) ?_
      simp only [Act.put, List.setIfInBounds_toArray, List.set_cons_zero, List.set_cons_succ]
      refine wpAnyH_take (i := 17) (oi := ⟨some 28, Op.fieldAddr 77 (Operand.tmp 4) 3, _, _, _, some (14 , true)⟩) (v := undef) rfl (by kernel_rfl) (by kernel_rfl) (by kernel_rfl) (fun _ _ _ h => nomatch h.1) (Or.inr ⟨by rfl, rfl⟩) (gr_of hx1) ?_
      simp only [Act.put, List.setIfInBounds_toArray, List.set_cons_zero, List.set_cons_succ]
      refine wpAnyH_take (i := 18) (oi := ⟨some 29, Op.load 3 (Operand.tmp 28), _, _, _, some (14 , true)⟩) (v := undef) rfl (by kernel_rfl) (by kernel_rfl) (by kernel_rfl) (fun _ _ _ h => nomatch h.1) (Or.inr ⟨by rfl, rfl⟩) (gr_of hx1) ?_
      simp only [Act.put, List.setIfInBounds_toArray, List.set_cons_zero, List.set_cons_succ]
      refine wpAnyH_take (i := 19) (oi := ⟨some 30, Op.binOp BinOp.eql 3 (Operand.tmp 27) (Operand.tmp 29) 3, _, _, _, some (14 , true)⟩) (v := undef) rfl (by kernel_rfl) (by kernel_rfl) (by kernel_rfl) (fun _ _ _ h => nomatch h.1) (Or.inr ⟨by rfl, rfl⟩) (gr_of hx1) ?_
      simp only [Act.put, List.setIfInBounds_toArray, List.set_cons_zero, List.set_cons_succ]
      refine wpAnyH_take (i := 20) (oi := ⟨some 31, Op.pick (Operand.tmp 25) (Operand.tmp 30) (Operand.const (Value.bool false)), _, _, _, none⟩) (v := Value.bool false) rfl (by kernel_rfl) (by kernel_rfl) (by kernel_rfl) (fun _ _ _ h => nomatch h.1) (Or.inl ⟨by rfl, fun w' hS' => by go_simp⟩) (gr_of hx1) ?_
      simp only [Act.put, List.setIfInBounds_toArray, List.set_cons_zero, List.set_cons_succ]
      refine wpAnyH_all (rs := [24]) (by kernel_rfl) (by decide) ?_
      intro i hi
      obtain rfl := List.mem_singleton.1 hi
      refine wpOp_callM (o := ⟨some 35, Op.call { callee := Callee.value (Operand.func 26), args := #[Operand.tmp 32, Operand.tmp 34], argTypes := #[26, 29] }, _, _, _, none⟩) rfl (by rfl) (by go_simp) (HP.out _ (HN.out.below (bel_tr hby (hx1))) (HE.out.below (bel_tr hby (hx1)))) ?_
      rintro e x2 ⟨rfl, hy2⟩
      have hx2 := bel_tr hx1 hy2
      refine ⟨_, rfl, ?_⟩
      show _ ∧ _
      refine ⟨(gr_of hx2), ?_⟩
      simp only [Act.put, List.setIfInBounds_toArray, List.set_cons_zero, List.set_cons_succ]
      refine wpAnyH_take (i := 25) (oi := ⟨some 36, Op.field 56 (Operand.tmp 35) 2, _, _, _, none⟩) (v := Value.int .i64 P.lab) rfl (by kernel_rfl) (by kernel_rfl) (by kernel_rfl) (fun _ _ _ h => nomatch h.1) (yieldsIf_fieldOne (by rfl) _ _ 2 rfl rfl pol_under (ty := 3) (off := 20) (by kernel_rfl) Tryz.underlying3 rfl (polA_20 _)) (gr_of hx2) ?_
      simp only [Act.put, List.setIfInBounds_toArray, List.set_cons_zero, List.set_cons_succ]
      refine wpAnyH_take (i := 28) (oi := ⟨some 39, Op.binOp BinOp.eql 3 (Operand.tmp 36) (Operand.tmp 38) 3, _, _, _, none⟩) (v := Value.bool (P.lab == t.lab)) rfl (by kernel_rfl) (by kernel_rfl) (by kernel_rfl) (fun _ _ _ h => nomatch h.1) (Or.inl ⟨by rfl, fun w' hS' => by go_simp⟩) (gr_of hx2) ?_
      simp only [Act.put, List.setIfInBounds_toArray, List.set_cons_zero, List.set_cons_succ]
      refine wpAnyH_all (rs := [35]) (by kernel_rfl) (by decide) ?_
      intro i hi
      obtain rfl := List.mem_singleton.1 hi
      refine wpOp_callM (o := ⟨some 46, Op.call { callee := Callee.value (Operand.func 30), args := #[Operand.tmp 43, Operand.tmp 45], argTypes := #[29, 29] }, _, _, _, none⟩) rfl (by rfl) (by go_simp) (HC.out _) ?_
      rintro e x3 ⟨rfl, hy3⟩
      have hx3 := bel_tr hx2 hy3
      refine ⟨_, rfl, ?_⟩
      show _ ∧ _
      refine ⟨(gr_of hx3), ?_⟩
      simp only [Act.put, List.setIfInBounds_toArray, List.set_cons_zero, List.set_cons_succ]
      refine wpAnyH_take (i := 38) (oi := ⟨some 49, Op.call { callee := Callee.builtin Builtin.min, args := #[Operand.tmp 46, Operand.tmp 48], argTypes := #[3, 3] }, _, _, _, none⟩) (v := Value.int .i64 (min cm f.bits)) rfl (by kernel_rfl) (by kernel_rfl) (by kernel_rfl) (fun _ _ _ h => nomatch h.1) (Or.inl ⟨by rfl, fun w' hS' => by go_simp⟩) (gr_of hx3) ?_
      simp only [Act.put, List.setIfInBounds_toArray, List.set_cons_zero, List.set_cons_succ]
      refine wpAnyH_take (i := 39) (oi := ⟨some 50, Op.build 80 #[(0 , Operand.tmp 14), (1 , Operand.tmp 17), (2 , Operand.tmp 20), (3 , Operand.tmp 22), (4 , Operand.tmp 31), (5 , Operand.tmp 39), (6 , Operand.tmp 41), (7 , Operand.tmp 49)], _, _, _, none⟩) (v := Value.agg (worA W)) rfl (by kernel_rfl) (by kernel_rfl) (by kernel_rfl) (fun _ _ _ h => nomatch h.1) (yieldsIf_buildL (by rfl) 80 _ rfl H1.out rfl) (gr_of hx3) ?_
      simp only [Act.put, List.setIfInBounds_toArray, List.set_cons_zero, List.set_cons_succ]
      refine wpAnyH_all (rs := [40]) (by kernel_rfl) (by decide) ?_
      intro i hi
      obtain rfl := List.mem_singleton.1 hi
      refine wpOp_of_list (o := ⟨none, Op.store 80 (Operand.tmp 6) (Operand.tmp 50), _, _, _, none⟩) rfl ?_
      have hB6z := HY6.out.bel (hx3 : Below wy.heap.size wy _)
      refine wpList_store_wor rfl _ _ rfl rfl rfl hB6z ?_
      intro x4 hBz hSz
      have hgS := gr_st (hx3 : Below wy.heap.size wy _) hSz
      have hx4 := (bel_tr hby (hx3 : Below wy.heap.size wy _)).trans (hSz.below hw6)
      show _ ∧ _
      refine ⟨hgS, ?_⟩
      simp only [Act.put]
      refine wpAnyH_done (by kernel_rfl) ?_ _
      exact ⟨rfl, rfl, hBz, hx4⟩
    case k =>
      rintro w9 ⟨hB9, hb9⟩
      go_wp2_with (fail)
      exact ret_wor Tryz.results52 rfl hB9 rfl ⟨rfl, hb9⟩
  · have k21 : Hid (∀ w', wy.grownBy w' (some g6) → w'.cell? ⟨g4, 21, none⟩ = some (.bool true)) := Lib.hid (fun w' h => by have := (hY4.grown h n4).cell 21; rw [aimA_21, hway] at this; exact this)
    rw [hway] at H1
    have HY6 := Lib.hid hY6
    clear hway hX hY3 hY4 hY5 hY6 n3 n4 n5 n7
    apply region_cut0 (R := fun w' => Bk w' g6 80 (worA W) ∧ Below w.heap.size w w')
    case h =>
      refine wp_region_held (S := fun w' => wy.grownBy w' (some g6)) (by kernel_rfl) ?_
      refine wpAnyH_take (i := 0) (oi := ⟨some 11, Op.load 29 (Operand.tmp 7), _, _, _, none⟩) (v := Value.agg (adA B)) rfl (by kernel_rfl) (by kernel_rfl) (by kernel_rfl) (fun _ _ _ h => nomatch h.1) (yieldsIf_loadAd (by rfl) _ rfl rfl hR7.out) (gr_of (Below.refl _ _).drew) ?_
      simp only [Act.put, List.setIfInBounds_toArray, List.set_cons_zero, List.set_cons_succ]
      refine wpAnyH_take (i := 1) (oi := ⟨some 12, Op.fieldAddr 77 (Operand.tmp 4) 0, _, _, _, none⟩) (v := Value.pointer (some ⟨g4, 0, none⟩)) rfl (by kernel_rfl) (by kernel_rfl) (by kernel_rfl) (fun _ _ _ h => nomatch h.1) (Or.inl ⟨by rfl, fun w' hS' => by go_simp⟩) (gr_of (Below.refl _ _).drew) ?_
      simp only [Act.put, List.setIfInBounds_toArray, List.set_cons_zero, List.set_cons_succ]
      refine wpAnyH_take (i := 2) (oi := ⟨some 13, Op.load 29 (Operand.tmp 12), _, _, _, none⟩) (v := Value.agg (adA t.ad)) rfl (by kernel_rfl) (by kernel_rfl) (by kernel_rfl) (fun _ _ _ h => nomatch h.1) (yieldsIf_loadAd (by rfl) _ rfl rfl hR4.out) (gr_of (Below.refl _ _).drew) ?_
      simp only [Act.put, List.setIfInBounds_toArray, List.set_cons_zero, List.set_cons_succ]
      refine wpAnyH_take (i := 3) (oi := ⟨some 14, Op.binOp BinOp.eql 29 (Operand.tmp 11) (Operand.tmp 13) 29, _, _, _, none⟩) (v := Value.bool (decide (B = t.ad))) rfl (by kernel_rfl) (by kernel_rfl) (by kernel_rfl) (fun _ _ _ h => nomatch h.1) (yieldsIf_eqlAd (by rfl) _ _ rfl rfl rfl rfl) (gr_of (Below.refl _ _).drew) ?_
      simp only [Act.put, List.setIfInBounds_toArray, List.set_cons_zero, List.set_cons_succ]
      refine wpAnyH_take (i := 4) (oi := ⟨some 15, Op.fieldAddr 42 (Operand.tmp 5) 0, _, _, _, none⟩) (v := Value.pointer (some ⟨g5, 0, none⟩)) rfl (by kernel_rfl) (by kernel_rfl) (by kernel_rfl) (fun _ _ _ h => nomatch h.1) (Or.inl ⟨by rfl, fun w' hS' => by go_simp⟩) (gr_of (Below.refl _ _).drew) ?_
      simp only [Act.put, List.setIfInBounds_toArray, List.set_cons_zero, List.set_cons_succ]
      refine wpAnyH_take (i := 5) (oi := ⟨some 16, Op.load 29 (Operand.tmp 15), _, _, _, none⟩) (v := Value.agg (adA f.ad)) rfl (by kernel_rfl) (by kernel_rfl) (by kernel_rfl) (fun _ _ _ h => nomatch h.1) (yieldsIf_loadAd (by rfl) _ rfl rfl hR5.out) (gr_of (Below.refl _ _).drew) ?_
      simp only [Act.put, List.setIfInBounds_toArray, List.set_cons_zero, List.set_cons_succ]
      refine wpAnyH_take (i := 7) (oi := ⟨some 18, Op.fieldAddr 42 (Operand.tmp 5) 3, _, _, _, none⟩) (v := Value.pointer (some ⟨g5, 20, none⟩)) rfl (by kernel_rfl) (by kernel_rfl) (by kernel_rfl) (fun _ _ _ h => nomatch h.1) (Or.inl ⟨by rfl, fun w' hS' => by go_simp⟩) (gr_of (Below.refl _ _).drew) ?_
      simp only [Act.put, List.setIfInBounds_toArray, List.set_cons_zero, List.set_cons_succ]
      refine wpAnyH_take (i := 8) (oi := ⟨some 19, Op.load 4 (Operand.tmp 18), _, _, _, none⟩) (v := Value.bool f.dep) rfl (by kernel_rfl) (by kernel_rfl) (by kernel_rfl) (fun _ _ _ h => nomatch h.1) (yieldsIf_loadC (by rfl) _ _ rfl rfl f20.out Tryz.underlying4 rfl) (gr_of (Below.refl _ _).drew) ?_
      simp only [Act.put, List.setIfInBounds_toArray, List.set_cons_zero, List.set_cons_succ]
      refine wpAnyH_take (i := 9) (oi := ⟨some 20, Op.unOp UnOp.not 4 (Operand.tmp 19), _, _, _, none⟩) (v := Value.bool (!f.dep)) rfl (by kernel_rfl) (by kernel_rfl) (by kernel_rfl) (fun _ _ _ h => nomatch h.1) (Or.inl ⟨by rfl, fun w' hS' => by go_simp⟩) (gr_of (Below.refl _ _).drew) ?_
      simp only [Act.put, List.setIfInBounds_toArray, List.set_cons_zero, List.set_cons_succ]
      refine wpAnyH_take (i := 10) (oi := ⟨some 21, Op.fieldAddr 42 (Operand.tmp 5) 4, _, _, _, none⟩) (v := Value.pointer (some ⟨g5, 21, none⟩)) rfl (by kernel_rfl) (by kernel_rfl) (by kernel_rfl) (fun _ _ _ h => nomatch h.1) (Or.inl ⟨by rfl, fun w' hS' => by go_simp⟩) (gr_of (Below.refl _ _).drew) ?_
      simp only [Act.put, List.setIfInBounds_toArray, List.set_cons_zero, List.set_cons_succ]
      refine wpAnyH_take (i := 11) (oi := ⟨some 22, Op.load 4 (Operand.tmp 21), _, _, _, none⟩) (v := Value.bool f.hom) rfl (by kernel_rfl) (by kernel_rfl) (by kernel_rfl) (fun _ _ _ h => nomatch h.1) (yieldsIf_loadC (by rfl) _ _ rfl rfl f21.out Tryz.underlying4 rfl) (gr_of (Below.refl _ _).drew) ?_
      simp only [Act.put, List.setIfInBounds_toArray, List.set_cons_zero, List.set_cons_succ]
      refine wpAnyH_take (i := 12) (oi := ⟨some 23, Op.fieldAddr 77 (Operand.tmp 4) 4, _, _, _, none⟩) (v := Value.pointer (some ⟨g4, 21, none⟩)) rfl (by kernel_rfl) (by kernel_rfl) (by kernel_rfl) (fun _ _ _ h => nomatch h.1) (Or.inl ⟨by rfl, fun w' hS' => by go_simp⟩) (gr_of (Below.refl _ _).drew) ?_
      simp only [Act.put, List.setIfInBounds_toArray, List.set_cons_zero, List.set_cons_succ]
      refine wpAnyH_take (i := 13) (oi := ⟨some 24, Op.load 4 (Operand.tmp 23), _, _, _, none⟩) (v := Value.bool true) rfl (by kernel_rfl) (by kernel_rfl) (by kernel_rfl) (fun _ _ _ h => nomatch h.1) (yieldsIf_loadC (by rfl) _ _ rfl rfl k21.out Tryz.underlying4 rfl) (gr_of (Below.refl _ _).drew) ?_
      simp only [Act.put, List.setIfInBounds_toArray, List.set_cons_zero, List.set_cons_succ]
      refine wpAnyH_take (i := 21) (oi := ⟨some 32, Op.load 26 (Operand.tmp 3), _, _, _, none⟩) (v := Value.agg #[vi, vr, vp]) rfl (by kernel_rfl) (by kernel_rfl) (by kernel_rfl) (fun _ _ _ h => nomatch h.1) (yieldsIf_load_mid (by rfl) _ _ rfl _ _ rfl [vi, vr, vp] _ hR3.out net_under rfl net_size) (gr_of (Below.refl _ _).drew) ?_
      simp only [Act.put, List.setIfInBounds_toArray, List.set_cons_zero, List.set_cons_succ]
      refine wpAnyH_take (i := 22) (oi := ⟨some 33, Op.fieldAddr 42 (Operand.tmp 5) 0, _, _, _, none⟩) (v := Value.pointer (some ⟨g5, 0, none⟩)) rfl (by kernel_rfl) (by kernel_rfl) (by kernel_rfl) (fun _ _ _ h => nomatch h.1) (Or.inl ⟨by rfl, fun w' hS' => by go_simp⟩) (gr_of (Below.refl _ _).drew) ?_
      simp only [Act.put, List.setIfInBounds_toArray, List.set_cons_zero, List.set_cons_succ]
      refine wpAnyH_take (i := 23) (oi := ⟨some 34, Op.load 29 (Operand.tmp 33), _, _, _, none⟩) (v := Value.agg (adA f.ad)) rfl (by kernel_rfl) (by kernel_rfl) (by kernel_rfl) (fun _ _ _ h => nomatch h.1) (yieldsIf_loadAd (by rfl) _ rfl rfl hR5.out) (gr_of (Below.refl _ _).drew) ?_
      simp only [Act.put, List.setIfInBounds_toArray, List.set_cons_zero, List.set_cons_succ]
      refine wpAnyH_take (i := 26) (oi := ⟨some 37, Op.fieldAddr 77 (Operand.tmp 4) 2, _, _, _, none⟩) (v := Value.pointer (some ⟨g4, 19, none⟩)) rfl (by kernel_rfl) (by kernel_rfl) (by kernel_rfl) (fun _ _ _ h => nomatch h.1) (Or.inl ⟨by rfl, fun w' hS' => by go_simp⟩) (gr_of (Below.refl _ _).drew) ?_
      simp only [Act.put, List.setIfInBounds_toArray, List.set_cons_zero, List.set_cons_succ]
      refine wpAnyH_take (i := 27) (oi := ⟨some 38, Op.load 3 (Operand.tmp 37), _, _, _, none⟩) (v := Value.int .i64 t.lab) rfl (by kernel_rfl) (by kernel_rfl) (by kernel_rfl) (fun _ _ _ h => nomatch h.1) (yieldsIf_loadC (by rfl) _ _ rfl rfl k19.out Tryz.underlying3 rfl) (gr_of (Below.refl _ _).drew) ?_
      simp only [Act.put, List.setIfInBounds_toArray, List.set_cons_zero, List.set_cons_succ]
      refine wpAnyH_take (i := 29) (oi := ⟨some 40, Op.fieldAddr 42 (Operand.tmp 5) 5, _, _, _, none⟩) (v := Value.pointer (some ⟨g5, 22, none⟩)) rfl (by kernel_rfl) (by kernel_rfl) (by kernel_rfl) (fun _ _ _ h => nomatch h.1) (Or.inl ⟨by rfl, fun w' hS' => by go_simp⟩) (gr_of (Below.refl _ _).drew) ?_
      simp only [Act.put, List.setIfInBounds_toArray, List.set_cons_zero, List.set_cons_succ]
      refine wpAnyH_take (i := 30) (oi := ⟨some 41, Op.load 4 (Operand.tmp 40), _, _, _, none⟩) (v := Value.bool f.tem) rfl (by kernel_rfl) (by kernel_rfl) (by kernel_rfl) (fun _ _ _ h => nomatch h.1) (yieldsIf_loadC (by rfl) _ _ rfl rfl f22.out Tryz.underlying4 rfl) (gr_of (Below.refl _ _).drew) ?_
      simp only [Act.put, List.setIfInBounds_toArray, List.set_cons_zero, List.set_cons_succ]
      refine wpAnyH_take (i := 31) (oi := ⟨some 42, Op.fieldAddr 42 (Operand.tmp 5) 0, _, _, _, none⟩) (v := Value.pointer (some ⟨g5, 0, none⟩)) rfl (by kernel_rfl) (by kernel_rfl) (by kernel_rfl) (fun _ _ _ h => nomatch h.1) (Or.inl ⟨by rfl, fun w' hS' => by go_simp⟩) (gr_of (Below.refl _ _).drew) ?_
      simp only [Act.put, List.setIfInBounds_toArray, List.set_cons_zero, List.set_cons_succ]
      refine wpAnyH_take (i := 32) (oi := ⟨some 43, Op.load 29 (Operand.tmp 42), _, _, _, none⟩) (v := Value.agg (adA f.ad)) rfl (by kernel_rfl) (by kernel_rfl) (by kernel_rfl) (fun _ _ _ h => nomatch h.1) (yieldsIf_loadAd (by rfl) _ rfl rfl hR5.out) (gr_of (Below.refl _ _).drew) ?_
      simp only [Act.put, List.setIfInBounds_toArray, List.set_cons_zero, List.set_cons_succ]
      refine wpAnyH_take (i := 33) (oi := ⟨some 44, Op.fieldAddr 77 (Operand.tmp 4) 0, _, _, _, none⟩) (v := Value.pointer (some ⟨g4, 0, none⟩)) rfl (by kernel_rfl) (by kernel_rfl) (by kernel_rfl) (fun _ _ _ h => nomatch h.1) (Or.inl ⟨by rfl, fun w' hS' => by go_simp⟩) (gr_of (Below.refl _ _).drew) ?_
      simp only [Act.put, List.setIfInBounds_toArray, List.set_cons_zero, List.set_cons_succ]
      refine wpAnyH_take (i := 34) (oi := ⟨some 45, Op.load 29 (Operand.tmp 44), _, _, _, none⟩) (v := Value.agg (adA t.ad)) rfl (by kernel_rfl) (by kernel_rfl) (by kernel_rfl) (fun _ _ _ h => nomatch h.1) (yieldsIf_loadAd (by rfl) _ rfl rfl hR4.out) (gr_of (Below.refl _ _).drew) ?_
      simp only [Act.put, List.setIfInBounds_toArray, List.set_cons_zero, List.set_cons_succ]
      refine wpAnyH_take (i := 36) (oi := ⟨some 47, Op.fieldAddr 42 (Operand.tmp 5) 2, _, _, _, none⟩) (v := Value.pointer (some ⟨g5, 19, none⟩)) rfl (by kernel_rfl) (by kernel_rfl) (by kernel_rfl) (fun _ _ _ h => nomatch h.1) (Or.inl ⟨by rfl, fun w' hS' => by go_simp⟩) (gr_of (Below.refl _ _).drew) ?_
      simp only [Act.put, List.setIfInBounds_toArray, List.set_cons_zero, List.set_cons_succ]
      refine wpAnyH_take (i := 37) (oi := ⟨some 48, Op.load 3 (Operand.tmp 47), _, _, _, none⟩) (v := Value.int .i64 f.bits) rfl (by kernel_rfl) (by kernel_rfl) (by kernel_rfl) (fun _ _ _ h => nomatch h.1) (yieldsIf_loadC (by rfl) _ _ rfl rfl f19.out Tryz.underlying3 rfl) (gr_of (Below.refl _ _).drew) ?_
      simp only [Act.put, List.setIfInBounds_toArray, List.set_cons_zero, List.set_cons_succ]
      refine wpAnyH_all (rs := [6]) (by kernel_rfl) (by decide) ?_
      intro i hi
      obtain rfl := List.mem_singleton.1 hi
      refine wpOp_callM (o := ⟨some 17, Op.call { callee := Callee.value (Operand.func 28), args := #[Operand.tmp 16], argTypes := #[29] }, _, _, _, none⟩) rfl (by rfl) (by go_simp) (HS.out _ (HE.out.below (bel_tr hby ((Below.refl _ _).drew)))) ?_
      rintro e x1 ⟨rfl, hy1⟩
      have hx1 := bel_drew hy1
      refine ⟨_, rfl, ?_⟩
      show _ ∧ _
      refine ⟨(gr_of hx1), ?_⟩
      simp only [Act.put, List.setIfInBounds_toArray, List.set_cons_zero, List.set_cons_succ]
      refine wpAnyH_take (i := 14) (oi := ⟨some 25, Op.move (Operand.tmp 24), _, _, _, none⟩) (v := Value.bool true) rfl (by kernel_rfl) (by kernel_rfl) (by kernel_rfl) (fun _ _ _ h => nomatch h.1) (Or.inl ⟨by rfl, fun w' hS' => by go_simp⟩) (gr_of hx1) ?_
      simp only [Act.put, List.setIfInBounds_toArray, List.set_cons_zero, List.set_cons_succ]
      refine wpAnyH_take (i := 15) (oi := ⟨some 26, Op.fieldAddr 42 (Operand.tmp 5) 1, _, _, _, some (14 , true)⟩) (v := Value.pointer (some ⟨g5, 18, none⟩)) rfl (by kernel_rfl) (by kernel_rfl) (by kernel_rfl) (fun _ _ _ h => nomatch h.1) (Or.inl ⟨by rfl, fun w' hS' => by go_simp⟩) (gr_of hx1) ?_
      simp only [Act.put, List.setIfInBounds_toArray, List.set_cons_zero, List.set_cons_succ]
      refine wpAnyH_take (i := 16) (oi := ⟨some 27, Op.load 3 (Operand.tmp 26), _, _, _, some (14 , true)⟩) (v := Value.int .i64 f.idx) rfl (by kernel_rfl) (by kernel_rfl) (by kernel_rfl) (fun _ _ _ h => nomatch h.1) (yieldsIf_loadC (by rfl) _ _ rfl rfl f18.out Tryz.underlying3 rfl) (gr_of hx1) ?_
      simp only [Act.put, List.setIfInBounds_toArray, List.set_cons_zero, List.set_cons_succ]
      refine wpAnyH_take (i := 17) (oi := ⟨some 28, Op.fieldAddr 77 (Operand.tmp 4) 3, _, _, _, some (14 , true)⟩) (v := Value.pointer (some ⟨g4, 20, none⟩)) rfl (by kernel_rfl) (by kernel_rfl) (by kernel_rfl) (fun _ _ _ h => nomatch h.1) (Or.inl ⟨by rfl, fun w' hS' => by go_simp⟩) (gr_of hx1) ?_
      simp only [Act.put, List.setIfInBounds_toArray, List.set_cons_zero, List.set_cons_succ]
      refine wpAnyH_take (i := 18) (oi := ⟨some 29, Op.load 3 (Operand.tmp 28), _, _, _, some (14 , true)⟩) (v := Value.int .i64 t.idx) rfl (by kernel_rfl) (by kernel_rfl) (by kernel_rfl) (fun _ _ _ h => nomatch h.1) (yieldsIf_loadC (by rfl) _ _ rfl rfl k20.out Tryz.underlying3 rfl) (gr_of hx1) ?_
      simp only [Act.put, List.setIfInBounds_toArray, List.set_cons_zero, List.set_cons_succ]
      refine wpAnyH_take (i := 19) (oi := ⟨some 30, Op.binOp BinOp.eql 3 (Operand.tmp 27) (Operand.tmp 29) 3, _, _, _, some (14 , true)⟩) (v := Value.bool (f.idx == t.idx)) rfl (by kernel_rfl) (by kernel_rfl) (by kernel_rfl) (fun _ _ _ h => nomatch h.1) (Or.inl ⟨by rfl, fun w' hS' => by go_simp⟩) (gr_of hx1) ?_
      simp only [Act.put, List.setIfInBounds_toArray, List.set_cons_zero, List.set_cons_succ]
      refine wpAnyH_take (i := 20) (oi := ⟨some 31, Op.pick (Operand.tmp 25) (Operand.tmp 30) (Operand.const (Value.bool false)), _, _, _, none⟩) (v := Value.bool (f.idx == t.idx)) rfl (by kernel_rfl) (by kernel_rfl) (by kernel_rfl) (fun _ _ _ h => nomatch h.1) (Or.inl ⟨by rfl, fun w' hS' => by go_simp⟩) (gr_of hx1) ?_
      simp only [Act.put, List.setIfInBounds_toArray, List.set_cons_zero, List.set_cons_succ]
      refine wpAnyH_all (rs := [24]) (by kernel_rfl) (by decide) ?_
      intro i hi
      obtain rfl := List.mem_singleton.1 hi
      refine wpOp_callM (o := ⟨some 35, Op.call { callee := Callee.value (Operand.func 26), args := #[Operand.tmp 32, Operand.tmp 34], argTypes := #[26, 29] }, _, _, _, none⟩) rfl (by rfl) (by go_simp) (HP.out _ (HN.out.below (bel_tr hby (hx1))) (HE.out.below (bel_tr hby (hx1)))) ?_
      rintro e x2 ⟨rfl, hy2⟩
      have hx2 := bel_tr hx1 hy2
      refine ⟨_, rfl, ?_⟩
      show _ ∧ _
      refine ⟨(gr_of hx2), ?_⟩
      simp only [Act.put, List.setIfInBounds_toArray, List.set_cons_zero, List.set_cons_succ]
      refine wpAnyH_take (i := 25) (oi := ⟨some 36, Op.field 56 (Operand.tmp 35) 2, _, _, _, none⟩) (v := Value.int .i64 P.lab) rfl (by kernel_rfl) (by kernel_rfl) (by kernel_rfl) (fun _ _ _ h => nomatch h.1) (yieldsIf_fieldOne (by rfl) _ _ 2 rfl rfl pol_under (ty := 3) (off := 20) (by kernel_rfl) Tryz.underlying3 rfl (polA_20 _)) (gr_of hx2) ?_
      simp only [Act.put, List.setIfInBounds_toArray, List.set_cons_zero, List.set_cons_succ]
      refine wpAnyH_take (i := 28) (oi := ⟨some 39, Op.binOp BinOp.eql 3 (Operand.tmp 36) (Operand.tmp 38) 3, _, _, _, none⟩) (v := Value.bool (P.lab == t.lab)) rfl (by kernel_rfl) (by kernel_rfl) (by kernel_rfl) (fun _ _ _ h => nomatch h.1) (Or.inl ⟨by rfl, fun w' hS' => by go_simp⟩) (gr_of hx2) ?_
      simp only [Act.put, List.setIfInBounds_toArray, List.set_cons_zero, List.set_cons_succ]
      refine wpAnyH_all (rs := [35]) (by kernel_rfl) (by decide) ?_
      intro i hi
      obtain rfl := List.mem_singleton.1 hi
      refine wpOp_callM (o := ⟨some 46, Op.call { callee := Callee.value (Operand.func 30), args := #[Operand.tmp 43, Operand.tmp 45], argTypes := #[29, 29] }, _, _, _, none⟩) rfl (by rfl) (by go_simp) (HC.out _) ?_
      rintro e x3 ⟨rfl, hy3⟩
      have hx3 := bel_tr hx2 hy3
      refine ⟨_, rfl, ?_⟩
      show _ ∧ _
      refine ⟨(gr_of hx3), ?_⟩
      simp only [Act.put, List.setIfInBounds_toArray, List.set_cons_zero, List.set_cons_succ]
      refine wpAnyH_take (i := 38) (oi := ⟨some 49, Op.call { callee := Callee.builtin Builtin.min, args := #[Operand.tmp 46, Operand.tmp 48], argTypes := #[3, 3] }, _, _, _, none⟩) (v := Value.int .i64 (min cm f.bits)) rfl (by kernel_rfl) (by kernel_rfl) (by kernel_rfl) (fun _ _ _ h => nomatch h.1) (Or.inl ⟨by rfl, fun w' hS' => by go_simp⟩) (gr_of hx3) ?_
      simp only [Act.put, List.setIfInBounds_toArray, List.set_cons_zero, List.set_cons_succ]
      refine wpAnyH_take (i := 39) (oi := ⟨some 50, Op.build 80 #[(0 , Operand.tmp 14), (1 , Operand.tmp 17), (2 , Operand.tmp 20), (3 , Operand.tmp 22), (4 , Operand.tmp 31), (5 , Operand.tmp 39), (6 , Operand.tmp 41), (7 , Operand.tmp 49)], _, _, _, none⟩) (v := Value.agg (worA W)) rfl (by kernel_rfl) (by kernel_rfl) (by kernel_rfl) (fun _ _ _ h => nomatch h.1) (yieldsIf_buildL (by rfl) 80 _ rfl H1.out rfl) (gr_of hx3) ?_
      simp only [Act.put, List.setIfInBounds_toArray, List.set_cons_zero, List.set_cons_succ]
      refine wpAnyH_all (rs := [40]) (by kernel_rfl) (by decide) ?_
      intro i hi
      obtain rfl := List.mem_singleton.1 hi
      refine wpOp_of_list (o := ⟨none, Op.store 80 (Operand.tmp 6) (Operand.tmp 50), _, _, _, none⟩) rfl ?_
      have hB6z := HY6.out.bel (hx3 : Below wy.heap.size wy _)
      refine wpList_store_wor rfl _ _ rfl rfl rfl hB6z ?_
      intro x4 hBz hSz
      have hgS := gr_st (hx3 : Below wy.heap.size wy _) hSz
      have hx4 := (bel_tr hby (hx3 : Below wy.heap.size wy _)).trans (hSz.below hw6)
      show _ ∧ _
      refine ⟨hgS, ?_⟩
      simp only [Act.put]
      refine wpAnyH_done (by kernel_rfl) ?_ _
      exact ⟨rfl, rfl, hBz, hx4⟩
    case k =>
      rintro w9 ⟨hB9, hb9⟩
      go_wp2_with (fail)
      exact ret_wor Tryz.results52 rfl hB9 rfl ⟨rfl, hb9⟩
end Go.Proofs.YthlnndjkocnfcaaGreatDoor

/- source.better, source.Better (printed by mk_srh.py). -/
namespace Go.Proofs.YthlnndjkocnfcaaGreatDoor
open Go.RowKit
attribute [local go_sem] ba_get ext_take ext_drop ext_any ba_app

def giA (l : List Int) : Array Value := (l.map (fun n => Value.int .i64 n)).toArray
theorem giA_size (l : List Int) : (giA l).size = l.length := by simp [giA]
theorem giA_at {l : List Int} {k : Nat} (h : k < l.length) : (giA l)[k]? = some (.int .i64 l[k]) := by
  unfold giA
  rw [List.getElem?_toArray, List.getElem?_map, List.getElem?_eq_getElem h]
  rfl
theorem giA_one (l : List Int) : (giA l).all (·.oneCell') = true := by
  refine all_oneCell_toArray fun v hv => ?_
  obtain ⟨x, _, rfl⟩ := List.mem_map.1 hv
  rfl
theorem i8_under : Tryz.prog.underlying 88 = some (.array 8 3) := by kernel_rfl
theorem i8_size : (Tryz.prog.info? 88).map (·.size) = some 8 := by kernel_rfl
theorem i8_zero : ZeroIs Tryz.prog 88 (giA [0, 0, 0, 0, 0, 0, 0, 0]) := by unfold ZeroIs; kernel_rfl
theorem built_i8 (a b c d e f g h : Int) : Tryz.prog.built 88 [(0, .int .i64 a), (1, .int .i64 b), (2, .int .i64 c), (3, .int .i64 d), (4, .int .i64 e), (5, .int .i64 f), (6, .int .i64 g), (7, .int .i64 h)] = some (giA [a, b, c, d, e, f, g, h]) := by kernel_rfl
theorem run_idxI {l : List Int} (h8 : l.length = 8) {k : Nat} (hk : k < l.length) (w : World) : (Instr.index 88 (.agg (giA l)) (.int .i64 (k : Int))).run Tryz.prog w = .ok (.int .i64 l[k]) w := by
  have hs : (sizeOf 3).run Tryz.prog w = .ok 1 w := size_run (by kernel_rfl) w
  have hi : (0 : Int) ≤ (k : Int) ∧ (k : Int) < ((8 : Nat) : Int) := by omega
  have ha : (isAgg 3).run Tryz.prog w = .ok false w := by simp [isAgg, run_underlying Tryz.underlying3]
  simp only [Instr.index, asIntOf, Sem.run_bind, Sem.run_pure, Result.andThen_ok, run_underlying i8_under, if_pos hi, hs, part, ha, Bool.false_eq_true, if_false, Int.toNat_natCast, Nat.mul_one, giA_at hk]
theorem wpList_idxI {w : World} {ops : Array Oper} {rest : List Oper} {o : Oper} {a : Act} {Q : Exit → Act → World → Prop} (hgd : o.guard = none) (x y : Operand) (ho : o.op = .index 88 x y) {l : List Int} {k : Nat} (hx : a.eval x = .agg (giA l)) (hy : a.eval y = .int .i64 (k : Int)) (h8 : l.length = 8) (hk : k < l.length)
    (h : wpList Tryz.prog ops Q rest (a.put o.dst (.int .i64 l[k])) w) : wpList Tryz.prog ops Q (o :: rest) a w := by
  refine wpList_plain hgd fun _ hK => ?_
  unfold Oper.wp execOp
  simp only [ho, hx, hy, Sem.run_bind, run_idxI h8 hk, Result.andThen_ok]
  exact hK _ _ h
theorem fst1_cons (x : Int) (l : List Int) (h : x = 0) : fst1 (x :: l) = fst1 l := by rw [fst1, if_pos h]
theorem fst1_hit (x : Int) (l : List Int) (h : x ≠ 0) : fst1 (x :: l) = x := by rw [fst1, if_neg h]
theorem fstI_cons (x : Int) (l : List Int) (k : Nat) (h : x = 0) : fstI (x :: l) k = fstI l (k + 1) := by rw [fstI, if_pos h]
theorem fstI_hit (x : Int) (l : List Int) (k : Nat) (h : x ≠ 0) : fstI (x :: l) k = (k : Int) + 1 := by rw [fstI, if_neg h]
def BetPost (w : World) (l : List Int) (e : Ending) (w' : World) : Prop := e = .returned (.tuple #[.int .i64 (fst1 l), .int .i64 (fstI l 0)]) ∧ Below w.heap.size w w'
set_option maxRecDepth 100000 in
set_option maxHeartbeats 4000000 in
theorem sbetter_any (t : Aim) (a b : Wor) (w : World) : Calls Tryz.prog 53 #[.agg (aimA t), .agg (worA a), .agg (worA b)] w (BetPost w (telL t a b)) := by
  obtain ⟨L, hL⟩ : ∃ L, L = telL t a b := ⟨_, rfl⟩
  have HL : Hid (telL t a b = L) := Lib.hid hL.symm
  have H0 : Hid (∀ w', Calls Tryz.prog 70 #[.bool a.same, .bool b.same] w' (InPost w' (ordB a.same b.same))) := Lib.hid (sorder_any a.same b.same)
  have H1 : Hid (∀ w', Calls Tryz.prog 71 #[.int .i64 a.sco, .int .i64 b.sco, .int .i64 t.sco] w' (InPost w' (scoI a.sco b.sco t.sco))) := Lib.hid (scopes_any a.sco b.sco t.sco)
  have H2 : Hid (∀ w', Calls Tryz.prog 70 #[.bool a.cur, .bool b.cur] w' (InPost w' (ordB a.cur b.cur))) := Lib.hid (sorder_any a.cur b.cur)
  have H3 : Hid (∀ w', Calls Tryz.prog 70 #[.bool a.hom, .bool b.hom] w' (InPost w' (ordB a.hom b.hom))) := Lib.hid (sorder_any a.hom b.hom)
  have H4 : Hid (∀ w', Calls Tryz.prog 70 #[.bool a.nea, .bool b.nea] w' (InPost w' (ordB a.nea b.nea))) := Lib.hid (sorder_any a.nea b.nea)
  have H5 : Hid (∀ w', Calls Tryz.prog 70 #[.bool a.lab, .bool b.lab] w' (InPost w' (ordB a.lab b.lab))) := Lib.hid (sorder_any a.lab b.lab)
  have H6 : Hid (∀ w', Calls Tryz.prog 70 #[.bool a.tem, .bool b.tem] w' (InPost w' (ordB a.tem b.tem))) := Lib.hid (sorder_any a.tem b.tem)
  have H7 : Hid (∀ w', Calls Tryz.prog 25 #[.int .i64 a.com, .int .i64 b.com] w' (InPost w' (cmpI a.com b.com))) := Lib.hid (cmp_any a.com b.com)
  generalize ho0 : ordB a.same b.same = o0 at *
  generalize ho1 : scoI a.sco b.sco t.sco = o1 at *
  generalize ho2 : ordB a.cur b.cur = o2 at *
  generalize ho3 : ordB a.hom b.hom = o3 at *
  generalize ho4 : ordB a.nea b.nea = o4 at *
  generalize ho5 : ordB a.lab b.lab = o5 at *
  generalize ho6 : ordB a.tem b.tem = o6 at *
  generalize ho7 : cmpI a.com b.com = o7 at *
  have HE : Hid (L = [o0, o1, o2, o3, o4, o5, o6, o7]) := Lib.hid (by rw [hL]; unfold telL; rw [ho0, ho1, ho2, ho3, ho4, ho5, ho6, ho7])
  rw [HL.out]
  clear hL HL ho0 ho1 ho2 ho3 ho4 ho5 ho6 ho7
  go_enter Tryz.func53, Tryz.ntmps53
  go_wp2_with (first
    | ((with_reducible refine wpList_boxB (o := ⟨some 3, _, _, _, _, _⟩) rfl _ _ rfl rfl ?_); intro g3 w1 hg hB3 hb1 hs; have hg3 : w.heap.size ≤ g3 := Nat.le_of_eq hg.symm; clear hg hs)
    | ((with_reducible refine wpList_boxB (o := ⟨some 4, _, _, _, _, _⟩) rfl _ _ rfl rfl ?_); intro g4 w2 hg hB4 hb2 hs; have hB32 := hB3.bel hb2; have hb02 := bel_tr hb1 hb2; clear hg hs)
    | ((with_reducible refine wpList_boxB (o := ⟨some 5, _, _, _, _, _⟩) rfl _ _ rfl rfl ?_); intro g5 w3 hg hB5 hb3 hs; have hB33 := hB32.bel hb3; have hB43 := hB4.bel hb3; have hb03 := bel_tr hb02 hb3; clear hg hs))
  have a0 : Hid (∀ w', Below w3.heap.size w3 w' → w'.cell? ⟨g4, 0, none⟩ = some (.bool a.same)) := Lib.hid (fun w' h => by have := (hB43.bel h).cell 0; rw [worA_0] at this; exact this)
  have b0 : Hid (∀ w', Below w3.heap.size w3 w' → w'.cell? ⟨g5, 0, none⟩ = some (.bool b.same)) := Lib.hid (fun w' h => by have := (hB5.bel h).cell 0; rw [worA_0] at this; exact this)
  have a1 : Hid (∀ w', Below w3.heap.size w3 w' → w'.cell? ⟨g4, 1, none⟩ = some (.int .i64 a.sco)) := Lib.hid (fun w' h => by have := (hB43.bel h).cell 1; rw [worA_1] at this; exact this)
  have b1 : Hid (∀ w', Below w3.heap.size w3 w' → w'.cell? ⟨g5, 1, none⟩ = some (.int .i64 b.sco)) := Lib.hid (fun w' h => by have := (hB5.bel h).cell 1; rw [worA_1] at this; exact this)
  have a2 : Hid (∀ w', Below w3.heap.size w3 w' → w'.cell? ⟨g4, 2, none⟩ = some (.bool a.cur)) := Lib.hid (fun w' h => by have := (hB43.bel h).cell 2; rw [worA_2] at this; exact this)
  have b2 : Hid (∀ w', Below w3.heap.size w3 w' → w'.cell? ⟨g5, 2, none⟩ = some (.bool b.cur)) := Lib.hid (fun w' h => by have := (hB5.bel h).cell 2; rw [worA_2] at this; exact this)
  have a3 : Hid (∀ w', Below w3.heap.size w3 w' → w'.cell? ⟨g4, 3, none⟩ = some (.bool a.hom)) := Lib.hid (fun w' h => by have := (hB43.bel h).cell 3; rw [worA_3] at this; exact this)
  have b3 : Hid (∀ w', Below w3.heap.size w3 w' → w'.cell? ⟨g5, 3, none⟩ = some (.bool b.hom)) := Lib.hid (fun w' h => by have := (hB5.bel h).cell 3; rw [worA_3] at this; exact this)
  have a4 : Hid (∀ w', Below w3.heap.size w3 w' → w'.cell? ⟨g4, 4, none⟩ = some (.bool a.nea)) := Lib.hid (fun w' h => by have := (hB43.bel h).cell 4; rw [worA_4] at this; exact this)
  have b4 : Hid (∀ w', Below w3.heap.size w3 w' → w'.cell? ⟨g5, 4, none⟩ = some (.bool b.nea)) := Lib.hid (fun w' h => by have := (hB5.bel h).cell 4; rw [worA_4] at this; exact this)
  have a5 : Hid (∀ w', Below w3.heap.size w3 w' → w'.cell? ⟨g4, 5, none⟩ = some (.bool a.lab)) := Lib.hid (fun w' h => by have := (hB43.bel h).cell 5; rw [worA_5] at this; exact this)
  have b5 : Hid (∀ w', Below w3.heap.size w3 w' → w'.cell? ⟨g5, 5, none⟩ = some (.bool b.lab)) := Lib.hid (fun w' h => by have := (hB5.bel h).cell 5; rw [worA_5] at this; exact this)
  have a6 : Hid (∀ w', Below w3.heap.size w3 w' → w'.cell? ⟨g4, 6, none⟩ = some (.bool a.tem)) := Lib.hid (fun w' h => by have := (hB43.bel h).cell 6; rw [worA_6] at this; exact this)
  have b6 : Hid (∀ w', Below w3.heap.size w3 w' → w'.cell? ⟨g5, 6, none⟩ = some (.bool b.tem)) := Lib.hid (fun w' h => by have := (hB5.bel h).cell 6; rw [worA_6] at this; exact this)
  have a7 : Hid (∀ w', Below w3.heap.size w3 w' → w'.cell? ⟨g4, 7, none⟩ = some (.int .i64 a.com)) := Lib.hid (fun w' h => by have := (hB43.bel h).cell 7; rw [worA_7] at this; exact this)
  have b7 : Hid (∀ w', Below w3.heap.size w3 w' → w'.cell? ⟨g5, 7, none⟩ = some (.int .i64 b.com)) := Lib.hid (fun w' h => by have := (hB5.bel h).cell 7; rw [worA_7] at this; exact this)
  have t1 : Hid (∀ w', Below w3.heap.size w3 w' → w'.cell? ⟨g3, 18, none⟩ = some (.int .i64 t.sco)) := Lib.hid (fun w' h => by have := (hB33.bel h).cell 18; rw [aimA_18] at this; exact this)
  have Hb := Lib.hid hb03
  have HB := Lib.hid (built_i8 o0 o1 o2 o3 o4 o5 o6 o7)
  rw [← HE.out] at HB
  have HLn : Hid (L.length = 8) := Lib.hid (by rw [HE.out]; rfl)
  have HLs : Hid ((giA L).size = 8) := Lib.hid (by rw [giA_size, HLn.out])
  have HLz : Hid ((Tryz.prog.info? 88).map (·.size) = some (giA L).size) := Lib.hid (by rw [HLs.out]; exact i8_size)
  clear hB3 hB32 hB33 hB4 hB43 hB5 hb1 hb2 hb3 hb02 hb03 HE
  apply region_cut (R := fun g w' => Bk w' g 88 (giA L) ∧ w3.heap.size ≤ g ∧ Below w3.heap.size w3 w')
  case h =>
    refine wp_region_held (S := fun w' => Below w3.heap.size w3 w') (by kernel_rfl) ?_
    refine wpAnyH_take (i := 0) (oi := ⟨some 11, Op.fieldAddr 80 (Operand.tmp 4) 0, _, _, _, none⟩) (v := Value.pointer (some ⟨g4, 0, none⟩)) rfl (by kernel_rfl) (by kernel_rfl) (by kernel_rfl) (fun _ _ _ h => nomatch h.1) (Or.inl ⟨by rfl, fun w' hS' => by go_simp⟩) (Below.refl _ _).drew ?_
    simp only [Act.put, List.setIfInBounds_toArray, List.set_cons_zero, List.set_cons_succ]
    refine wpAnyH_take (i := 1) (oi := ⟨some 12, Op.load 4 (Operand.tmp 11), _, _, _, none⟩) (v := Value.bool a.same) rfl (by kernel_rfl) (by kernel_rfl) (by kernel_rfl) (fun _ _ _ h => nomatch h.1) (yieldsIf_loadC (by rfl) _ _ rfl rfl a0.out Tryz.underlying4 rfl) (Below.refl _ _).drew ?_
    simp only [Act.put, List.setIfInBounds_toArray, List.set_cons_zero, List.set_cons_succ]
    refine wpAnyH_take (i := 2) (oi := ⟨some 13, Op.fieldAddr 80 (Operand.tmp 5) 0, _, _, _, none⟩) (v := Value.pointer (some ⟨g5, 0, none⟩)) rfl (by kernel_rfl) (by kernel_rfl) (by kernel_rfl) (fun _ _ _ h => nomatch h.1) (Or.inl ⟨by rfl, fun w' hS' => by go_simp⟩) (Below.refl _ _).drew ?_
    simp only [Act.put, List.setIfInBounds_toArray, List.set_cons_zero, List.set_cons_succ]
    refine wpAnyH_take (i := 3) (oi := ⟨some 14, Op.load 4 (Operand.tmp 13), _, _, _, none⟩) (v := Value.bool b.same) rfl (by kernel_rfl) (by kernel_rfl) (by kernel_rfl) (fun _ _ _ h => nomatch h.1) (yieldsIf_loadC (by rfl) _ _ rfl rfl b0.out Tryz.underlying4 rfl) (Below.refl _ _).drew ?_
    simp only [Act.put, List.setIfInBounds_toArray, List.set_cons_zero, List.set_cons_succ]
    refine wpAnyH_take (i := 5) (oi := ⟨some 16, Op.fieldAddr 80 (Operand.tmp 4) 1, _, _, _, none⟩) (v := Value.pointer (some ⟨g4, 1, none⟩)) rfl (by kernel_rfl) (by kernel_rfl) (by kernel_rfl) (fun _ _ _ h => nomatch h.1) (Or.inl ⟨by rfl, fun w' hS' => by go_simp⟩) (Below.refl _ _).drew ?_
    simp only [Act.put, List.setIfInBounds_toArray, List.set_cons_zero, List.set_cons_succ]
    refine wpAnyH_take (i := 6) (oi := ⟨some 17, Op.load 3 (Operand.tmp 16), _, _, _, none⟩) (v := Value.int .i64 a.sco) rfl (by kernel_rfl) (by kernel_rfl) (by kernel_rfl) (fun _ _ _ h => nomatch h.1) (yieldsIf_loadC (by rfl) _ _ rfl rfl a1.out Tryz.underlying3 rfl) (Below.refl _ _).drew ?_
    simp only [Act.put, List.setIfInBounds_toArray, List.set_cons_zero, List.set_cons_succ]
    refine wpAnyH_take (i := 7) (oi := ⟨some 18, Op.fieldAddr 80 (Operand.tmp 5) 1, _, _, _, none⟩) (v := Value.pointer (some ⟨g5, 1, none⟩)) rfl (by kernel_rfl) (by kernel_rfl) (by kernel_rfl) (fun _ _ _ h => nomatch h.1) (Or.inl ⟨by rfl, fun w' hS' => by go_simp⟩) (Below.refl _ _).drew ?_
    simp only [Act.put, List.setIfInBounds_toArray, List.set_cons_zero, List.set_cons_succ]
    refine wpAnyH_take (i := 8) (oi := ⟨some 19, Op.load 3 (Operand.tmp 18), _, _, _, none⟩) (v := Value.int .i64 b.sco) rfl (by kernel_rfl) (by kernel_rfl) (by kernel_rfl) (fun _ _ _ h => nomatch h.1) (yieldsIf_loadC (by rfl) _ _ rfl rfl b1.out Tryz.underlying3 rfl) (Below.refl _ _).drew ?_
    simp only [Act.put, List.setIfInBounds_toArray, List.set_cons_zero, List.set_cons_succ]
    refine wpAnyH_take (i := 9) (oi := ⟨some 20, Op.fieldAddr 77 (Operand.tmp 3) 1, _, _, _, none⟩) (v := Value.pointer (some ⟨g3, 18, none⟩)) rfl (by kernel_rfl) (by kernel_rfl) (by kernel_rfl) (fun _ _ _ h => nomatch h.1) (Or.inl ⟨by rfl, fun w' hS' => by go_simp⟩) (Below.refl _ _).drew ?_
    simp only [Act.put, List.setIfInBounds_toArray, List.set_cons_zero, List.set_cons_succ]
    refine wpAnyH_take (i := 10) (oi := ⟨some 21, Op.load 3 (Operand.tmp 20), _, _, _, none⟩) (v := Value.int .i64 t.sco) rfl (by kernel_rfl) (by kernel_rfl) (by kernel_rfl) (fun _ _ _ h => nomatch h.1) (yieldsIf_loadC (by rfl) _ _ rfl rfl t1.out Tryz.underlying3 rfl) (Below.refl _ _).drew ?_
    simp only [Act.put, List.setIfInBounds_toArray, List.set_cons_zero, List.set_cons_succ]
    refine wpAnyH_take (i := 12) (oi := ⟨some 23, Op.fieldAddr 80 (Operand.tmp 4) 2, _, _, _, none⟩) (v := Value.pointer (some ⟨g4, 2, none⟩)) rfl (by kernel_rfl) (by kernel_rfl) (by kernel_rfl) (fun _ _ _ h => nomatch h.1) (Or.inl ⟨by rfl, fun w' hS' => by go_simp⟩) (Below.refl _ _).drew ?_
    simp only [Act.put, List.setIfInBounds_toArray, List.set_cons_zero, List.set_cons_succ]
    refine wpAnyH_take (i := 13) (oi := ⟨some 24, Op.load 4 (Operand.tmp 23), _, _, _, none⟩) (v := Value.bool a.cur) rfl (by kernel_rfl) (by kernel_rfl) (by kernel_rfl) (fun _ _ _ h => nomatch h.1) (yieldsIf_loadC (by rfl) _ _ rfl rfl a2.out Tryz.underlying4 rfl) (Below.refl _ _).drew ?_
    simp only [Act.put, List.setIfInBounds_toArray, List.set_cons_zero, List.set_cons_succ]
    refine wpAnyH_take (i := 14) (oi := ⟨some 25, Op.fieldAddr 80 (Operand.tmp 5) 2, _, _, _, none⟩) (v := Value.pointer (some ⟨g5, 2, none⟩)) rfl (by kernel_rfl) (by kernel_rfl) (by kernel_rfl) (fun _ _ _ h => nomatch h.1) (Or.inl ⟨by rfl, fun w' hS' => by go_simp⟩) (Below.refl _ _).drew ?_
    simp only [Act.put, List.setIfInBounds_toArray, List.set_cons_zero, List.set_cons_succ]
    refine wpAnyH_take (i := 15) (oi := ⟨some 26, Op.load 4 (Operand.tmp 25), _, _, _, none⟩) (v := Value.bool b.cur) rfl (by kernel_rfl) (by kernel_rfl) (by kernel_rfl) (fun _ _ _ h => nomatch h.1) (yieldsIf_loadC (by rfl) _ _ rfl rfl b2.out Tryz.underlying4 rfl) (Below.refl _ _).drew ?_
    simp only [Act.put, List.setIfInBounds_toArray, List.set_cons_zero, List.set_cons_succ]
    refine wpAnyH_take (i := 17) (oi := ⟨some 28, Op.fieldAddr 80 (Operand.tmp 4) 3, _, _, _, none⟩) (v := Value.pointer (some ⟨g4, 3, none⟩)) rfl (by kernel_rfl) (by kernel_rfl) (by kernel_rfl) (fun _ _ _ h => nomatch h.1) (Or.inl ⟨by rfl, fun w' hS' => by go_simp⟩) (Below.refl _ _).drew ?_
    simp only [Act.put, List.setIfInBounds_toArray, List.set_cons_zero, List.set_cons_succ]
    refine wpAnyH_take (i := 18) (oi := ⟨some 29, Op.load 4 (Operand.tmp 28), _, _, _, none⟩) (v := Value.bool a.hom) rfl (by kernel_rfl) (by kernel_rfl) (by kernel_rfl) (fun _ _ _ h => nomatch h.1) (yieldsIf_loadC (by rfl) _ _ rfl rfl a3.out Tryz.underlying4 rfl) (Below.refl _ _).drew ?_
    simp only [Act.put, List.setIfInBounds_toArray, List.set_cons_zero, List.set_cons_succ]
    refine wpAnyH_take (i := 19) (oi := ⟨some 30, Op.fieldAddr 80 (Operand.tmp 5) 3, _, _, _, none⟩) (v := Value.pointer (some ⟨g5, 3, none⟩)) rfl (by kernel_rfl) (by kernel_rfl) (by kernel_rfl) (fun _ _ _ h => nomatch h.1) (Or.inl ⟨by rfl, fun w' hS' => by go_simp⟩) (Below.refl _ _).drew ?_
    simp only [Act.put, List.setIfInBounds_toArray, List.set_cons_zero, List.set_cons_succ]
    refine wpAnyH_take (i := 20) (oi := ⟨some 31, Op.load 4 (Operand.tmp 30), _, _, _, none⟩) (v := Value.bool b.hom) rfl (by kernel_rfl) (by kernel_rfl) (by kernel_rfl) (fun _ _ _ h => nomatch h.1) (yieldsIf_loadC (by rfl) _ _ rfl rfl b3.out Tryz.underlying4 rfl) (Below.refl _ _).drew ?_
    simp only [Act.put, List.setIfInBounds_toArray, List.set_cons_zero, List.set_cons_succ]
    refine wpAnyH_take (i := 22) (oi := ⟨some 33, Op.fieldAddr 80 (Operand.tmp 4) 4, _, _, _, none⟩) (v := Value.pointer (some ⟨g4, 4, none⟩)) rfl (by kernel_rfl) (by kernel_rfl) (by kernel_rfl) (fun _ _ _ h => nomatch h.1) (Or.inl ⟨by rfl, fun w' hS' => by go_simp⟩) (Below.refl _ _).drew ?_
    simp only [Act.put, List.setIfInBounds_toArray, List.set_cons_zero, List.set_cons_succ]
    refine wpAnyH_take (i := 23) (oi := ⟨some 34, Op.load 4 (Operand.tmp 33), _, _, _, none⟩) (v := Value.bool a.nea) rfl (by kernel_rfl) (by kernel_rfl) (by kernel_rfl) (fun _ _ _ h => nomatch h.1) (yieldsIf_loadC (by rfl) _ _ rfl rfl a4.out Tryz.underlying4 rfl) (Below.refl _ _).drew ?_
    simp only [Act.put, List.setIfInBounds_toArray, List.set_cons_zero, List.set_cons_succ]
    refine wpAnyH_take (i := 24) (oi := ⟨some 35, Op.fieldAddr 80 (Operand.tmp 5) 4, _, _, _, none⟩) (v := Value.pointer (some ⟨g5, 4, none⟩)) rfl (by kernel_rfl) (by kernel_rfl) (by kernel_rfl) (fun _ _ _ h => nomatch h.1) (Or.inl ⟨by rfl, fun w' hS' => by go_simp⟩) (Below.refl _ _).drew ?_
    simp only [Act.put, List.setIfInBounds_toArray, List.set_cons_zero, List.set_cons_succ]
    refine wpAnyH_take (i := 25) (oi := ⟨some 36, Op.load 4 (Operand.tmp 35), _, _, _, none⟩) (v := Value.bool b.nea) rfl (by kernel_rfl) (by kernel_rfl) (by kernel_rfl) (fun _ _ _ h => nomatch h.1) (yieldsIf_loadC (by rfl) _ _ rfl rfl b4.out Tryz.underlying4 rfl) (Below.refl _ _).drew ?_
    simp only [Act.put, List.setIfInBounds_toArray, List.set_cons_zero, List.set_cons_succ]
    refine wpAnyH_take (i := 27) (oi := ⟨some 38, Op.fieldAddr 80 (Operand.tmp 4) 5, _, _, _, none⟩) (v := Value.pointer (some ⟨g4, 5, none⟩)) rfl (by kernel_rfl) (by kernel_rfl) (by kernel_rfl) (fun _ _ _ h => nomatch h.1) (Or.inl ⟨by rfl, fun w' hS' => by go_simp⟩) (Below.refl _ _).drew ?_
    simp only [Act.put, List.setIfInBounds_toArray, List.set_cons_zero, List.set_cons_succ]
    refine wpAnyH_take (i := 28) (oi := ⟨some 39, Op.load 4 (Operand.tmp 38), _, _, _, none⟩) (v := Value.bool a.lab) rfl (by kernel_rfl) (by kernel_rfl) (by kernel_rfl) (fun _ _ _ h => nomatch h.1) (yieldsIf_loadC (by rfl) _ _ rfl rfl a5.out Tryz.underlying4 rfl) (Below.refl _ _).drew ?_
    simp only [Act.put, List.setIfInBounds_toArray, List.set_cons_zero, List.set_cons_succ]
    refine wpAnyH_take (i := 29) (oi := ⟨some 40, Op.fieldAddr 80 (Operand.tmp 5) 5, _, _, _, none⟩) (v := Value.pointer (some ⟨g5, 5, none⟩)) rfl (by kernel_rfl) (by kernel_rfl) (by kernel_rfl) (fun _ _ _ h => nomatch h.1) (Or.inl ⟨by rfl, fun w' hS' => by go_simp⟩) (Below.refl _ _).drew ?_
    simp only [Act.put, List.setIfInBounds_toArray, List.set_cons_zero, List.set_cons_succ]
    refine wpAnyH_take (i := 30) (oi := ⟨some 41, Op.load 4 (Operand.tmp 40), _, _, _, none⟩) (v := Value.bool b.lab) rfl (by kernel_rfl) (by kernel_rfl) (by kernel_rfl) (fun _ _ _ h => nomatch h.1) (yieldsIf_loadC (by rfl) _ _ rfl rfl b5.out Tryz.underlying4 rfl) (Below.refl _ _).drew ?_
    simp only [Act.put, List.setIfInBounds_toArray, List.set_cons_zero, List.set_cons_succ]
    refine wpAnyH_take (i := 32) (oi := ⟨some 43, Op.fieldAddr 80 (Operand.tmp 4) 6, _, _, _, none⟩) (v := Value.pointer (some ⟨g4, 6, none⟩)) rfl (by kernel_rfl) (by kernel_rfl) (by kernel_rfl) (fun _ _ _ h => nomatch h.1) (Or.inl ⟨by rfl, fun w' hS' => by go_simp⟩) (Below.refl _ _).drew ?_
    simp only [Act.put, List.setIfInBounds_toArray, List.set_cons_zero, List.set_cons_succ]
    refine wpAnyH_take (i := 33) (oi := ⟨some 44, Op.load 4 (Operand.tmp 43), _, _, _, none⟩) (v := Value.bool a.tem) rfl (by kernel_rfl) (by kernel_rfl) (by kernel_rfl) (fun _ _ _ h => nomatch h.1) (yieldsIf_loadC (by rfl) _ _ rfl rfl a6.out Tryz.underlying4 rfl) (Below.refl _ _).drew ?_
    simp only [Act.put, List.setIfInBounds_toArray, List.set_cons_zero, List.set_cons_succ]
    refine wpAnyH_take (i := 34) (oi := ⟨some 45, Op.fieldAddr 80 (Operand.tmp 5) 6, _, _, _, none⟩) (v := Value.pointer (some ⟨g5, 6, none⟩)) rfl (by kernel_rfl) (by kernel_rfl) (by kernel_rfl) (fun _ _ _ h => nomatch h.1) (Or.inl ⟨by rfl, fun w' hS' => by go_simp⟩) (Below.refl _ _).drew ?_
    simp only [Act.put, List.setIfInBounds_toArray, List.set_cons_zero, List.set_cons_succ]
    refine wpAnyH_take (i := 35) (oi := ⟨some 46, Op.load 4 (Operand.tmp 45), _, _, _, none⟩) (v := Value.bool b.tem) rfl (by kernel_rfl) (by kernel_rfl) (by kernel_rfl) (fun _ _ _ h => nomatch h.1) (yieldsIf_loadC (by rfl) _ _ rfl rfl b6.out Tryz.underlying4 rfl) (Below.refl _ _).drew ?_
    simp only [Act.put, List.setIfInBounds_toArray, List.set_cons_zero, List.set_cons_succ]
    refine wpAnyH_take (i := 37) (oi := ⟨some 48, Op.fieldAddr 80 (Operand.tmp 4) 7, _, _, _, none⟩) (v := Value.pointer (some ⟨g4, 7, none⟩)) rfl (by kernel_rfl) (by kernel_rfl) (by kernel_rfl) (fun _ _ _ h => nomatch h.1) (Or.inl ⟨by rfl, fun w' hS' => by go_simp⟩) (Below.refl _ _).drew ?_
    simp only [Act.put, List.setIfInBounds_toArray, List.set_cons_zero, List.set_cons_succ]
    refine wpAnyH_take (i := 38) (oi := ⟨some 49, Op.load 3 (Operand.tmp 48), _, _, _, none⟩) (v := Value.int .i64 a.com) rfl (by kernel_rfl) (by kernel_rfl) (by kernel_rfl) (fun _ _ _ h => nomatch h.1) (yieldsIf_loadC (by rfl) _ _ rfl rfl a7.out Tryz.underlying3 rfl) (Below.refl _ _).drew ?_
    simp only [Act.put, List.setIfInBounds_toArray, List.set_cons_zero, List.set_cons_succ]
    refine wpAnyH_take (i := 39) (oi := ⟨some 50, Op.fieldAddr 80 (Operand.tmp 5) 7, _, _, _, none⟩) (v := Value.pointer (some ⟨g5, 7, none⟩)) rfl (by kernel_rfl) (by kernel_rfl) (by kernel_rfl) (fun _ _ _ h => nomatch h.1) (Or.inl ⟨by rfl, fun w' hS' => by go_simp⟩) (Below.refl _ _).drew ?_
    simp only [Act.put, List.setIfInBounds_toArray, List.set_cons_zero, List.set_cons_succ]
    refine wpAnyH_take (i := 40) (oi := ⟨some 51, Op.load 3 (Operand.tmp 50), _, _, _, none⟩) (v := Value.int .i64 b.com) rfl (by kernel_rfl) (by kernel_rfl) (by kernel_rfl) (fun _ _ _ h => nomatch h.1) (yieldsIf_loadC (by rfl) _ _ rfl rfl b7.out Tryz.underlying3 rfl) (Below.refl _ _).drew ?_
    simp only [Act.put, List.setIfInBounds_toArray, List.set_cons_zero, List.set_cons_succ]
    refine wpAnyH_all (rs := [4, 43]) (by kernel_rfl) (by decide) ?_
    intro i hi
    simp only [List.mem_cons, List.not_mem_nil, or_false] at hi
    rcases hi with rfl | rfl
    · skip
      refine wpOp_callM (o := ⟨some 15, Op.call { callee := Callee.value (Operand.func 70), args := #[Operand.tmp 12, Operand.tmp 14], argTypes := #[4, 4] }, _, _, _, none⟩) rfl (by rfl) (by go_simp) (H0.out _) ?_
      rintro e x1 ⟨rfl, hy1⟩
      have hx1 := bel_drew hy1
      refine ⟨_, rfl, ?_⟩
      show _ ∧ _
      refine ⟨hx1, ?_⟩
      simp only [Act.put, List.setIfInBounds_toArray, List.set_cons_zero, List.set_cons_succ]
      refine wpAnyH_all (rs := [11, 43]) (by kernel_rfl) (by decide) ?_
      intro i hi
      simp only [List.mem_cons, List.not_mem_nil, or_false] at hi
      rcases hi with rfl | rfl
      · skip
        refine wpOp_callM (o := ⟨some 22, Op.call { callee := Callee.value (Operand.func 71), args := #[Operand.tmp 17, Operand.tmp 19, Operand.tmp 21], argTypes := #[3, 3, 3] }, _, _, _, none⟩) rfl (by rfl) (by go_simp) (H1.out _) ?_
        rintro e x2 ⟨rfl, hy2⟩
        have hx2 := bel_tr hx1 hy2
        refine ⟨_, rfl, ?_⟩
        show _ ∧ _
        refine ⟨hx2, ?_⟩
        simp only [Act.put, List.setIfInBounds_toArray, List.set_cons_zero, List.set_cons_succ]
        refine wpAnyH_all (rs := [16, 43]) (by kernel_rfl) (by decide) ?_
        intro i hi
        simp only [List.mem_cons, List.not_mem_nil, or_false] at hi
        rcases hi with rfl | rfl
        · skip
          refine wpOp_callM (o := ⟨some 27, Op.call { callee := Callee.value (Operand.func 70), args := #[Operand.tmp 24, Operand.tmp 26], argTypes := #[4, 4] }, _, _, _, none⟩) rfl (by rfl) (by go_simp) (H2.out _) ?_
          rintro e x3 ⟨rfl, hy3⟩
          have hx3 := bel_tr hx2 hy3
          refine ⟨_, rfl, ?_⟩
          show _ ∧ _
          refine ⟨hx3, ?_⟩
          simp only [Act.put, List.setIfInBounds_toArray, List.set_cons_zero, List.set_cons_succ]
          refine wpAnyH_all (rs := [21, 43]) (by kernel_rfl) (by decide) ?_
          intro i hi
          simp only [List.mem_cons, List.not_mem_nil, or_false] at hi
          rcases hi with rfl | rfl
          · skip
            refine wpOp_callM (o := ⟨some 32, Op.call { callee := Callee.value (Operand.func 70), args := #[Operand.tmp 29, Operand.tmp 31], argTypes := #[4, 4] }, _, _, _, none⟩) rfl (by rfl) (by go_simp) (H3.out _) ?_
            rintro e x4 ⟨rfl, hy4⟩
            have hx4 := bel_tr hx3 hy4
            refine ⟨_, rfl, ?_⟩
            show _ ∧ _
            refine ⟨hx4, ?_⟩
            simp only [Act.put, List.setIfInBounds_toArray, List.set_cons_zero, List.set_cons_succ]
            refine wpAnyH_all (rs := [26, 43]) (by kernel_rfl) (by decide) ?_
            intro i hi
            simp only [List.mem_cons, List.not_mem_nil, or_false] at hi
            rcases hi with rfl | rfl
            · skip
              refine wpOp_callM (o := ⟨some 37, Op.call { callee := Callee.value (Operand.func 70), args := #[Operand.tmp 34, Operand.tmp 36], argTypes := #[4, 4] }, _, _, _, none⟩) rfl (by rfl) (by go_simp) (H4.out _) ?_
              rintro e x5 ⟨rfl, hy5⟩
              have hx5 := bel_tr hx4 hy5
              refine ⟨_, rfl, ?_⟩
              show _ ∧ _
              refine ⟨hx5, ?_⟩
              simp only [Act.put, List.setIfInBounds_toArray, List.set_cons_zero, List.set_cons_succ]
              refine wpAnyH_all (rs := [31, 43]) (by kernel_rfl) (by decide) ?_
              intro i hi
              simp only [List.mem_cons, List.not_mem_nil, or_false] at hi
              rcases hi with rfl | rfl
              · skip
                refine wpOp_callM (o := ⟨some 42, Op.call { callee := Callee.value (Operand.func 70), args := #[Operand.tmp 39, Operand.tmp 41], argTypes := #[4, 4] }, _, _, _, none⟩) rfl (by rfl) (by go_simp) (H5.out _) ?_
                rintro e x6 ⟨rfl, hy6⟩
                have hx6 := bel_tr hx5 hy6
                refine ⟨_, rfl, ?_⟩
                show _ ∧ _
                refine ⟨hx6, ?_⟩
                simp only [Act.put, List.setIfInBounds_toArray, List.set_cons_zero, List.set_cons_succ]
                refine wpAnyH_all (rs := [36, 43]) (by kernel_rfl) (by decide) ?_
                intro i hi
                simp only [List.mem_cons, List.not_mem_nil, or_false] at hi
                rcases hi with rfl | rfl
                · skip
                  refine wpOp_callM (o := ⟨some 47, Op.call { callee := Callee.value (Operand.func 70), args := #[Operand.tmp 44, Operand.tmp 46], argTypes := #[4, 4] }, _, _, _, none⟩) rfl (by rfl) (by go_simp) (H6.out _) ?_
                  rintro e x7 ⟨rfl, hy7⟩
                  have hx7 := bel_tr hx6 hy7
                  refine ⟨_, rfl, ?_⟩
                  show _ ∧ _
                  refine ⟨hx7, ?_⟩
                  simp only [Act.put, List.setIfInBounds_toArray, List.set_cons_zero, List.set_cons_succ]
                  refine wpAnyH_all (rs := [41, 43]) (by kernel_rfl) (by decide) ?_
                  intro i hi
                  simp only [List.mem_cons, List.not_mem_nil, or_false] at hi
                  rcases hi with rfl | rfl
                  · skip
                    refine wpOp_callM (o := ⟨some 52, Op.call { callee := Callee.value (Operand.func 25), args := #[Operand.tmp 49, Operand.tmp 51], argTypes := #[3, 3] }, _, _, _, none⟩) rfl (by rfl) (by go_simp) (H7.out _) ?_
                    rintro e x8 ⟨rfl, hy8⟩
                    have hx8 := bel_tr hx7 hy8
                    refine ⟨_, rfl, ?_⟩
                    show _ ∧ _
                    refine ⟨hx8, ?_⟩
                    simp only [Act.put, List.setIfInBounds_toArray, List.set_cons_zero, List.set_cons_succ]
                    refine wpAnyH_take (i := 42) (oi := ⟨some 53, Op.build 88 #[(0 , Operand.tmp 15), (1 , Operand.tmp 22), (2 , Operand.tmp 27), (3 , Operand.tmp 32), (4 , Operand.tmp 37), (5 , Operand.tmp 42), (6 , Operand.tmp 47), (7 , Operand.tmp 52)], _, _, _, none⟩) (v := Value.agg (giA L)) rfl (by kernel_rfl) (by kernel_rfl) (by kernel_rfl) (fun _ _ _ h => nomatch h.1) (yieldsIf_buildL (by rfl) 88 _ rfl HB.out rfl) hx8 ?_
                    simp only [Act.put, List.setIfInBounds_toArray, List.set_cons_zero, List.set_cons_succ]
                    refine wpAnyH_all (rs := [43]) (by kernel_rfl) (by decide) ?_
                    intro i hi
                    obtain rfl := List.mem_singleton.1 hi
                    refine wpOp_of_list (o := ⟨some 8, Op.alloc 88, _, _, _, none⟩) rfl ?_
                    refine wpList_allocZ rfl _ rfl i8_zero ?_
                    intro g8 x9 hgg8 hBg8 hy9 hs
                    have hlg8 : w3.heap.size ≤ g8 := Nat.le_trans (hx8 : Below w3.heap.size w3 _).size (Nat.le_of_eq hgg8.symm)
                    clear hgg8 hs
                    have hx9 := bel_tr hx8 hy9
                    show _ ∧ _
                    refine ⟨hx9, ?_⟩
                    simp only [Act.put, List.setIfInBounds_toArray, List.set_cons_zero, List.set_cons_succ]
                    refine wpAnyH_all (rs := [44]) (by kernel_rfl) (by decide) ?_
                    intro i hi
                    obtain rfl := List.mem_singleton.1 hi
                    refine wpOp_of_list (o := ⟨none, Op.store 88 (Operand.tmp 8) (Operand.tmp 53), _, _, _, none⟩) rfl ?_
                    refine wpList_storeB rfl _ _ _ rfl rfl rfl hBg8 HLz.out (by rw [HLs.out]; rfl) (giA_one L) ?_
                    intro x10 hBz hSz
                    have hx10 := (hx9 : Below w3.heap.size w3 _).trans (hSz.below hlg8)
                    show _ ∧ _
                    refine ⟨hx10, ?_⟩
                    simp only [Act.put]
                    refine wpAnyH_done (by kernel_rfl) ?_ _
                    exact ⟨rfl, g8, rfl, hBz, hlg8, hx10⟩
                  · skip
                    refine wpOp_of_list (o := ⟨some 8, Op.alloc 88, _, _, _, none⟩) rfl ?_
                    refine wpList_allocZ rfl _ rfl i8_zero ?_
                    intro g8 x8 hgg8 hBg8 hy8 hs
                    have hlg8 : w3.heap.size ≤ g8 := Nat.le_trans (hx7 : Below w3.heap.size w3 _).size (Nat.le_of_eq hgg8.symm)
                    clear hgg8 hs
                    have hx8 := bel_tr hx7 hy8
                    show _ ∧ _
                    refine ⟨hx8, ?_⟩
                    simp only [Act.put, List.setIfInBounds_toArray, List.set_cons_zero, List.set_cons_succ]
                    refine wpAnyH_all (rs := [41]) (by kernel_rfl) (by decide) ?_
                    intro i hi
                    obtain rfl := List.mem_singleton.1 hi
                    refine wpOp_callM (o := ⟨some 52, Op.call { callee := Callee.value (Operand.func 25), args := #[Operand.tmp 49, Operand.tmp 51], argTypes := #[3, 3] }, _, _, _, none⟩) rfl (by rfl) (by go_simp) (H7.out _) ?_
                    rintro e x9 ⟨rfl, hy9⟩
                    have hx9 := bel_tr hx8 hy9
                    have hBg8 := hBg8.bel hy9
                    refine ⟨_, rfl, ?_⟩
                    show _ ∧ _
                    refine ⟨hx9, ?_⟩
                    simp only [Act.put, List.setIfInBounds_toArray, List.set_cons_zero, List.set_cons_succ]
                    refine wpAnyH_take (i := 42) (oi := ⟨some 53, Op.build 88 #[(0 , Operand.tmp 15), (1 , Operand.tmp 22), (2 , Operand.tmp 27), (3 , Operand.tmp 32), (4 , Operand.tmp 37), (5 , Operand.tmp 42), (6 , Operand.tmp 47), (7 , Operand.tmp 52)], _, _, _, none⟩) (v := Value.agg (giA L)) rfl (by kernel_rfl) (by kernel_rfl) (by kernel_rfl) (fun _ _ _ h => nomatch h.1) (yieldsIf_buildL (by rfl) 88 _ rfl HB.out rfl) hx9 ?_
                    simp only [Act.put, List.setIfInBounds_toArray, List.set_cons_zero, List.set_cons_succ]
                    refine wpAnyH_all (rs := [44]) (by kernel_rfl) (by decide) ?_
                    intro i hi
                    obtain rfl := List.mem_singleton.1 hi
                    refine wpOp_of_list (o := ⟨none, Op.store 88 (Operand.tmp 8) (Operand.tmp 53), _, _, _, none⟩) rfl ?_
                    refine wpList_storeB rfl _ _ _ rfl rfl rfl hBg8 HLz.out (by rw [HLs.out]; rfl) (giA_one L) ?_
                    intro x10 hBz hSz
                    have hx10 := (hx9 : Below w3.heap.size w3 _).trans (hSz.below hlg8)
                    show _ ∧ _
                    refine ⟨hx10, ?_⟩
                    simp only [Act.put]
                    refine wpAnyH_done (by kernel_rfl) ?_ _
                    exact ⟨rfl, g8, rfl, hBz, hlg8, hx10⟩
                · skip
                  refine wpOp_of_list (o := ⟨some 8, Op.alloc 88, _, _, _, none⟩) rfl ?_
                  refine wpList_allocZ rfl _ rfl i8_zero ?_
                  intro g8 x7 hgg8 hBg8 hy7 hs
                  have hlg8 : w3.heap.size ≤ g8 := Nat.le_trans (hx6 : Below w3.heap.size w3 _).size (Nat.le_of_eq hgg8.symm)
                  clear hgg8 hs
                  have hx7 := bel_tr hx6 hy7
                  show _ ∧ _
                  refine ⟨hx7, ?_⟩
                  simp only [Act.put, List.setIfInBounds_toArray, List.set_cons_zero, List.set_cons_succ]
                  refine wpAnyH_all (rs := [36]) (by kernel_rfl) (by decide) ?_
                  intro i hi
                  obtain rfl := List.mem_singleton.1 hi
                  refine wpOp_callM (o := ⟨some 47, Op.call { callee := Callee.value (Operand.func 70), args := #[Operand.tmp 44, Operand.tmp 46], argTypes := #[4, 4] }, _, _, _, none⟩) rfl (by rfl) (by go_simp) (H6.out _) ?_
                  rintro e x8 ⟨rfl, hy8⟩
                  have hx8 := bel_tr hx7 hy8
                  have hBg8 := hBg8.bel hy8
                  refine ⟨_, rfl, ?_⟩
                  show _ ∧ _
                  refine ⟨hx8, ?_⟩
                  simp only [Act.put, List.setIfInBounds_toArray, List.set_cons_zero, List.set_cons_succ]
                  refine wpAnyH_all (rs := [41]) (by kernel_rfl) (by decide) ?_
                  intro i hi
                  obtain rfl := List.mem_singleton.1 hi
                  refine wpOp_callM (o := ⟨some 52, Op.call { callee := Callee.value (Operand.func 25), args := #[Operand.tmp 49, Operand.tmp 51], argTypes := #[3, 3] }, _, _, _, none⟩) rfl (by rfl) (by go_simp) (H7.out _) ?_
                  rintro e x9 ⟨rfl, hy9⟩
                  have hx9 := bel_tr hx8 hy9
                  have hBg8 := hBg8.bel hy9
                  refine ⟨_, rfl, ?_⟩
                  show _ ∧ _
                  refine ⟨hx9, ?_⟩
                  simp only [Act.put, List.setIfInBounds_toArray, List.set_cons_zero, List.set_cons_succ]
                  refine wpAnyH_take (i := 42) (oi := ⟨some 53, Op.build 88 #[(0 , Operand.tmp 15), (1 , Operand.tmp 22), (2 , Operand.tmp 27), (3 , Operand.tmp 32), (4 , Operand.tmp 37), (5 , Operand.tmp 42), (6 , Operand.tmp 47), (7 , Operand.tmp 52)], _, _, _, none⟩) (v := Value.agg (giA L)) rfl (by kernel_rfl) (by kernel_rfl) (by kernel_rfl) (fun _ _ _ h => nomatch h.1) (yieldsIf_buildL (by rfl) 88 _ rfl HB.out rfl) hx9 ?_
                  simp only [Act.put, List.setIfInBounds_toArray, List.set_cons_zero, List.set_cons_succ]
                  refine wpAnyH_all (rs := [44]) (by kernel_rfl) (by decide) ?_
                  intro i hi
                  obtain rfl := List.mem_singleton.1 hi
                  refine wpOp_of_list (o := ⟨none, Op.store 88 (Operand.tmp 8) (Operand.tmp 53), _, _, _, none⟩) rfl ?_
                  refine wpList_storeB rfl _ _ _ rfl rfl rfl hBg8 HLz.out (by rw [HLs.out]; rfl) (giA_one L) ?_
                  intro x10 hBz hSz
                  have hx10 := (hx9 : Below w3.heap.size w3 _).trans (hSz.below hlg8)
                  show _ ∧ _
                  refine ⟨hx10, ?_⟩
                  simp only [Act.put]
                  refine wpAnyH_done (by kernel_rfl) ?_ _
                  exact ⟨rfl, g8, rfl, hBz, hlg8, hx10⟩
              · skip
                refine wpOp_of_list (o := ⟨some 8, Op.alloc 88, _, _, _, none⟩) rfl ?_
                refine wpList_allocZ rfl _ rfl i8_zero ?_
                intro g8 x6 hgg8 hBg8 hy6 hs
                have hlg8 : w3.heap.size ≤ g8 := Nat.le_trans (hx5 : Below w3.heap.size w3 _).size (Nat.le_of_eq hgg8.symm)
                clear hgg8 hs
                have hx6 := bel_tr hx5 hy6
                show _ ∧ _
                refine ⟨hx6, ?_⟩
                simp only [Act.put, List.setIfInBounds_toArray, List.set_cons_zero, List.set_cons_succ]
                refine wpAnyH_all (rs := [31]) (by kernel_rfl) (by decide) ?_
                intro i hi
                obtain rfl := List.mem_singleton.1 hi
                refine wpOp_callM (o := ⟨some 42, Op.call { callee := Callee.value (Operand.func 70), args := #[Operand.tmp 39, Operand.tmp 41], argTypes := #[4, 4] }, _, _, _, none⟩) rfl (by rfl) (by go_simp) (H5.out _) ?_
                rintro e x7 ⟨rfl, hy7⟩
                have hx7 := bel_tr hx6 hy7
                have hBg8 := hBg8.bel hy7
                refine ⟨_, rfl, ?_⟩
                show _ ∧ _
                refine ⟨hx7, ?_⟩
                simp only [Act.put, List.setIfInBounds_toArray, List.set_cons_zero, List.set_cons_succ]
                refine wpAnyH_all (rs := [36]) (by kernel_rfl) (by decide) ?_
                intro i hi
                obtain rfl := List.mem_singleton.1 hi
                refine wpOp_callM (o := ⟨some 47, Op.call { callee := Callee.value (Operand.func 70), args := #[Operand.tmp 44, Operand.tmp 46], argTypes := #[4, 4] }, _, _, _, none⟩) rfl (by rfl) (by go_simp) (H6.out _) ?_
                rintro e x8 ⟨rfl, hy8⟩
                have hx8 := bel_tr hx7 hy8
                have hBg8 := hBg8.bel hy8
                refine ⟨_, rfl, ?_⟩
                show _ ∧ _
                refine ⟨hx8, ?_⟩
                simp only [Act.put, List.setIfInBounds_toArray, List.set_cons_zero, List.set_cons_succ]
                refine wpAnyH_all (rs := [41]) (by kernel_rfl) (by decide) ?_
                intro i hi
                obtain rfl := List.mem_singleton.1 hi
                refine wpOp_callM (o := ⟨some 52, Op.call { callee := Callee.value (Operand.func 25), args := #[Operand.tmp 49, Operand.tmp 51], argTypes := #[3, 3] }, _, _, _, none⟩) rfl (by rfl) (by go_simp) (H7.out _) ?_
                rintro e x9 ⟨rfl, hy9⟩
                have hx9 := bel_tr hx8 hy9
                have hBg8 := hBg8.bel hy9
                refine ⟨_, rfl, ?_⟩
                show _ ∧ _
                refine ⟨hx9, ?_⟩
                simp only [Act.put, List.setIfInBounds_toArray, List.set_cons_zero, List.set_cons_succ]
                refine wpAnyH_take (i := 42) (oi := ⟨some 53, Op.build 88 #[(0 , Operand.tmp 15), (1 , Operand.tmp 22), (2 , Operand.tmp 27), (3 , Operand.tmp 32), (4 , Operand.tmp 37), (5 , Operand.tmp 42), (6 , Operand.tmp 47), (7 , Operand.tmp 52)], _, _, _, none⟩) (v := Value.agg (giA L)) rfl (by kernel_rfl) (by kernel_rfl) (by kernel_rfl) (fun _ _ _ h => nomatch h.1) (yieldsIf_buildL (by rfl) 88 _ rfl HB.out rfl) hx9 ?_
                simp only [Act.put, List.setIfInBounds_toArray, List.set_cons_zero, List.set_cons_succ]
                refine wpAnyH_all (rs := [44]) (by kernel_rfl) (by decide) ?_
                intro i hi
                obtain rfl := List.mem_singleton.1 hi
                refine wpOp_of_list (o := ⟨none, Op.store 88 (Operand.tmp 8) (Operand.tmp 53), _, _, _, none⟩) rfl ?_
                refine wpList_storeB rfl _ _ _ rfl rfl rfl hBg8 HLz.out (by rw [HLs.out]; rfl) (giA_one L) ?_
                intro x10 hBz hSz
                have hx10 := (hx9 : Below w3.heap.size w3 _).trans (hSz.below hlg8)
                show _ ∧ _
                refine ⟨hx10, ?_⟩
                simp only [Act.put]
                refine wpAnyH_done (by kernel_rfl) ?_ _
                exact ⟨rfl, g8, rfl, hBz, hlg8, hx10⟩
            · skip
              refine wpOp_of_list (o := ⟨some 8, Op.alloc 88, _, _, _, none⟩) rfl ?_
              refine wpList_allocZ rfl _ rfl i8_zero ?_
              intro g8 x5 hgg8 hBg8 hy5 hs
              have hlg8 : w3.heap.size ≤ g8 := Nat.le_trans (hx4 : Below w3.heap.size w3 _).size (Nat.le_of_eq hgg8.symm)
              clear hgg8 hs
              have hx5 := bel_tr hx4 hy5
              show _ ∧ _
              refine ⟨hx5, ?_⟩
              simp only [Act.put, List.setIfInBounds_toArray, List.set_cons_zero, List.set_cons_succ]
              refine wpAnyH_all (rs := [26]) (by kernel_rfl) (by decide) ?_
              intro i hi
              obtain rfl := List.mem_singleton.1 hi
              refine wpOp_callM (o := ⟨some 37, Op.call { callee := Callee.value (Operand.func 70), args := #[Operand.tmp 34, Operand.tmp 36], argTypes := #[4, 4] }, _, _, _, none⟩) rfl (by rfl) (by go_simp) (H4.out _) ?_
              rintro e x6 ⟨rfl, hy6⟩
              have hx6 := bel_tr hx5 hy6
              have hBg8 := hBg8.bel hy6
              refine ⟨_, rfl, ?_⟩
              show _ ∧ _
              refine ⟨hx6, ?_⟩
              simp only [Act.put, List.setIfInBounds_toArray, List.set_cons_zero, List.set_cons_succ]
              refine wpAnyH_all (rs := [31]) (by kernel_rfl) (by decide) ?_
              intro i hi
              obtain rfl := List.mem_singleton.1 hi
              refine wpOp_callM (o := ⟨some 42, Op.call { callee := Callee.value (Operand.func 70), args := #[Operand.tmp 39, Operand.tmp 41], argTypes := #[4, 4] }, _, _, _, none⟩) rfl (by rfl) (by go_simp) (H5.out _) ?_
              rintro e x7 ⟨rfl, hy7⟩
              have hx7 := bel_tr hx6 hy7
              have hBg8 := hBg8.bel hy7
              refine ⟨_, rfl, ?_⟩
              show _ ∧ _
              refine ⟨hx7, ?_⟩
              simp only [Act.put, List.setIfInBounds_toArray, List.set_cons_zero, List.set_cons_succ]
              refine wpAnyH_all (rs := [36]) (by kernel_rfl) (by decide) ?_
              intro i hi
              obtain rfl := List.mem_singleton.1 hi
              refine wpOp_callM (o := ⟨some 47, Op.call { callee := Callee.value (Operand.func 70), args := #[Operand.tmp 44, Operand.tmp 46], argTypes := #[4, 4] }, _, _, _, none⟩) rfl (by rfl) (by go_simp) (H6.out _) ?_
              rintro e x8 ⟨rfl, hy8⟩
              have hx8 := bel_tr hx7 hy8
              have hBg8 := hBg8.bel hy8
              refine ⟨_, rfl, ?_⟩
              show _ ∧ _
              refine ⟨hx8, ?_⟩
              simp only [Act.put, List.setIfInBounds_toArray, List.set_cons_zero, List.set_cons_succ]
              refine wpAnyH_all (rs := [41]) (by kernel_rfl) (by decide) ?_
              intro i hi
              obtain rfl := List.mem_singleton.1 hi
              refine wpOp_callM (o := ⟨some 52, Op.call { callee := Callee.value (Operand.func 25), args := #[Operand.tmp 49, Operand.tmp 51], argTypes := #[3, 3] }, _, _, _, none⟩) rfl (by rfl) (by go_simp) (H7.out _) ?_
              rintro e x9 ⟨rfl, hy9⟩
              have hx9 := bel_tr hx8 hy9
              have hBg8 := hBg8.bel hy9
              refine ⟨_, rfl, ?_⟩
              show _ ∧ _
              refine ⟨hx9, ?_⟩
              simp only [Act.put, List.setIfInBounds_toArray, List.set_cons_zero, List.set_cons_succ]
              refine wpAnyH_take (i := 42) (oi := ⟨some 53, Op.build 88 #[(0 , Operand.tmp 15), (1 , Operand.tmp 22), (2 , Operand.tmp 27), (3 , Operand.tmp 32), (4 , Operand.tmp 37), (5 , Operand.tmp 42), (6 , Operand.tmp 47), (7 , Operand.tmp 52)], _, _, _, none⟩) (v := Value.agg (giA L)) rfl (by kernel_rfl) (by kernel_rfl) (by kernel_rfl) (fun _ _ _ h => nomatch h.1) (yieldsIf_buildL (by rfl) 88 _ rfl HB.out rfl) hx9 ?_
              simp only [Act.put, List.setIfInBounds_toArray, List.set_cons_zero, List.set_cons_succ]
              refine wpAnyH_all (rs := [44]) (by kernel_rfl) (by decide) ?_
              intro i hi
              obtain rfl := List.mem_singleton.1 hi
              refine wpOp_of_list (o := ⟨none, Op.store 88 (Operand.tmp 8) (Operand.tmp 53), _, _, _, none⟩) rfl ?_
              refine wpList_storeB rfl _ _ _ rfl rfl rfl hBg8 HLz.out (by rw [HLs.out]; rfl) (giA_one L) ?_
              intro x10 hBz hSz
              have hx10 := (hx9 : Below w3.heap.size w3 _).trans (hSz.below hlg8)
              show _ ∧ _
              refine ⟨hx10, ?_⟩
              simp only [Act.put]
              refine wpAnyH_done (by kernel_rfl) ?_ _
              exact ⟨rfl, g8, rfl, hBz, hlg8, hx10⟩
          · skip
            refine wpOp_of_list (o := ⟨some 8, Op.alloc 88, _, _, _, none⟩) rfl ?_
            refine wpList_allocZ rfl _ rfl i8_zero ?_
            intro g8 x4 hgg8 hBg8 hy4 hs
            have hlg8 : w3.heap.size ≤ g8 := Nat.le_trans (hx3 : Below w3.heap.size w3 _).size (Nat.le_of_eq hgg8.symm)
            clear hgg8 hs
            have hx4 := bel_tr hx3 hy4
            show _ ∧ _
            refine ⟨hx4, ?_⟩
            simp only [Act.put, List.setIfInBounds_toArray, List.set_cons_zero, List.set_cons_succ]
            refine wpAnyH_all (rs := [21]) (by kernel_rfl) (by decide) ?_
            intro i hi
            obtain rfl := List.mem_singleton.1 hi
            refine wpOp_callM (o := ⟨some 32, Op.call { callee := Callee.value (Operand.func 70), args := #[Operand.tmp 29, Operand.tmp 31], argTypes := #[4, 4] }, _, _, _, none⟩) rfl (by rfl) (by go_simp) (H3.out _) ?_
            rintro e x5 ⟨rfl, hy5⟩
            have hx5 := bel_tr hx4 hy5
            have hBg8 := hBg8.bel hy5
            refine ⟨_, rfl, ?_⟩
            show _ ∧ _
            refine ⟨hx5, ?_⟩
            simp only [Act.put, List.setIfInBounds_toArray, List.set_cons_zero, List.set_cons_succ]
            refine wpAnyH_all (rs := [26]) (by kernel_rfl) (by decide) ?_
            intro i hi
            obtain rfl := List.mem_singleton.1 hi
            refine wpOp_callM (o := ⟨some 37, Op.call { callee := Callee.value (Operand.func 70), args := #[Operand.tmp 34, Operand.tmp 36], argTypes := #[4, 4] }, _, _, _, none⟩) rfl (by rfl) (by go_simp) (H4.out _) ?_
            rintro e x6 ⟨rfl, hy6⟩
            have hx6 := bel_tr hx5 hy6
            have hBg8 := hBg8.bel hy6
            refine ⟨_, rfl, ?_⟩
            show _ ∧ _
            refine ⟨hx6, ?_⟩
            simp only [Act.put, List.setIfInBounds_toArray, List.set_cons_zero, List.set_cons_succ]
            refine wpAnyH_all (rs := [31]) (by kernel_rfl) (by decide) ?_
            intro i hi
            obtain rfl := List.mem_singleton.1 hi
            refine wpOp_callM (o := ⟨some 42, Op.call { callee := Callee.value (Operand.func 70), args := #[Operand.tmp 39, Operand.tmp 41], argTypes := #[4, 4] }, _, _, _, none⟩) rfl (by rfl) (by go_simp) (H5.out _) ?_
            rintro e x7 ⟨rfl, hy7⟩
            have hx7 := bel_tr hx6 hy7
            have hBg8 := hBg8.bel hy7
            refine ⟨_, rfl, ?_⟩
            show _ ∧ _
            refine ⟨hx7, ?_⟩
            simp only [Act.put, List.setIfInBounds_toArray, List.set_cons_zero, List.set_cons_succ]
            refine wpAnyH_all (rs := [36]) (by kernel_rfl) (by decide) ?_
            intro i hi
            obtain rfl := List.mem_singleton.1 hi
            refine wpOp_callM (o := ⟨some 47, Op.call { callee := Callee.value (Operand.func 70), args := #[Operand.tmp 44, Operand.tmp 46], argTypes := #[4, 4] }, _, _, _, none⟩) rfl (by rfl) (by go_simp) (H6.out _) ?_
            rintro e x8 ⟨rfl, hy8⟩
            have hx8 := bel_tr hx7 hy8
            have hBg8 := hBg8.bel hy8
            refine ⟨_, rfl, ?_⟩
            show _ ∧ _
            refine ⟨hx8, ?_⟩
            simp only [Act.put, List.setIfInBounds_toArray, List.set_cons_zero, List.set_cons_succ]
            refine wpAnyH_all (rs := [41]) (by kernel_rfl) (by decide) ?_
            intro i hi
            obtain rfl := List.mem_singleton.1 hi
            refine wpOp_callM (o := ⟨some 52, Op.call { callee := Callee.value (Operand.func 25), args := #[Operand.tmp 49, Operand.tmp 51], argTypes := #[3, 3] }, _, _, _, none⟩) rfl (by rfl) (by go_simp) (H7.out _) ?_
            rintro e x9 ⟨rfl, hy9⟩
            have hx9 := bel_tr hx8 hy9
            have hBg8 := hBg8.bel hy9
            refine ⟨_, rfl, ?_⟩
            show _ ∧ _
            refine ⟨hx9, ?_⟩
            simp only [Act.put, List.setIfInBounds_toArray, List.set_cons_zero, List.set_cons_succ]
            refine wpAnyH_take (i := 42) (oi := ⟨some 53, Op.build 88 #[(0 , Operand.tmp 15), (1 , Operand.tmp 22), (2 , Operand.tmp 27), (3 , Operand.tmp 32), (4 , Operand.tmp 37), (5 , Operand.tmp 42), (6 , Operand.tmp 47), (7 , Operand.tmp 52)], _, _, _, none⟩) (v := Value.agg (giA L)) rfl (by kernel_rfl) (by kernel_rfl) (by kernel_rfl) (fun _ _ _ h => nomatch h.1) (yieldsIf_buildL (by rfl) 88 _ rfl HB.out rfl) hx9 ?_
            simp only [Act.put, List.setIfInBounds_toArray, List.set_cons_zero, List.set_cons_succ]
            refine wpAnyH_all (rs := [44]) (by kernel_rfl) (by decide) ?_
            intro i hi
            obtain rfl := List.mem_singleton.1 hi
            refine wpOp_of_list (o := ⟨none, Op.store 88 (Operand.tmp 8) (Operand.tmp 53), _, _, _, none⟩) rfl ?_
            refine wpList_storeB rfl _ _ _ rfl rfl rfl hBg8 HLz.out (by rw [HLs.out]; rfl) (giA_one L) ?_
            intro x10 hBz hSz
            have hx10 := (hx9 : Below w3.heap.size w3 _).trans (hSz.below hlg8)
            show _ ∧ _
            refine ⟨hx10, ?_⟩
            simp only [Act.put]
            refine wpAnyH_done (by kernel_rfl) ?_ _
            exact ⟨rfl, g8, rfl, hBz, hlg8, hx10⟩
        · skip
          refine wpOp_of_list (o := ⟨some 8, Op.alloc 88, _, _, _, none⟩) rfl ?_
          refine wpList_allocZ rfl _ rfl i8_zero ?_
          intro g8 x3 hgg8 hBg8 hy3 hs
          have hlg8 : w3.heap.size ≤ g8 := Nat.le_trans (hx2 : Below w3.heap.size w3 _).size (Nat.le_of_eq hgg8.symm)
          clear hgg8 hs
          have hx3 := bel_tr hx2 hy3
          show _ ∧ _
          refine ⟨hx3, ?_⟩
          simp only [Act.put, List.setIfInBounds_toArray, List.set_cons_zero, List.set_cons_succ]
          refine wpAnyH_all (rs := [16]) (by kernel_rfl) (by decide) ?_
          intro i hi
          obtain rfl := List.mem_singleton.1 hi
          refine wpOp_callM (o := ⟨some 27, Op.call { callee := Callee.value (Operand.func 70), args := #[Operand.tmp 24, Operand.tmp 26], argTypes := #[4, 4] }, _, _, _, none⟩) rfl (by rfl) (by go_simp) (H2.out _) ?_
          rintro e x4 ⟨rfl, hy4⟩
          have hx4 := bel_tr hx3 hy4
          have hBg8 := hBg8.bel hy4
          refine ⟨_, rfl, ?_⟩
          show _ ∧ _
          refine ⟨hx4, ?_⟩
          simp only [Act.put, List.setIfInBounds_toArray, List.set_cons_zero, List.set_cons_succ]
          refine wpAnyH_all (rs := [21]) (by kernel_rfl) (by decide) ?_
          intro i hi
          obtain rfl := List.mem_singleton.1 hi
          refine wpOp_callM (o := ⟨some 32, Op.call { callee := Callee.value (Operand.func 70), args := #[Operand.tmp 29, Operand.tmp 31], argTypes := #[4, 4] }, _, _, _, none⟩) rfl (by rfl) (by go_simp) (H3.out _) ?_
          rintro e x5 ⟨rfl, hy5⟩
          have hx5 := bel_tr hx4 hy5
          have hBg8 := hBg8.bel hy5
          refine ⟨_, rfl, ?_⟩
          show _ ∧ _
          refine ⟨hx5, ?_⟩
          simp only [Act.put, List.setIfInBounds_toArray, List.set_cons_zero, List.set_cons_succ]
          refine wpAnyH_all (rs := [26]) (by kernel_rfl) (by decide) ?_
          intro i hi
          obtain rfl := List.mem_singleton.1 hi
          refine wpOp_callM (o := ⟨some 37, Op.call { callee := Callee.value (Operand.func 70), args := #[Operand.tmp 34, Operand.tmp 36], argTypes := #[4, 4] }, _, _, _, none⟩) rfl (by rfl) (by go_simp) (H4.out _) ?_
          rintro e x6 ⟨rfl, hy6⟩
          have hx6 := bel_tr hx5 hy6
          have hBg8 := hBg8.bel hy6
          refine ⟨_, rfl, ?_⟩
          show _ ∧ _
          refine ⟨hx6, ?_⟩
          simp only [Act.put, List.setIfInBounds_toArray, List.set_cons_zero, List.set_cons_succ]
          refine wpAnyH_all (rs := [31]) (by kernel_rfl) (by decide) ?_
          intro i hi
          obtain rfl := List.mem_singleton.1 hi
          refine wpOp_callM (o := ⟨some 42, Op.call { callee := Callee.value (Operand.func 70), args := #[Operand.tmp 39, Operand.tmp 41], argTypes := #[4, 4] }, _, _, _, none⟩) rfl (by rfl) (by go_simp) (H5.out _) ?_
          rintro e x7 ⟨rfl, hy7⟩
          have hx7 := bel_tr hx6 hy7
          have hBg8 := hBg8.bel hy7
          refine ⟨_, rfl, ?_⟩
          show _ ∧ _
          refine ⟨hx7, ?_⟩
          simp only [Act.put, List.setIfInBounds_toArray, List.set_cons_zero, List.set_cons_succ]
          refine wpAnyH_all (rs := [36]) (by kernel_rfl) (by decide) ?_
          intro i hi
          obtain rfl := List.mem_singleton.1 hi
          refine wpOp_callM (o := ⟨some 47, Op.call { callee := Callee.value (Operand.func 70), args := #[Operand.tmp 44, Operand.tmp 46], argTypes := #[4, 4] }, _, _, _, none⟩) rfl (by rfl) (by go_simp) (H6.out _) ?_
          rintro e x8 ⟨rfl, hy8⟩
          have hx8 := bel_tr hx7 hy8
          have hBg8 := hBg8.bel hy8
          refine ⟨_, rfl, ?_⟩
          show _ ∧ _
          refine ⟨hx8, ?_⟩
          simp only [Act.put, List.setIfInBounds_toArray, List.set_cons_zero, List.set_cons_succ]
          refine wpAnyH_all (rs := [41]) (by kernel_rfl) (by decide) ?_
          intro i hi
          obtain rfl := List.mem_singleton.1 hi
          refine wpOp_callM (o := ⟨some 52, Op.call { callee := Callee.value (Operand.func 25), args := #[Operand.tmp 49, Operand.tmp 51], argTypes := #[3, 3] }, _, _, _, none⟩) rfl (by rfl) (by go_simp) (H7.out _) ?_
          rintro e x9 ⟨rfl, hy9⟩
          have hx9 := bel_tr hx8 hy9
          have hBg8 := hBg8.bel hy9
          refine ⟨_, rfl, ?_⟩
          show _ ∧ _
          refine ⟨hx9, ?_⟩
          simp only [Act.put, List.setIfInBounds_toArray, List.set_cons_zero, List.set_cons_succ]
          refine wpAnyH_take (i := 42) (oi := ⟨some 53, Op.build 88 #[(0 , Operand.tmp 15), (1 , Operand.tmp 22), (2 , Operand.tmp 27), (3 , Operand.tmp 32), (4 , Operand.tmp 37), (5 , Operand.tmp 42), (6 , Operand.tmp 47), (7 , Operand.tmp 52)], _, _, _, none⟩) (v := Value.agg (giA L)) rfl (by kernel_rfl) (by kernel_rfl) (by kernel_rfl) (fun _ _ _ h => nomatch h.1) (yieldsIf_buildL (by rfl) 88 _ rfl HB.out rfl) hx9 ?_
          simp only [Act.put, List.setIfInBounds_toArray, List.set_cons_zero, List.set_cons_succ]
          refine wpAnyH_all (rs := [44]) (by kernel_rfl) (by decide) ?_
          intro i hi
          obtain rfl := List.mem_singleton.1 hi
          refine wpOp_of_list (o := ⟨none, Op.store 88 (Operand.tmp 8) (Operand.tmp 53), _, _, _, none⟩) rfl ?_
          refine wpList_storeB rfl _ _ _ rfl rfl rfl hBg8 HLz.out (by rw [HLs.out]; rfl) (giA_one L) ?_
          intro x10 hBz hSz
          have hx10 := (hx9 : Below w3.heap.size w3 _).trans (hSz.below hlg8)
          show _ ∧ _
          refine ⟨hx10, ?_⟩
          simp only [Act.put]
          refine wpAnyH_done (by kernel_rfl) ?_ _
          exact ⟨rfl, g8, rfl, hBz, hlg8, hx10⟩
      · skip
        refine wpOp_of_list (o := ⟨some 8, Op.alloc 88, _, _, _, none⟩) rfl ?_
        refine wpList_allocZ rfl _ rfl i8_zero ?_
        intro g8 x2 hgg8 hBg8 hy2 hs
        have hlg8 : w3.heap.size ≤ g8 := Nat.le_trans (hx1 : Below w3.heap.size w3 _).size (Nat.le_of_eq hgg8.symm)
        clear hgg8 hs
        have hx2 := bel_tr hx1 hy2
        show _ ∧ _
        refine ⟨hx2, ?_⟩
        simp only [Act.put, List.setIfInBounds_toArray, List.set_cons_zero, List.set_cons_succ]
        refine wpAnyH_all (rs := [11]) (by kernel_rfl) (by decide) ?_
        intro i hi
        obtain rfl := List.mem_singleton.1 hi
        refine wpOp_callM (o := ⟨some 22, Op.call { callee := Callee.value (Operand.func 71), args := #[Operand.tmp 17, Operand.tmp 19, Operand.tmp 21], argTypes := #[3, 3, 3] }, _, _, _, none⟩) rfl (by rfl) (by go_simp) (H1.out _) ?_
        rintro e x3 ⟨rfl, hy3⟩
        have hx3 := bel_tr hx2 hy3
        have hBg8 := hBg8.bel hy3
        refine ⟨_, rfl, ?_⟩
        show _ ∧ _
        refine ⟨hx3, ?_⟩
        simp only [Act.put, List.setIfInBounds_toArray, List.set_cons_zero, List.set_cons_succ]
        refine wpAnyH_all (rs := [16]) (by kernel_rfl) (by decide) ?_
        intro i hi
        obtain rfl := List.mem_singleton.1 hi
        refine wpOp_callM (o := ⟨some 27, Op.call { callee := Callee.value (Operand.func 70), args := #[Operand.tmp 24, Operand.tmp 26], argTypes := #[4, 4] }, _, _, _, none⟩) rfl (by rfl) (by go_simp) (H2.out _) ?_
        rintro e x4 ⟨rfl, hy4⟩
        have hx4 := bel_tr hx3 hy4
        have hBg8 := hBg8.bel hy4
        refine ⟨_, rfl, ?_⟩
        show _ ∧ _
        refine ⟨hx4, ?_⟩
        simp only [Act.put, List.setIfInBounds_toArray, List.set_cons_zero, List.set_cons_succ]
        refine wpAnyH_all (rs := [21]) (by kernel_rfl) (by decide) ?_
        intro i hi
        obtain rfl := List.mem_singleton.1 hi
        refine wpOp_callM (o := ⟨some 32, Op.call { callee := Callee.value (Operand.func 70), args := #[Operand.tmp 29, Operand.tmp 31], argTypes := #[4, 4] }, _, _, _, none⟩) rfl (by rfl) (by go_simp) (H3.out _) ?_
        rintro e x5 ⟨rfl, hy5⟩
        have hx5 := bel_tr hx4 hy5
        have hBg8 := hBg8.bel hy5
        refine ⟨_, rfl, ?_⟩
        show _ ∧ _
        refine ⟨hx5, ?_⟩
        simp only [Act.put, List.setIfInBounds_toArray, List.set_cons_zero, List.set_cons_succ]
        refine wpAnyH_all (rs := [26]) (by kernel_rfl) (by decide) ?_
        intro i hi
        obtain rfl := List.mem_singleton.1 hi
        refine wpOp_callM (o := ⟨some 37, Op.call { callee := Callee.value (Operand.func 70), args := #[Operand.tmp 34, Operand.tmp 36], argTypes := #[4, 4] }, _, _, _, none⟩) rfl (by rfl) (by go_simp) (H4.out _) ?_
        rintro e x6 ⟨rfl, hy6⟩
        have hx6 := bel_tr hx5 hy6
        have hBg8 := hBg8.bel hy6
        refine ⟨_, rfl, ?_⟩
        show _ ∧ _
        refine ⟨hx6, ?_⟩
        simp only [Act.put, List.setIfInBounds_toArray, List.set_cons_zero, List.set_cons_succ]
        refine wpAnyH_all (rs := [31]) (by kernel_rfl) (by decide) ?_
        intro i hi
        obtain rfl := List.mem_singleton.1 hi
        refine wpOp_callM (o := ⟨some 42, Op.call { callee := Callee.value (Operand.func 70), args := #[Operand.tmp 39, Operand.tmp 41], argTypes := #[4, 4] }, _, _, _, none⟩) rfl (by rfl) (by go_simp) (H5.out _) ?_
        rintro e x7 ⟨rfl, hy7⟩
        have hx7 := bel_tr hx6 hy7
        have hBg8 := hBg8.bel hy7
        refine ⟨_, rfl, ?_⟩
        show _ ∧ _
        refine ⟨hx7, ?_⟩
        simp only [Act.put, List.setIfInBounds_toArray, List.set_cons_zero, List.set_cons_succ]
        refine wpAnyH_all (rs := [36]) (by kernel_rfl) (by decide) ?_
        intro i hi
        obtain rfl := List.mem_singleton.1 hi
        refine wpOp_callM (o := ⟨some 47, Op.call { callee := Callee.value (Operand.func 70), args := #[Operand.tmp 44, Operand.tmp 46], argTypes := #[4, 4] }, _, _, _, none⟩) rfl (by rfl) (by go_simp) (H6.out _) ?_
        rintro e x8 ⟨rfl, hy8⟩
        have hx8 := bel_tr hx7 hy8
        have hBg8 := hBg8.bel hy8
        refine ⟨_, rfl, ?_⟩
        show _ ∧ _
        refine ⟨hx8, ?_⟩
        simp only [Act.put, List.setIfInBounds_toArray, List.set_cons_zero, List.set_cons_succ]
        refine wpAnyH_all (rs := [41]) (by kernel_rfl) (by decide) ?_
        intro i hi
        obtain rfl := List.mem_singleton.1 hi
        refine wpOp_callM (o := ⟨some 52, Op.call { callee := Callee.value (Operand.func 25), args := #[Operand.tmp 49, Operand.tmp 51], argTypes := #[3, 3] }, _, _, _, none⟩) rfl (by rfl) (by go_simp) (H7.out _) ?_
        rintro e x9 ⟨rfl, hy9⟩
        have hx9 := bel_tr hx8 hy9
        have hBg8 := hBg8.bel hy9
        refine ⟨_, rfl, ?_⟩
        show _ ∧ _
        refine ⟨hx9, ?_⟩
        simp only [Act.put, List.setIfInBounds_toArray, List.set_cons_zero, List.set_cons_succ]
        refine wpAnyH_take (i := 42) (oi := ⟨some 53, Op.build 88 #[(0 , Operand.tmp 15), (1 , Operand.tmp 22), (2 , Operand.tmp 27), (3 , Operand.tmp 32), (4 , Operand.tmp 37), (5 , Operand.tmp 42), (6 , Operand.tmp 47), (7 , Operand.tmp 52)], _, _, _, none⟩) (v := Value.agg (giA L)) rfl (by kernel_rfl) (by kernel_rfl) (by kernel_rfl) (fun _ _ _ h => nomatch h.1) (yieldsIf_buildL (by rfl) 88 _ rfl HB.out rfl) hx9 ?_
        simp only [Act.put, List.setIfInBounds_toArray, List.set_cons_zero, List.set_cons_succ]
        refine wpAnyH_all (rs := [44]) (by kernel_rfl) (by decide) ?_
        intro i hi
        obtain rfl := List.mem_singleton.1 hi
        refine wpOp_of_list (o := ⟨none, Op.store 88 (Operand.tmp 8) (Operand.tmp 53), _, _, _, none⟩) rfl ?_
        refine wpList_storeB rfl _ _ _ rfl rfl rfl hBg8 HLz.out (by rw [HLs.out]; rfl) (giA_one L) ?_
        intro x10 hBz hSz
        have hx10 := (hx9 : Below w3.heap.size w3 _).trans (hSz.below hlg8)
        show _ ∧ _
        refine ⟨hx10, ?_⟩
        simp only [Act.put]
        refine wpAnyH_done (by kernel_rfl) ?_ _
        exact ⟨rfl, g8, rfl, hBz, hlg8, hx10⟩
    · skip
      refine wpOp_of_list (o := ⟨some 8, Op.alloc 88, _, _, _, none⟩) rfl ?_
      refine wpList_allocZ rfl _ rfl i8_zero ?_
      intro g8 x1 hgg8 hBg8 hy1 hs
      have hlg8 : w3.heap.size ≤ g8 := Nat.le_trans ((Below.refl _ _).drew : Below w3.heap.size w3 _).size (Nat.le_of_eq hgg8.symm)
      clear hgg8 hs
      have hx1 := bel_drew hy1
      show _ ∧ _
      refine ⟨hx1, ?_⟩
      simp only [Act.put, List.setIfInBounds_toArray, List.set_cons_zero, List.set_cons_succ]
      refine wpAnyH_all (rs := [4]) (by kernel_rfl) (by decide) ?_
      intro i hi
      obtain rfl := List.mem_singleton.1 hi
      refine wpOp_callM (o := ⟨some 15, Op.call { callee := Callee.value (Operand.func 70), args := #[Operand.tmp 12, Operand.tmp 14], argTypes := #[4, 4] }, _, _, _, none⟩) rfl (by rfl) (by go_simp) (H0.out _) ?_
      rintro e x2 ⟨rfl, hy2⟩
      have hx2 := bel_tr hx1 hy2
      have hBg8 := hBg8.bel hy2
      refine ⟨_, rfl, ?_⟩
      show _ ∧ _
      refine ⟨hx2, ?_⟩
      simp only [Act.put, List.setIfInBounds_toArray, List.set_cons_zero, List.set_cons_succ]
      refine wpAnyH_all (rs := [11]) (by kernel_rfl) (by decide) ?_
      intro i hi
      obtain rfl := List.mem_singleton.1 hi
      refine wpOp_callM (o := ⟨some 22, Op.call { callee := Callee.value (Operand.func 71), args := #[Operand.tmp 17, Operand.tmp 19, Operand.tmp 21], argTypes := #[3, 3, 3] }, _, _, _, none⟩) rfl (by rfl) (by go_simp) (H1.out _) ?_
      rintro e x3 ⟨rfl, hy3⟩
      have hx3 := bel_tr hx2 hy3
      have hBg8 := hBg8.bel hy3
      refine ⟨_, rfl, ?_⟩
      show _ ∧ _
      refine ⟨hx3, ?_⟩
      simp only [Act.put, List.setIfInBounds_toArray, List.set_cons_zero, List.set_cons_succ]
      refine wpAnyH_all (rs := [16]) (by kernel_rfl) (by decide) ?_
      intro i hi
      obtain rfl := List.mem_singleton.1 hi
      refine wpOp_callM (o := ⟨some 27, Op.call { callee := Callee.value (Operand.func 70), args := #[Operand.tmp 24, Operand.tmp 26], argTypes := #[4, 4] }, _, _, _, none⟩) rfl (by rfl) (by go_simp) (H2.out _) ?_
      rintro e x4 ⟨rfl, hy4⟩
      have hx4 := bel_tr hx3 hy4
      have hBg8 := hBg8.bel hy4
      refine ⟨_, rfl, ?_⟩
      show _ ∧ _
      refine ⟨hx4, ?_⟩
      simp only [Act.put, List.setIfInBounds_toArray, List.set_cons_zero, List.set_cons_succ]
      refine wpAnyH_all (rs := [21]) (by kernel_rfl) (by decide) ?_
      intro i hi
      obtain rfl := List.mem_singleton.1 hi
      refine wpOp_callM (o := ⟨some 32, Op.call { callee := Callee.value (Operand.func 70), args := #[Operand.tmp 29, Operand.tmp 31], argTypes := #[4, 4] }, _, _, _, none⟩) rfl (by rfl) (by go_simp) (H3.out _) ?_
      rintro e x5 ⟨rfl, hy5⟩
      have hx5 := bel_tr hx4 hy5
      have hBg8 := hBg8.bel hy5
      refine ⟨_, rfl, ?_⟩
      show _ ∧ _
      refine ⟨hx5, ?_⟩
      simp only [Act.put, List.setIfInBounds_toArray, List.set_cons_zero, List.set_cons_succ]
      refine wpAnyH_all (rs := [26]) (by kernel_rfl) (by decide) ?_
      intro i hi
      obtain rfl := List.mem_singleton.1 hi
      refine wpOp_callM (o := ⟨some 37, Op.call { callee := Callee.value (Operand.func 70), args := #[Operand.tmp 34, Operand.tmp 36], argTypes := #[4, 4] }, _, _, _, none⟩) rfl (by rfl) (by go_simp) (H4.out _) ?_
      rintro e x6 ⟨rfl, hy6⟩
      have hx6 := bel_tr hx5 hy6
      have hBg8 := hBg8.bel hy6
      refine ⟨_, rfl, ?_⟩
      show _ ∧ _
      refine ⟨hx6, ?_⟩
      simp only [Act.put, List.setIfInBounds_toArray, List.set_cons_zero, List.set_cons_succ]
      refine wpAnyH_all (rs := [31]) (by kernel_rfl) (by decide) ?_
      intro i hi
      obtain rfl := List.mem_singleton.1 hi
      refine wpOp_callM (o := ⟨some 42, Op.call { callee := Callee.value (Operand.func 70), args := #[Operand.tmp 39, Operand.tmp 41], argTypes := #[4, 4] }, _, _, _, none⟩) rfl (by rfl) (by go_simp) (H5.out _) ?_
      rintro e x7 ⟨rfl, hy7⟩
      have hx7 := bel_tr hx6 hy7
      have hBg8 := hBg8.bel hy7
      refine ⟨_, rfl, ?_⟩
      show _ ∧ _
      refine ⟨hx7, ?_⟩
      simp only [Act.put, List.setIfInBounds_toArray, List.set_cons_zero, List.set_cons_succ]
      refine wpAnyH_all (rs := [36]) (by kernel_rfl) (by decide) ?_
      intro i hi
      obtain rfl := List.mem_singleton.1 hi
      refine wpOp_callM (o := ⟨some 47, Op.call { callee := Callee.value (Operand.func 70), args := #[Operand.tmp 44, Operand.tmp 46], argTypes := #[4, 4] }, _, _, _, none⟩) rfl (by rfl) (by go_simp) (H6.out _) ?_
      rintro e x8 ⟨rfl, hy8⟩
      have hx8 := bel_tr hx7 hy8
      have hBg8 := hBg8.bel hy8
      refine ⟨_, rfl, ?_⟩
      show _ ∧ _
      refine ⟨hx8, ?_⟩
      simp only [Act.put, List.setIfInBounds_toArray, List.set_cons_zero, List.set_cons_succ]
      refine wpAnyH_all (rs := [41]) (by kernel_rfl) (by decide) ?_
      intro i hi
      obtain rfl := List.mem_singleton.1 hi
      refine wpOp_callM (o := ⟨some 52, Op.call { callee := Callee.value (Operand.func 25), args := #[Operand.tmp 49, Operand.tmp 51], argTypes := #[3, 3] }, _, _, _, none⟩) rfl (by rfl) (by go_simp) (H7.out _) ?_
      rintro e x9 ⟨rfl, hy9⟩
      have hx9 := bel_tr hx8 hy9
      have hBg8 := hBg8.bel hy9
      refine ⟨_, rfl, ?_⟩
      show _ ∧ _
      refine ⟨hx9, ?_⟩
      simp only [Act.put, List.setIfInBounds_toArray, List.set_cons_zero, List.set_cons_succ]
      refine wpAnyH_take (i := 42) (oi := ⟨some 53, Op.build 88 #[(0 , Operand.tmp 15), (1 , Operand.tmp 22), (2 , Operand.tmp 27), (3 , Operand.tmp 32), (4 , Operand.tmp 37), (5 , Operand.tmp 42), (6 , Operand.tmp 47), (7 , Operand.tmp 52)], _, _, _, none⟩) (v := Value.agg (giA L)) rfl (by kernel_rfl) (by kernel_rfl) (by kernel_rfl) (fun _ _ _ h => nomatch h.1) (yieldsIf_buildL (by rfl) 88 _ rfl HB.out rfl) hx9 ?_
      simp only [Act.put, List.setIfInBounds_toArray, List.set_cons_zero, List.set_cons_succ]
      refine wpAnyH_all (rs := [44]) (by kernel_rfl) (by decide) ?_
      intro i hi
      obtain rfl := List.mem_singleton.1 hi
      refine wpOp_of_list (o := ⟨none, Op.store 88 (Operand.tmp 8) (Operand.tmp 53), _, _, _, none⟩) rfl ?_
      refine wpList_storeB rfl _ _ _ rfl rfl rfl hBg8 HLz.out (by rw [HLs.out]; rfl) (giA_one L) ?_
      intro x10 hBz hSz
      have hx10 := (hx9 : Below w3.heap.size w3 _).trans (hSz.below hlg8)
      show _ ∧ _
      refine ⟨hx10, ?_⟩
      simp only [Act.put]
      refine wpAnyH_done (by kernel_rfl) ?_ _
      exact ⟨rfl, g8, rfl, hBz, hlg8, hx10⟩
  case k =>
    rintro g8 w8 ⟨hB8, hlg8, hb8⟩
    have hb08 := bel_tr Hb.out hb8
    go_wp2_with (first
      | (with_reducible refine wpList_loadB (o := ⟨some 54, _, _, _, _, _⟩) rfl _ _ rfl rfl hB8 i8_under rfl HLz.out ?_))
    go_loopw [55] (fun i wr => ∃ k : Nat, k ≤ 8 ∧ i = .int .i64 k ∧ fst1 L = fst1 (L.drop k) ∧ fstI L 0 = fstI (L.drop k) k ∧ wr = w8) (fun i _ => 8 - (intOf i).toNat)
    case atStart => exact ⟨0, by omega, rfl, rfl, rfl, rfl⟩
    case round =>
      obtain ⟨k, hk, rfl, h1, h2, rfl⟩ := hrel
      by_cases hlt : k < 8
      · have hkL : k < L.length := by rw [HLn.out]; exact hlt
        obtain ⟨x, hd, HX⟩ : ∃ x : Int, L.drop k = x :: L.drop (k + 1) ∧ Hid (∀ {o : Oper} {ops : Array Oper} {rest : List Oper} {a : Act} {Q : Exit → Act → World → Prop} (hgd : o.guard = none) (x1 y1 : Operand) (ho : o.op = .index 88 x1 y1) (hx : a.eval x1 = .agg (giA L)) (hy : a.eval y1 = .int .i64 (k : Int)) (h : wpList Tryz.prog ops Q rest (a.put o.dst (.int .i64 x)) wr), wpList Tryz.prog ops Q (o :: rest) a wr) :=
          ⟨L[k], List.drop_eq_getElem_cons hkL, Lib.hid (fun hgd x y ho hx hy h => wpList_idxI hgd x y ho hx hy HLn.out hkL h)⟩
        rw [hd] at h1 h2
        have j0 : (k : Int) < 8 := by omega
        by_cases hx : x = 0
        · rw [fst1_cons _ _ hx] at h1
          rw [fstI_cons _ _ _ hx] at h2
          have G1 := Lib.hid h1
          have G2 := Lib.hid h2
          have i0 : (x != 0) = false := by simp [hx]
          clear h1 h2 hd
          clear hx hkL
          go_wp2_with (first
            | (refine HX.out (o := ⟨some 58, _, _, _, _, _⟩) rfl _ _ rfl rfl rfl ?_))
          go_roundw
          case rel => exact ⟨k + 1, by omega, by go_num, G1.out, G2.out, by trivial⟩
          case measure => simp [intOf]; omega
        · rw [fst1_hit _ _ hx] at h1
          rw [fstI_hit _ _ _ hx] at h2
          have G1 := Lib.hid h1
          have G2 := Lib.hid h2
          have i0 : (x != 0) = true := by simpa using hx
          clear h1 h2 hd
          clear hx hkL
          go_wp2_with (first
            | (refine HX.out (o := ⟨some 58, _, _, _, _, _⟩) rfl _ _ rfl rfl rfl ?_))
          go_ret2
          exact ⟨by rw [G1.out, G2.out]; rfl, hb08⟩
      · have hk8 : k = 8 := by omega
        subst hk8
        have hd : L.drop 8 = [] := List.drop_eq_nil_of_le (by rw [HLn.out]; omega)
        rw [hd] at h1 h2
        have G1 := Lib.hid h1
        have G2 := Lib.hid h2
        clear h1 h2 hd
        go_wp2_with (fail)
        go_ret2
        exact ⟨by rw [G1.out, G2.out]; rfl, hb08⟩
end Go.Proofs.YthlnndjkocnfcaaGreatDoor

/- source.Better. -/
namespace Go.Proofs.YthlnndjkocnfcaaGreatDoor
open Go.RowKit
attribute [local go_sem] ba_get ext_take ext_drop ext_any ba_app

theorem quiet_loadK {w : World} {o : Oper} {a a' : Act} {K : Act → Prop} (ty : TypeId) (x : Operand) (ho : o.op = .load ty x) {g off : Nat} (hx : a.eval x = .pointer (some ⟨g, off, none⟩)) {l : List Value} {cs : Array Value} (hcs : l.toArray = cs) (hB : w.rangeAt g off l)
    {d : TypeDesc} (hu : Tryz.prog.underlying ty = some d) (hd : d.isRow = true) (hi : (Tryz.prog.info? ty).map (·.size) = some l.length)
    (ha : a.put o.dst (.agg cs) = a') (hk : K a') : o.quiet Tryz.prog a (fun w' => ∃ y : BelT w, w' = y.at_) K := by
  subst hcs
  exact quiet_loadL ty x ho hx hB hu hd hi ha hk
/-- which of two own addresses is better: what tells. -/
def betL (N : Nt) (d : Ad) (a b : Ifc) : List Int := telL (aimN N d) (worN N (aimN N d) a) (worN N (aimN N d) b)
end Go.Proofs.YthlnndjkocnfcaaGreatDoor

/- route.Ifaces (printed by mk_srj.py). -/
namespace Go.Proofs.YthlnndjkocnfcaaGreatDoor
open Go.RowKit
attribute [local go_sem] ba_get ext_take ext_drop ext_any ba_app

set_option maxRecDepth 100000 in
set_option maxHeartbeats 4000000 in
theorem ifaces_any (vi vr vp : Value) (N : Nt) (w : World) (hN : NetRaw w vi vr vp N) (hl : N.I.length ≤ 1000000) : Calls Tryz.prog 69 #[.agg #[vi, vr, vp]] w (IfcsPost w (ifcN N.I)) := by
  have h0 := hN.i
  clear hN
  generalize N.I = L at *
  obtain ⟨A, c, rfl, hc⟩ := h0.any
  have H := Lib.hid h0
  clear h0 hc
  go_enter Tryz.func69, Tryz.ntmps69
  go_wp2_with (first
    | ((with_reducible refine wpList_boxB rfl _ _ rfl rfl ?_); intro g1 w1 hg hB1 hb1 hs; have c2 : w1.cell? ⟨g1, 0, none⟩ = some (.slice A L.length c) := hB1.cell 0; clear hg hs))
  have H1 := Lib.hid (H.out.below hb1)
  go_loopw [3, 9] (fun v i wr => ∃ k : Nat, k ≤ L.length ∧ i = .int .i64 k ∧ FltRel w1 42 23 ifcL okI 32 L k v wr) (fun _ i _ => L.length - (intOf i).toNat)
  case atStart => exact ⟨0, Nat.zero_le _, rfl, by simp, by simpa using World.ownsRow_nil w1 w1.heap.size 42 23, Below.refl _ _⟩
  case round =>
    obtain ⟨k, hk, rfl, hcnt, hown, hbel⟩ := hrel
    obtain ⟨ao, co, rfl⟩ := own_anyF hown
    have Hown := Lib.hid hown
    clear hown c2
    by_cases hlt : k < L.length
    · obtain ⟨b, off, c, hv, hc, hbl, hcell⟩ := H1.out.pos (by omega)
      injection hv with hv1 _ hv2
      subst hv1 hv2
      have hR := range_of ifcL_len hcell hlt
      have HR : Hid (wr.rangeAt b (off + k * 23) (ifcL L[k])) := Lib.hid (fun j u hu => ((hbel.cell (p := ⟨b, off + k * 23 + j, none⟩) hbl).trans (hR j u hu)))
      clear hR hcell hbl
      have hltI : (k : Int) < (L.length : Int) := by omega
      by_cases hst : 32 ≤ ((L.take k).filter okI).length
      · have hfin : leftF okI 32 L = (L.take k).filter okI := by rw [leftF_stop hst, List.take_of_length_le hcnt]
        have Hfin : Hid (ifcN L = (L.take k).filter okI) := Lib.hid hfin
        clear hfin
        generalize (L.take k).filter okI = Q at *
        have i15 : ((Q.length : Int) == 32) = true := by rw [beq_iff_eq]; omega
        generalize hql : Q.length = q at *
        go_wp2_with (first
          | (with_reducible refine wpList_loadM_ifc rfl _ rfl rfl HR.out ?_)
          | ((with_reducible refine wpList_alloc_ifc rfl rfl ?_); intro g2 w2 hg hB2 hb2 hs; have hg2 : wr.heap.size ≤ g2 := Nat.le_of_eq hg.symm; clear hg hs)
          | ((with_reducible refine wpList_store_ifc rfl _ _ rfl rfl rfl hB2 ?_); intro w4 hB4 hS4))
        go_ret
        have hb4 : Below wr.heap.size wr w4 := hb2.trans (hS4.below (by omega))
        refine ⟨_, rfl, ?_, bel_tr hb1 (hbel.trans (hb4.mono hbel.size))⟩
        rw [Hfin.out, hql]
        exact own_base (own_below Hown.out hb4) hb1.size
      · have hst2 : ((L.take k).filter okI).length < 32 := by omega
        have hnx := filt_next (p := okI) hlt
        have Hnx := Lib.hid hnx
        clear hnx hst
        generalize hp : L[k] = p at *
        generalize hQ : (L.take k).filter okI = Q at *
        have i15 : ((Q.length : Int) == 32) = false := by rw [beq_eq_false_iff_ne]; omega
        have Hbd : Hid (Q.length < 32) := Lib.hid hst2
        have hok : (chkA p.ad == 0) = false ∧ okI p = false ∨ ((chkA p.ad == 0) = true ∧ mulA p.ad = true ∧ okI p = false) ∨ ((chkA p.ad == 0) = true ∧ mulA p.ad = false ∧ decide (0 ≤ p.bits) = false ∧ okI p = false) ∨
            ((chkA p.ad == 0) = true ∧ mulA p.ad = false ∧ decide (0 ≤ p.bits) = true ∧ decide (p.bits ≤ bitsA p.ad) = false ∧ okI p = false) ∨ ((chkA p.ad == 0) = true ∧ mulA p.ad = false ∧ decide (0 ≤ p.bits) = true ∧ decide (p.bits ≤ bitsA p.ad) = true ∧ okI p = true) := by
          unfold okI
          cases (chkA p.ad == 0) <;> cases mulA p.ad <;> cases decide (0 ≤ p.bits) <;> cases decide (p.bits ≤ bitsA p.ad) <;> simp
        clear hst2 hp hQ
        have HH : Hid (∀ w, Calls Tryz.prog 46 #[.agg (adA p.ad)] w fun e w' => e = .returned (.int .i64 (chkA p.ad)) ∧ Below w.heap.size w w') := Lib.hid (acheck_any p.ad)
        have HM : Hid (∀ w, Calls Tryz.prog 78 #[.agg (adA p.ad)] w (BoPost w (mulA p.ad))) := Lib.hid (multi_any p.ad)
        have HT : Hid (∀ w, Calls Tryz.prog 47 #[.agg (adA p.ad)] w fun e w' => e = .returned (.int .i64 (bitsA p.ad)) ∧ Below w.heap.size w w') := Lib.hid (abits_any p.ad)
        generalize chkA p.ad = ch at *
        generalize mulA p.ad = mu at *
        generalize bitsA p.ad = bt at *
        go_wp2_with (first
          | (with_reducible refine wpList_loadM_ifc rfl _ rfl rfl HR.out ?_)
          | ((with_reducible refine wpList_alloc_ifc rfl rfl ?_); intro g2 w2 hg hB2 hb2 hs; have hg2 : wr.heap.size ≤ g2 := Nat.le_of_eq hg.symm; clear hg hs)
          | ((with_reducible refine wpList_store_ifc (o := ⟨none, _, _, _, _, _⟩) rfl _ _ rfl rfl rfl hB2 ?_); intro w4 hB4 hS4; have hb4 : Below wr.heap.size wr w4 := hb2.trans (hS4.below (by omega)); have hq4 := Lib.hid hB4.rangehd_ifc; have c19 := hB4.cell 19; rw [ifcA_19] at c19; have HX : Hid (Bk w4 g2 42 (ifcA p) ∧ Below wr.heap.size wr w4) := Lib.hid ⟨hB4, hb4⟩; clear hB4 hb4 hB2 hb2 hS4 hg2))
        have x19 := fun x : BelT w4 => x.cell c19
        clear c19
        rcases hok with ⟨i0, ho⟩ | ⟨i0, im, ho⟩ | ⟨i0, im, id0, ho⟩ | ⟨i0, im, id0, id1, ho⟩ | ⟨i0, im, id0, id1, ho⟩
        all_goals
          have Ho := Lib.hid ho
          clear ho
          refine wp_region_bel (by kernel_rfl) (by kernel_rfl) ?_
          repeat (first
            | go_big_quiet_skip
            | (go_big_quiet_want; first
                | (refine quiet_loadAd _ rfl rfl hq4.out (by simp only [Act.put, List.setIfInBounds_toArray, List.set_cons_succ, List.set_cons_zero]; exact rfl) ?_; go_big_quiet_on)
                | (go_big_quiet_op; first | go_big_quiet_on | go_big_quiet_call ((go_at_call 46; with_reducible refine bel_call (HH.out _))) | go_big_quiet_call ((go_at_call 78; with_reducible refine bel_call (HM.out _))) | go_big_quiet_call ((go_at_call 47; with_reducible refine bel_call (HT.out _))))))
          refine wpQuiet_nil ?_
          rintro _ ⟨x, rfl⟩
          have HX5 : Hid (Bk x.at_ g2 42 (ifcA p) ∧ Below wr.heap.size wr x.at_) := Lib.hid ⟨HX.out.1.bel x.bel, bel_tr HX.out.2 x.bel⟩
          clear HX x19 hq4
          have HX := HX5
          clear HX5
          go_wp2_with (first
            | (with_reducible refine wpList_load_ifc (o := ⟨some 40, _, _, _, _, _⟩) rfl _ rfl rfl HX.out.1 ?_)
            | ((with_reducible show wpList _ _ _ (⟨some 41, _, _, _, _, _⟩ :: _) _ _); refine wpList_lit (o := ⟨some 41, _, _, _, _, _⟩) rfl _ _ rfl elt_ifc [.agg (ifcA p)] rfl (by decide) (by decide) (fun v hv => by rw [List.mem_singleton.1 hv]; exact ifcA_size _) rfl ?_; intro w6 hB6 hx6 hb6 hs6; clear hx6 hs6; have hb06 := bel_tr HX.out.2 hb6; have hB6 := bk_list (l := ifcL p) hB6 rfl)
            | (at_builtin; refine wpList_app rfl (.tmp 39) (.tmp 41) _ rfl elt_ifc rfl (own_below Hown.out hb06) rfl (hB6.sl (size := 23) (n := 1) (ifcL_len _) 1 (Nat.le_refl _)) (ifcL_one _) (Nat.le_trans hbel.size hb06.size) (by have := Hbd.out; omega) (by have := Hbd.out; omega) ?_; intro v7 w7 ho7 hb7 hg7; clear hg7))
          skip
        · go_roundw
          case rel =>
            refine ⟨k + 1, by omega, by go_num, ?_⟩
            unfold FltRel
            rw [Hnx.out, if_neg (by rw [Ho.out]; decide), List.append_nil]
            exact ⟨Nat.le_of_lt Hbd.out, own_below Hown.out HX.out.2, hbel.trans (HX.out.2.mono hbel.size)⟩
          case measure => simp [intOf]; omega
        · go_roundw
          case rel =>
            refine ⟨k + 1, by omega, by go_num, ?_⟩
            unfold FltRel
            rw [Hnx.out, if_neg (by rw [Ho.out]; decide), List.append_nil]
            exact ⟨Nat.le_of_lt Hbd.out, own_below Hown.out HX.out.2, hbel.trans (HX.out.2.mono hbel.size)⟩
          case measure => simp [intOf]; omega
        · go_roundw
          case rel =>
            refine ⟨k + 1, by omega, by go_num, ?_⟩
            unfold FltRel
            rw [Hnx.out, if_neg (by rw [Ho.out]; decide), List.append_nil]
            exact ⟨Nat.le_of_lt Hbd.out, own_below Hown.out HX.out.2, hbel.trans (HX.out.2.mono hbel.size)⟩
          case measure => simp [intOf]; omega
        · go_roundw
          case rel =>
            refine ⟨k + 1, by omega, by go_num, ?_⟩
            unfold FltRel
            rw [Hnx.out, if_neg (by rw [Ho.out]; decide), List.append_nil]
            exact ⟨Nat.le_of_lt Hbd.out, own_below Hown.out HX.out.2, hbel.trans (HX.out.2.mono hbel.size)⟩
          case measure => simp [intOf]; omega
        · go_roundw
          case rel =>
            refine ⟨k + 1, by omega, by go_num, ?_⟩
            unfold FltRel
            rw [Hnx.out, if_pos Ho.out, List.length_append, List.flatMap_append]
            refine ⟨by have := Hbd.out; simp; omega, ?_, (hbel.trans (hb06.mono hbel.size)).trans hb7⟩
            simpa using ho7
          case measure => simp [intOf]; omega
    · have hkl : k = L.length := by omega
      subst hkl
      have hfin : leftF okI 32 L = (L.take L.length).filter okI := by rw [leftF, List.take_length, List.take_of_length_le (by rw [List.take_length] at hcnt; exact hcnt)]
      have Hfin : Hid (ifcN L = (L.take L.length).filter okI) := Lib.hid hfin
      clear hfin
      generalize (L.take L.length).filter okI = Q at *
      generalize hql : Q.length = q at *
      go_wp2
      go_ret
      refine ⟨_, rfl, ?_, bel_tr hb1 hbel⟩
      rw [Hfin.out, hql]
      exact own_base Hown.out hb1.size
end Go.Proofs.YthlnndjkocnfcaaGreatDoor

/- route.Own at any net. -/
namespace Go.Proofs.YthlnndjkocnfcaaGreatDoor
open Go.RowKit
attribute [local go_sem] ba_get ext_take ext_drop ext_any ba_app

def okO (f x : Int) (i : Ifc) : Bool := (i.ad.fam == f) && (i.idx == x)
/-- the own addresses on the way to an address. -/
def ownN (N : Nt) (a : Ad) : List Ifc := if (wayP a (rtN N.R)).2 = true then (ifcN N.I).filter (okO a.fam (wayP a (rtN N.R)).1.idx) else []
theorem ifcN_len (I : List Ifc) : (ifcN I).length ≤ 32 := by unfold ifcN leftF; rw [List.length_take]; omega
set_option maxRecDepth 100000 in
set_option maxHeartbeats 4000000 in
theorem ownS_any (vi vr vp : Value) (N : Nt) (a : Ad) (w : World) (hN : NetRaw w vi vr vp N) (hlI : N.I.length ≤ 1000000) (hlR : N.R.length ≤ 1000000) :
    Calls Tryz.prog 50 #[.agg #[vi, vr, vp], .agg (adA a)] w (IfcsPost w (ownN N a)) := by
  have HN := Lib.hid hN
  have Hns := Lib.hid (show (Tryz.prog.info? 26).map (·.size) = some (#[vi, vr, vp] : Array Value).size from net_size)
  have HW : Hid (∀ w', NetRaw w' vi vr vp N → Calls Tryz.prog 27 #[.agg #[vi, vr, vp], .agg (adA a)] w' (WayPost w' (wayP a (rtN N.R)))) := Lib.hid (fun w' h' => way_any vi vr vp N a w' h' hlR)
  have HI : Hid (∀ w', NetRaw w' vi vr vp N → Calls Tryz.prog 69 #[.agg #[vi, vr, vp]] w' (IfcsPost w' (ifcN N.I))) := Lib.hid (fun w' h' => ifaces_any vi vr vp N w' h' hlI)
  have Hof : Hid (ownN N a = if (wayP a (rtN N.R)).2 = true then (ifcN N.I).filter (okO a.fam (wayP a (rtN N.R)).1.idx) else []) := Lib.hid rfl
  have HRl := Lib.hid (ifcN_len N.I)
  clear hN hlI hlR
  generalize ownN N a = O at *
  generalize ifcN N.I = R at *
  generalize wayP a (rtN N.R) = wv at *
  obtain ⟨r, wb⟩ := wv
  cases wb with
  | false =>
    have Hf : Hid (O = []) := Lib.hid (by rw [Hof.out]; rfl)
    clear Hof HI
    go_enter Tryz.func50, Tryz.ntmps50
    go_wp2_with (first
      | ((with_reducible refine wpList_boxB (o := ⟨some 2, _, _, _, _, _⟩) rfl _ _ rfl rfl ?_); intro g2 w1 hg hB2 hb1 hs; clear hg hs)
      | ((with_reducible refine wpList_boxB (o := ⟨some 3, _, _, _, _, _⟩) rfl _ _ rfl rfl ?_); intro g3 w2 hg hB3 hb2 hs; have hB22 := hB2.bel hb2; have hb02 := bel_tr hb1 hb2; clear hg hs)
      | (with_reducible refine wpList_loadB (o := ⟨some 11, _, _, _, _, _⟩) rfl _ _ rfl rfl hB22 net_under rfl Hns.out ?_)
      | (with_reducible refine wpList_loadAd (o := ⟨some 12, _, _, _, _, _⟩) rfl _ rfl rfl hB3 ?_)
      | (go_at_call 27; refine (HW.out _ (HN.out.below hb02)).mono ?_; rintro e w4 ⟨rfl, hb4⟩; have hb04 := bel_tr hb02 hb4)
      | ((with_reducible refine wpList_alloc_rt (o := ⟨some 5, _, _, _, _, _⟩) rfl rfl ?_); intro g5 w5 hg hB5 hb5 hs; have hg5 : w4.heap.size ≤ g5 := Nat.le_of_eq hg.symm; have hb05 := bel_tr hb04 hb5; clear hg hs)
      | ((with_reducible refine wpList_store_rt (o := ⟨none, _, _, _, _, _⟩) rfl (.tmp 5) _ rfl rfl rfl hB5 ?_); intro w6 hB56 hS6; have hb06 : Below w.heap.size w w6 := hb05.trans (hS6.below (Nat.le_trans hb04.size hg5))))
    go_ret
    refine ⟨_, rfl, ?_, hb06⟩
    rw [Hf.out]
    simpa using World.ownsRow_nil w6 w.heap.size 42 23
  | true =>
    have Hf : Hid (O = R.filter (okO a.fam r.idx)) := Lib.hid (by rw [Hof.out]; rfl)
    clear Hof
    go_enter Tryz.func50, Tryz.ntmps50
    go_wp2_with (first
      | ((with_reducible refine wpList_boxB (o := ⟨some 2, _, _, _, _, _⟩) rfl _ _ rfl rfl ?_); intro g2 w1 hg hB2 hb1 hs; clear hg hs)
      | ((with_reducible refine wpList_boxB (o := ⟨some 3, _, _, _, _, _⟩) rfl _ _ rfl rfl ?_); intro g3 w2 hg hB3 hb2 hs; have hB22 := hB2.bel hb2; have hb02 := bel_tr hb1 hb2; clear hg hs)
      | (with_reducible refine wpList_loadB (o := ⟨some 11, _, _, _, _, _⟩) rfl _ _ rfl rfl hB22 net_under rfl Hns.out ?_)
      | (with_reducible refine wpList_loadAd (o := ⟨some 12, _, _, _, _, _⟩) rfl _ rfl rfl hB3 ?_)
      | (go_at_call 27; refine (HW.out _ (HN.out.below hb02)).mono ?_; rintro e w4 ⟨rfl, hb4⟩; have hB24 := hB22.bel hb4; have hB34 := hB3.bel hb4; have hb04 := bel_tr hb02 hb4)
      | ((with_reducible refine wpList_alloc_rt (o := ⟨some 5, _, _, _, _, _⟩) rfl rfl ?_); intro g5 w5 hg hB5 hb5 hs; have hg5 : w4.heap.size ≤ g5 := Nat.le_of_eq hg.symm; have hB25 := hB24.bel hb5; have hB35 := hB34.bel hb5; have hb05 := bel_tr hb04 hb5; clear hg hs)
      | ((with_reducible refine wpList_store_rt (o := ⟨none, _, _, _, _, _⟩) rfl (.tmp 5) _ rfl rfl rfl hB5 ?_); intro w6 hB56 hS6
         have hB26 := hB25.stays hS6 (by have := hB24.lt; omega)
         have hB36 := hB35.stays hS6 (by have := hB34.lt; omega)
         have hb06 : Below w.heap.size w w6 := hb05.trans (hS6.below (Nat.le_trans hb04.size hg5)))
      | (with_reducible refine wpList_loadB (o := ⟨some 18, _, _, _, _, _⟩) rfl _ _ rfl rfl hB26 net_under rfl Hns.out ?_)
      | (go_at_call 69; refine (HI.out _ (HN.out.below hb06)).mono ?_; rintro e w8 ⟨v8, rfl, ho8, hb8⟩; obtain ⟨A8, c8, rfl, hc8⟩ := (Sl.own ho8).any; have HR8 := Lib.hid (SRow.own ifcL_len ho8); have H3 := Lib.hid (hB36.bel hb8); have H5 := Lib.hid (hB56.bel hb8); have Hb8 := Lib.hid (bel_tr hb06 hb8)))
    clear hB2 hB22 hB24 hB25 hB26 hB3 hB34 hB35 hB36 hB5 hB56 hS6 hb1 hb2 hb4 hb5 hb8 hb02 hb04 hb05 hb06 ho8
    go_loopw [7, 21] (fun v i wr => ∃ k : Nat, k ≤ R.length ∧ i = .int .i64 k ∧ FltRel w8 42 23 ifcL (okO a.fam r.idx) 32 R k v wr) (fun _ i _ => R.length - (intOf i).toNat)
    case atStart => exact ⟨0, Nat.zero_le _, rfl, by simp, by simpa using World.ownsRow_nil w8 w8.heap.size 42 23, Below.refl _ _⟩
    case round =>
      obtain ⟨k, hk, rfl, hcnt, hown, hbel⟩ := hrel
      obtain ⟨ao, co, rfl⟩ := own_anyF hown
      have Hown := Lib.hid hown
      have hRb := HRl.out
      clear hown
      by_cases hlt : k < R.length
      · obtain ⟨b, off, hA, hblo, hblt, hrg⟩ := HR8.out.bel hbel k hlt
        subst hA
        have HRg := Lib.hid hrg
        clear hrg hblo hblt
        have hltI : (k : Int) < (R.length : Int) := by omega
        have hnx := filt_next (p := okO a.fam r.idx) hlt
        have Hnx := Lib.hid hnx
        have hcnt2 : ((R.take k).filter (okO a.fam r.idx)).length < 32 := by
          have h1 := List.length_filter_le (okO a.fam r.idx) (R.take k)
          rw [List.length_take] at h1
          have := HRl.out
          omega
        clear hnx hcnt
        generalize hp : R[k] = p at *
        generalize hQ : (R.take k).filter (okO a.fam r.idx) = Q at *
        have Hbd : Hid (Q.length < 32) := Lib.hid hcnt2
        have hok : ∀ x y : Bool, (p.ad.fam == a.fam) = x → (p.idx == r.idx) = y → okO a.fam r.idx p = (x && y) := by intro x y hx hy; unfold okO; rw [hx, hy]
        have Hok := Lib.hid hok
        clear hok hcnt2 hp hQ
        have c3 := (H3.out.bel hbel).cell 0
        rw [adA_0] at c3
        have c5 := (H5.out.bel hbel).cell 19
        rw [rtA_19] at c5
        cases i6 : (p.ad.fam == a.fam) <;> cases i0 : (p.idx == r.idx)
        all_goals
          have Ho := Lib.hid (Hok.out _ _ i6 i0)
          clear Hok
          go_wp2_with (first
            | (with_reducible refine wpList_loadM_ifc rfl _ rfl rfl HRg.out ?_)
            | ((with_reducible refine wpList_alloc_ifc rfl rfl ?_); intro g9 w9 hg hB9 hb9 hs; have hg9 : wr.heap.size ≤ g9 := Nat.le_of_eq hg.symm; clear hg hs)
            | ((with_reducible refine wpList_store_ifc (o := ⟨none, _, _, _, _, _⟩) rfl _ _ rfl rfl rfl hB9 ?_); intro wa hBa hSa; have hba : Below wr.heap.size wr wa := hb9.trans (hSa.below hg9); have d0 := hBa.cell 0; rw [ifcA_0] at d0; have d18 := hBa.cell 18; rw [ifcA_18] at d18; have d3 := (H3.out.bel (hbel.trans (hba.mono hbel.size))).cell 0; rw [adA_0] at d3; have d5 := (H5.out.bel (hbel.trans (hba.mono hbel.size))).cell 19; rw [rtA_19] at d5; have HX : Hid (Bk wa g9 42 (ifcA p) ∧ Below wr.heap.size wr wa) := Lib.hid ⟨hBa, hba⟩; clear hBa hba hB9 hb9 hSa hg9 c3 c5)
            | (with_reducible refine wpList_load_ifc (o := ⟨some 39, _, _, _, _, _⟩) rfl _ rfl rfl HX.out.1 ?_)
            | ((with_reducible show wpList _ _ _ (⟨some 40, _, _, _, _, _⟩ :: _) _ _); refine wpList_lit (o := ⟨some 40, _, _, _, _, _⟩) rfl _ _ rfl elt_ifc [.agg (ifcA p)] rfl (by decide) (by decide) (fun v hv => by rw [List.mem_singleton.1 hv]; exact ifcA_size _) rfl ?_; intro w6 hB6 hx6 hb6 hs6; clear hx6 hs6; have hb06 := bel_tr HX.out.2 hb6; have hB6 := bk_list (l := ifcL p) hB6 rfl)
            | (at_builtin; refine wpList_app rfl (.tmp 38) (.tmp 40) _ rfl elt_ifc rfl (own_below Hown.out hb06) rfl (hB6.sl (size := 23) (n := 1) (ifcL_len _) 1 (Nat.le_refl _)) (ifcL_one _) (Nat.le_trans hbel.size hb06.size) (by have := Hbd.out; omega) (by have := Hbd.out; omega) ?_; intro v7 w7 ho7 hb7 hg7; clear hg7))
          skip
        · go_roundw
          case rel =>
            refine ⟨k + 1, by omega, by go_num, ?_⟩
            unfold FltRel
            rw [Hnx.out, if_neg (by rw [Ho.out]; decide), List.append_nil]
            exact ⟨Nat.le_of_lt Hbd.out, own_below Hown.out HX.out.2, hbel.trans (HX.out.2.mono hbel.size)⟩
          case measure => simp [intOf]; omega
        · go_roundw
          case rel =>
            refine ⟨k + 1, by omega, by go_num, ?_⟩
            unfold FltRel
            rw [Hnx.out, if_neg (by rw [Ho.out]; decide), List.append_nil]
            exact ⟨Nat.le_of_lt Hbd.out, own_below Hown.out HX.out.2, hbel.trans (HX.out.2.mono hbel.size)⟩
          case measure => simp [intOf]; omega
        · go_roundw
          case rel =>
            refine ⟨k + 1, by omega, by go_num, ?_⟩
            unfold FltRel
            rw [Hnx.out, if_neg (by rw [Ho.out]; decide), List.append_nil]
            exact ⟨Nat.le_of_lt Hbd.out, own_below Hown.out HX.out.2, hbel.trans (HX.out.2.mono hbel.size)⟩
          case measure => simp [intOf]; omega
        · go_roundw
          case rel =>
            refine ⟨k + 1, by omega, by go_num, ?_⟩
            unfold FltRel
            rw [Hnx.out, if_pos (show okO a.fam r.idx p = true from Ho.out), List.length_append, List.flatMap_append]
            refine ⟨by have := Hbd.out; simp; omega, ?_, (hbel.trans (hb06.mono hbel.size)).trans hb7⟩
            simpa using ho7
          case measure => simp [intOf]; omega
      · have hkl : k = R.length := by omega
        subst hkl
        have Hf2 : Hid (O = (R.take R.length).filter (okO a.fam r.idx)) := Lib.hid (by rw [List.take_length]; exact Hf.out)
        clear Hf
        generalize (R.take R.length).filter (okO a.fam r.idx) = Q at *
        generalize hql : Q.length = q at *
        go_wp2
        go_ret
        refine ⟨_, rfl, ?_, bel_tr Hb8.out hbel⟩
        rw [Hf2.out, hql]
        exact own_base Hown.out Hb8.out.size
end Go.Proofs.YthlnndjkocnfcaaGreatDoor
