/- Contracts and plain lemmas of our own, merged. -/
import Derived.Test.YthlnndjkocnfcaaGreatDoorZDO13
import Derived.Test.YthlnndjkocnfcaaGreatDoorZDO34
import Derived.Test.YthlnndjkocnfcaaGreatDoorZDO35
import Derived.Test.YthlnndjkocnfcaaGreatDoorZDO7
/- works (39) (printed by mk_dsp.py). -/
namespace Go.Proofs.YthlnndjkocnfcaaGreatDoor
open Go.RowKit
attribute [local go_sem] ba_get ext_take ext_drop ext_any ba_app

def qa : Ad := adOf 10 0 0 9
def qb : Ad := adOf 192 0 2 1
def qx : Ifc := ⟨adOf 192 0 2 7, 1, 24, false, false, false, by decide⟩
def qp : Pf := ⟨qb, 24, by decide⟩
def qr : Rt := ⟨qp, 1, false, by decide⟩
def qn : Nt := ⟨[qx], [qr], []⟩
theorem qbet : dbet (dwN qn qa) (dwN qn qb) = (-1, 1) := by decide +kernel
theorem qord : ordF (dcm qn) [qa, qb] = [qb, qa] := by decide +kernel
theorem rof_qa (w : World) : Calls Tryz.prog 14 #[.int .i64 10, .int .i64 0, .int .i64 0, .int .i64 9] w (AdPost w qa) := rof_any 10 0 0 9 w
theorem rof_qb (w : World) : Calls Tryz.prog 14 #[.int .i64 192, .int .i64 0, .int .i64 2, .int .i64 1] w (AdPost w qb) := rof_any 192 0 2 1 w
theorem rof_qx (w : World) : Calls Tryz.prog 14 #[.int .i64 192, .int .i64 0, .int .i64 2, .int .i64 7] w (AdPost w qx.ad) := rof_any 192 0 2 7 w
theorem built_qx : Tryz.prog.built 42 [(0, .agg (adA qx.ad)), (1, .int .i64 1), (2, .int .i64 24)] = some (ifcA qx) := by kernel_rfl
theorem built_qp : Tryz.prog.built 44 [(0, .agg (adA qb)), (1, .int .i64 24)] = some (pfA qp) := by kernel_rfl
theorem built_qr : Tryz.prog.built 46 [(0, .agg (pfA qp)), (1, .int .i64 1)] = some (rtA qr) := by kernel_rfl
theorem built_qn (a b : Nat) : Tryz.prog.built 26 [(0, .slice (some ⟨a, 0, none⟩) 1 1), (1, .slice (some ⟨b, 0, none⟩) 1 1)] = some #[.slice (some ⟨a, 0, none⟩) 1 1, .slice (some ⟨b, 0, none⟩) 1 1, .slice none 0 0] := by kernel_rfl
theorem netq_zero : ZeroIs Tryz.prog 26 #[.slice none 0 0, .slice none 0 0, .slice none 0 0] := by unfold ZeroIs; kernel_rfl
def BelQ (w w' : World) : Prop := Below w.heap.size w w'
theorem region_cutV {P : Program} {c : Code} {Q : Exit → Act → World → Prop} {a : Act} {w : World} {F : Nat → Value → Nat → Act} (R : Nat → Value → Nat → World → Prop) (h : c.wp P (fun ex a' w' => ex = .normal ∧ ∃ g1 g2 g3, a' = F g1 g2 g3 ∧ R g1 g2 g3 w') a w) (k : ∀ g1 g2 g3 w', R g1 g2 g3 w' → Q .normal (F g1 g2 g3) w') : c.wp P Q a w :=
  wp_mono h fun ex a' w' ⟨h1, g1, g2, g3, h2, h3⟩ => by rw [h1, h2]; exact k g1 g2 g3 w' h3
theorem qbetter {vi vr vp : Value} {w : World} (hN : NetRaw w vi vr vp qn) (hE : EnvS w) : Calls Tryz.prog 8 #[.agg #[vi, vr, vp], .agg (adA qa), .agg (adA qb)] w fun e w' => e = .returned (.tuple #[.int .i64 (-1), .int .i64 1]) ∧ Below w.heap.size w w' :=
  (dBetter_any vi vr vp qn qa qb w hN hE (by decide) (by decide) (by decide)).mono fun e w' ⟨he, hb⟩ => ⟨by rw [he, qbet], hb⟩
theorem qorder {vi vr vp v : Value} {w : World} (hN : NetRaw w vi vr vp qn) (hE : EnvS w) (hs : Sl w 18 v 2 ([qa, qb].flatMap adL)) : Calls Tryz.prog 10 #[.agg #[vi, vr, vp], v] w (AdsPost w [qb, qa]) :=
  (dOrder_any vi vr vp v qn [qa, qb] w hN hE (by decide) (by decide) (by decide) hs (by decide)).mono fun e w' h => by rw [qord] at h; exact h
theorem qsame {va vb : Value} {w : World} (ha : Sl w 18 va 2 ([qb, qa].flatMap adL)) (hb : Sl w 18 vb 2 ([qb, qa].flatMap adL)) : Calls Tryz.prog 11 #[va, vb] w fun e w' => e = .returned (.bool true) ∧ Below w.heap.size w w' :=
  (sameAds_any [qb, qa] [qb, qa] va vb w ha hb (by decide) (by decide)).mono fun e w' ⟨he, hb⟩ => ⟨by rw [he, decide_eq_true rfl], hb⟩
theorem ifq_sl {w : World} {g : Nat} (h : Bk w g 42 (ifcL qx).toArray) : Sl w 23 (.slice (some ⟨g, 0, none⟩) 1 1) qn.I.length (qn.I.flatMap ifcL) := by
  have := h.sl (size := 23) (n := 1) (by rw [ifcL_len]) 1 (Nat.le_refl _)
  simpa [qn] using this
theorem rtq_sl {w : World} {g : Nat} (h : Bk w g 46 (rtL qr).toArray) : Sl w 21 (.slice (some ⟨g, 0, none⟩) 1 1) qn.R.length (qn.R.flatMap rtL) := by
  have := h.sl (size := 21) (n := 1) (by rw [rtL_len]) 1 (Nat.le_refl _)
  simpa [qn] using this
structure WqS (w : World) (g1 g2 g4 gi gr : Nat) (wr : World) : Prop where
  b1 : Bk wr g1 29 (adA qa)
  b2 : Bk wr g2 29 (adA qb)
  b4 : Bk wr g4 26 #[.slice (some ⟨gi, 0, none⟩) 1 1, .slice (some ⟨gr, 0, none⟩) 1 1, .slice none 0 0]
  n : NetRaw wr (.slice (some ⟨gi, 0, none⟩) 1 1) (.slice (some ⟨gr, 0, none⟩) 1 1) (.slice none 0 0) qn
  b : Below w.heap.size w wr
theorem WqS.bel {w wr w' : World} {g1 g2 g4 gi gr : Nat} (h : WqS w g1 g2 g4 gi gr wr) (k : Below wr.heap.size wr w') : WqS w g1 g2 g4 gi gr w' := ⟨h.b1.bel k, h.b2.bel k, h.b4.bel k, h.n.below k, bel_tr h.b k⟩
set_option maxRecDepth 100000 in
set_option maxHeartbeats 40000000 in
theorem works39_any (w : World) (hE : EnvS w) : Calls Tryz.prog 6 #[] w (Good w) := by
  have HE := Lib.hid hE
  clear hE
  go_enter Tryz.func6, Tryz.ntmps6
  go_wp2_with (first
    | (go_at_call 14; (with_reducible refine (rof_qa _).mono ?_); rintro e w1 ⟨rfl, hb1⟩; refine hold ?_))
  refine Lib.hid ?_
  go_wp2_with (first
    | (go_at_call 14; (with_reducible refine (rof_qb _).mono ?_); rintro e w2 ⟨rfl, hb2⟩)
    | ((with_reducible refine wpList_allocAd (o := ⟨some 1, _, _, _, _, _⟩) rfl rfl ?_); intro g1 w3 hg hB1 hb3 hs; have hg1 : w2.heap.size ≤ g1 := Nat.le_of_eq hg.symm; clear hg hs)
    | ((with_reducible refine wpList_allocAd (o := ⟨some 2, _, _, _, _, _⟩) rfl rfl ?_); intro g2 w4 hg hB2 hb4 hs; have hB14 := hB1.bel hb4; have h12 : g1 < g2 := Nat.lt_of_lt_of_le hB1.lt (Nat.le_of_eq hg.symm); clear hg hs)
    | ((with_reducible refine wpList_storeAd (o := ⟨none, _, _, _, _, _⟩) rfl (.tmp 1) _ rfl rfl rfl hB14 ?_); intro w5 hB15 hS5; have hB25 := hB2.stays hS5 (by omega))
    | ((with_reducible refine wpList_storeAd (o := ⟨none, _, _, _, _, _⟩) rfl (.tmp 2) _ rfl rfl rfl hB25 ?_); intro w6 hB26 hS6
       have hbx : Below w2.heap.size w2 w6 := ((bel_tr hb3 hb4).trans (hS5.below hg1)).trans (hS6.below (by omega))
       have X1 := Lib.hid (hB15.stays hS6 (by omega))
       have X2 := Lib.hid hB26
       have Xb := Lib.hid (bel_tr (bel_tr hb1 hb2) hbx)
       clear hB1 hB2 hB14 hB15 hB25 hB26 hS5 hS6 hb1 hb2 hb3 hb4 hbx h12 hg1
       refine hold ?_))
  refine Lib.hid ?_
  go_wp2_with (first
    | (go_at_call 14; (with_reducible refine (rof_qx _).mono ?_); rintro e v1 ⟨rfl, hk1⟩)
    | ((with_reducible show wpList _ _ _ (⟨some 10, _, _, _, _, _⟩ :: _) _ _); refine wpList_buildL (o := ⟨some 10, _, _, _, _, _⟩) rfl 42 _ rfl built_qx rfl ?_)
    | ((with_reducible refine wpList_alloc_ifc (o := ⟨some 3, _, _, _, _, _⟩) rfl rfl ?_); intro g3 v2 hg hB3 hk2 hs; have hg3 : v1.heap.size ≤ g3 := Nat.le_of_eq hg.symm; clear hg hs)
    | ((with_reducible refine wpList_store_ifc (o := ⟨none, _, _, _, _, _⟩) rfl (.tmp 3) _ rfl rfl rfl hB3 ?_); intro v3 hB33 hS3
       have hkx := bel_tr hk1 (hk2.trans (hS3.below hg3))
       have Y1 := Lib.hid (X1.out.bel hkx)
       have Y2 := Lib.hid (X2.out.bel hkx)
       have Y3 := Lib.hid hB33
       have Yb := Lib.hid (bel_tr Xb.out hkx)
       clear X1 X2 Xb hB3 hB33 hS3 hk1 hk2 hkx hg3
       refine hold ?_))
  refine Lib.hid ?_
  go_wp2_with (first
    | (with_reducible refine wpList_load_ifc (o := ⟨some 11, _, _, _, _, _⟩) rfl _ rfl rfl Y3.out ?_)
    | ((with_reducible show wpList _ _ _ (⟨some 12, _, _, _, _, _⟩ :: _) _ _); refine wpList_lit (o := ⟨some 12, _, _, _, _, _⟩) rfl _ _ rfl elt_ifc [.agg (ifcA qx)] rfl (by decide) (by decide) (fun v hv => by rw [List.mem_singleton.1 hv]; exact ifcA_size _) rfl ?_; intro y1 hI hx6 hl1 hs6
       obtain ⟨gi, hgi, hIq⟩ : ∃ g, g = _ ∧ Bk y1 g 42 (ifcL qx).toArray := ⟨_, rfl, bk_list (l := ifcL qx) hI rfl⟩
       rw [← hgi]
       clear hx6 hs6 hI hgi
       have Z2 := Y2.out.bel hl1)
    | (with_reducible refine wpList_loadAd (o := ⟨some 13, _, _, _, _, _⟩) rfl _ rfl rfl Z2 ?_)
    | ((with_reducible show wpList _ _ _ (⟨some 14, _, _, _, _, _⟩ :: _) _ _); refine wpList_buildL (o := ⟨some 14, _, _, _, _, _⟩) rfl 44 _ rfl built_qp rfl ?_)
    | ((with_reducible show wpList _ _ _ (⟨some 15, _, _, _, _, _⟩ :: _) _ _); refine wpList_buildL (o := ⟨some 15, _, _, _, _, _⟩) rfl 46 _ rfl built_qr rfl ?_)
    | ((with_reducible show wpList _ _ _ (⟨some 16, _, _, _, _, _⟩ :: _) _ _); refine wpList_lit (o := ⟨some 16, _, _, _, _, _⟩) rfl _ _ rfl elt_rt [.agg (rtA qr)] rfl (by decide) (by decide) (fun v hv => by rw [List.mem_singleton.1 hv]; exact rtA_size _) rfl ?_; intro y2 hR hx6 hl2 hs6
       obtain ⟨gr, hgr, hRq⟩ : ∃ g, g = _ ∧ Bk y2 g 46 (rtL qr).toArray := ⟨_, rfl, bk_list (l := rtL qr) hR rfl⟩
       rw [← hgr]
       have hir : gi < gr := Nat.lt_of_lt_of_le hIq.lt (Nat.le_of_eq hgr.symm)
       clear hx6 hs6 hR hgr)
    | ((with_reducible show wpList _ _ _ (⟨some 17, _, _, _, _, _⟩ :: _) _ _); refine wpList_buildL (o := ⟨some 17, _, _, _, _, _⟩) rfl 26 _ rfl (built_qn gi gr) rfl ?_)
    | ((with_reducible show wpList _ _ _ (⟨some 4, _, _, _, _, _⟩ :: _) _ _); refine wpList_allocZ (o := ⟨some 4, _, _, _, _, _⟩) rfl _ rfl netq_zero ?_; intro g4 y3 hg hB4 hl3 hs; have hg4 : y2.heap.size ≤ g4 := Nat.le_of_eq hg.symm; clear hg hs)
    | ((with_reducible show wpList _ _ _ (⟨none, .store 26 _ _, _, _, _, _⟩ :: _) _ _); refine wpList_storeB (o := ⟨none, .store 26 _ _, _, _, _, _⟩) rfl _ (.tmp 4) _ rfl rfl rfl hB4 net_size rfl (by simp [Value.oneCell']) ?_; intro y4 hB44 hS4
       have hl24 : Below y2.heap.size y2 y4 := hl3.trans (hS4.below hg4)
       have hl14 := bel_tr (bel_tr hl1 hl2) hl24
       have R : Hid (WqS w g1 g2 g4 gi gr y4) := Lib.hid ⟨Y1.out.bel hl14, Y2.out.bel hl14, hB44, ⟨ifq_sl (hIq.bel (bel_tr hl2 hl24)), rtq_sl (hRq.bel hl24), Sl.nil _ _, by decide, by decide, by decide⟩, bel_tr Yb.out hl14⟩
       clear Y1 Y2 Y3 Yb Z2 hIq hRq hir hB4 hB44 hS4 hl1 hl2 hl3 hl24 hl14 hg4
       refine hold ?_))
  refine Lib.hid ?_
  go_wp2_with (first
    | ((with_reducible show wpList _ _ _ (⟨some 19, _, _, _, _, _⟩ :: _) _ _); refine wpList_loadB (o := ⟨some 19, _, _, _, _, _⟩) rfl _ _ rfl rfl R.out.b4 net_under rfl net_size ?_)
    | (with_reducible refine wpList_loadAd (o := ⟨some 20, _, _, _, _, _⟩) rfl _ rfl rfl R.out.b1 ?_)
    | (with_reducible refine wpList_loadAd (o := ⟨some 21, _, _, _, _, _⟩) rfl _ rfl rfl R.out.b2 ?_)
    | (go_at_call 8; (with_reducible refine (qbetter R.out.n (HE.out.below R.out.b)).mono ?_); rintro e w9 ⟨rfl, hb9⟩; have R2 := Lib.hid (R.out.bel hb9); clear R hb9; have R := R2; clear R2; refine hold ?_))
  refine Lib.hid ?_
  go_wp2_with (fail)
  have L4 : Hid (∀ w', Below w9.heap.size w9 w' → w'.rangeAt g4 0 [.slice (some ⟨gi, 0, none⟩) 1 1, .slice (some ⟨gr, 0, none⟩) 1 1, .slice none 0 0]) := Lib.hid (fun w' h => (R.out.b4.bel h).rangeNet)
  have L1 : Hid (∀ w', Below w9.heap.size w9 w' → w'.rangeAt g1 0 (adL qa)) := Lib.hid (fun w' h => (R.out.b1.bel h).rangeAd)
  have L2 : Hid (∀ w', Below w9.heap.size w9 w' → w'.rangeAt g2 0 (adL qb)) := Lib.hid (fun w' h => (R.out.b2.bel h).rangeAd)
  apply region_cutV (R := fun _ _ _ w' => BelQ w9 w')
  case h =>
    refine wp_region_held (S := fun w' => BelQ w9 w') (by kernel_rfl) ?_
    refine wpAnyH_take (i := 0) (oi := ⟨some 25, Op.move (Operand.tmp 5), _, _, _, none⟩) (v := Value.int .i64 (-1)) rfl (by kernel_rfl) (by kernel_rfl) (by kernel_rfl) (fun _ _ _ h => nomatch h.1) (Or.inl ⟨by rfl, fun w' hS' => by go_simp⟩) (Below.refl _ _).drew ?_
    simp only [Act.put, List.setIfInBounds_toArray, List.set_cons_zero, List.set_cons_succ]
    refine wpAnyH_take (i := 1) (oi := ⟨some 26, Op.binOp BinOp.eql 3 (Operand.tmp 25) (Operand.const (Value.int IntKind.i64 (-1))) 3, _, _, _, none⟩) (v := Value.bool true) rfl (by kernel_rfl) (by kernel_rfl) (by kernel_rfl) (fun _ _ _ h => nomatch h.1) (Or.inl ⟨by rfl, fun w' hS' => by go_simp⟩) (Below.refl _ _).drew ?_
    simp only [Act.put, List.setIfInBounds_toArray, List.set_cons_zero, List.set_cons_succ]
    refine wpAnyH_take (i := 2) (oi := ⟨some 27, Op.move (Operand.tmp 26), _, _, _, none⟩) (v := Value.bool true) rfl (by kernel_rfl) (by kernel_rfl) (by kernel_rfl) (fun _ _ _ h => nomatch h.1) (Or.inl ⟨by rfl, fun w' hS' => by go_simp⟩) (Below.refl _ _).drew ?_
    simp only [Act.put, List.setIfInBounds_toArray, List.set_cons_zero, List.set_cons_succ]
    refine wpAnyH_take (i := 3) (oi := ⟨some 28, Op.move (Operand.tmp 6), _, _, _, some (2, true)⟩) (v := Value.int .i64 1) rfl (by kernel_rfl) (by kernel_rfl) (by kernel_rfl) (fun _ _ _ h => nomatch h.1) (Or.inl ⟨by rfl, fun w' hS' => by go_simp⟩) (Below.refl _ _).drew ?_
    simp only [Act.put, List.setIfInBounds_toArray, List.set_cons_zero, List.set_cons_succ]
    refine wpAnyH_take (i := 4) (oi := ⟨some 29, Op.binOp BinOp.eql 3 (Operand.tmp 28) (Operand.const (Value.int IntKind.i64 1)) 3, _, _, _, some (2, true)⟩) (v := Value.bool true) rfl (by kernel_rfl) (by kernel_rfl) (by kernel_rfl) (fun _ _ _ h => nomatch h.1) (Or.inl ⟨by rfl, fun w' hS' => by go_simp⟩) (Below.refl _ _).drew ?_
    simp only [Act.put, List.setIfInBounds_toArray, List.set_cons_zero, List.set_cons_succ]
    refine wpAnyH_take (i := 5) (oi := ⟨some 30, Op.pick (Operand.tmp 27) (Operand.tmp 29) (Operand.const (Value.bool false)), _, _, _, none⟩) (v := Value.bool true) rfl (by kernel_rfl) (by kernel_rfl) (by kernel_rfl) (fun _ _ _ h => nomatch h.1) (Or.inl ⟨by rfl, fun w' hS' => by go_simp⟩) (Below.refl _ _).drew ?_
    simp only [Act.put, List.setIfInBounds_toArray, List.set_cons_zero, List.set_cons_succ]
    refine wpAnyH_take (i := 6) (oi := ⟨some 31, Op.move (Operand.tmp 30), _, _, _, none⟩) (v := Value.bool true) rfl (by kernel_rfl) (by kernel_rfl) (by kernel_rfl) (fun _ _ _ h => nomatch h.1) (Or.inl ⟨by rfl, fun w' hS' => by go_simp⟩) (Below.refl _ _).drew ?_
    simp only [Act.put, List.setIfInBounds_toArray, List.set_cons_zero, List.set_cons_succ]
    refine wpAnyH_take (i := 7) (oi := ⟨some 32, Op.load 26 (Operand.tmp 4), _, _, _, some (6, true)⟩) (v := Value.agg #[.slice (some ⟨gi, 0, none⟩) 1 1, .slice (some ⟨gr, 0, none⟩) 1 1, .slice none 0 0]) rfl (by kernel_rfl) (by kernel_rfl) (by kernel_rfl) (fun _ _ _ h => nomatch h.1) (yieldsIf_load_mid (by rfl) _ _ rfl _ _ rfl [.slice (some ⟨gi, 0, none⟩) 1 1, .slice (some ⟨gr, 0, none⟩) 1 1, .slice none 0 0] _ L4.out net_under rfl net_size) (Below.refl _ _).drew ?_
    simp only [Act.put, List.setIfInBounds_toArray, List.set_cons_zero, List.set_cons_succ]
    refine wpAnyH_take (i := 8) (oi := ⟨some 33, Op.load 29 (Operand.tmp 1), _, _, _, some (6, true)⟩) (v := Value.agg (adA qa)) rfl (by kernel_rfl) (by kernel_rfl) (by kernel_rfl) (fun _ _ _ h => nomatch h.1) (yieldsIf_loadAd (by rfl) _ rfl rfl L1.out) (Below.refl _ _).drew ?_
    simp only [Act.put, List.setIfInBounds_toArray, List.set_cons_zero, List.set_cons_succ]
    refine wpAnyH_take (i := 9) (oi := ⟨some 34, Op.load 29 (Operand.tmp 2), _, _, _, some (6, true)⟩) (v := Value.agg (adA qb)) rfl (by kernel_rfl) (by kernel_rfl) (by kernel_rfl) (fun _ _ _ h => nomatch h.1) (yieldsIf_loadAd (by rfl) _ rfl rfl L2.out) (Below.refl _ _).drew ?_
    simp only [Act.put, List.setIfInBounds_toArray, List.set_cons_zero, List.set_cons_succ]
    refine wpAnyH_take (i := 12) (oi := ⟨some 37, Op.load 29 (Operand.tmp 2), _, _, _, some (6, true)⟩) (v := Value.agg (adA qb)) rfl (by kernel_rfl) (by kernel_rfl) (by kernel_rfl) (fun _ _ _ h => nomatch h.1) (yieldsIf_loadAd (by rfl) _ rfl rfl L2.out) (Below.refl _ _).drew ?_
    simp only [Act.put, List.setIfInBounds_toArray, List.set_cons_zero, List.set_cons_succ]
    refine wpAnyH_take (i := 13) (oi := ⟨some 38, Op.load 29 (Operand.tmp 1), _, _, _, some (6, true)⟩) (v := Value.agg (adA qa)) rfl (by kernel_rfl) (by kernel_rfl) (by kernel_rfl) (fun _ _ _ h => nomatch h.1) (yieldsIf_loadAd (by rfl) _ rfl rfl L1.out) (Below.refl _ _).drew ?_
    simp only [Act.put, List.setIfInBounds_toArray, List.set_cons_zero, List.set_cons_succ]
    refine wpAnyH_all (rs := [10, 14]) (by kernel_rfl) (by decide) ?_
    intro i hi
    simp only [List.mem_cons, List.not_mem_nil, or_false] at hi
    rcases hi with rfl | rfl
    · skip
      refine wpOp_of_list (o := ⟨some 35, Op.buildSlice 35 2 #[(0, Operand.tmp 33), (1, Operand.tmp 34)], _, _, _, some (6, true)⟩) rfl ?_
      refine wpList_guarded (o := ⟨some 35, Op.buildSlice 35 2 #[(0, Operand.tmp 33), (1, Operand.tmp 34)], _, _, _, some (6, true)⟩) rfl ?_
      refine wpList_lit rfl _ _ rfl elt_ads [.agg (adA qa), .agg (adA qb)] rfl (by decide) (by decide) (fun v hv => by simp at hv; rcases hv with rfl | rfl <;> exact adA_size _) rfl ?_
      intro x1 hBz hoz hy1 hs
      obtain ⟨g35, hgz, s35⟩ : ∃ g, g = _ ∧ Sl x1 18 (.slice (some ⟨g, 0, none⟩) 2 2) 2 ([qa, qb].flatMap adL) := ⟨_, rfl, by simpa [adA, Value.cells] using Sl.own hoz⟩
      rw [← hgz]
      clear hgz hs hoz hBz
      have hx1 := bel_drew hy1
      show _ ∧ _
      refine ⟨hx1, ?_⟩
      simp only [Act.put, List.setIfInBounds_toArray, List.set_cons_zero, List.set_cons_succ]
      refine wpAnyH_all (rs := [11, 14]) (by kernel_rfl) (by decide) ?_
      intro i hi
      simp only [List.mem_cons, List.not_mem_nil, or_false] at hi
      rcases hi with rfl | rfl
      · skip
        refine wpOp_callM (o := ⟨some 36, Op.call { callee := Callee.value (Operand.func 10), args := #[Operand.tmp 32, Operand.tmp 35], argTypes := #[26, 35] }, _, _, _, some (6, true)⟩) rfl (by rfl) (by go_simp) (qorder (R.out.n.below hx1) (HE.out.below (bel_tr R.out.b hx1)) s35) ?_
        rintro e x2 ⟨v36, rfl, ho36, hy2⟩
        refine ⟨_, rfl, ?_⟩
        have s36 : Sl x2 18 v36 2 ([qb, qa].flatMap adL) := Sl.own ho36
        clear ho36
        have hx2 := bel_tr hx1 hy2
        have s35 := s35.below hy2
        show _ ∧ _
        refine ⟨hx2, ?_⟩
        simp only [Act.put, List.setIfInBounds_toArray, List.set_cons_zero, List.set_cons_succ]
        refine wpAnyH_all (rs := [14]) (by kernel_rfl) (by decide) ?_
        intro i hi
        obtain rfl := List.mem_singleton.1 hi
        refine wpOp_of_list (o := ⟨some 39, Op.buildSlice 35 2 #[(0, Operand.tmp 37), (1, Operand.tmp 38)], _, _, _, some (6, true)⟩) rfl ?_
        refine wpList_guarded (o := ⟨some 39, Op.buildSlice 35 2 #[(0, Operand.tmp 37), (1, Operand.tmp 38)], _, _, _, some (6, true)⟩) rfl ?_
        refine wpList_lit rfl _ _ rfl elt_ads [.agg (adA qb), .agg (adA qa)] rfl (by decide) (by decide) (fun v hv => by simp at hv; rcases hv with rfl | rfl <;> exact adA_size _) rfl ?_
        intro x3 hBz hoz hy3 hs
        obtain ⟨g39, hgz, s39⟩ : ∃ g, g = _ ∧ Sl x3 18 (.slice (some ⟨g, 0, none⟩) 2 2) 2 ([qb, qa].flatMap adL) := ⟨_, rfl, by simpa [adA, Value.cells] using Sl.own hoz⟩
        rw [← hgz]
        clear hgz hs hoz hBz
        have hx3 := bel_tr hx2 hy3
        have s35 := s35.below hy3
        have s36 := s36.below hy3
        show _ ∧ _
        refine ⟨hx3, ?_⟩
        simp only [Act.put, List.setIfInBounds_toArray, List.set_cons_zero, List.set_cons_succ]
        refine wpAnyH_all (rs := [15]) (by kernel_rfl) (by decide) ?_
        intro i hi
        obtain rfl := List.mem_singleton.1 hi
        refine wpOp_callM (o := ⟨some 40, Op.call { callee := Callee.value (Operand.func 11), args := #[Operand.tmp 36, Operand.tmp 39], argTypes := #[35, 35] }, _, _, _, some (6, true)⟩) rfl (by rfl) (by go_simp) (qsame s36 s39) ?_
        rintro e x4 ⟨rfl, hy4⟩
        refine ⟨_, rfl, ?_⟩
        have hx4 := bel_tr hx3 hy4
        show _ ∧ _
        refine ⟨hx4, ?_⟩
        simp only [Act.put, List.setIfInBounds_toArray, List.set_cons_zero, List.set_cons_succ]
        refine wpAnyH_take (i := 16) (oi := ⟨some 41, Op.pick (Operand.tmp 31) (Operand.tmp 40) (Operand.const (Value.bool false)), _, _, _, none⟩) (v := Value.bool true) rfl (by kernel_rfl) (by kernel_rfl) (by kernel_rfl) (fun _ _ _ h => nomatch h.1) (Or.inl ⟨by rfl, fun w' hS' => by go_simp⟩) hx4 ?_
        simp only [Act.put, List.setIfInBounds_toArray, List.set_cons_zero, List.set_cons_succ]
        refine wpAnyH_take (i := 17) (oi := ⟨some 0, Op.assign (Operand.tmp 41), _, _, _, none⟩) (v := Value.bool true) rfl (by kernel_rfl) (by kernel_rfl) (by kernel_rfl) (fun _ _ _ h => nomatch h.1) (Or.inl ⟨by rfl, fun w' hS' => by go_simp⟩) hx4 ?_
        simp only [Act.put, List.setIfInBounds_toArray, List.set_cons_zero]
        refine wpAnyH_done (by kernel_rfl) ?_ _
        exact ⟨rfl, g35, v36, g39, rfl, hx4⟩
      · skip
        refine wpOp_of_list (o := ⟨some 39, Op.buildSlice 35 2 #[(0, Operand.tmp 37), (1, Operand.tmp 38)], _, _, _, some (6, true)⟩) rfl ?_
        refine wpList_guarded (o := ⟨some 39, Op.buildSlice 35 2 #[(0, Operand.tmp 37), (1, Operand.tmp 38)], _, _, _, some (6, true)⟩) rfl ?_
        refine wpList_lit rfl _ _ rfl elt_ads [.agg (adA qb), .agg (adA qa)] rfl (by decide) (by decide) (fun v hv => by simp at hv; rcases hv with rfl | rfl <;> exact adA_size _) rfl ?_
        intro x2 hBz hoz hy2 hs
        obtain ⟨g39, hgz, s39⟩ : ∃ g, g = _ ∧ Sl x2 18 (.slice (some ⟨g, 0, none⟩) 2 2) 2 ([qb, qa].flatMap adL) := ⟨_, rfl, by simpa [adA, Value.cells] using Sl.own hoz⟩
        rw [← hgz]
        clear hgz hs hoz hBz
        have hx2 := bel_tr hx1 hy2
        have s35 := s35.below hy2
        show _ ∧ _
        refine ⟨hx2, ?_⟩
        simp only [Act.put, List.setIfInBounds_toArray, List.set_cons_zero, List.set_cons_succ]
        refine wpAnyH_all (rs := [11]) (by kernel_rfl) (by decide) ?_
        intro i hi
        obtain rfl := List.mem_singleton.1 hi
        refine wpOp_callM (o := ⟨some 36, Op.call { callee := Callee.value (Operand.func 10), args := #[Operand.tmp 32, Operand.tmp 35], argTypes := #[26, 35] }, _, _, _, some (6, true)⟩) rfl (by rfl) (by go_simp) (qorder (R.out.n.below hx2) (HE.out.below (bel_tr R.out.b hx2)) s35) ?_
        rintro e x3 ⟨v36, rfl, ho36, hy3⟩
        refine ⟨_, rfl, ?_⟩
        have s36 : Sl x3 18 v36 2 ([qb, qa].flatMap adL) := Sl.own ho36
        clear ho36
        have hx3 := bel_tr hx2 hy3
        have s35 := s35.below hy3
        have s39 := s39.below hy3
        show _ ∧ _
        refine ⟨hx3, ?_⟩
        simp only [Act.put, List.setIfInBounds_toArray, List.set_cons_zero, List.set_cons_succ]
        refine wpAnyH_all (rs := [15]) (by kernel_rfl) (by decide) ?_
        intro i hi
        obtain rfl := List.mem_singleton.1 hi
        refine wpOp_callM (o := ⟨some 40, Op.call { callee := Callee.value (Operand.func 11), args := #[Operand.tmp 36, Operand.tmp 39], argTypes := #[35, 35] }, _, _, _, some (6, true)⟩) rfl (by rfl) (by go_simp) (qsame s36 s39) ?_
        rintro e x4 ⟨rfl, hy4⟩
        refine ⟨_, rfl, ?_⟩
        have hx4 := bel_tr hx3 hy4
        show _ ∧ _
        refine ⟨hx4, ?_⟩
        simp only [Act.put, List.setIfInBounds_toArray, List.set_cons_zero, List.set_cons_succ]
        refine wpAnyH_take (i := 16) (oi := ⟨some 41, Op.pick (Operand.tmp 31) (Operand.tmp 40) (Operand.const (Value.bool false)), _, _, _, none⟩) (v := Value.bool true) rfl (by kernel_rfl) (by kernel_rfl) (by kernel_rfl) (fun _ _ _ h => nomatch h.1) (Or.inl ⟨by rfl, fun w' hS' => by go_simp⟩) hx4 ?_
        simp only [Act.put, List.setIfInBounds_toArray, List.set_cons_zero, List.set_cons_succ]
        refine wpAnyH_take (i := 17) (oi := ⟨some 0, Op.assign (Operand.tmp 41), _, _, _, none⟩) (v := Value.bool true) rfl (by kernel_rfl) (by kernel_rfl) (by kernel_rfl) (fun _ _ _ h => nomatch h.1) (Or.inl ⟨by rfl, fun w' hS' => by go_simp⟩) hx4 ?_
        simp only [Act.put, List.setIfInBounds_toArray, List.set_cons_zero]
        refine wpAnyH_done (by kernel_rfl) ?_ _
        exact ⟨rfl, g35, v36, g39, rfl, hx4⟩
    · skip
      refine wpOp_of_list (o := ⟨some 39, Op.buildSlice 35 2 #[(0, Operand.tmp 37), (1, Operand.tmp 38)], _, _, _, some (6, true)⟩) rfl ?_
      refine wpList_guarded (o := ⟨some 39, Op.buildSlice 35 2 #[(0, Operand.tmp 37), (1, Operand.tmp 38)], _, _, _, some (6, true)⟩) rfl ?_
      refine wpList_lit rfl _ _ rfl elt_ads [.agg (adA qb), .agg (adA qa)] rfl (by decide) (by decide) (fun v hv => by simp at hv; rcases hv with rfl | rfl <;> exact adA_size _) rfl ?_
      intro x1 hBz hoz hy1 hs
      obtain ⟨g39, hgz, s39⟩ : ∃ g, g = _ ∧ Sl x1 18 (.slice (some ⟨g, 0, none⟩) 2 2) 2 ([qb, qa].flatMap adL) := ⟨_, rfl, by simpa [adA, Value.cells] using Sl.own hoz⟩
      rw [← hgz]
      clear hgz hs hoz hBz
      have hx1 := bel_drew hy1
      show _ ∧ _
      refine ⟨hx1, ?_⟩
      simp only [Act.put, List.setIfInBounds_toArray, List.set_cons_zero, List.set_cons_succ]
      refine wpAnyH_all (rs := [10]) (by kernel_rfl) (by decide) ?_
      intro i hi
      obtain rfl := List.mem_singleton.1 hi
      refine wpOp_of_list (o := ⟨some 35, Op.buildSlice 35 2 #[(0, Operand.tmp 33), (1, Operand.tmp 34)], _, _, _, some (6, true)⟩) rfl ?_
      refine wpList_guarded (o := ⟨some 35, Op.buildSlice 35 2 #[(0, Operand.tmp 33), (1, Operand.tmp 34)], _, _, _, some (6, true)⟩) rfl ?_
      refine wpList_lit rfl _ _ rfl elt_ads [.agg (adA qa), .agg (adA qb)] rfl (by decide) (by decide) (fun v hv => by simp at hv; rcases hv with rfl | rfl <;> exact adA_size _) rfl ?_
      intro x2 hBz hoz hy2 hs
      obtain ⟨g35, hgz, s35⟩ : ∃ g, g = _ ∧ Sl x2 18 (.slice (some ⟨g, 0, none⟩) 2 2) 2 ([qa, qb].flatMap adL) := ⟨_, rfl, by simpa [adA, Value.cells] using Sl.own hoz⟩
      rw [← hgz]
      clear hgz hs hoz hBz
      have hx2 := bel_tr hx1 hy2
      have s39 := s39.below hy2
      show _ ∧ _
      refine ⟨hx2, ?_⟩
      simp only [Act.put, List.setIfInBounds_toArray, List.set_cons_zero, List.set_cons_succ]
      refine wpAnyH_all (rs := [11]) (by kernel_rfl) (by decide) ?_
      intro i hi
      obtain rfl := List.mem_singleton.1 hi
      refine wpOp_callM (o := ⟨some 36, Op.call { callee := Callee.value (Operand.func 10), args := #[Operand.tmp 32, Operand.tmp 35], argTypes := #[26, 35] }, _, _, _, some (6, true)⟩) rfl (by rfl) (by go_simp) (qorder (R.out.n.below hx2) (HE.out.below (bel_tr R.out.b hx2)) s35) ?_
      rintro e x3 ⟨v36, rfl, ho36, hy3⟩
      refine ⟨_, rfl, ?_⟩
      have s36 : Sl x3 18 v36 2 ([qb, qa].flatMap adL) := Sl.own ho36
      clear ho36
      have hx3 := bel_tr hx2 hy3
      have s39 := s39.below hy3
      have s35 := s35.below hy3
      show _ ∧ _
      refine ⟨hx3, ?_⟩
      simp only [Act.put, List.setIfInBounds_toArray, List.set_cons_zero, List.set_cons_succ]
      refine wpAnyH_all (rs := [15]) (by kernel_rfl) (by decide) ?_
      intro i hi
      obtain rfl := List.mem_singleton.1 hi
      refine wpOp_callM (o := ⟨some 40, Op.call { callee := Callee.value (Operand.func 11), args := #[Operand.tmp 36, Operand.tmp 39], argTypes := #[35, 35] }, _, _, _, some (6, true)⟩) rfl (by rfl) (by go_simp) (qsame s36 s39) ?_
      rintro e x4 ⟨rfl, hy4⟩
      refine ⟨_, rfl, ?_⟩
      have hx4 := bel_tr hx3 hy4
      show _ ∧ _
      refine ⟨hx4, ?_⟩
      simp only [Act.put, List.setIfInBounds_toArray, List.set_cons_zero, List.set_cons_succ]
      refine wpAnyH_take (i := 16) (oi := ⟨some 41, Op.pick (Operand.tmp 31) (Operand.tmp 40) (Operand.const (Value.bool false)), _, _, _, none⟩) (v := Value.bool true) rfl (by kernel_rfl) (by kernel_rfl) (by kernel_rfl) (fun _ _ _ h => nomatch h.1) (Or.inl ⟨by rfl, fun w' hS' => by go_simp⟩) hx4 ?_
      simp only [Act.put, List.setIfInBounds_toArray, List.set_cons_zero, List.set_cons_succ]
      refine wpAnyH_take (i := 17) (oi := ⟨some 0, Op.assign (Operand.tmp 41), _, _, _, none⟩) (v := Value.bool true) rfl (by kernel_rfl) (by kernel_rfl) (by kernel_rfl) (fun _ _ _ h => nomatch h.1) (Or.inl ⟨by rfl, fun w' hS' => by go_simp⟩) hx4 ?_
      simp only [Act.put, List.setIfInBounds_toArray, List.set_cons_zero]
      refine wpAnyH_done (by kernel_rfl) ?_ _
      exact ⟨rfl, g35, v36, g39, rfl, hx4⟩
  case k =>
    rintro ga va gb wz hz
    have hb := bel_tr R.out.b hz
    go_wp2_with (fail)
    go_ret
    exact ⟨rfl, hb⟩
end Go.Proofs.YthlnndjkocnfcaaGreatDoor

/- A slice of addresses among a law's arguments. -/
namespace Go.Proofs.YthlnndjkocnfcaaGreatDoor
open Go.ChangeShapes Go.WideShapes Go.ChangeAt Go.RowKit

def AdsArg (w : World) (v : Value) (L : List Ad) : Prop := Sl w 18 v L.length (L.flatMap adL) ∧ L.length ≤ maxLen
section
variable {H : Type} {enc : TypeId × Value → H} {P : Program} {w : World} {base b0 : Nat} {spare : Nat → Bool} {held : Bool} {r : Reach}
set_option maxRecDepth 100000 in
theorem open_ads {v : Value} {d : DataW H} {p : List MemPlace} (hv : Value.okWide Tryz.prog w r b0 35 v) (h : DataW.Trod enc Tryz.prog w base spare held 35 v d p) (hz : ∀ n ∈ d.weights Tryz.prog 35, n ≤ reachBytes) : ∃ L : List Ad, AdsArg w v L := by
  obtain ⟨a0, len0, cap0, rfl⟩ := okWide_slice Tryz.underlying35 hv
  obtain ⟨fuel, hf⟩ := h
  obtain ⟨S, s1, s2, _⟩ := open_sl_of (R := fun _ => True) (f := adL) Tryz.underlying35 ad_cells18 (by omega) adL_len (fun h _ => by obtain ⟨a, ha⟩ := open_adL h; exact ⟨a, ha, trivial⟩) (show DataW.trod enc Tryz.prog w base spare held fuel 35 [.slice a0 len0 cap0] = some (d, p) from hf) hz
  exact ⟨S, s1, s2⟩
end
end Go.Proofs.YthlnndjkocnfcaaGreatDoor

/- DestOrders' walk. -/
namespace Go.Proofs.YthlnndjkocnfcaaGreatDoor
open Go.RowKit
attribute [local go_sem] ba_get ext_take ext_drop ext_any ba_app

set_option maxRecDepth 100000 in
set_option maxHeartbeats 40000000 in
theorem destOrders_walk (w : World) (ht : Tab w) (hm : MaxI w) (hT : TabA w) (q : Value × Value × Value × Nt) (v : Value) (hq : NetArg w v q) (l : List Ad) (vl : Value) (hl : AdsArg w vl l) : Calls Tryz.prog 4 #[v, vl] w (Good w) := by
  obtain ⟨vi, vr, vp, N⟩ := q
  obtain ⟨hv, hN⟩ := hq
  subst hv
  obtain ⟨hs, hmx⟩ := hl
  have HE : Hid (EnvS w) := Lib.hid ⟨ht, hm, hT⟩
  have HN := Lib.hid hN
  have Hns := Lib.hid (show (Tryz.prog.info? 26).map (·.size) = some (#[vi, vr, vp] : Array Value).size from net_size)
  show Calls Tryz.prog _ #[.agg #[vi, vr, vp], vl] w (Good w)
  dsimp only at HN
  clear hN ht hm hT
  obtain ⟨A, c, rfl, hc⟩ := hs.any
  have Hsl := Lib.hid hs
  clear hs
  unfold maxLen at hmx
  obtain ⟨n, hn⟩ : ∃ n, n = l.length := ⟨_, rfl⟩
  rw [← hn] at hc hmx Hsl ⊢
  have Hn := Lib.hid hn
  clear hn
  by_cases hf : fewN N = true ∧ n ≤ 12
  · obtain ⟨hf, h12⟩ := hf
    have Hf := Lib.hid hf
    have h60 := few_60 hf
    clear hf
    have CO : Hid (∀ w', NetRaw w' vi vr vp N → EnvS w' → Sl w' 18 (.slice A n c) n (l.flatMap adL) → Calls Tryz.prog 10 #[.agg #[vi, vr, vp], .slice A n c] w' (AdsPost w' (ordF (dcm N) l))) := Lib.hid (fun w' h k hs => dOrder_any vi vr vp _ N l w' h k h60.1 h60.2.1 h60.2.2 (by rw [← Hn.out]; exact hs) (by rw [← Hn.out]; omega))
    have CR : Hid (∀ w', NetRaw w' vi vr vp N → Sl w' 18 (.slice A n c) n (l.flatMap adL) → Calls Tryz.prog 12 #[.agg #[vi, vr, vp], .slice A n c] w' (AdsPost w' (ordF (dcm N) l))) := Lib.hid (fun w' h hs => rOrder_any vi vr vp _ N l w' h h60.1 h60.2.1 h60.2.2 (by rw [← Hn.out]; exact hs) (by rw [← Hn.out]; omega))
    have CB : Hid (∀ a b w', NetRaw w' vi vr vp N → EnvS w' → Calls Tryz.prog 8 #[.agg #[vi, vr, vp], .agg (adA a), .agg (adA b)] w' fun e w'' => e = .returned (.tuple #[.int .i64 (dcm N a b), .int .i64 (dbet (dwN N a) (dwN N b)).2]) ∧ Below w'.heap.size w' w'') := Lib.hid (fun a b w' h k => dBetter_any vi vr vp N a b w' h k h60.1 h60.2.1 h60.2.2)
    have CC : Hid (∀ a w', Sl w' 18 (.slice A n c) n (l.flatMap adL) → Calls Tryz.prog 13 #[.slice A n c, .agg (adA a)] w' fun e w'' => e = .returned (.int .i64 (cnL a l : Nat)) ∧ Below w'.heap.size w' w'') := Lib.hid (fun a w' hs => lcount_any _ l a w' (by rw [← Hn.out]; exact hs) (by rw [← Hn.out]; omega))
    have hOl : (ordF (dcm N) l).length = n := (ordF_len _ _).trans Hn.out.symm
    have hSt : Steps (dcm N) (ordF (dcm N) l) := ordF_steps (fun a b => dcm_neg N a b) l
    have hCn : ∀ a, cnL a (ordF (dcm N) l) = cnL a l := fun a => cnL_perm (ordF_perm (dcm N) l)
    have hCl : ∀ a, cnL a l ≤ n := fun a => by rw [Hn.out]; exact cnL_le a l
    obtain ⟨O, hO⟩ : ∃ O, ordF (dcm N) l = O := ⟨_, rfl⟩
    rw [hO] at CO CR hOl hSt hCn
    have HOl := Lib.hid hOl
    have HSt := Lib.hid hSt
    have HCn := Lib.hid hCn
    have HCl := Lib.hid hCl
    clear h60 hO hOl hSt hCn hCl
    go_enter Tryz.func4, Tryz.ntmps4
    go_wp2_with (first
      | ((with_reducible refine wpList_boxB (o := ⟨some 2, _, _, _, _, _⟩) rfl _ _ rfl rfl ?_); intro g2 w1 hg hB2 hb1 hs; have H2 := Lib.hid hB2; have Hb1 := Lib.hid hb1; clear hg hs hB2 hb1; refine hold ?_))
    refine Lib.hid ?_
    go_wp2_with (first
      | (go_at_call 6; refine (works39_any _ (HE.out.below Hb1.out)).mono ?_; rintro e w2 ⟨rfl, hb2⟩; have Hb2 := Lib.hid (bel_tr Hb1.out hb2); have K2 := Lib.hid (H2.out.bel hb2); clear hb2 H2 Hb1)
      | ((with_reducible show wpList _ _ _ (⟨some 12, _, _, _, _, _⟩ :: _) _ _); refine wpList_guarded (o := ⟨some 12, _, _, _, _, _⟩) rfl ?_; refine wpList_loadB (o := ⟨some 12, _, _, _, _, _⟩) rfl _ _ rfl rfl K2.out net_under rfl Hns.out ?_)
      | (go_at_call 7; refine (few37_any vi vr vp N _ (HN.out.below Hb2.out)).mono ?_; rintro e w3 ⟨rfl, hb3⟩; rw [Hf.out]; have Hb := Lib.hid (bel_tr Hb2.out hb3); have H2 := Lib.hid (K2.out.bel hb3); clear hb3 K2 Hb2; refine hold ?_))
    refine Lib.hid ?_
    have g12 : decide ((12 : Int) < (n : Int)) = false := decide_eq_false (by omega)
    go_upto_region 3 with (fail)
    go_wp2_with (first
      | ((with_reducible show wpList _ _ _ (⟨some 22, _, _, _, _, _⟩ :: _) _ _); refine wpList_loadB (o := ⟨some 22, _, _, _, _, _⟩) rfl _ _ rfl rfl H2.out net_under rfl Hns.out ?_)
      | (go_at_call 10; refine (CO.out _ (HN.out.below Hb.out) (HE.out.below Hb.out) (Hsl.out.below Hb.out)).mono ?_; rintro e w4 ⟨v5, rfl, ho5, hb4⟩; rw [HOl.out] at ho5; obtain ⟨a5, c5, rfl⟩ := own_anyF ho5; have S5 := Lib.hid (Sl.own ho5); have Hb4 := Lib.hid (bel_tr Hb.out hb4); have K2 := Lib.hid (H2.out.bel hb4); clear hb4 H2 Hb ho5; refine hold ?_))
    refine Lib.hid ?_
    go_wp2_with (first
      | ((with_reducible show wpList _ _ _ (⟨some 26, _, _, _, _, _⟩ :: _) _ _); refine wpList_loadB (o := ⟨some 26, _, _, _, _, _⟩) rfl _ _ rfl rfl K2.out net_under rfl Hns.out ?_)
      | (go_at_call 12; refine (CR.out _ (HN.out.below Hb4.out) (Hsl.out.below Hb4.out)).mono ?_; rintro e w5 ⟨v28, rfl, ho6, hb5⟩; rw [HOl.out] at ho6; obtain ⟨a6, c6, rfl⟩ := own_anyF ho6; have S6 := Lib.hid (Sl.own ho6); have T5 := Lib.hid (S5.out.below hb5); have Hb5 := Lib.hid (bel_tr Hb4.out hb5); have H2 := Lib.hid (K2.out.bel hb5); clear hb5 K2 Hb4 ho6 S5; refine hold ?_))
    refine Lib.hid ?_
    go_wp2_with (first
      | (go_at_call 11; refine (sameAds_any O O _ _ _ (by rw [HOl.out]; exact T5.out) (by rw [HOl.out]; exact S6.out) (by rw [HOl.out]; omega) (by rw [HOl.out]; omega)).mono ?_; rintro e w6 ⟨rfl, hb6⟩; rw [show decide (O = O) = true from decide_eq_true rfl]; have S5 := Lib.hid (T5.out.below hb6); have Hb6 := Lib.hid (bel_tr Hb5.out hb6); have K2 := Lib.hid (H2.out.bel hb6); clear hb6 H2 Hb5 S6 T5; refine hold ?_))
    refine Lib.hid ?_
    clear CO CR
    go_wp2_with (fail)
    go_loopw [6] (fun iv wr => ∃ k : Nat, k ≤ n ∧ iv = .int .i64 k ∧ Below w6.heap.size w6 wr) (fun iv _ => n - (intOf iv).toNat)
    case atStart => exact ⟨0, by omega, rfl, Below.refl _ _⟩
    case round =>
      obtain ⟨k, hk, rfl, hbel⟩ := hrel
      have HbI := Lib.hid hbel
      by_cases hlt : k < n
      · have hkO : k < O.length := by have := HOl.out; omega
        have j0 : (k : Int) < (n : Int) := by omega
        have hk0 : (0 : Int) ≤ (k : Int) := by omega
        obtain ⟨b, off, c', hv, hc', hbl, hcell⟩ := (S5.out.below hbel).pos (by omega)
        injection hv with hv1 hv2 hv3
        subst hv1 hv3
        have hR := range_of adL_len hcell hkO
        have LX : Hid (wr.rangeAt b (off + k * 18) (adL O[k])) := Lib.hid hR
        have SO : Hid (∀ w', Below wr.heap.size wr w' → Sl w' 18 (.slice (some ⟨b, off, none⟩) n c5) n (O.flatMap adL)) := Lib.hid (fun w' h => (S5.out.below hbel).below h)
        have SL : Hid (∀ w', Below wr.heap.size wr w' → Sl w' 18 (.slice A n c) n (l.flatMap adL)) := Lib.hid (fun w' h => (Hsl.out.below (bel_tr Hb6.out hbel)).below h)
        have C1 : Hid (∀ w', Below wr.heap.size wr w' → Calls Tryz.prog 13 #[.slice (some ⟨b, off, none⟩) n c5, .agg (adA O[k])] w' fun e w'' => e = .returned (.int .i64 (cnL O[k] l : Nat)) ∧ Below w'.heap.size w' w'') := Lib.hid (fun w' h => by
          have := lcount_any (.slice (some ⟨b, off, none⟩) n c5) O O[k] w' (by rw [HOl.out]; exact SO.out w' h) (by rw [HOl.out]; omega)
          rw [HCn.out] at this
          exact this)
        have C2 : Hid (∀ w', Below wr.heap.size wr w' → Calls Tryz.prog 13 #[.slice A n c, .agg (adA O[k])] w' fun e w'' => e = .returned (.int .i64 (cnL O[k] l : Nat)) ∧ Below w'.heap.size w' w'') := Lib.hid (fun w' h => CC.out O[k] w' (SL.out w' h))
        have hcl := HCl.out O[k]
        have HB : Hid (∀ y w', NetRaw w' vi vr vp N → EnvS w' → Calls Tryz.prog 8 #[.agg #[vi, vr, vp], .agg (adA O[k]), .agg (adA y)] w' fun e w'' => e = .returned (.tuple #[.int .i64 (dcm N O[k] y), .int .i64 (dbet (dwN N O[k]) (dwN N y)).2]) ∧ Below w'.heap.size w' w'') := Lib.hid (fun y w' h k => CB.out _ y w' h k)
        have HS2 : Hid (∀ m y, m + 1 = k → O[m]? = some y → dcm N O[k] y ≤ 0) := Lib.hid (fun m y hm hy => by
          subst hm
          exact HSt.out m y _ hy (List.getElem?_eq_getElem hkO))
        have HOc : Hid (wr.rangeAt b off (O.flatMap adL)) := Lib.hid hcell
        have LN := Lib.hid (K2.out.bel hbel).rangeNet
        have HNb := Lib.hid (bel_tr Hb6.out hbel)
        generalize O[k] = x at *
        generalize cnL x l = cN at *
        clear hR hcell hbl hc' hv2 HSt HCn HCl CC CB hbel
        go_wp2_with (fail)
        refine wp_region_bel (by kernel_rfl) (by kernel_rfl) ?_
        repeat (first
          | go_big_quiet_skip
          | (go_big_quiet_want; first
              | ((with_reducible show (⟨some 41, _, _, _, _, _⟩ : Oper).quiet _ _ _ _); refine quiet_loadAd (o := ⟨some 41, _, _, _, _, _⟩) _ rfl rfl LX.out (by simp only [Act.put, List.setIfInBounds_toArray, List.set_cons_succ, List.set_cons_zero]; exact rfl) ?_; go_big_quiet_on)
              | ((with_reducible show (⟨some 47, _, _, _, _, _⟩ : Oper).quiet _ _ _ _); refine quiet_loadAd (o := ⟨some 47, _, _, _, _, _⟩) _ rfl rfl LX.out (by simp only [Act.put, List.setIfInBounds_toArray, List.set_cons_succ, List.set_cons_zero]; exact rfl) ?_; go_big_quiet_on)
              | (go_big_quiet_op; first | go_big_quiet_on | go_big_quiet_call ((go_at_call 13; first | (with_reducible refine bel_call (C1.out _ (BelT.bel _))) | (with_reducible refine bel_call (C2.out _ (BelT.bel _))))))))
        refine wpQuiet_nil ?_
        rintro _ ⟨u, rfl⟩
        have HbJ := Lib.hid (bel_tr HbI.out u.bel)
        have HNc := Lib.hid (bel_tr HNb.out u.bel)
        have LX2 : Hid (u.at_.rangeAt b (off + k * 18) (adL x)) := Lib.hid (fun j v h => u.cell (LX.out j v h))
        have LO2 : Hid (u.at_.rangeAt b off (O.flatMap adL)) := Lib.hid (fun j v h => u.cell (HOc.out j v h))
        have KN := Lib.hid ((K2.out.bel HbI.out).bel u.bel).rangeNet
        clear LX LN SO SL C1 C2 HNb HbI HOc hcl
        obtain ⟨wq, hwq⟩ : ∃ wq, wq = u.at_ := ⟨_, rfl⟩
        rw [← hwq] at HbJ HNc LX2 LO2 KN ⊢
        clear hwq
        go_upto_region 11 with (fail)
        rcases Nat.eq_zero_or_pos k with h0 | h0
        · subst h0
          go_wp2_with (fail)
          go_roundw
          case rel => exact ⟨0 + 1, by omega, by go_num, HbJ.out⟩
          case measure => (simp [intOf]) <;> omega
        · obtain ⟨m, rfl⟩ : ∃ m, k = m + 1 := ⟨k - 1, by omega⟩
          have hmO : m < O.length := by have := HOl.out; omega
          have LP : Hid (wq.rangeAt b (off + m * 18) (adL O[m])) := Lib.hid (range_of adL_len LO2.out hmO)
          have hD := HS2.out m O[m] rfl (List.getElem?_eq_getElem hmO)
          have HBt := Lib.hid (HB.out O[m])
          obtain ⟨z, hz⟩ : ∃ z : Int, z = ((m + 1 : Nat) : Int) := ⟨_, rfl⟩
          obtain rfl : z = (m : Int) + 1 := by omega
          generalize dcm N x O[m] = D at *
          generalize (dbet (dwN N x) (dwN N O[m])).2 = D2 at *
          generalize O[m] = y at *
          have m0 : (m : Int) < (n : Int) := by omega
          have n1 : (0 : Int) < (m : Int) + 1 := by omega
          have n2 : (0 : Int) ≤ (m : Int) := by omega
          have wm : IntKind.i64.wrap (m : Int) = (m : Int) := IntWalk.i64_in _ (by omega)
          rw [← hz]
          clear HB HS2 LO2 h0 hz
          go_wp2_with (fail)
          refine wp_region_bel (by kernel_rfl) (by kernel_rfl) ?_
          repeat (first
            | go_big_quiet_skip
            | (go_big_quiet_want; first
                | ((with_reducible show (⟨some 53, _, _, _, _, _⟩ : Oper).quiet _ _ _ _); refine quiet_loadK (o := ⟨some 53, _, _, _, _, _⟩) 26 _ rfl rfl (cs := #[vi, vr, vp]) rfl KN.out net_under rfl net_size (by simp only [Act.put, List.setIfInBounds_toArray, List.set_cons_succ, List.set_cons_zero]; exact rfl) ?_; go_big_quiet_on)
                | ((with_reducible show (⟨some 57, _, _, _, _, _⟩ : Oper).quiet _ _ _ _); refine quiet_loadAd (o := ⟨some 57, _, _, _, _, _⟩) _ rfl rfl LX2.out (by simp only [Act.put, List.setIfInBounds_toArray, List.set_cons_succ, List.set_cons_zero]; exact rfl) ?_; go_big_quiet_on)
                | ((with_reducible show (⟨some 62, _, _, _, _, _⟩ : Oper).quiet _ _ _ _); refine quiet_loadAd (o := ⟨some 62, _, _, _, _, _⟩) _ rfl rfl LP.out (by simp only [Act.put, List.setIfInBounds_toArray, List.set_cons_succ, List.set_cons_zero]; exact rfl) ?_; go_big_quiet_on)
                | (go_big_quiet_op; first | go_big_quiet_on | go_big_quiet_call ((go_at_call 8; with_reducible refine bel_call (HBt.out _ (HN.out.below (bel_tr HNc.out (BelT.bel _))) (HE.out.below (bel_tr HNc.out (BelT.bel _)))))))))
          refine wpQuiet_nil ?_
          rintro _ ⟨t, rfl⟩
          have hD2 : decide ((0 : Int) < D) = false := decide_eq_false (by omega)
          have HbK := Lib.hid (bel_tr HbJ.out t.bel)
          go_wp2_with (fail)
          go_roundw
          case rel => exact ⟨m + 1 + 1, by omega, by go_num, HbK.out⟩
          case measure => (simp [intOf]) <;> omega
      · have hkn : k = n := by omega
        subst hkn
        have j0 : ¬ (k : Int) < (k : Int) := by omega
        go_wp2_with (fail)
        go_ret
        exact ⟨rfl, bel_tr Hb6.out HbI.out⟩
  · cases hf2 : fewN N with
    | false =>
      have Hf := Lib.hid hf2
      clear hf hf2
      go_enter Tryz.func4, Tryz.ntmps4
      go_wp2_with (first
        | ((with_reducible refine wpList_boxB (o := ⟨some 2, _, _, _, _, _⟩) rfl _ _ rfl rfl ?_); intro g2 w1 hg hB2 hb1 hs; have H2 := Lib.hid hB2; have Hb1 := Lib.hid hb1; clear hg hs hB2 hb1; refine hold ?_))
      refine Lib.hid ?_
      go_wp2_with (first
        | ((fail_if_success (have hb4z := Hb2)); go_at_call 6; refine (works39_any _ (HE.out.below Hb1.out)).mono ?_; rintro e w2 ⟨rfl, hb2⟩; have Hb2 := Lib.hid (bel_tr Hb1.out hb2); have K2 := Lib.hid (H2.out.bel hb2); clear hb2)
        | ((with_reducible show wpList _ _ _ (⟨some 12, _, _, _, _, _⟩ :: _) _ _); refine wpList_guarded (o := ⟨some 12, _, _, _, _, _⟩) rfl ?_; refine wpList_loadB (o := ⟨some 12, _, _, _, _, _⟩) rfl _ _ rfl rfl K2.out net_under rfl Hns.out ?_)
        | (go_at_call 7; refine (few37_any vi vr vp N _ (HN.out.below Hb2.out)).mono ?_; rintro e w3 ⟨rfl, hb3⟩; rw [Hf.out]; have Hb := Lib.hid (bel_tr Hb2.out hb3); clear hb3)
        | (go_at_call 6; refine (works39_any _ (HE.out.below Hb.out)).mono ?_; rintro e w6 ⟨rfl, hb6⟩))
      go_ret
      exact ⟨rfl, bel_tr Hb.out hb6⟩
    | true =>
      have Hf := Lib.hid hf2
      have g12 : decide ((12 : Int) < (n : Int)) = true := decide_eq_true (by have : ¬ n ≤ 12 := fun h => hf ⟨hf2, h⟩; omega)
      clear hf hf2
      go_enter Tryz.func4, Tryz.ntmps4
      go_wp2_with (first
        | ((with_reducible refine wpList_boxB (o := ⟨some 2, _, _, _, _, _⟩) rfl _ _ rfl rfl ?_); intro g2 w1 hg hB2 hb1 hs; have H2 := Lib.hid hB2; have Hb1 := Lib.hid hb1; clear hg hs hB2 hb1; refine hold ?_))
      refine Lib.hid ?_
      go_wp2_with (first
        | ((fail_if_success (have hb4z := Hb2)); go_at_call 6; refine (works39_any _ (HE.out.below Hb1.out)).mono ?_; rintro e w2 ⟨rfl, hb2⟩; have Hb2 := Lib.hid (bel_tr Hb1.out hb2); have K2 := Lib.hid (H2.out.bel hb2); clear hb2)
        | ((with_reducible show wpList _ _ _ (⟨some 12, _, _, _, _, _⟩ :: _) _ _); refine wpList_guarded (o := ⟨some 12, _, _, _, _, _⟩) rfl ?_; refine wpList_loadB (o := ⟨some 12, _, _, _, _, _⟩) rfl _ _ rfl rfl K2.out net_under rfl Hns.out ?_)
        | (go_at_call 7; refine (few37_any vi vr vp N _ (HN.out.below Hb2.out)).mono ?_; rintro e w3 ⟨rfl, hb3⟩; rw [Hf.out]; have Hb := Lib.hid (bel_tr Hb2.out hb3); clear hb3)
        | (go_at_call 6; refine (works39_any _ (HE.out.below Hb.out)).mono ?_; rintro e w6 ⟨rfl, hb6⟩))
      go_ret
      exact ⟨rfl, bel_tr Hb.out hb6⟩
end Go.Proofs.YthlnndjkocnfcaaGreatDoor
