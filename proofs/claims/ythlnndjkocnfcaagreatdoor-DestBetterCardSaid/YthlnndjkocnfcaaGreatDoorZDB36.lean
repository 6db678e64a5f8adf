/- Contracts and plain lemmas of our own, merged. -/
import Derived.Test.YthlnndjkocnfcaaGreatDoorZDB13
import Derived.Test.YthlnndjkocnfcaaGreatDoorZDB34
import Derived.Test.YthlnndjkocnfcaaGreatDoorZDB35
import Derived.Test.YthlnndjkocnfcaaGreatDoorZDB7
/- works (39) (printed by mk_dsp.py). -/
namespace Go.Proofs.YthlnndjkocnfcaaGreatDoor
open Go.RowKit
attribute [local go_sem] ba_get ext_take ext_drop ext_any ba_app

def qa : Ad := adOf 10 0 0 9
def qb : Ad := adOf 192 0 2 1
def qx : Ifc := ⟨adOf 192 0 2 7, 1, 24, false, false, false, by decide⟩
def qp : Pf := ⟨qb, 24, by decide⟩
def qr : Rt := ⟨qp, 1, false, by decide⟩
def qn : Nt := ⟨[qx], [qr], []⟩
theorem qbet : dbet (dwN qn qa) (dwN qn qb) = (-1, 1) := by decide +kernel
theorem qord : ordF (dcm qn) [qa, qb] = [qb, qa] := by decide +kernel
theorem rof_qa (w : World) : Calls Tryz.prog 14 #[.int .i64 10, .int .i64 0, .int .i64 0, .int .i64 9] w (AdPost w qa) := rof_any 10 0 0 9 w
theorem rof_qb (w : World) : Calls Tryz.prog 14 #[.int .i64 192, .int .i64 0, .int .i64 2, .int .i64 1] w (AdPost w qb) := rof_any 192 0 2 1 w
theorem rof_qx (w : World) : Calls Tryz.prog 14 #[.int .i64 192, .int .i64 0, .int .i64 2, .int .i64 7] w (AdPost w qx.ad) := rof_any 192 0 2 7 w
theorem built_qx : Tryz.prog.built 42 [(0, .agg (adA qx.ad)), (1, .int .i64 1), (2, .int .i64 24)] = some (ifcA qx) := by kernel_rfl
theorem built_qp : Tryz.prog.built 44 [(0, .agg (adA qb)), (1, .int .i64 24)] = some (pfA qp) := by kernel_rfl
theorem built_qr : Tryz.prog.built 46 [(0, .agg (pfA qp)), (1, .int .i64 1)] = some (rtA qr) := by kernel_rfl
theorem built_qn (a b : Nat) : Tryz.prog.built 26 [(0, .slice (some ⟨a, 0, none⟩) 1 1), (1, .slice (some ⟨b, 0, none⟩) 1 1)] = some #[.slice (some ⟨a, 0, none⟩) 1 1, .slice (some ⟨b, 0, none⟩) 1 1, .slice none 0 0] := by kernel_rfl
theorem netq_zero : ZeroIs Tryz.prog 26 #[.slice none 0 0, .slice none 0 0, .slice none 0 0] := by unfold ZeroIs; kernel_rfl
def BelQ (w w' : World) : Prop := Below w.heap.size w w'
theorem region_cutV {P : Program} {c : Code} {Q : Exit → Act → World → Prop} {a : Act} {w : World} {F : Nat → Value → Nat → Act} (R : Nat → Value → Nat → World → Prop) (h : c.wp P (fun ex a' w' => ex = .normal ∧ ∃ g1 g2 g3, a' = F g1 g2 g3 ∧ R g1 g2 g3 w') a w) (k : ∀ g1 g2 g3 w', R g1 g2 g3 w' → Q .normal (F g1 g2 g3) w') : c.wp P Q a w :=
  wp_mono h fun ex a' w' ⟨h1, g1, g2, g3, h2, h3⟩ => by rw [h1, h2]; exact k g1 g2 g3 w' h3
theorem qbetter {vi vr vp : Value} {w : World} (hN : NetRaw w vi vr vp qn) (hE : EnvS w) : Calls Tryz.prog 8 #[.agg #[vi, vr, vp], .agg (adA qa), .agg (adA qb)] w fun e w' => e = .returned (.tuple #[.int .i64 (-1), .int .i64 1]) ∧ Below w.heap.size w w' :=
  (dBetter_any vi vr vp qn qa qb w hN hE (by decide) (by decide) (by decide)).mono fun e w' ⟨he, hb⟩ => ⟨by rw [he, qbet], hb⟩
theorem qorder {vi vr vp v : Value} {w : World} (hN : NetRaw w vi vr vp qn) (hE : EnvS w) (hs : Sl w 18 v 2 ([qa, qb].flatMap adL)) : Calls Tryz.prog 10 #[.agg #[vi, vr, vp], v] w (AdsPost w [qb, qa]) :=
  (dOrder_any vi vr vp v qn [qa, qb] w hN hE (by decide) (by decide) (by decide) hs (by decide)).mono fun e w' h => by rw [qord] at h; exact h
theorem qsame {va vb : Value} {w : World} (ha : Sl w 18 va 2 ([qb, qa].flatMap adL)) (hb : Sl w 18 vb 2 ([qb, qa].flatMap adL)) : Calls Tryz.prog 11 #[va, vb] w fun e w' => e = .returned (.bool true) ∧ Below w.heap.size w w' :=
  (sameAds_any [qb, qa] [qb, qa] va vb w ha hb (by decide) (by decide)).mono fun e w' ⟨he, hb⟩ => ⟨by rw [he, decide_eq_true rfl], hb⟩
theorem ifq_sl {w : World} {g : Nat} (h : Bk w g 42 (ifcL qx).toArray) : Sl w 23 (.slice (some ⟨g, 0, none⟩) 1 1) qn.I.length (qn.I.flatMap ifcL) := by
  have := h.sl (size := 23) (n := 1) (by rw [ifcL_len]) 1 (Nat.le_refl _)
  simpa [qn] using this
theorem rtq_sl {w : World} {g : Nat} (h : Bk w g 46 (rtL qr).toArray) : Sl w 21 (.slice (some ⟨g, 0, none⟩) 1 1) qn.R.length (qn.R.flatMap rtL) := by
  have := h.sl (size := 21) (n := 1) (by rw [rtL_len]) 1 (Nat.le_refl _)
  simpa [qn] using this
structure WqS (w : World) (g1 g2 g4 gi gr : Nat) (wr : World) : Prop where
  b1 : Bk wr g1 29 (adA qa)
  b2 : Bk wr g2 29 (adA qb)
  b4 : Bk wr g4 26 #[.slice (some ⟨gi, 0, none⟩) 1 1, .slice (some ⟨gr, 0, none⟩) 1 1, .slice none 0 0]
  n : NetRaw wr (.slice (some ⟨gi, 0, none⟩) 1 1) (.slice (some ⟨gr, 0, none⟩) 1 1) (.slice none 0 0) qn
  b : Below w.heap.size w wr
theorem WqS.bel {w wr w' : World} {g1 g2 g4 gi gr : Nat} (h : WqS w g1 g2 g4 gi gr wr) (k : Below wr.heap.size wr w') : WqS w g1 g2 g4 gi gr w' := ⟨h.b1.bel k, h.b2.bel k, h.b4.bel k, h.n.below k, bel_tr h.b k⟩
set_option maxRecDepth 100000 in
set_option maxHeartbeats 40000000 in
theorem works39_any (w : World) (hE : EnvS w) : Calls Tryz.prog 6 #[] w (Good w) := by
  have HE := Lib.hid hE
  clear hE
  go_enter Tryz.func6, Tryz.ntmps6
  go_wp2_with (first
    | (go_at_call 14; (with_reducible refine (rof_qa _).mono ?_); rintro e w1 ⟨rfl, hb1⟩; refine hold ?_))
  refine Lib.hid ?_
  go_wp2_with (first
    | (go_at_call 14; (with_reducible refine (rof_qb _).mono ?_); rintro e w2 ⟨rfl, hb2⟩)
    | ((with_reducible refine wpList_allocAd (o := ⟨some 1, _, _, _, _, _⟩) rfl rfl ?_); intro g1 w3 hg hB1 hb3 hs; have hg1 : w2.heap.size ≤ g1 := Nat.le_of_eq hg.symm; clear hg hs)
    | ((with_reducible refine wpList_allocAd (o := ⟨some 2, _, _, _, _, _⟩) rfl rfl ?_); intro g2 w4 hg hB2 hb4 hs; have hB14 := hB1.bel hb4; have h12 : g1 < g2 := Nat.lt_of_lt_of_le hB1.lt (Nat.le_of_eq hg.symm); clear hg hs)
    | ((with_reducible refine wpList_storeAd (o := ⟨none, _, _, _, _, _⟩) rfl (.tmp 1) _ rfl rfl rfl hB14 ?_); intro w5 hB15 hS5; have hB25 := hB2.stays hS5 (by omega))
    | ((with_reducible refine wpList_storeAd (o := ⟨none, _, _, _, _, _⟩) rfl (.tmp 2) _ rfl rfl rfl hB25 ?_); intro w6 hB26 hS6
       have hbx : Below w2.heap.size w2 w6 := ((bel_tr hb3 hb4).trans (hS5.below hg1)).trans (hS6.below (by omega))
       have X1 := Lib.hid (hB15.stays hS6 (by omega))
       have X2 := Lib.hid hB26
       have Xb := Lib.hid (bel_tr (bel_tr hb1 hb2) hbx)
       clear hB1 hB2 hB14 hB15 hB25 hB26 hS5 hS6 hb1 hb2 hb3 hb4 hbx h12 hg1
       refine hold ?_))
  refine Lib.hid ?_
  go_wp2_with (first
    | (go_at_call 14; (with_reducible refine (rof_qx _).mono ?_); rintro e v1 ⟨rfl, hk1⟩)
    | ((with_reducible show wpList _ _ _ (⟨some 10, _, _, _, _, _⟩ :: _) _ _); refine wpList_buildL (o := ⟨some 10, _, _, _, _, _⟩) rfl 42 _ rfl built_qx rfl ?_)
    | ((with_reducible refine wpList_alloc_ifc (o := ⟨some 3, _, _, _, _, _⟩) rfl rfl ?_); intro g3 v2 hg hB3 hk2 hs; have hg3 : v1.heap.size ≤ g3 := Nat.le_of_eq hg.symm; clear hg hs)
    | ((with_reducible refine wpList_store_ifc (o := ⟨none, _, _, _, _, _⟩) rfl (.tmp 3) _ rfl rfl rfl hB3 ?_); intro v3 hB33 hS3
       have hkx := bel_tr hk1 (hk2.trans (hS3.below hg3))
       have Y1 := Lib.hid (X1.out.bel hkx)
       have Y2 := Lib.hid (X2.out.bel hkx)
       have Y3 := Lib.hid hB33
       have Yb := Lib.hid (bel_tr Xb.out hkx)
       clear X1 X2 Xb hB3 hB33 hS3 hk1 hk2 hkx hg3
       refine hold ?_))
  refine Lib.hid ?_
  go_wp2_with (first
    | (with_reducible refine wpList_load_ifc (o := ⟨some 11, _, _, _, _, _⟩) rfl _ rfl rfl Y3.out ?_)
    | ((with_reducible show wpList _ _ _ (⟨some 12, _, _, _, _, _⟩ :: _) _ _); refine wpList_lit (o := ⟨some 12, _, _, _, _, _⟩) rfl _ _ rfl elt_ifc [.agg (ifcA qx)] rfl (by decide) (by decide) (fun v hv => by rw [List.mem_singleton.1 hv]; exact ifcA_size _) rfl ?_; intro y1 hI hx6 hl1 hs6
       obtain ⟨gi, hgi, hIq⟩ : ∃ g, g = _ ∧ Bk y1 g 42 (ifcL qx).toArray := ⟨_, rfl, bk_list (l := ifcL qx) hI rfl⟩
       rw [← hgi]
       clear hx6 hs6 hI hgi
       have Z2 := Y2.out.bel hl1)
    | (with_reducible refine wpList_loadAd (o := ⟨some 13, _, _, _, _, _⟩) rfl _ rfl rfl Z2 ?_)
    | ((with_reducible show wpList _ _ _ (⟨some 14, _, _, _, _, _⟩ :: _) _ _); refine wpList_buildL (o := ⟨some 14, _, _, _, _, _⟩) rfl 44 _ rfl built_qp rfl ?_)
    | ((with_reducible show wpList _ _ _ (⟨some 15, _, _, _, _, _⟩ :: _) _ _); refine wpList_buildL (o := ⟨some 15, _, _, _, _, _⟩) rfl 46 _ rfl built_qr rfl ?_)
    | ((with_reducible show wpList _ _ _ (⟨some 16, _, _, _, _, _⟩ :: _) _ _); refine wpList_lit (o := ⟨some 16, _, _, _, _, _⟩) rfl _ _ rfl elt_rt [.agg (rtA qr)] rfl (by decide) (by decide) (fun v hv => by rw [List.mem_singleton.1 hv]; exact rtA_size _) rfl ?_; intro y2 hR hx6 hl2 hs6
       obtain ⟨gr, hgr, hRq⟩ : ∃ g, g = _ ∧ Bk y2 g 46 (rtL qr).toArray := ⟨_, rfl, bk_list (l := rtL qr) hR rfl⟩
       rw [← hgr]
       have hir : gi < gr := Nat.lt_of_lt_of_le hIq.lt (Nat.le_of_eq hgr.symm)
       clear hx6 hs6 hR hgr)
    | ((with_reducible show wpList _ _ _ (⟨some 17, _, _, _, _, _⟩ :: _) _ _); refine wpList_buildL (o := ⟨some 17, _, _, _, _, _⟩) rfl 26 _ rfl (built_qn gi gr) rfl ?_)
    | ((with_reducible show wpList _ _ _ (⟨some 4, _, _, _, _, _⟩ :: _) _ _); refine wpList_allocZ (o := ⟨some 4, _, _, _, _, _⟩) rfl _ rfl netq_zero ?_; intro g4 y3 hg hB4 hl3 hs; have hg4 : y2.heap.size ≤ g4 := Nat.le_of_eq hg.symm; clear hg hs)
    | ((with_reducible show wpList _ _ _ (⟨none, .store 26 _ _, _, _, _, _⟩ :: _) _ _); refine wpList_storeB (o := ⟨none, .store 26 _ _, _, _, _, _⟩) rfl _ (.tmp 4) _ rfl rfl rfl hB4 net_size rfl (by simp [Value.oneCell']) ?_; intro y4 hB44 hS4
       have hl24 : Below y2.heap.size y2 y4 := hl3.trans (hS4.below hg4)
       have hl14 := bel_tr (bel_tr hl1 hl2) hl24
       have R : Hid (WqS w g1 g2 g4 gi gr y4) := Lib.hid ⟨Y1.out.bel hl14, Y2.out.bel hl14, hB44, ⟨ifq_sl (hIq.bel (bel_tr hl2 hl24)), rtq_sl (hRq.bel hl24), Sl.nil _ _, by decide, by decide, by decide⟩, bel_tr Yb.out hl14⟩
       clear Y1 Y2 Y3 Yb Z2 hIq hRq hir hB4 hB44 hS4 hl1 hl2 hl3 hl24 hl14 hg4
       refine hold ?_))
  refine Lib.hid ?_
  go_wp2_with (first
    | ((with_reducible show wpList _ _ _ (⟨some 19, _, _, _, _, _⟩ :: _) _ _); refine wpList_loadB (o := ⟨some 19, _, _, _, _, _⟩) rfl _ _ rfl rfl R.out.b4 net_under rfl net_size ?_)
    | (with_reducible refine wpList_loadAd (o := ⟨some 20, _, _, _, _, _⟩) rfl _ rfl rfl R.out.b1 ?_)
    | (with_reducible refine wpList_loadAd (o := ⟨some 21, _, _, _, _, _⟩) rfl _ rfl rfl R.out.b2 ?_)
    | (go_at_call 8; (with_reducible refine (qbetter R.out.n (HE.out.below R.out.b)).mono ?_); rintro e w9 ⟨rfl, hb9⟩; have R2 := Lib.hid (R.out.bel hb9); clear R hb9; have R := R2; clear R2; refine hold ?_))
  refine Lib.hid ?_
  go_wp2_with (fail)
  have L4 : Hid (∀ w', Below w9.heap.size w9 w' → w'.rangeAt g4 0 [.slice (some ⟨gi, 0, none⟩) 1 1, .slice (some ⟨gr, 0, none⟩) 1 1, .slice none 0 0]) := Lib.hid (fun w' h => (R.out.b4.bel h).rangeNet)
  have L1 : Hid (∀ w', Below w9.heap.size w9 w' → w'.rangeAt g1 0 (adL qa)) := Lib.hid (fun w' h => (R.out.b1.bel h).rangeAd)
  have L2 : Hid (∀ w', Below w9.heap.size w9 w' → w'.rangeAt g2 0 (adL qb)) := Lib.hid (fun w' h => (R.out.b2.bel h).rangeAd)
  apply region_cutV (R := fun _ _ _ w' => BelQ w9 w')
  case h =>
    refine wp_region_held (S := fun w' => BelQ w9 w') (by kernel_rfl) ?_
    refine wpAnyH_take (i := 0) (oi := ⟨some 25, Op.move (Operand.tmp 5), _, _, _, none⟩) (v := Value.int .i64 (-1)) rfl (by kernel_rfl) (by kernel_rfl) (by kernel_rfl) (fun _ _ _ h => nomatch h.1) (Or.inl ⟨by rfl, fun w' hS' => by go_simp⟩) (Below.refl _ _).drew ?_
    simp only [Act.put, List.setIfInBounds_toArray, List.set_cons_zero, List.set_cons_succ]
    refine wpAnyH_take (i := 1) (oi := ⟨some 26, Op.binOp BinOp.eql 3 (Operand.tmp 25) (Operand.const (Value.int IntKind.i64 (-1))) 3, _, _, _, none⟩) (v := Value.bool true) rfl (by kernel_rfl) (by kernel_rfl) (by kernel_rfl) (fun _ _ _ h => nomatch h.1) (Or.inl ⟨by rfl, fun w' hS' => by go_simp⟩) (Below.refl _ _).drew ?_
    simp only [Act.put, List.setIfInBounds_toArray, List.set_cons_zero, List.set_cons_succ]
    refine wpAnyH_take (i := 2) (oi := ⟨some 27, Op.move (Operand.tmp 26), _, _, _, none⟩) (v := Value.bool true) rfl (by kernel_rfl) (by kernel_rfl) (by kernel_rfl) (fun _ _ _ h => nomatch h.1) (Or.inl ⟨by rfl, fun w' hS' => by go_simp⟩) (Below.refl _ _).drew ?_
    simp only [Act.put, List.setIfInBounds_toArray, List.set_cons_zero, List.set_cons_succ]
    refine wpAnyH_take (i := 3) (oi := ⟨some 28, Op.move (Operand.tmp 6), _, _, _, some (2, true)⟩) (v := Value.int .i64 1) rfl (by kernel_rfl) (by kernel_rfl) (by kernel_rfl) (fun _ _ _ h => nomatch h.1) (Or.inl ⟨by rfl, fun w' hS' => by go_simp⟩) (Below.refl _ _).drew ?_
    simp only [Act.put, List.setIfInBounds_toArray, List.set_cons_zero, List.set_cons_succ]
    refine wpAnyH_take (i := 4) (oi := ⟨some 29, Op.binOp BinOp.eql 3 (Operand.tmp 28) (Operand.const (Value.int IntKind.i64 1)) 3, _, _, _, some (2, true)⟩) (v := Value.bool true) rfl (by kernel_rfl) (by kernel_rfl) (by kernel_rfl) (fun _ _ _ h => nomatch h.1) (Or.inl ⟨by rfl, fun w' hS' => by go_simp⟩) (Below.refl _ _).drew ?_
    simp only [Act.put, List.setIfInBounds_toArray, List.set_cons_zero, List.set_cons_succ]
    refine wpAnyH_take (i := 5) (oi := ⟨some 30, Op.pick (Operand.tmp 27) (Operand.tmp 29) (Operand.const (Value.bool false)), _, _, _, none⟩) (v := Value.bool true) rfl (by kernel_rfl) (by kernel_rfl) (by kernel_rfl) (fun _ _ _ h => nomatch h.1) (Or.inl ⟨by rfl, fun w' hS' => by go_simp⟩) (Below.refl _ _).drew ?_
    simp only [Act.put, List.setIfInBounds_toArray, List.set_cons_zero, List.set_cons_succ]
    refine wpAnyH_take (i := 6) (oi := ⟨some 31, Op.move (Operand.tmp 30), _, _, _, none⟩) (v := Value.bool true) rfl (by kernel_rfl) (by kernel_rfl) (by kernel_rfl) (fun _ _ _ h => nomatch h.1) (Or.inl ⟨by rfl, fun w' hS' => by go_simp⟩) (Below.refl _ _).drew ?_
    simp only [Act.put, List.setIfInBounds_toArray, List.set_cons_zero, List.set_cons_succ]
    refine wpAnyH_take (i := 7) (oi := ⟨some 32, Op.load 26 (Operand.tmp 4), _, _, _, some (6, true)⟩) (v := Value.agg #[.slice (some ⟨gi, 0, none⟩) 1 1, .slice (some ⟨gr, 0, none⟩) 1 1, .slice none 0 0]) rfl (by kernel_rfl) (by kernel_rfl) (by kernel_rfl) (fun _ _ _ h => nomatch h.1) (yieldsIf_load_mid (by rfl) _ _ rfl _ _ rfl [.slice (some ⟨gi, 0, none⟩) 1 1, .slice (some ⟨gr, 0, none⟩) 1 1, .slice none 0 0] _ L4.out net_under rfl net_size) (Below.refl _ _).drew ?_
    simp only [Act.put, List.setIfInBounds_toArray, List.set_cons_zero, List.set_cons_succ]
    refine wpAnyH_take (i := 8) (oi := ⟨some 33, Op.load 29 (Operand.tmp 1), _, _, _, some (6, true)⟩) (v := Value.agg (adA qa)) rfl (by kernel_rfl) (by kernel_rfl) (by kernel_rfl) (fun _ _ _ h => nomatch h.1) (yieldsIf_loadAd (by rfl) _ rfl rfl L1.out) (Below.refl _ _).drew ?_
    simp only [Act.put, List.setIfInBounds_toArray, List.set_cons_zero, List.set_cons_succ]
    refine wpAnyH_take (i := 9) (oi := ⟨some 34, Op.load 29 (Operand.tmp 2), _, _, _, some (6, true)⟩) (v := Value.agg (adA qb)) rfl (by kernel_rfl) (by kernel_rfl) (by kernel_rfl) (fun _ _ _ h => nomatch h.1) (yieldsIf_loadAd (by rfl) _ rfl rfl L2.out) (Below.refl _ _).drew ?_
    simp only [Act.put, List.setIfInBounds_toArray, List.set_cons_zero, List.set_cons_succ]
    refine wpAnyH_take (i := 12) (oi := ⟨some 37, Op.load 29 (Operand.tmp 2), _, _, _, some (6, true)⟩) (v := Value.agg (adA qb)) rfl (by kernel_rfl) (by kernel_rfl) (by kernel_rfl) (fun _ _ _ h => nomatch h.1) (yieldsIf_loadAd (by rfl) _ rfl rfl L2.out) (Below.refl _ _).drew ?_
    simp only [Act.put, List.setIfInBounds_toArray, List.set_cons_zero, List.set_cons_succ]
    refine wpAnyH_take (i := 13) (oi := ⟨some 38, Op.load 29 (Operand.tmp 1), _, _, _, some (6, true)⟩) (v := Value.agg (adA qa)) rfl (by kernel_rfl) (by kernel_rfl) (by kernel_rfl) (fun _ _ _ h => nomatch h.1) (yieldsIf_loadAd (by rfl) _ rfl rfl L1.out) (Below.refl _ _).drew ?_
    simp only [Act.put, List.setIfInBounds_toArray, List.set_cons_zero, List.set_cons_succ]
    refine wpAnyH_all (rs := [10, 14]) (by kernel_rfl) (by decide) ?_
    intro i hi
    simp only [List.mem_cons, List.not_mem_nil, or_false] at hi
    rcases hi with rfl | rfl
    · skip
      refine wpOp_of_list (o := ⟨some 35, Op.buildSlice 35 2 #[(0, Operand.tmp 33), (1, Operand.tmp 34)], _, _, _, some (6, true)⟩) rfl ?_
      refine wpList_guarded (o := ⟨some 35, Op.buildSlice 35 2 #[(0, Operand.tmp 33), (1, Operand.tmp 34)], _, _, _, some (6, true)⟩) rfl ?_
      refine wpList_lit rfl _ _ rfl elt_ads [.agg (adA qa), .agg (adA qb)] rfl (by decide) (by decide) (fun v hv => by simp at hv; rcases hv with rfl | rfl <;> exact adA_size _) rfl ?_
      intro x1 hBz hoz hy1 hs
      obtain ⟨g35, hgz, s35⟩ : ∃ g, g = _ ∧ Sl x1 18 (.slice (some ⟨g, 0, none⟩) 2 2) 2 ([qa, qb].flatMap adL) := ⟨_, rfl, by simpa [adA, Value.cells] using Sl.own hoz⟩
      rw [← hgz]
      clear hgz hs hoz hBz
      have hx1 := bel_drew hy1
      show _ ∧ _
      refine ⟨hx1, ?_⟩
      simp only [Act.put, List.setIfInBounds_toArray, List.set_cons_zero, List.set_cons_succ]
      refine wpAnyH_all (rs := [11, 14]) (by kernel_rfl) (by decide) ?_
      intro i hi
      simp only [List.mem_cons, List.not_mem_nil, or_false] at hi
      rcases hi with rfl | rfl
      · skip
        refine wpOp_callM (o := ⟨some 36, Op.call { callee := Callee.value (Operand.func 10), args := #[Operand.tmp 32, Operand.tmp 35], argTypes := #[26, 35] }, _, _, _, some (6, true)⟩) rfl (by rfl) (by go_simp) (qorder (R.out.n.below hx1) (HE.out.below (bel_tr R.out.b hx1)) s35) ?_
        rintro e x2 ⟨v36, rfl, ho36, hy2⟩
        refine ⟨_, rfl, ?_⟩
        have s36 : Sl x2 18 v36 2 ([qb, qa].flatMap adL) := Sl.own ho36
        clear ho36
        have hx2 := bel_tr hx1 hy2
        have s35 := s35.below hy2
        show _ ∧ _
        refine ⟨hx2, ?_⟩
        simp only [Act.put, List.setIfInBounds_toArray, List.set_cons_zero, List.set_cons_succ]
        refine wpAnyH_all (rs := [14]) (by kernel_rfl) (by decide) ?_
        intro i hi
        obtain rfl := List.mem_singleton.1 hi
        refine wpOp_of_list (o := ⟨some 39, Op.buildSlice 35 2 #[(0, Operand.tmp 37), (1, Operand.tmp 38)], _, _, _, some (6, true)⟩) rfl ?_
        refine wpList_guarded (o := ⟨some 39, Op.buildSlice 35 2 #[(0, Operand.tmp 37), (1, Operand.tmp 38)], _, _, _, some (6, true)⟩) rfl ?_
        refine wpList_lit rfl _ _ rfl elt_ads [.agg (adA qb), .agg (adA qa)] rfl (by decide) (by decide) (fun v hv => by simp at hv; rcases hv with rfl | rfl <;> exact adA_size _) rfl ?_
        intro x3 hBz hoz hy3 hs
        obtain ⟨g39, hgz, s39⟩ : ∃ g, g = _ ∧ Sl x3 18 (.slice (some ⟨g, 0, none⟩) 2 2) 2 ([qb, qa].flatMap adL) := ⟨_, rfl, by simpa [adA, Value.cells] using Sl.own hoz⟩
        rw [← hgz]
        clear hgz hs hoz hBz
        have hx3 := bel_tr hx2 hy3
        have s35 := s35.below hy3
        have s36 := s36.below hy3
        show _ ∧ _
        refine ⟨hx3, ?_⟩
        simp only [Act.put, List.setIfInBounds_toArray, List.set_cons_zero, List.set_cons_succ]
        refine wpAnyH_all (rs := [15]) (by kernel_rfl) (by decide) ?_
        intro i hi
        obtain rfl := List.mem_singleton.1 hi
        refine wpOp_callM (o := ⟨some 40, Op.call { callee := Callee.value (Operand.func 11), args := #[Operand.tmp 36, Operand.tmp 39], argTypes := #[35, 35] }, _, _, _, some (6, true)⟩) rfl (by rfl) (by go_simp) (qsame s36 s39) ?_
        rintro e x4 ⟨rfl, hy4⟩
        refine ⟨_, rfl, ?_⟩
        have hx4 := bel_tr hx3 hy4
        show _ ∧ _
        refine ⟨hx4, ?_⟩
        simp only [Act.put, List.setIfInBounds_toArray, List.set_cons_zero, List.set_cons_succ]
        refine wpAnyH_take (i := 16) (oi := ⟨some 41, Op.pick (Operand.tmp 31) (Operand.tmp 40) (Operand.const (Value.bool false)), _, _, _, none⟩) (v := Value.bool true) rfl (by kernel_rfl) (by kernel_rfl) (by kernel_rfl) (fun _ _ _ h => nomatch h.1) (Or.inl ⟨by rfl, fun w' hS' => by go_simp⟩) hx4 ?_
        simp only [Act.put, List.setIfInBounds_toArray, List.set_cons_zero, List.set_cons_succ]
        refine wpAnyH_take (i := 17) (oi := ⟨some 0, Op.assign (Operand.tmp 41), _, _, _, none⟩) (v := Value.bool true) rfl (by kernel_rfl) (by kernel_rfl) (by kernel_rfl) (fun _ _ _ h => nomatch h.1) (Or.inl ⟨by rfl, fun w' hS' => by go_simp⟩) hx4 ?_
        simp only [Act.put, List.setIfInBounds_toArray, List.set_cons_zero]
        refine wpAnyH_done (by kernel_rfl) ?_ _
        exact ⟨rfl, g35, v36, g39, rfl, hx4⟩
      · skip
        refine wpOp_of_list (o := ⟨some 39, Op.buildSlice 35 2 #[(0, Operand.tmp 37), (1, Operand.tmp 38)], _, _, _, some (6, true)⟩) rfl ?_
        refine wpList_guarded (o := ⟨some 39, Op.buildSlice 35 2 #[(0, Operand.tmp 37), (1, Operand.tmp 38)], _, _, _, some (6, true)⟩) rfl ?_
        refine wpList_lit rfl _ _ rfl elt_ads [.agg (adA qb), .agg (adA qa)] rfl (by decide) (by decide) (fun v hv => by simp at hv; rcases hv with rfl | rfl <;> exact adA_size _) rfl ?_
        intro x2 hBz hoz hy2 hs
        obtain ⟨g39, hgz, s39⟩ : ∃ g, g = _ ∧ Sl x2 18 (.slice (some ⟨g, 0, none⟩) 2 2) 2 ([qb, qa].flatMap adL) := ⟨_, rfl, by simpa [adA, Value.cells] using Sl.own hoz⟩
        rw [← hgz]
        clear hgz hs hoz hBz
        have hx2 := bel_tr hx1 hy2
        have s35 := s35.below hy2
        show _ ∧ _
        refine ⟨hx2, ?_⟩
        simp only [Act.put, List.setIfInBounds_toArray, List.set_cons_zero, List.set_cons_succ]
        refine wpAnyH_all (rs := [11]) (by kernel_rfl) (by decide) ?_
        intro i hi
        obtain rfl := List.mem_singleton.1 hi
        refine wpOp_callM (o := ⟨some 36, Op.call { callee := Callee.value (Operand.func 10), args := #[Operand.tmp 32, Operand.tmp 35], argTypes := #[26, 35] }, _, _, _, some (6, true)⟩) rfl (by rfl) (by go_simp) (qorder (R.out.n.below hx2) (HE.out.below (bel_tr R.out.b hx2)) s35) ?_
        rintro e x3 ⟨v36, rfl, ho36, hy3⟩
        refine ⟨_, rfl, ?_⟩
        have s36 : Sl x3 18 v36 2 ([qb, qa].flatMap adL) := Sl.own ho36
        clear ho36
        have hx3 := bel_tr hx2 hy3
        have s35 := s35.below hy3
        have s39 := s39.below hy3
        show _ ∧ _
        refine ⟨hx3, ?_⟩
        simp only [Act.put, List.setIfInBounds_toArray, List.set_cons_zero, List.set_cons_succ]
        refine wpAnyH_all (rs := [15]) (by kernel_rfl) (by decide) ?_
        intro i hi
        obtain rfl := List.mem_singleton.1 hi
        refine wpOp_callM (o := ⟨some 40, Op.call { callee := Callee.value (Operand.func 11), args := #[Operand.tmp 36, Operand.tmp 39], argTypes := #[35, 35] }, _, _, _, some (6, true)⟩) rfl (by rfl) (by go_simp) (qsame s36 s39) ?_
        rintro e x4 ⟨rfl, hy4⟩
        refine ⟨_, rfl, ?_⟩
        have hx4 := bel_tr hx3 hy4
        show _ ∧ _
        refine ⟨hx4, ?_⟩
        simp only [Act.put, List.setIfInBounds_toArray, List.set_cons_zero, List.set_cons_succ]
        refine wpAnyH_take (i := 16) (oi := ⟨some 41, Op.pick (Operand.tmp 31) (Operand.tmp 40) (Operand.const (Value.bool false)), _, _, _, none⟩) (v := Value.bool true) rfl (by kernel_rfl) (by kernel_rfl) (by kernel_rfl) (fun _ _ _ h => nomatch h.1) (Or.inl ⟨by rfl, fun w' hS' => by go_simp⟩) hx4 ?_
        simp only [Act.put, List.setIfInBounds_toArray, List.set_cons_zero, List.set_cons_succ]
        refine wpAnyH_take (i := 17) (oi := ⟨some 0, Op.assign (Operand.tmp 41), _, _, _, none⟩) (v := Value.bool true) rfl (by kernel_rfl) (by kernel_rfl) (by kernel_rfl) (fun _ _ _ h => nomatch h.1) (Or.inl ⟨by rfl, fun w' hS' => by go_simp⟩) hx4 ?_
        simp only [Act.put, List.setIfInBounds_toArray, List.set_cons_zero]
        refine wpAnyH_done (by kernel_rfl) ?_ _
        exact ⟨rfl, g35, v36, g39, rfl, hx4⟩
    · skip
      refine wpOp_of_list (o := ⟨some 39, Op.buildSlice 35 2 #[(0, Operand.tmp 37), (1, Operand.tmp 38)], _, _, _, some (6, true)⟩) rfl ?_
      refine wpList_guarded (o := ⟨some 39, Op.buildSlice 35 2 #[(0, Operand.tmp 37), (1, Operand.tmp 38)], _, _, _, some (6, true)⟩) rfl ?_
      refine wpList_lit rfl _ _ rfl elt_ads [.agg (adA qb), .agg (adA qa)] rfl (by decide) (by decide) (fun v hv => by simp at hv; rcases hv with rfl | rfl <;> exact adA_size _) rfl ?_
      intro x1 hBz hoz hy1 hs
      obtain ⟨g39, hgz, s39⟩ : ∃ g, g = _ ∧ Sl x1 18 (.slice (some ⟨g, 0, none⟩) 2 2) 2 ([qb, qa].flatMap adL) := ⟨_, rfl, by simpa [adA, Value.cells] using Sl.own hoz⟩
      rw [← hgz]
      clear hgz hs hoz hBz
      have hx1 := bel_drew hy1
      show _ ∧ _
      refine ⟨hx1, ?_⟩
      simp only [Act.put, List.setIfInBounds_toArray, List.set_cons_zero, List.set_cons_succ]
      refine wpAnyH_all (rs := [10]) (by kernel_rfl) (by decide) ?_
      intro i hi
      obtain rfl := List.mem_singleton.1 hi
      refine wpOp_of_list (o := ⟨some 35, Op.buildSlice 35 2 #[(0, Operand.tmp 33), (1, Operand.tmp 34)], _, _, _, some (6, true)⟩) rfl ?_
      refine wpList_guarded (o := ⟨some 35, Op.buildSlice 35 2 #[(0, Operand.tmp 33), (1, Operand.tmp 34)], _, _, _, some (6, true)⟩) rfl ?_
      refine wpList_lit rfl _ _ rfl elt_ads [.agg (adA qa), .agg (adA qb)] rfl (by decide) (by decide) (fun v hv => by simp at hv; rcases hv with rfl | rfl <;> exact adA_size _) rfl ?_
      intro x2 hBz hoz hy2 hs
      obtain ⟨g35, hgz, s35⟩ : ∃ g, g = _ ∧ Sl x2 18 (.slice (some ⟨g, 0, none⟩) 2 2) 2 ([qa, qb].flatMap adL) := ⟨_, rfl, by simpa [adA, Value.cells] using Sl.own hoz⟩
      rw [← hgz]
      clear hgz hs hoz hBz
      have hx2 := bel_tr hx1 hy2
      have s39 := s39.below hy2
      show _ ∧ _
      refine ⟨hx2, ?_⟩
      simp only [Act.put, List.setIfInBounds_toArray, List.set_cons_zero, List.set_cons_succ]
      refine wpAnyH_all (rs := [11]) (by kernel_rfl) (by decide) ?_
      intro i hi
      obtain rfl := List.mem_singleton.1 hi
      refine wpOp_callM (o := ⟨some 36, Op.call { callee := Callee.value (Operand.func 10), args := #[Operand.tmp 32, Operand.tmp 35], argTypes := #[26, 35] }, _, _, _, some (6, true)⟩) rfl (by rfl) (by go_simp) (qorder (R.out.n.below hx2) (HE.out.below (bel_tr R.out.b hx2)) s35) ?_
      rintro e x3 ⟨v36, rfl, ho36, hy3⟩
      refine ⟨_, rfl, ?_⟩
      have s36 : Sl x3 18 v36 2 ([qb, qa].flatMap adL) := Sl.own ho36
      clear ho36
      have hx3 := bel_tr hx2 hy3
      have s39 := s39.below hy3
      have s35 := s35.below hy3
      show _ ∧ _
      refine ⟨hx3, ?_⟩
      simp only [Act.put, List.setIfInBounds_toArray, List.set_cons_zero, List.set_cons_succ]
      refine wpAnyH_all (rs := [15]) (by kernel_rfl) (by decide) ?_
      intro i hi
      obtain rfl := List.mem_singleton.1 hi
      refine wpOp_callM (o := ⟨some 40, Op.call { callee := Callee.value (Operand.func 11), args := #[Operand.tmp 36, Operand.tmp 39], argTypes := #[35, 35] }, _, _, _, some (6, true)⟩) rfl (by rfl) (by go_simp) (qsame s36 s39) ?_
      rintro e x4 ⟨rfl, hy4⟩
      refine ⟨_, rfl, ?_⟩
      have hx4 := bel_tr hx3 hy4
      show _ ∧ _
      refine ⟨hx4, ?_⟩
      simp only [Act.put, List.setIfInBounds_toArray, List.set_cons_zero, List.set_cons_succ]
      refine wpAnyH_take (i := 16) (oi := ⟨some 41, Op.pick (Operand.tmp 31) (Operand.tmp 40) (Operand.const (Value.bool false)), _, _, _, none⟩) (v := Value.bool true) rfl (by kernel_rfl) (by kernel_rfl) (by kernel_rfl) (fun _ _ _ h => nomatch h.1) (Or.inl ⟨by rfl, fun w' hS' => by go_simp⟩) hx4 ?_
      simp only [Act.put, List.setIfInBounds_toArray, List.set_cons_zero, List.set_cons_succ]
      refine wpAnyH_take (i := 17) (oi := ⟨some 0, Op.assign (Operand.tmp 41), _, _, _, none⟩) (v := Value.bool true) rfl (by kernel_rfl) (by kernel_rfl) (by kernel_rfl) (fun _ _ _ h => nomatch h.1) (Or.inl ⟨by rfl, fun w' hS' => by go_simp⟩) hx4 ?_
      simp only [Act.put, List.setIfInBounds_toArray, List.set_cons_zero]
      refine wpAnyH_done (by kernel_rfl) ?_ _
      exact ⟨rfl, g35, v36, g39, rfl, hx4⟩
  case k =>
    rintro ga va gb wz hz
    have hb := bel_tr R.out.b hz
    go_wp2_with (fail)
    go_ret
    exact ⟨rfl, hb⟩
end Go.Proofs.YthlnndjkocnfcaaGreatDoor

/- DestBetter's walk. -/
namespace Go.Proofs.YthlnndjkocnfcaaGreatDoor
open Go.RowKit
attribute [local go_sem] ba_get ext_take ext_drop ext_any ba_app

theorem ordB_small (a b : Bool) : -1 ≤ ordB a b ∧ ordB a b ≤ 1 := by cases a <;> cases b <;> decide
theorem cmpI_small (a b : Int) : -1 ≤ cmpI a b ∧ cmpI a b ≤ 1 := by
  unfold cmpI
  split
  · omega
  · split <;> omega
theorem fst1_small : ∀ l : List Int, (∀ x ∈ l, -1 ≤ x ∧ x ≤ 1) → -1 ≤ fst1 l ∧ fst1 l ≤ 1
  | [], _ => by decide
  | x :: l, h => by
    by_cases hx : x = 0
    · rw [fst1_cons _ _ hx]
      exact fst1_small l (fun y hy => h y (by simp [hy]))
    · rw [fst1_hit _ _ hx]
      exact h x (by simp)
theorem dbet_small (a b : Dw) : -1 ≤ (dbet a b).1 ∧ (dbet a b).1 ≤ 1 := by
  refine fst1_small _ fun x hx => ?_
  simp only [dtelL, List.mem_cons, List.not_mem_nil, or_false] at hx
  rcases hx with rfl | rfl | rfl | rfl | rfl | rfl | rfl | rfl | rfl
  iterate 5 exact ordB_small _ _
  · exact cmpI_small _ _
  · exact ordB_small _ _
  · exact cmpI_small _ _
  · split
    · exact cmpI_small _ _
    · decide
set_option maxRecDepth 100000 in
set_option maxHeartbeats 8000000 in
theorem destBetter_walk (w : World) (ht : Tab w) (hm : MaxI w) (hT : TabA w) (q : Value × Value × Value × Nt) (v : Value) (hq : NetArg w v q) (a b : Ad) : Calls Tryz.prog 3 #[v, .agg (adA a), .agg (adA b)] w (Good w) := by
  obtain ⟨vi, vr, vp, N⟩ := q
  obtain ⟨hv, hN⟩ := hq
  subst hv
  have HE : Hid (EnvS w) := Lib.hid ⟨ht, hm, hT⟩
  have HN := Lib.hid hN
  have Hns := Lib.hid (show (Tryz.prog.info? 26).map (·.size) = some (#[vi, vr, vp] : Array Value).size from net_size)
  show Calls Tryz.prog _ #[.agg #[vi, vr, vp], .agg (adA a), .agg (adA b)] w (Good w)
  dsimp only at HN
  clear hN ht hm hT
  cases hf : fewN N with
  | false =>
    have Hf := Lib.hid hf
    clear hf
    go_enter Tryz.func3, Tryz.ntmps3
    go_wp2_with (first
      | ((with_reducible refine wpList_boxB (o := ⟨some 3, _, _, _, _, _⟩) rfl _ _ rfl rfl ?_); intro g3 w1 hg hB3 hb1 hs; clear hg hs)
      | ((with_reducible refine wpList_boxB (o := ⟨some 4, _, _, _, _, _⟩) rfl _ _ rfl rfl ?_); intro g4 w2 hg hB4 hb2 hs; have hB32 := hB3.bel hb2; have hb02 := bel_tr hb1 hb2; clear hg hs)
      | ((with_reducible refine wpList_boxB (o := ⟨some 5, _, _, _, _, _⟩) rfl _ _ rfl rfl ?_); intro g5 w3 hg hB5 hb3 hs; have H3 := Lib.hid (hB32.bel hb3); have Hb3 := Lib.hid (bel_tr hb02 hb3); clear hg hs hB3 hB32 hB4 hB5 hb1 hb2 hb3 hb02; refine hold ?_))
    refine Lib.hid ?_
    go_wp2_with (first
      | ((fail_if_success (have hb4z := Hb4)); go_at_call 6; refine (works39_any _ (HE.out.below Hb3.out)).mono ?_; rintro e w4 ⟨rfl, hb4⟩; have Hb4 := Lib.hid (bel_tr Hb3.out hb4); have H34 := Lib.hid (H3.out.bel hb4); clear hb4)
      | ((with_reducible show wpList _ _ _ (⟨some 16, _, _, _, _, _⟩ :: _) _ _); refine wpList_guarded (o := ⟨some 16, _, _, _, _, _⟩) rfl ?_; refine wpList_loadB (o := ⟨some 16, _, _, _, _, _⟩) rfl _ _ rfl rfl H34.out net_under rfl Hns.out ?_)
      | (go_at_call 7; refine (few37_any vi vr vp N _ (HN.out.below Hb4.out)).mono ?_; rintro e w5 ⟨rfl, hb5⟩; rw [Hf.out]; have Hb5 := Lib.hid (bel_tr Hb4.out hb5); clear hb5)
      | (go_at_call 6; refine (works39_any _ (HE.out.below Hb5.out)).mono ?_; rintro e w6 ⟨rfl, hb6⟩))
    go_ret
    exact ⟨rfl, bel_tr Hb5.out hb6⟩
  | true =>
    have Hf := Lib.hid hf
    have h60 := few_60 hf
    clear hf
    have CA : Hid (∀ w', NetRaw w' vi vr vp N → EnvS w' → Calls Tryz.prog 8 #[.agg #[vi, vr, vp], .agg (adA a), .agg (adA b)] w' (DbPost w' (dbet (dwN N a) (dwN N b)))) := Lib.hid (fun w' h k => dBetter_any vi vr vp N a b w' h k h60.1 h60.2.1 h60.2.2)
    have CB : Hid (∀ w', NetRaw w' vi vr vp N → EnvS w' → Calls Tryz.prog 8 #[.agg #[vi, vr, vp], .agg (adA b), .agg (adA a)] w' (DbPost w' (dbet (dwN N b) (dwN N a)))) := Lib.hid (fun w' h k => dBetter_any vi vr vp N b a w' h k h60.1 h60.2.1 h60.2.2)
    have CR : Hid (∀ w', NetRaw w' vi vr vp N → Calls Tryz.prog 9 #[.agg #[vi, vr, vp], .agg (adA a), .agg (adA b)] w' (DbPost w' (dbet (dwN N a) (dwN N b)))) := Lib.hid (fun w' h => rbetter39_any vi vr vp N a b w' h h60.1 h60.2.1 h60.2.2)
    have hng := dbet_neg (dwN N a) (dwN N b)
    have hsm := dbet_small (dwN N a) (dwN N b)
    generalize dbet (dwN N a) (dwN N b) = D at *
    generalize dbet (dwN N b) (dwN N a) = E at *
    obtain ⟨s, i⟩ := D
    obtain ⟨u, m⟩ := E
    dsimp only at hng hsm
    obtain ⟨rfl, rfl⟩ := hng
    clear h60
    go_enter Tryz.func3, Tryz.ntmps3
    go_wp2_with (first
      | ((with_reducible refine wpList_boxB (o := ⟨some 3, _, _, _, _, _⟩) rfl _ _ rfl rfl ?_); intro g3 w1 hg hB3 hb1 hs; clear hg hs)
      | ((with_reducible refine wpList_boxB (o := ⟨some 4, _, _, _, _, _⟩) rfl _ _ rfl rfl ?_); intro g4 w2 hg hB4 hb2 hs; have hB32 := hB3.bel hb2; have hb02 := bel_tr hb1 hb2; clear hg hs)
      | ((with_reducible refine wpList_boxB (o := ⟨some 5, _, _, _, _, _⟩) rfl _ _ rfl rfl ?_); intro g5 w3 hg hB5 hb3 hs; have H3 := Lib.hid (hB32.bel hb3); have H4 := Lib.hid (hB4.bel hb3); have H5 := Lib.hid hB5; have Hb3 := Lib.hid (bel_tr hb02 hb3); clear hg hs hB3 hB32 hB4 hB5 hb1 hb2 hb3 hb02; refine hold ?_))
    refine Lib.hid ?_
    go_wp2_with (first
      | (go_at_call 6; refine (works39_any _ (HE.out.below Hb3.out)).mono ?_; rintro e w4 ⟨rfl, hb4⟩; have Hb4 := Lib.hid (bel_tr Hb3.out hb4); have K3 := Lib.hid (H3.out.bel hb4); have K4 := Lib.hid (H4.out.bel hb4); have K5 := Lib.hid (H5.out.bel hb4); clear hb4 H3 H4 H5)
      | ((with_reducible show wpList _ _ _ (⟨some 16, _, _, _, _, _⟩ :: _) _ _); refine wpList_guarded (o := ⟨some 16, _, _, _, _, _⟩) rfl ?_; refine wpList_loadB (o := ⟨some 16, _, _, _, _, _⟩) rfl _ _ rfl rfl K3.out net_under rfl Hns.out ?_)
      | (go_at_call 7; refine (few37_any vi vr vp N _ (HN.out.below Hb4.out)).mono ?_; rintro e w5 ⟨rfl, hb5⟩; rw [Hf.out]; have Hb := Lib.hid (bel_tr Hb4.out hb5); have H3 := Lib.hid (K3.out.bel hb5); have H4 := Lib.hid (K4.out.bel hb5); have H5 := Lib.hid (K5.out.bel hb5); clear hb5 K3 K4 K5 Hb4; refine hold ?_))
    refine Lib.hid ?_
    go_wp2_with (first
      | ((with_reducible show wpList _ _ _ (⟨some 22, _, _, _, _, _⟩ :: _) _ _); refine wpList_loadB (o := ⟨some 22, _, _, _, _, _⟩) rfl _ _ rfl rfl H3.out net_under rfl Hns.out ?_)
      | (with_reducible refine wpList_loadAd (o := ⟨some 23, _, _, _, _, _⟩) rfl _ rfl rfl H4.out ?_)
      | (with_reducible refine wpList_loadAd (o := ⟨some 24, _, _, _, _, _⟩) rfl _ rfl rfl H5.out ?_)
      | (go_at_call 8; refine (CA.out _ (HN.out.below Hb.out) (HE.out.below Hb.out)).mono ?_; rintro e w6 ⟨rfl, hb6⟩; have Hb6 := Lib.hid (bel_tr Hb.out hb6); have K3 := Lib.hid (H3.out.bel hb6); have K4 := Lib.hid (H4.out.bel hb6); have K5 := Lib.hid (H5.out.bel hb6); clear hb6 H3 H4 H5 Hb; refine hold ?_))
    refine Lib.hid ?_
    go_wp2_with (first
      | ((with_reducible show wpList _ _ _ (⟨some 29, _, _, _, _, _⟩ :: _) _ _); refine wpList_loadB (o := ⟨some 29, _, _, _, _, _⟩) rfl _ _ rfl rfl K3.out net_under rfl Hns.out ?_)
      | (with_reducible refine wpList_loadAd (o := ⟨some 30, _, _, _, _, _⟩) rfl _ rfl rfl K4.out ?_)
      | (with_reducible refine wpList_loadAd (o := ⟨some 31, _, _, _, _, _⟩) rfl _ rfl rfl K5.out ?_)
      | (go_at_call 9; refine (CR.out _ (HN.out.below Hb6.out)).mono ?_; rintro e w7 ⟨rfl, hb7⟩; have Hb := Lib.hid (bel_tr Hb6.out hb7); have H3 := Lib.hid (K3.out.bel hb7); have H4 := Lib.hid (K4.out.bel hb7); have H5 := Lib.hid (K5.out.bel hb7); clear hb7 K3 K4 K5 Hb6; refine hold ?_))
    refine Lib.hid ?_
    go_wp2_with (first
      | ((with_reducible show wpList _ _ _ (⟨some 36, _, _, _, _, _⟩ :: _) _ _); refine wpList_loadB (o := ⟨some 36, _, _, _, _, _⟩) rfl _ _ rfl rfl H3.out net_under rfl Hns.out ?_)
      | (with_reducible refine wpList_loadAd (o := ⟨some 37, _, _, _, _, _⟩) rfl _ rfl rfl H5.out ?_)
      | (with_reducible refine wpList_loadAd (o := ⟨some 38, _, _, _, _, _⟩) rfl _ rfl rfl H4.out ?_)
      | (go_at_call 8; refine (CB.out _ (HN.out.below Hb.out) (HE.out.below Hb.out)).mono ?_; rintro e w8 ⟨rfl, hb8⟩; have Hb8 := Lib.hid (bel_tr Hb.out hb8); clear hb8 H3 H4 H5 Hb; refine hold ?_))
    refine Lib.hid ?_
    have e0 : IntKind.i64.wrap (-s) = -s := IntWalk.i64_in _ (by omega)
    have e1 : (s == s) = true := by simp
    have e2 : (m == m) = true := by simp
    have e3 : (-s == -s) = true := by simp
    go_wp2_with (fail)
    go_ret
    exact ⟨rfl, Hb8.out⟩
end Go.Proofs.YthlnndjkocnfcaaGreatDoor
