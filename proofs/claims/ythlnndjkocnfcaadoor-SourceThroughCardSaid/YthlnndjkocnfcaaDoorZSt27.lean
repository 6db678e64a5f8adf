/- Contracts and plain lemmas of our own, merged. -/
import Derived.Test.YthlnndjkocnfcaaDoorZSt1
import Derived.Test.YthlnndjkocnfcaaDoorZSt12
import Derived.Test.YthlnndjkocnfcaaDoorZSt13
import Derived.Test.YthlnndjkocnfcaaDoorZSt21
import Derived.Test.YthlnndjkocnfcaaDoorZSt23
import Derived.Test.YthlnndjkocnfcaaDoorZSt24
import Derived.Test.YthlnndjkocnfcaaDoorZSt26
/- works (38). -/
namespace Go.Proofs.YthlnndjkocnfcaaDoor
open Go.RowKit
attribute [local go_sem] ba_get ext_take ext_drop ext_any ba_app

def wia : Ifc := ⟨adOf 10 0 0 1, 1, 8, false, false, false, by decide⟩
def wib : Ifc := ⟨adOf 169 254 0 1, 1, 16, false, false, false, by decide⟩
def wrt : Rt := ⟨⟨adOf 0 0 0 0, 0, by decide⟩, 1, false, by decide⟩
def wnt : Nt := ⟨[wib, wia], [wrt], []⟩
def wad : Ad := adOf 192 0 2 1
theorem wbet : fst1 (betL wnt wad wia wib) = 1 ∧ fstI (betL wnt wad wia wib) 0 = 2 := by decide +kernel
theorem wpick : pickN wnt wad = (wia, true) := by decide +kernel
theorem built_wia : Tryd.prog.built 31 [(0, .agg (adA (adOf 10 0 0 1))), (1, .int .i64 1), (2, .int .i64 8)] = some (ifcA wia) := by kernel_rfl
theorem built_wib : Tryd.prog.built 31 [(0, .agg (adA (adOf 169 254 0 1))), (1, .int .i64 1), (2, .int .i64 16)] = some (ifcA wib) := by kernel_rfl
theorem built_wpf : Tryd.prog.built 40 [(0, .agg (adA (adOf 0 0 0 0)))] = some (pfA ⟨adOf 0 0 0 0, 0, by decide⟩) := by kernel_rfl
theorem built_wrt : Tryd.prog.built 42 [(0, .agg (pfA ⟨adOf 0 0 0 0, 0, by decide⟩)), (1, .int .i64 1)] = some (rtA wrt) := by kernel_rfl
theorem built_wnt (a b : Nat) : Tryd.prog.built 26 [(0, .slice (some ⟨a, 0, none⟩) 2 2), (1, .slice (some ⟨b, 0, none⟩) 1 1)] = some #[.slice (some ⟨a, 0, none⟩) 2 2, .slice (some ⟨b, 0, none⟩) 1 1, .slice none 0 0] := by kernel_rfl
theorem net_zero : ZeroIs Tryd.prog 26 #[.slice none 0 0, .slice none 0 0, .slice none 0 0] := by unfold ZeroIs; kernel_rfl
theorem region_cut3 {P : Program} {c : Code} {Q : Exit → Act → World → Prop} {a : Act} {w : World} {F : Nat → Nat → Nat → Act} (R : Nat → Nat → Nat → World → Prop) (h : c.wp P (fun ex a' w' => ex = .normal ∧ ∃ g1 g2 g3, a' = F g1 g2 g3 ∧ R g1 g2 g3 w') a w) (k : ∀ g1 g2 g3 w', R g1 g2 g3 w' → Q .normal (F g1 g2 g3) w') : c.wp P Q a w :=
  wp_mono h fun ex a' w' ⟨h1, g1, g2, g3, h2, h3⟩ => by rw [h1, h2]; exact k g1 g2 g3 w' h3
def BelW (w w' : World) : Prop := Below w.heap.size w w'
theorem rof_a (w : World) : Calls Tryd.prog 7 #[.int .i64 10, .int .i64 0, .int .i64 0, .int .i64 1] w (AdPost w (adOf 10 0 0 1)) := rof_any 10 0 0 1 w
theorem rof_b (w : World) : Calls Tryd.prog 7 #[.int .i64 169, .int .i64 254, .int .i64 0, .int .i64 1] w (AdPost w (adOf 169 254 0 1)) := rof_any 169 254 0 1 w
theorem rof_0 (w : World) : Calls Tryd.prog 7 #[.int .i64 0, .int .i64 0, .int .i64 0, .int .i64 0] w (AdPost w (adOf 0 0 0 0)) := rof_any 0 0 0 0 w
theorem rof_d (w : World) : Calls Tryd.prog 7 #[.int .i64 192, .int .i64 0, .int .i64 2, .int .i64 1] w (AdPost w wad) := rof_any 192 0 2 1 w
theorem ifs_sl {w : World} {g : Nat} (h : Bk w g 31 (ifcL wib ++ ifcL wia).toArray) : Sl w 23 (.slice (some ⟨g, 0, none⟩) 2 2) wnt.I.length (wnt.I.flatMap ifcL) := by
  have := h.sl (size := 23) (n := 2) (by rw [List.length_append, ifcL_len, ifcL_len]) 2 (Nat.le_refl _)
  simpa [wnt] using this
theorem rts_sl {w : World} {g : Nat} (h : Bk w g 42 (rtL wrt).toArray) : Sl w 21 (.slice (some ⟨g, 0, none⟩) 1 1) wnt.R.length (wnt.R.flatMap rtL) := by
  have := h.sl (size := 21) (n := 1) (by rw [rtL_len]) 1 (Nat.le_refl _)
  simpa [wnt] using this
theorem wbetter {vi vr vp : Value} {w : World} (hN : NetRaw w vi vr vp wnt) (hE : EnvS w) : Calls Tryd.prog 6 #[.agg #[vi, vr, vp], .agg (adA wad), .agg (ifcA wia), .agg (ifcA wib)] w fun e w' => e = .returned (.tuple #[.int .i64 1, .int .i64 2]) ∧ Below w.heap.size w w' :=
  (betterS_any vi vr vp wnt wad wia wib w hN hE (by decide) (by decide)).mono fun e w' ⟨he, hb⟩ => ⟨by rw [he, wbet.1, wbet.2], hb⟩
theorem wpicks {vi vr vp : Value} {w : World} (hN : NetRaw w vi vr vp wnt) (hE : EnvS w) : Calls Tryd.prog 8 #[.agg #[vi, vr, vp], .agg (adA wad)] w fun e w' => e = .returned (.tuple #[.agg (ifcA wia), .bool true]) ∧ Below w.heap.size w w' :=
  (pickS_any vi vr vp wnt wad w hN hE (by decide) (by decide) (by decide)).mono fun e w' ⟨he, hb⟩ => ⟨by rw [he, wpick], hb⟩
theorem wpList_eql_ifc {w : World} {ops : Array Oper} {rest : List Oper} {o : Oper} {a : Act} {Q : Exit → Act → World → Prop} (hgd : o.guard = none) (x y : Operand) {t : TypeId} (ho : o.op = .binOp .eql 31 x y t) {b c : Ifc} (hx : a.eval x = .agg (ifcA b)) (hy : a.eval y = .agg (ifcA c))
    (h : wpList Tryd.prog ops Q rest (a.put o.dst (.bool (decide (b = c)))) w) : wpList Tryd.prog ops Q (o :: rest) a w := by
  refine wpList_plain hgd fun _ hK => ?_
  unfold Oper.wp execOp
  simp only [ho, hx, hy, Sem.run_bind, run_eqGuard_agg w .eql 31 x y _ _ Tryd.eqGuardType31, Result.andThen_ok, ifc_eql]
  exact hK _ _ h
set_option maxRecDepth 100000 in
set_option maxHeartbeats 4000000 in
theorem works38_any (w : World) (hE : EnvS w) : Calls Tryd.prog 4 #[] w (Good w) := by
  have HE := Lib.hid hE
  clear hE
  go_enter Tryd.func4, Tryd.ntmps4
  go_wp2_with (first
    | (go_at_call 7; (with_reducible refine (rof_a _).mono ?_); rintro e w1 ⟨rfl, hb1⟩)
    | (with_reducible refine wpList_buildL (o := ⟨some 9, _, _, _, _, _⟩) rfl 31 _ rfl built_wia rfl ?_)
    | ((with_reducible refine wpList_alloc_ifc (o := ⟨some 1, _, _, _, _, _⟩) rfl rfl ?_); intro g1 w2 hg hB1 hb2 hs; have hg1 : w1.heap.size ≤ g1 := Nat.le_of_eq hg.symm; clear hg hs)
    | ((with_reducible refine wpList_store_ifc (o := ⟨none, _, _, _, _, _⟩) rfl (.tmp 1) _ rfl rfl rfl hB1 ?_); intro w3 hB13 hS3; have hb3 := bel_tr hb1 (hb2.trans (hS3.below hg1)); refine hold ?_))
  refine Lib.hid ?_
  clear hB1 hb1 hb2 hS3
  go_wp2_with (first
    | (go_at_call 7; (with_reducible refine (rof_b _).mono ?_); rintro e w4 ⟨rfl, hb4⟩)
    | (with_reducible refine wpList_buildL (o := ⟨some 11, _, _, _, _, _⟩) rfl 31 _ rfl built_wib rfl ?_)
    | ((with_reducible refine wpList_alloc_ifc (o := ⟨some 2, _, _, _, _, _⟩) rfl rfl ?_); intro g2 w5 hg hB2 hb5 hs; have hg2 : w4.heap.size ≤ g2 := Nat.le_of_eq hg.symm; clear hg hs)
    | ((with_reducible refine wpList_store_ifc (o := ⟨none, _, _, _, _, _⟩) rfl (.tmp 2) _ rfl rfl rfl hB2 ?_); intro w6 hB26 hS6
       have hb36 := bel_tr hb4 (hb5.trans (hS6.below hg2))
       have H1 := Lib.hid (hB13.bel hb36)
       have H2 := Lib.hid hB26
       have Hb := Lib.hid (bel_tr hb3 hb36)
       clear hB13 hB2 hB26 hb3 hb36 hb4 hb5 hS6
       refine hold ?_))
  refine Lib.hid ?_
  go_wp2_with (fail)
  have L1 : Hid (∀ w', Below w6.heap.size w6 w' → w'.rangeAt g1 0 (ifcL wia)) := Lib.hid (fun w' h => (H1.out.bel h).range_ifc)
  have L2 : Hid (∀ w', Below w6.heap.size w6 w' → w'.rangeAt g2 0 (ifcL wib)) := Lib.hid (fun w' h => (H2.out.bel h).range_ifc)
  apply region_cut3 (R := fun a b c w' => Bk w' a 31 (ifcL wib ++ ifcL wia).toArray ∧ Bk w' b 42 (rtL wrt).toArray ∧ Bk w' c 26 #[.slice (some ⟨a, 0, none⟩) 2 2, .slice (some ⟨b, 0, none⟩) 1 1, .slice none 0 0] ∧ BelW w6 w')
  case h =>
    refine wp_region_held (S := fun w' => BelW w6 w') (by kernel_rfl) ?_
    refine wpAnyH_take (i := 0) (oi := ⟨some 12, Op.load 31 (Operand.tmp 2), _, _, _, none⟩) (v := Value.agg (ifcA wib)) rfl (by kernel_rfl) (by kernel_rfl) (by kernel_rfl) (fun _ _ _ h => nomatch h.1) (yieldsIf_load_mid (by rfl) _ _ rfl _ _ rfl (ifcL wib) _ L2.out ifc_under rfl (by rw [ifcL_len]; exact ifc_size)) (Below.refl _ _).drew ?_
    simp only [Act.put, List.setIfInBounds_toArray, List.set_cons_zero, List.set_cons_succ]
    refine wpAnyH_take (i := 1) (oi := ⟨some 13, Op.load 31 (Operand.tmp 1), _, _, _, none⟩) (v := Value.agg (ifcA wia)) rfl (by kernel_rfl) (by kernel_rfl) (by kernel_rfl) (fun _ _ _ h => nomatch h.1) (yieldsIf_load_mid (by rfl) _ _ rfl _ _ rfl (ifcL wia) _ L1.out ifc_under rfl (by rw [ifcL_len]; exact ifc_size)) (Below.refl _ _).drew ?_
    simp only [Act.put, List.setIfInBounds_toArray, List.set_cons_zero, List.set_cons_succ]
    refine wpAnyH_all (rs := [2, 3, 8]) (by kernel_rfl) (by decide) ?_
    intro i hi
    simp only [List.mem_cons, List.not_mem_nil, or_false] at hi
    rcases hi with rfl | rfl | rfl
    · skip
      refine wpOp_of_list (o := ⟨some 14, Op.buildSlice 22 2 #[(0 , Operand.tmp 12), (1 , Operand.tmp 13)], _, _, _, none⟩) rfl ?_
      refine wpList_lit rfl _ _ rfl elt_ifc [.agg (ifcA wib), .agg (ifcA wia)] rfl (by decide) (by decide) (fun v hv => by simp at hv; rcases hv with rfl | rfl <;> exact ifcA_size _) rfl ?_
      intro x1 hBg14 hog14 hy1 hs
      obtain ⟨g14, hgg14, hBg14⟩ : ∃ g, g = _ ∧ Bk x1 g 31 (ifcL wib ++ ifcL wia).toArray := ⟨_, rfl, by simpa [ifcA, Value.cells] using hBg14⟩
      rw [← hgg14]
      clear hgg14 hs hog14
      have hx1 := bel_drew hy1
      show _ ∧ _
      refine ⟨hx1, ?_⟩
      simp only [Act.put, List.setIfInBounds_toArray, List.set_cons_zero, List.set_cons_succ]
      refine wpAnyH_all (rs := [3, 8]) (by kernel_rfl) (by decide) ?_
      intro i hi
      simp only [List.mem_cons, List.not_mem_nil, or_false] at hi
      rcases hi with rfl | rfl
      · skip
        refine wpOp_callM (o := ⟨some 15, Op.call { callee := Callee.value (Operand.func 7), args := #[Operand.const (Value.int IntKind.i64 0), Operand.const (Value.int IntKind.i64 0), Operand.const (Value.int IntKind.i64 0), Operand.const (Value.int IntKind.i64 0)], argTypes := #[3, 3, 3, 3] }, _, _, _, none⟩) rfl (by rfl) (by go_simp) (rof_0 _) ?_
        rintro e x2 ⟨rfl, hy2⟩
        have hx2 := bel_tr hx1 hy2
        have hBg14 := hBg14.bel hy2
        refine ⟨_, rfl, ?_⟩
        show _ ∧ _
        refine ⟨hx2, ?_⟩
        simp only [Act.put, List.setIfInBounds_toArray, List.set_cons_zero, List.set_cons_succ]
        refine wpAnyH_take (i := 4) (oi := ⟨some 16, Op.build 40 #[(0 , Operand.tmp 15)], _, _, _, none⟩) (v := Value.agg (pfA ⟨adOf 0 0 0 0, 0, by decide⟩)) rfl (by kernel_rfl) (by kernel_rfl) (by kernel_rfl) (fun _ _ _ h => nomatch h.1) (yieldsIf_buildL (by rfl) 40 _ rfl built_wpf rfl) hx2 ?_
        simp only [Act.put, List.setIfInBounds_toArray, List.set_cons_zero, List.set_cons_succ]
        refine wpAnyH_take (i := 5) (oi := ⟨some 17, Op.build 42 #[(0 , Operand.tmp 16), (1 , Operand.const (Value.int IntKind.i64 1))], _, _, _, none⟩) (v := Value.agg (rtA wrt)) rfl (by kernel_rfl) (by kernel_rfl) (by kernel_rfl) (fun _ _ _ h => nomatch h.1) (yieldsIf_buildL (by rfl) 42 _ rfl built_wrt rfl) hx2 ?_
        simp only [Act.put, List.setIfInBounds_toArray, List.set_cons_zero, List.set_cons_succ]
        refine wpAnyH_all (rs := [6, 8]) (by kernel_rfl) (by decide) ?_
        intro i hi
        simp only [List.mem_cons, List.not_mem_nil, or_false] at hi
        rcases hi with rfl | rfl
        · skip
          refine wpOp_of_list (o := ⟨some 18, Op.buildSlice 23 1 #[(0 , Operand.tmp 17)], _, _, _, none⟩) rfl ?_
          refine wpList_lit rfl _ _ rfl elt_rt [.agg (rtA wrt)] rfl (by decide) (by decide) (fun v hv => by rw [List.mem_singleton.1 hv]; exact rtA_size _) rfl ?_
          intro x3 hBg18 hog18 hy3 hs
          obtain ⟨g18, hgg18, hBg18⟩ : ∃ g, g = _ ∧ Bk x3 g 42 (rtL wrt).toArray := ⟨_, rfl, bk_list (l := rtL wrt) hBg18 rfl⟩
          rw [← hgg18]
          have ng14g18 : g14 ≠ g18 := Nat.ne_of_lt (Nat.lt_of_lt_of_le hBg14.lt (Nat.le_of_eq hgg18.symm))
          clear hgg18 hs hog18
          have hx3 := bel_tr hx2 hy3
          have hBg14 := hBg14.bel hy3
          show _ ∧ _
          refine ⟨hx3, ?_⟩
          simp only [Act.put, List.setIfInBounds_toArray, List.set_cons_zero, List.set_cons_succ]
          refine wpAnyH_take (i := 7) (oi := ⟨some 19, Op.build 26 #[(0 , Operand.tmp 14), (1 , Operand.tmp 18)], _, _, _, none⟩) (v := Value.agg #[.slice (some ⟨g14, 0, none⟩) 2 2, .slice (some ⟨g18, 0, none⟩) 1 1, .slice none 0 0]) rfl (by kernel_rfl) (by kernel_rfl) (by kernel_rfl) (fun _ _ _ h => nomatch h.1) (yieldsIf_buildL (by rfl) 26 _ rfl (built_wnt g14 g18) rfl) hx3 ?_
          simp only [Act.put, List.setIfInBounds_toArray, List.set_cons_zero, List.set_cons_succ]
          refine wpAnyH_all (rs := [8]) (by kernel_rfl) (by decide) ?_
          intro i hi
          obtain rfl := List.mem_singleton.1 hi
          refine wpOp_of_list (o := ⟨some 3, Op.alloc 26, _, _, _, none⟩) rfl ?_
          refine wpList_allocZ rfl _ rfl net_zero ?_
          intro g3 x4 hgg3 hBg3 hy4 hs
          have hlg3 : w6.heap.size ≤ g3 := Nat.le_trans (hx3 : Below w6.heap.size w6 _).size (Nat.le_of_eq hgg3.symm)
          have ng14g3 : g14 ≠ g3 := Nat.ne_of_lt (Nat.lt_of_lt_of_le hBg14.lt (Nat.le_of_eq hgg3.symm))
          have ng18g3 : g18 ≠ g3 := Nat.ne_of_lt (Nat.lt_of_lt_of_le hBg18.lt (Nat.le_of_eq hgg3.symm))
          clear hgg3 hs
          have hx4 := bel_tr hx3 hy4
          have hBg14 := hBg14.bel hy4
          have hBg18 := hBg18.bel hy4
          show _ ∧ _
          refine ⟨hx4, ?_⟩
          simp only [Act.put, List.setIfInBounds_toArray, List.set_cons_zero, List.set_cons_succ]
          refine wpAnyH_all (rs := [9]) (by kernel_rfl) (by decide) ?_
          intro i hi
          obtain rfl := List.mem_singleton.1 hi
          refine wpOp_of_list (o := ⟨none, Op.store 26 (Operand.tmp 3) (Operand.tmp 19), _, _, _, none⟩) rfl ?_
          refine wpList_storeB rfl _ _ _ rfl rfl rfl hBg3 net_size rfl (by simp [Value.oneCell']) ?_
          intro x5 hBz hSz
          have hx5 := (hx4 : Below w6.heap.size w6 _).trans (hSz.below hlg3)
          have hA := hBg14.stays hSz (by first | exact ng14g3 | exact Ne.symm ng3g14)
          have hC := hBg18.stays hSz (by first | exact ng18g3 | exact Ne.symm ng3g18)
          show _ ∧ _
          refine ⟨hx5, ?_⟩
          simp only [Act.put]
          refine wpAnyH_done (by kernel_rfl) ?_ _
          exact ⟨rfl, g14, g18, g3, rfl, hA, hC, hBz, hx5⟩
        · skip
          refine wpOp_of_list (o := ⟨some 3, Op.alloc 26, _, _, _, none⟩) rfl ?_
          refine wpList_allocZ rfl _ rfl net_zero ?_
          intro g3 x3 hgg3 hBg3 hy3 hs
          have hlg3 : w6.heap.size ≤ g3 := Nat.le_trans (hx2 : Below w6.heap.size w6 _).size (Nat.le_of_eq hgg3.symm)
          have ng14g3 : g14 ≠ g3 := Nat.ne_of_lt (Nat.lt_of_lt_of_le hBg14.lt (Nat.le_of_eq hgg3.symm))
          clear hgg3 hs
          have hx3 := bel_tr hx2 hy3
          have hBg14 := hBg14.bel hy3
          show _ ∧ _
          refine ⟨hx3, ?_⟩
          simp only [Act.put, List.setIfInBounds_toArray, List.set_cons_zero, List.set_cons_succ]
          refine wpAnyH_all (rs := [6]) (by kernel_rfl) (by decide) ?_
          intro i hi
          obtain rfl := List.mem_singleton.1 hi
          refine wpOp_of_list (o := ⟨some 18, Op.buildSlice 23 1 #[(0 , Operand.tmp 17)], _, _, _, none⟩) rfl ?_
          refine wpList_lit rfl _ _ rfl elt_rt [.agg (rtA wrt)] rfl (by decide) (by decide) (fun v hv => by rw [List.mem_singleton.1 hv]; exact rtA_size _) rfl ?_
          intro x4 hBg18 hog18 hy4 hs
          obtain ⟨g18, hgg18, hBg18⟩ : ∃ g, g = _ ∧ Bk x4 g 42 (rtL wrt).toArray := ⟨_, rfl, bk_list (l := rtL wrt) hBg18 rfl⟩
          rw [← hgg18]
          have ng14g18 : g14 ≠ g18 := Nat.ne_of_lt (Nat.lt_of_lt_of_le hBg14.lt (Nat.le_of_eq hgg18.symm))
          have ng3g18 : g3 ≠ g18 := Nat.ne_of_lt (Nat.lt_of_lt_of_le hBg3.lt (Nat.le_of_eq hgg18.symm))
          clear hgg18 hs hog18
          have hx4 := bel_tr hx3 hy4
          have hBg14 := hBg14.bel hy4
          have hBg3 := hBg3.bel hy4
          show _ ∧ _
          refine ⟨hx4, ?_⟩
          simp only [Act.put, List.setIfInBounds_toArray, List.set_cons_zero, List.set_cons_succ]
          refine wpAnyH_take (i := 7) (oi := ⟨some 19, Op.build 26 #[(0 , Operand.tmp 14), (1 , Operand.tmp 18)], _, _, _, none⟩) (v := Value.agg #[.slice (some ⟨g14, 0, none⟩) 2 2, .slice (some ⟨g18, 0, none⟩) 1 1, .slice none 0 0]) rfl (by kernel_rfl) (by kernel_rfl) (by kernel_rfl) (fun _ _ _ h => nomatch h.1) (yieldsIf_buildL (by rfl) 26 _ rfl (built_wnt g14 g18) rfl) hx4 ?_
          simp only [Act.put, List.setIfInBounds_toArray, List.set_cons_zero, List.set_cons_succ]
          refine wpAnyH_all (rs := [9]) (by kernel_rfl) (by decide) ?_
          intro i hi
          obtain rfl := List.mem_singleton.1 hi
          refine wpOp_of_list (o := ⟨none, Op.store 26 (Operand.tmp 3) (Operand.tmp 19), _, _, _, none⟩) rfl ?_
          refine wpList_storeB rfl _ _ _ rfl rfl rfl hBg3 net_size rfl (by simp [Value.oneCell']) ?_
          intro x5 hBz hSz
          have hx5 := (hx4 : Below w6.heap.size w6 _).trans (hSz.below hlg3)
          have hA := hBg14.stays hSz (by first | exact ng14g3 | exact Ne.symm ng3g14)
          have hC := hBg18.stays hSz (by first | exact ng18g3 | exact Ne.symm ng3g18)
          show _ ∧ _
          refine ⟨hx5, ?_⟩
          simp only [Act.put]
          refine wpAnyH_done (by kernel_rfl) ?_ _
          exact ⟨rfl, g14, g18, g3, rfl, hA, hC, hBz, hx5⟩
      · skip
        refine wpOp_of_list (o := ⟨some 3, Op.alloc 26, _, _, _, none⟩) rfl ?_
        refine wpList_allocZ rfl _ rfl net_zero ?_
        intro g3 x2 hgg3 hBg3 hy2 hs
        have hlg3 : w6.heap.size ≤ g3 := Nat.le_trans (hx1 : Below w6.heap.size w6 _).size (Nat.le_of_eq hgg3.symm)
        have ng14g3 : g14 ≠ g3 := Nat.ne_of_lt (Nat.lt_of_lt_of_le hBg14.lt (Nat.le_of_eq hgg3.symm))
        clear hgg3 hs
        have hx2 := bel_tr hx1 hy2
        have hBg14 := hBg14.bel hy2
        show _ ∧ _
        refine ⟨hx2, ?_⟩
        simp only [Act.put, List.setIfInBounds_toArray, List.set_cons_zero, List.set_cons_succ]
        refine wpAnyH_all (rs := [3]) (by kernel_rfl) (by decide) ?_
        intro i hi
        obtain rfl := List.mem_singleton.1 hi
        refine wpOp_callM (o := ⟨some 15, Op.call { callee := Callee.value (Operand.func 7), args := #[Operand.const (Value.int IntKind.i64 0), Operand.const (Value.int IntKind.i64 0), Operand.const (Value.int IntKind.i64 0), Operand.const (Value.int IntKind.i64 0)], argTypes := #[3, 3, 3, 3] }, _, _, _, none⟩) rfl (by rfl) (by go_simp) (rof_0 _) ?_
        rintro e x3 ⟨rfl, hy3⟩
        have hx3 := bel_tr hx2 hy3
        have hBg14 := hBg14.bel hy3
        have hBg3 := hBg3.bel hy3
        refine ⟨_, rfl, ?_⟩
        show _ ∧ _
        refine ⟨hx3, ?_⟩
        simp only [Act.put, List.setIfInBounds_toArray, List.set_cons_zero, List.set_cons_succ]
        refine wpAnyH_take (i := 4) (oi := ⟨some 16, Op.build 40 #[(0 , Operand.tmp 15)], _, _, _, none⟩) (v := Value.agg (pfA ⟨adOf 0 0 0 0, 0, by decide⟩)) rfl (by kernel_rfl) (by kernel_rfl) (by kernel_rfl) (fun _ _ _ h => nomatch h.1) (yieldsIf_buildL (by rfl) 40 _ rfl built_wpf rfl) hx3 ?_
        simp only [Act.put, List.setIfInBounds_toArray, List.set_cons_zero, List.set_cons_succ]
        refine wpAnyH_take (i := 5) (oi := ⟨some 17, Op.build 42 #[(0 , Operand.tmp 16), (1 , Operand.const (Value.int IntKind.i64 1))], _, _, _, none⟩) (v := Value.agg (rtA wrt)) rfl (by kernel_rfl) (by kernel_rfl) (by kernel_rfl) (fun _ _ _ h => nomatch h.1) (yieldsIf_buildL (by rfl) 42 _ rfl built_wrt rfl) hx3 ?_
        simp only [Act.put, List.setIfInBounds_toArray, List.set_cons_zero, List.set_cons_succ]
        refine wpAnyH_all (rs := [6]) (by kernel_rfl) (by decide) ?_
        intro i hi
        obtain rfl := List.mem_singleton.1 hi
        refine wpOp_of_list (o := ⟨some 18, Op.buildSlice 23 1 #[(0 , Operand.tmp 17)], _, _, _, none⟩) rfl ?_
        refine wpList_lit rfl _ _ rfl elt_rt [.agg (rtA wrt)] rfl (by decide) (by decide) (fun v hv => by rw [List.mem_singleton.1 hv]; exact rtA_size _) rfl ?_
        intro x4 hBg18 hog18 hy4 hs
        obtain ⟨g18, hgg18, hBg18⟩ : ∃ g, g = _ ∧ Bk x4 g 42 (rtL wrt).toArray := ⟨_, rfl, bk_list (l := rtL wrt) hBg18 rfl⟩
        rw [← hgg18]
        have ng14g18 : g14 ≠ g18 := Nat.ne_of_lt (Nat.lt_of_lt_of_le hBg14.lt (Nat.le_of_eq hgg18.symm))
        have ng3g18 : g3 ≠ g18 := Nat.ne_of_lt (Nat.lt_of_lt_of_le hBg3.lt (Nat.le_of_eq hgg18.symm))
        clear hgg18 hs hog18
        have hx4 := bel_tr hx3 hy4
        have hBg14 := hBg14.bel hy4
        have hBg3 := hBg3.bel hy4
        show _ ∧ _
        refine ⟨hx4, ?_⟩
        simp only [Act.put, List.setIfInBounds_toArray, List.set_cons_zero, List.set_cons_succ]
        refine wpAnyH_take (i := 7) (oi := ⟨some 19, Op.build 26 #[(0 , Operand.tmp 14), (1 , Operand.tmp 18)], _, _, _, none⟩) (v := Value.agg #[.slice (some ⟨g14, 0, none⟩) 2 2, .slice (some ⟨g18, 0, none⟩) 1 1, .slice none 0 0]) rfl (by kernel_rfl) (by kernel_rfl) (by kernel_rfl) (fun _ _ _ h => nomatch h.1) (yieldsIf_buildL (by rfl) 26 _ rfl (built_wnt g14 g18) rfl) hx4 ?_
        simp only [Act.put, List.setIfInBounds_toArray, List.set_cons_zero, List.set_cons_succ]
        refine wpAnyH_all (rs := [9]) (by kernel_rfl) (by decide) ?_
        intro i hi
        obtain rfl := List.mem_singleton.1 hi
        refine wpOp_of_list (o := ⟨none, Op.store 26 (Operand.tmp 3) (Operand.tmp 19), _, _, _, none⟩) rfl ?_
        refine wpList_storeB rfl _ _ _ rfl rfl rfl hBg3 net_size rfl (by simp [Value.oneCell']) ?_
        intro x5 hBz hSz
        have hx5 := (hx4 : Below w6.heap.size w6 _).trans (hSz.below hlg3)
        have hA := hBg14.stays hSz (by first | exact ng14g3 | exact Ne.symm ng3g14)
        have hC := hBg18.stays hSz (by first | exact ng18g3 | exact Ne.symm ng3g18)
        show _ ∧ _
        refine ⟨hx5, ?_⟩
        simp only [Act.put]
        refine wpAnyH_done (by kernel_rfl) ?_ _
        exact ⟨rfl, g14, g18, g3, rfl, hA, hC, hBz, hx5⟩
    · skip
      refine wpOp_callM (o := ⟨some 15, Op.call { callee := Callee.value (Operand.func 7), args := #[Operand.const (Value.int IntKind.i64 0), Operand.const (Value.int IntKind.i64 0), Operand.const (Value.int IntKind.i64 0), Operand.const (Value.int IntKind.i64 0)], argTypes := #[3, 3, 3, 3] }, _, _, _, none⟩) rfl (by rfl) (by go_simp) (rof_0 _) ?_
      rintro e x1 ⟨rfl, hy1⟩
      have hx1 := bel_drew hy1
      refine ⟨_, rfl, ?_⟩
      show _ ∧ _
      refine ⟨hx1, ?_⟩
      simp only [Act.put, List.setIfInBounds_toArray, List.set_cons_zero, List.set_cons_succ]
      refine wpAnyH_take (i := 4) (oi := ⟨some 16, Op.build 40 #[(0 , Operand.tmp 15)], _, _, _, none⟩) (v := Value.agg (pfA ⟨adOf 0 0 0 0, 0, by decide⟩)) rfl (by kernel_rfl) (by kernel_rfl) (by kernel_rfl) (fun _ _ _ h => nomatch h.1) (yieldsIf_buildL (by rfl) 40 _ rfl built_wpf rfl) hx1 ?_
      simp only [Act.put, List.setIfInBounds_toArray, List.set_cons_zero, List.set_cons_succ]
      refine wpAnyH_take (i := 5) (oi := ⟨some 17, Op.build 42 #[(0 , Operand.tmp 16), (1 , Operand.const (Value.int IntKind.i64 1))], _, _, _, none⟩) (v := Value.agg (rtA wrt)) rfl (by kernel_rfl) (by kernel_rfl) (by kernel_rfl) (fun _ _ _ h => nomatch h.1) (yieldsIf_buildL (by rfl) 42 _ rfl built_wrt rfl) hx1 ?_
      simp only [Act.put, List.setIfInBounds_toArray, List.set_cons_zero, List.set_cons_succ]
      refine wpAnyH_all (rs := [2, 6, 8]) (by kernel_rfl) (by decide) ?_
      intro i hi
      simp only [List.mem_cons, List.not_mem_nil, or_false] at hi
      rcases hi with rfl | rfl | rfl
      · skip
        refine wpOp_of_list (o := ⟨some 14, Op.buildSlice 22 2 #[(0 , Operand.tmp 12), (1 , Operand.tmp 13)], _, _, _, none⟩) rfl ?_
        refine wpList_lit rfl _ _ rfl elt_ifc [.agg (ifcA wib), .agg (ifcA wia)] rfl (by decide) (by decide) (fun v hv => by simp at hv; rcases hv with rfl | rfl <;> exact ifcA_size _) rfl ?_
        intro x2 hBg14 hog14 hy2 hs
        obtain ⟨g14, hgg14, hBg14⟩ : ∃ g, g = _ ∧ Bk x2 g 31 (ifcL wib ++ ifcL wia).toArray := ⟨_, rfl, by simpa [ifcA, Value.cells] using hBg14⟩
        rw [← hgg14]
        clear hgg14 hs hog14
        have hx2 := bel_tr hx1 hy2
        show _ ∧ _
        refine ⟨hx2, ?_⟩
        simp only [Act.put, List.setIfInBounds_toArray, List.set_cons_zero, List.set_cons_succ]
        refine wpAnyH_all (rs := [6, 8]) (by kernel_rfl) (by decide) ?_
        intro i hi
        simp only [List.mem_cons, List.not_mem_nil, or_false] at hi
        rcases hi with rfl | rfl
        · skip
          refine wpOp_of_list (o := ⟨some 18, Op.buildSlice 23 1 #[(0 , Operand.tmp 17)], _, _, _, none⟩) rfl ?_
          refine wpList_lit rfl _ _ rfl elt_rt [.agg (rtA wrt)] rfl (by decide) (by decide) (fun v hv => by rw [List.mem_singleton.1 hv]; exact rtA_size _) rfl ?_
          intro x3 hBg18 hog18 hy3 hs
          obtain ⟨g18, hgg18, hBg18⟩ : ∃ g, g = _ ∧ Bk x3 g 42 (rtL wrt).toArray := ⟨_, rfl, bk_list (l := rtL wrt) hBg18 rfl⟩
          rw [← hgg18]
          have ng14g18 : g14 ≠ g18 := Nat.ne_of_lt (Nat.lt_of_lt_of_le hBg14.lt (Nat.le_of_eq hgg18.symm))
          clear hgg18 hs hog18
          have hx3 := bel_tr hx2 hy3
          have hBg14 := hBg14.bel hy3
          show _ ∧ _
          refine ⟨hx3, ?_⟩
          simp only [Act.put, List.setIfInBounds_toArray, List.set_cons_zero, List.set_cons_succ]
          refine wpAnyH_take (i := 7) (oi := ⟨some 19, Op.build 26 #[(0 , Operand.tmp 14), (1 , Operand.tmp 18)], _, _, _, none⟩) (v := Value.agg #[.slice (some ⟨g14, 0, none⟩) 2 2, .slice (some ⟨g18, 0, none⟩) 1 1, .slice none 0 0]) rfl (by kernel_rfl) (by kernel_rfl) (by kernel_rfl) (fun _ _ _ h => nomatch h.1) (yieldsIf_buildL (by rfl) 26 _ rfl (built_wnt g14 g18) rfl) hx3 ?_
          simp only [Act.put, List.setIfInBounds_toArray, List.set_cons_zero, List.set_cons_succ]
          refine wpAnyH_all (rs := [8]) (by kernel_rfl) (by decide) ?_
          intro i hi
          obtain rfl := List.mem_singleton.1 hi
          refine wpOp_of_list (o := ⟨some 3, Op.alloc 26, _, _, _, none⟩) rfl ?_
          refine wpList_allocZ rfl _ rfl net_zero ?_
          intro g3 x4 hgg3 hBg3 hy4 hs
          have hlg3 : w6.heap.size ≤ g3 := Nat.le_trans (hx3 : Below w6.heap.size w6 _).size (Nat.le_of_eq hgg3.symm)
          have ng14g3 : g14 ≠ g3 := Nat.ne_of_lt (Nat.lt_of_lt_of_le hBg14.lt (Nat.le_of_eq hgg3.symm))
          have ng18g3 : g18 ≠ g3 := Nat.ne_of_lt (Nat.lt_of_lt_of_le hBg18.lt (Nat.le_of_eq hgg3.symm))
          clear hgg3 hs
          have hx4 := bel_tr hx3 hy4
          have hBg14 := hBg14.bel hy4
          have hBg18 := hBg18.bel hy4
          show _ ∧ _
          refine ⟨hx4, ?_⟩
          simp only [Act.put, List.setIfInBounds_toArray, List.set_cons_zero, List.set_cons_succ]
          refine wpAnyH_all (rs := [9]) (by kernel_rfl) (by decide) ?_
          intro i hi
          obtain rfl := List.mem_singleton.1 hi
          refine wpOp_of_list (o := ⟨none, Op.store 26 (Operand.tmp 3) (Operand.tmp 19), _, _, _, none⟩) rfl ?_
          refine wpList_storeB rfl _ _ _ rfl rfl rfl hBg3 net_size rfl (by simp [Value.oneCell']) ?_
          intro x5 hBz hSz
          have hx5 := (hx4 : Below w6.heap.size w6 _).trans (hSz.below hlg3)
          have hA := hBg14.stays hSz (by first | exact ng14g3 | exact Ne.symm ng3g14)
          have hC := hBg18.stays hSz (by first | exact ng18g3 | exact Ne.symm ng3g18)
          show _ ∧ _
          refine ⟨hx5, ?_⟩
          simp only [Act.put]
          refine wpAnyH_done (by kernel_rfl) ?_ _
          exact ⟨rfl, g14, g18, g3, rfl, hA, hC, hBz, hx5⟩
        · skip
          refine wpOp_of_list (o := ⟨some 3, Op.alloc 26, _, _, _, none⟩) rfl ?_
          refine wpList_allocZ rfl _ rfl net_zero ?_
          intro g3 x3 hgg3 hBg3 hy3 hs
          have hlg3 : w6.heap.size ≤ g3 := Nat.le_trans (hx2 : Below w6.heap.size w6 _).size (Nat.le_of_eq hgg3.symm)
          have ng14g3 : g14 ≠ g3 := Nat.ne_of_lt (Nat.lt_of_lt_of_le hBg14.lt (Nat.le_of_eq hgg3.symm))
          clear hgg3 hs
          have hx3 := bel_tr hx2 hy3
          have hBg14 := hBg14.bel hy3
          show _ ∧ _
          refine ⟨hx3, ?_⟩
          simp only [Act.put, List.setIfInBounds_toArray, List.set_cons_zero, List.set_cons_succ]
          refine wpAnyH_all (rs := [6]) (by kernel_rfl) (by decide) ?_
          intro i hi
          obtain rfl := List.mem_singleton.1 hi
          refine wpOp_of_list (o := ⟨some 18, Op.buildSlice 23 1 #[(0 , Operand.tmp 17)], _, _, _, none⟩) rfl ?_
          refine wpList_lit rfl _ _ rfl elt_rt [.agg (rtA wrt)] rfl (by decide) (by decide) (fun v hv => by rw [List.mem_singleton.1 hv]; exact rtA_size _) rfl ?_
          intro x4 hBg18 hog18 hy4 hs
          obtain ⟨g18, hgg18, hBg18⟩ : ∃ g, g = _ ∧ Bk x4 g 42 (rtL wrt).toArray := ⟨_, rfl, bk_list (l := rtL wrt) hBg18 rfl⟩
          rw [← hgg18]
          have ng14g18 : g14 ≠ g18 := Nat.ne_of_lt (Nat.lt_of_lt_of_le hBg14.lt (Nat.le_of_eq hgg18.symm))
          have ng3g18 : g3 ≠ g18 := Nat.ne_of_lt (Nat.lt_of_lt_of_le hBg3.lt (Nat.le_of_eq hgg18.symm))
          clear hgg18 hs hog18
          have hx4 := bel_tr hx3 hy4
          have hBg14 := hBg14.bel hy4
          have hBg3 := hBg3.bel hy4
          show _ ∧ _
          refine ⟨hx4, ?_⟩
          simp only [Act.put, List.setIfInBounds_toArray, List.set_cons_zero, List.set_cons_succ]
          refine wpAnyH_take (i := 7) (oi := ⟨some 19, Op.build 26 #[(0 , Operand.tmp 14), (1 , Operand.tmp 18)], _, _, _, none⟩) (v := Value.agg #[.slice (some ⟨g14, 0, none⟩) 2 2, .slice (some ⟨g18, 0, none⟩) 1 1, .slice none 0 0]) rfl (by kernel_rfl) (by kernel_rfl) (by kernel_rfl) (fun _ _ _ h => nomatch h.1) (yieldsIf_buildL (by rfl) 26 _ rfl (built_wnt g14 g18) rfl) hx4 ?_
          simp only [Act.put, List.setIfInBounds_toArray, List.set_cons_zero, List.set_cons_succ]
          refine wpAnyH_all (rs := [9]) (by kernel_rfl) (by decide) ?_
          intro i hi
          obtain rfl := List.mem_singleton.1 hi
          refine wpOp_of_list (o := ⟨none, Op.store 26 (Operand.tmp 3) (Operand.tmp 19), _, _, _, none⟩) rfl ?_
          refine wpList_storeB rfl _ _ _ rfl rfl rfl hBg3 net_size rfl (by simp [Value.oneCell']) ?_
          intro x5 hBz hSz
          have hx5 := (hx4 : Below w6.heap.size w6 _).trans (hSz.below hlg3)
          have hA := hBg14.stays hSz (by first | exact ng14g3 | exact Ne.symm ng3g14)
          have hC := hBg18.stays hSz (by first | exact ng18g3 | exact Ne.symm ng3g18)
          show _ ∧ _
          refine ⟨hx5, ?_⟩
          simp only [Act.put]
          refine wpAnyH_done (by kernel_rfl) ?_ _
          exact ⟨rfl, g14, g18, g3, rfl, hA, hC, hBz, hx5⟩
      · skip
        refine wpOp_of_list (o := ⟨some 18, Op.buildSlice 23 1 #[(0 , Operand.tmp 17)], _, _, _, none⟩) rfl ?_
        refine wpList_lit rfl _ _ rfl elt_rt [.agg (rtA wrt)] rfl (by decide) (by decide) (fun v hv => by rw [List.mem_singleton.1 hv]; exact rtA_size _) rfl ?_
        intro x2 hBg18 hog18 hy2 hs
        obtain ⟨g18, hgg18, hBg18⟩ : ∃ g, g = _ ∧ Bk x2 g 42 (rtL wrt).toArray := ⟨_, rfl, bk_list (l := rtL wrt) hBg18 rfl⟩
        rw [← hgg18]
        clear hgg18 hs hog18
        have hx2 := bel_tr hx1 hy2
        show _ ∧ _
        refine ⟨hx2, ?_⟩
        simp only [Act.put, List.setIfInBounds_toArray, List.set_cons_zero, List.set_cons_succ]
        refine wpAnyH_all (rs := [2, 8]) (by kernel_rfl) (by decide) ?_
        intro i hi
        simp only [List.mem_cons, List.not_mem_nil, or_false] at hi
        rcases hi with rfl | rfl
        · skip
          refine wpOp_of_list (o := ⟨some 14, Op.buildSlice 22 2 #[(0 , Operand.tmp 12), (1 , Operand.tmp 13)], _, _, _, none⟩) rfl ?_
          refine wpList_lit rfl _ _ rfl elt_ifc [.agg (ifcA wib), .agg (ifcA wia)] rfl (by decide) (by decide) (fun v hv => by simp at hv; rcases hv with rfl | rfl <;> exact ifcA_size _) rfl ?_
          intro x3 hBg14 hog14 hy3 hs
          obtain ⟨g14, hgg14, hBg14⟩ : ∃ g, g = _ ∧ Bk x3 g 31 (ifcL wib ++ ifcL wia).toArray := ⟨_, rfl, by simpa [ifcA, Value.cells] using hBg14⟩
          rw [← hgg14]
          have ng18g14 : g18 ≠ g14 := Nat.ne_of_lt (Nat.lt_of_lt_of_le hBg18.lt (Nat.le_of_eq hgg14.symm))
          clear hgg14 hs hog14
          have hx3 := bel_tr hx2 hy3
          have hBg18 := hBg18.bel hy3
          show _ ∧ _
          refine ⟨hx3, ?_⟩
          simp only [Act.put, List.setIfInBounds_toArray, List.set_cons_zero, List.set_cons_succ]
          refine wpAnyH_take (i := 7) (oi := ⟨some 19, Op.build 26 #[(0 , Operand.tmp 14), (1 , Operand.tmp 18)], _, _, _, none⟩) (v := Value.agg #[.slice (some ⟨g14, 0, none⟩) 2 2, .slice (some ⟨g18, 0, none⟩) 1 1, .slice none 0 0]) rfl (by kernel_rfl) (by kernel_rfl) (by kernel_rfl) (fun _ _ _ h => nomatch h.1) (yieldsIf_buildL (by rfl) 26 _ rfl (built_wnt g14 g18) rfl) hx3 ?_
          simp only [Act.put, List.setIfInBounds_toArray, List.set_cons_zero, List.set_cons_succ]
          refine wpAnyH_all (rs := [8]) (by kernel_rfl) (by decide) ?_
          intro i hi
          obtain rfl := List.mem_singleton.1 hi
          refine wpOp_of_list (o := ⟨some 3, Op.alloc 26, _, _, _, none⟩) rfl ?_
          refine wpList_allocZ rfl _ rfl net_zero ?_
          intro g3 x4 hgg3 hBg3 hy4 hs
          have hlg3 : w6.heap.size ≤ g3 := Nat.le_trans (hx3 : Below w6.heap.size w6 _).size (Nat.le_of_eq hgg3.symm)
          have ng18g3 : g18 ≠ g3 := Nat.ne_of_lt (Nat.lt_of_lt_of_le hBg18.lt (Nat.le_of_eq hgg3.symm))
          have ng14g3 : g14 ≠ g3 := Nat.ne_of_lt (Nat.lt_of_lt_of_le hBg14.lt (Nat.le_of_eq hgg3.symm))
          clear hgg3 hs
          have hx4 := bel_tr hx3 hy4
          have hBg18 := hBg18.bel hy4
          have hBg14 := hBg14.bel hy4
          show _ ∧ _
          refine ⟨hx4, ?_⟩
          simp only [Act.put, List.setIfInBounds_toArray, List.set_cons_zero, List.set_cons_succ]
          refine wpAnyH_all (rs := [9]) (by kernel_rfl) (by decide) ?_
          intro i hi
          obtain rfl := List.mem_singleton.1 hi
          refine wpOp_of_list (o := ⟨none, Op.store 26 (Operand.tmp 3) (Operand.tmp 19), _, _, _, none⟩) rfl ?_
          refine wpList_storeB rfl _ _ _ rfl rfl rfl hBg3 net_size rfl (by simp [Value.oneCell']) ?_
          intro x5 hBz hSz
          have hx5 := (hx4 : Below w6.heap.size w6 _).trans (hSz.below hlg3)
          have hA := hBg14.stays hSz (by first | exact ng14g3 | exact Ne.symm ng3g14)
          have hC := hBg18.stays hSz (by first | exact ng18g3 | exact Ne.symm ng3g18)
          show _ ∧ _
          refine ⟨hx5, ?_⟩
          simp only [Act.put]
          refine wpAnyH_done (by kernel_rfl) ?_ _
          exact ⟨rfl, g14, g18, g3, rfl, hA, hC, hBz, hx5⟩
        · skip
          refine wpOp_of_list (o := ⟨some 3, Op.alloc 26, _, _, _, none⟩) rfl ?_
          refine wpList_allocZ rfl _ rfl net_zero ?_
          intro g3 x3 hgg3 hBg3 hy3 hs
          have hlg3 : w6.heap.size ≤ g3 := Nat.le_trans (hx2 : Below w6.heap.size w6 _).size (Nat.le_of_eq hgg3.symm)
          have ng18g3 : g18 ≠ g3 := Nat.ne_of_lt (Nat.lt_of_lt_of_le hBg18.lt (Nat.le_of_eq hgg3.symm))
          clear hgg3 hs
          have hx3 := bel_tr hx2 hy3
          have hBg18 := hBg18.bel hy3
          show _ ∧ _
          refine ⟨hx3, ?_⟩
          simp only [Act.put, List.setIfInBounds_toArray, List.set_cons_zero, List.set_cons_succ]
          refine wpAnyH_all (rs := [2]) (by kernel_rfl) (by decide) ?_
          intro i hi
          obtain rfl := List.mem_singleton.1 hi
          refine wpOp_of_list (o := ⟨some 14, Op.buildSlice 22 2 #[(0 , Operand.tmp 12), (1 , Operand.tmp 13)], _, _, _, none⟩) rfl ?_
          refine wpList_lit rfl _ _ rfl elt_ifc [.agg (ifcA wib), .agg (ifcA wia)] rfl (by decide) (by decide) (fun v hv => by simp at hv; rcases hv with rfl | rfl <;> exact ifcA_size _) rfl ?_
          intro x4 hBg14 hog14 hy4 hs
          obtain ⟨g14, hgg14, hBg14⟩ : ∃ g, g = _ ∧ Bk x4 g 31 (ifcL wib ++ ifcL wia).toArray := ⟨_, rfl, by simpa [ifcA, Value.cells] using hBg14⟩
          rw [← hgg14]
          have ng18g14 : g18 ≠ g14 := Nat.ne_of_lt (Nat.lt_of_lt_of_le hBg18.lt (Nat.le_of_eq hgg14.symm))
          have ng3g14 : g3 ≠ g14 := Nat.ne_of_lt (Nat.lt_of_lt_of_le hBg3.lt (Nat.le_of_eq hgg14.symm))
          clear hgg14 hs hog14
          have hx4 := bel_tr hx3 hy4
          have hBg18 := hBg18.bel hy4
          have hBg3 := hBg3.bel hy4
          show _ ∧ _
          refine ⟨hx4, ?_⟩
          simp only [Act.put, List.setIfInBounds_toArray, List.set_cons_zero, List.set_cons_succ]
          refine wpAnyH_take (i := 7) (oi := ⟨some 19, Op.build 26 #[(0 , Operand.tmp 14), (1 , Operand.tmp 18)], _, _, _, none⟩) (v := Value.agg #[.slice (some ⟨g14, 0, none⟩) 2 2, .slice (some ⟨g18, 0, none⟩) 1 1, .slice none 0 0]) rfl (by kernel_rfl) (by kernel_rfl) (by kernel_rfl) (fun _ _ _ h => nomatch h.1) (yieldsIf_buildL (by rfl) 26 _ rfl (built_wnt g14 g18) rfl) hx4 ?_
          simp only [Act.put, List.setIfInBounds_toArray, List.set_cons_zero, List.set_cons_succ]
          refine wpAnyH_all (rs := [9]) (by kernel_rfl) (by decide) ?_
          intro i hi
          obtain rfl := List.mem_singleton.1 hi
          refine wpOp_of_list (o := ⟨none, Op.store 26 (Operand.tmp 3) (Operand.tmp 19), _, _, _, none⟩) rfl ?_
          refine wpList_storeB rfl _ _ _ rfl rfl rfl hBg3 net_size rfl (by simp [Value.oneCell']) ?_
          intro x5 hBz hSz
          have hx5 := (hx4 : Below w6.heap.size w6 _).trans (hSz.below hlg3)
          have hA := hBg14.stays hSz (by first | exact ng14g3 | exact Ne.symm ng3g14)
          have hC := hBg18.stays hSz (by first | exact ng18g3 | exact Ne.symm ng3g18)
          show _ ∧ _
          refine ⟨hx5, ?_⟩
          simp only [Act.put]
          refine wpAnyH_done (by kernel_rfl) ?_ _
          exact ⟨rfl, g14, g18, g3, rfl, hA, hC, hBz, hx5⟩
      · skip
        refine wpOp_of_list (o := ⟨some 3, Op.alloc 26, _, _, _, none⟩) rfl ?_
        refine wpList_allocZ rfl _ rfl net_zero ?_
        intro g3 x2 hgg3 hBg3 hy2 hs
        have hlg3 : w6.heap.size ≤ g3 := Nat.le_trans (hx1 : Below w6.heap.size w6 _).size (Nat.le_of_eq hgg3.symm)
        clear hgg3 hs
        have hx2 := bel_tr hx1 hy2
        show _ ∧ _
        refine ⟨hx2, ?_⟩
        simp only [Act.put, List.setIfInBounds_toArray, List.set_cons_zero, List.set_cons_succ]
        refine wpAnyH_all (rs := [2, 6]) (by kernel_rfl) (by decide) ?_
        intro i hi
        simp only [List.mem_cons, List.not_mem_nil, or_false] at hi
        rcases hi with rfl | rfl
        · skip
          refine wpOp_of_list (o := ⟨some 14, Op.buildSlice 22 2 #[(0 , Operand.tmp 12), (1 , Operand.tmp 13)], _, _, _, none⟩) rfl ?_
          refine wpList_lit rfl _ _ rfl elt_ifc [.agg (ifcA wib), .agg (ifcA wia)] rfl (by decide) (by decide) (fun v hv => by simp at hv; rcases hv with rfl | rfl <;> exact ifcA_size _) rfl ?_
          intro x3 hBg14 hog14 hy3 hs
          obtain ⟨g14, hgg14, hBg14⟩ : ∃ g, g = _ ∧ Bk x3 g 31 (ifcL wib ++ ifcL wia).toArray := ⟨_, rfl, by simpa [ifcA, Value.cells] using hBg14⟩
          rw [← hgg14]
          have ng3g14 : g3 ≠ g14 := Nat.ne_of_lt (Nat.lt_of_lt_of_le hBg3.lt (Nat.le_of_eq hgg14.symm))
          clear hgg14 hs hog14
          have hx3 := bel_tr hx2 hy3
          have hBg3 := hBg3.bel hy3
          show _ ∧ _
          refine ⟨hx3, ?_⟩
          simp only [Act.put, List.setIfInBounds_toArray, List.set_cons_zero, List.set_cons_succ]
          refine wpAnyH_all (rs := [6]) (by kernel_rfl) (by decide) ?_
          intro i hi
          obtain rfl := List.mem_singleton.1 hi
          refine wpOp_of_list (o := ⟨some 18, Op.buildSlice 23 1 #[(0 , Operand.tmp 17)], _, _, _, none⟩) rfl ?_
          refine wpList_lit rfl _ _ rfl elt_rt [.agg (rtA wrt)] rfl (by decide) (by decide) (fun v hv => by rw [List.mem_singleton.1 hv]; exact rtA_size _) rfl ?_
          intro x4 hBg18 hog18 hy4 hs
          obtain ⟨g18, hgg18, hBg18⟩ : ∃ g, g = _ ∧ Bk x4 g 42 (rtL wrt).toArray := ⟨_, rfl, bk_list (l := rtL wrt) hBg18 rfl⟩
          rw [← hgg18]
          have ng3g18 : g3 ≠ g18 := Nat.ne_of_lt (Nat.lt_of_lt_of_le hBg3.lt (Nat.le_of_eq hgg18.symm))
          have ng14g18 : g14 ≠ g18 := Nat.ne_of_lt (Nat.lt_of_lt_of_le hBg14.lt (Nat.le_of_eq hgg18.symm))
          clear hgg18 hs hog18
          have hx4 := bel_tr hx3 hy4
          have hBg3 := hBg3.bel hy4
          have hBg14 := hBg14.bel hy4
          show _ ∧ _
          refine ⟨hx4, ?_⟩
          simp only [Act.put, List.setIfInBounds_toArray, List.set_cons_zero, List.set_cons_succ]
          refine wpAnyH_take (i := 7) (oi := ⟨some 19, Op.build 26 #[(0 , Operand.tmp 14), (1 , Operand.tmp 18)], _, _, _, none⟩) (v := Value.agg #[.slice (some ⟨g14, 0, none⟩) 2 2, .slice (some ⟨g18, 0, none⟩) 1 1, .slice none 0 0]) rfl (by kernel_rfl) (by kernel_rfl) (by kernel_rfl) (fun _ _ _ h => nomatch h.1) (yieldsIf_buildL (by rfl) 26 _ rfl (built_wnt g14 g18) rfl) hx4 ?_
          simp only [Act.put, List.setIfInBounds_toArray, List.set_cons_zero, List.set_cons_succ]
          refine wpAnyH_all (rs := [9]) (by kernel_rfl) (by decide) ?_
          intro i hi
          obtain rfl := List.mem_singleton.1 hi
          refine wpOp_of_list (o := ⟨none, Op.store 26 (Operand.tmp 3) (Operand.tmp 19), _, _, _, none⟩) rfl ?_
          refine wpList_storeB rfl _ _ _ rfl rfl rfl hBg3 net_size rfl (by simp [Value.oneCell']) ?_
          intro x5 hBz hSz
          have hx5 := (hx4 : Below w6.heap.size w6 _).trans (hSz.below hlg3)
          have hA := hBg14.stays hSz (by first | exact ng14g3 | exact Ne.symm ng3g14)
          have hC := hBg18.stays hSz (by first | exact ng18g3 | exact Ne.symm ng3g18)
          show _ ∧ _
          refine ⟨hx5, ?_⟩
          simp only [Act.put]
          refine wpAnyH_done (by kernel_rfl) ?_ _
          exact ⟨rfl, g14, g18, g3, rfl, hA, hC, hBz, hx5⟩
        · skip
          refine wpOp_of_list (o := ⟨some 18, Op.buildSlice 23 1 #[(0 , Operand.tmp 17)], _, _, _, none⟩) rfl ?_
          refine wpList_lit rfl _ _ rfl elt_rt [.agg (rtA wrt)] rfl (by decide) (by decide) (fun v hv => by rw [List.mem_singleton.1 hv]; exact rtA_size _) rfl ?_
          intro x3 hBg18 hog18 hy3 hs
          obtain ⟨g18, hgg18, hBg18⟩ : ∃ g, g = _ ∧ Bk x3 g 42 (rtL wrt).toArray := ⟨_, rfl, bk_list (l := rtL wrt) hBg18 rfl⟩
          rw [← hgg18]
          have ng3g18 : g3 ≠ g18 := Nat.ne_of_lt (Nat.lt_of_lt_of_le hBg3.lt (Nat.le_of_eq hgg18.symm))
          clear hgg18 hs hog18
          have hx3 := bel_tr hx2 hy3
          have hBg3 := hBg3.bel hy3
          show _ ∧ _
          refine ⟨hx3, ?_⟩
          simp only [Act.put, List.setIfInBounds_toArray, List.set_cons_zero, List.set_cons_succ]
          refine wpAnyH_all (rs := [2]) (by kernel_rfl) (by decide) ?_
          intro i hi
          obtain rfl := List.mem_singleton.1 hi
          refine wpOp_of_list (o := ⟨some 14, Op.buildSlice 22 2 #[(0 , Operand.tmp 12), (1 , Operand.tmp 13)], _, _, _, none⟩) rfl ?_
          refine wpList_lit rfl _ _ rfl elt_ifc [.agg (ifcA wib), .agg (ifcA wia)] rfl (by decide) (by decide) (fun v hv => by simp at hv; rcases hv with rfl | rfl <;> exact ifcA_size _) rfl ?_
          intro x4 hBg14 hog14 hy4 hs
          obtain ⟨g14, hgg14, hBg14⟩ : ∃ g, g = _ ∧ Bk x4 g 31 (ifcL wib ++ ifcL wia).toArray := ⟨_, rfl, by simpa [ifcA, Value.cells] using hBg14⟩
          rw [← hgg14]
          have ng3g14 : g3 ≠ g14 := Nat.ne_of_lt (Nat.lt_of_lt_of_le hBg3.lt (Nat.le_of_eq hgg14.symm))
          have ng18g14 : g18 ≠ g14 := Nat.ne_of_lt (Nat.lt_of_lt_of_le hBg18.lt (Nat.le_of_eq hgg14.symm))
          clear hgg14 hs hog14
          have hx4 := bel_tr hx3 hy4
          have hBg3 := hBg3.bel hy4
          have hBg18 := hBg18.bel hy4
          show _ ∧ _
          refine ⟨hx4, ?_⟩
          simp only [Act.put, List.setIfInBounds_toArray, List.set_cons_zero, List.set_cons_succ]
          refine wpAnyH_take (i := 7) (oi := ⟨some 19, Op.build 26 #[(0 , Operand.tmp 14), (1 , Operand.tmp 18)], _, _, _, none⟩) (v := Value.agg #[.slice (some ⟨g14, 0, none⟩) 2 2, .slice (some ⟨g18, 0, none⟩) 1 1, .slice none 0 0]) rfl (by kernel_rfl) (by kernel_rfl) (by kernel_rfl) (fun _ _ _ h => nomatch h.1) (yieldsIf_buildL (by rfl) 26 _ rfl (built_wnt g14 g18) rfl) hx4 ?_
          simp only [Act.put, List.setIfInBounds_toArray, List.set_cons_zero, List.set_cons_succ]
          refine wpAnyH_all (rs := [9]) (by kernel_rfl) (by decide) ?_
          intro i hi
          obtain rfl := List.mem_singleton.1 hi
          refine wpOp_of_list (o := ⟨none, Op.store 26 (Operand.tmp 3) (Operand.tmp 19), _, _, _, none⟩) rfl ?_
          refine wpList_storeB rfl _ _ _ rfl rfl rfl hBg3 net_size rfl (by simp [Value.oneCell']) ?_
          intro x5 hBz hSz
          have hx5 := (hx4 : Below w6.heap.size w6 _).trans (hSz.below hlg3)
          have hA := hBg14.stays hSz (by first | exact ng14g3 | exact Ne.symm ng3g14)
          have hC := hBg18.stays hSz (by first | exact ng18g3 | exact Ne.symm ng3g18)
          show _ ∧ _
          refine ⟨hx5, ?_⟩
          simp only [Act.put]
          refine wpAnyH_done (by kernel_rfl) ?_ _
          exact ⟨rfl, g14, g18, g3, rfl, hA, hC, hBz, hx5⟩
    · skip
      refine wpOp_of_list (o := ⟨some 3, Op.alloc 26, _, _, _, none⟩) rfl ?_
      refine wpList_allocZ rfl _ rfl net_zero ?_
      intro g3 x1 hgg3 hBg3 hy1 hs
      have hlg3 : w6.heap.size ≤ g3 := Nat.le_trans ((Below.refl _ _).drew : Below w6.heap.size w6 _).size (Nat.le_of_eq hgg3.symm)
      clear hgg3 hs
      have hx1 := bel_drew hy1
      show _ ∧ _
      refine ⟨hx1, ?_⟩
      simp only [Act.put, List.setIfInBounds_toArray, List.set_cons_zero, List.set_cons_succ]
      refine wpAnyH_all (rs := [2, 3]) (by kernel_rfl) (by decide) ?_
      intro i hi
      simp only [List.mem_cons, List.not_mem_nil, or_false] at hi
      rcases hi with rfl | rfl
      · skip
        refine wpOp_of_list (o := ⟨some 14, Op.buildSlice 22 2 #[(0 , Operand.tmp 12), (1 , Operand.tmp 13)], _, _, _, none⟩) rfl ?_
        refine wpList_lit rfl _ _ rfl elt_ifc [.agg (ifcA wib), .agg (ifcA wia)] rfl (by decide) (by decide) (fun v hv => by simp at hv; rcases hv with rfl | rfl <;> exact ifcA_size _) rfl ?_
        intro x2 hBg14 hog14 hy2 hs
        obtain ⟨g14, hgg14, hBg14⟩ : ∃ g, g = _ ∧ Bk x2 g 31 (ifcL wib ++ ifcL wia).toArray := ⟨_, rfl, by simpa [ifcA, Value.cells] using hBg14⟩
        rw [← hgg14]
        have ng3g14 : g3 ≠ g14 := Nat.ne_of_lt (Nat.lt_of_lt_of_le hBg3.lt (Nat.le_of_eq hgg14.symm))
        clear hgg14 hs hog14
        have hx2 := bel_tr hx1 hy2
        have hBg3 := hBg3.bel hy2
        show _ ∧ _
        refine ⟨hx2, ?_⟩
        simp only [Act.put, List.setIfInBounds_toArray, List.set_cons_zero, List.set_cons_succ]
        refine wpAnyH_all (rs := [3]) (by kernel_rfl) (by decide) ?_
        intro i hi
        obtain rfl := List.mem_singleton.1 hi
        refine wpOp_callM (o := ⟨some 15, Op.call { callee := Callee.value (Operand.func 7), args := #[Operand.const (Value.int IntKind.i64 0), Operand.const (Value.int IntKind.i64 0), Operand.const (Value.int IntKind.i64 0), Operand.const (Value.int IntKind.i64 0)], argTypes := #[3, 3, 3, 3] }, _, _, _, none⟩) rfl (by rfl) (by go_simp) (rof_0 _) ?_
        rintro e x3 ⟨rfl, hy3⟩
        have hx3 := bel_tr hx2 hy3
        have hBg3 := hBg3.bel hy3
        have hBg14 := hBg14.bel hy3
        refine ⟨_, rfl, ?_⟩
        show _ ∧ _
        refine ⟨hx3, ?_⟩
        simp only [Act.put, List.setIfInBounds_toArray, List.set_cons_zero, List.set_cons_succ]
        refine wpAnyH_take (i := 4) (oi := ⟨some 16, Op.build 40 #[(0 , Operand.tmp 15)], _, _, _, none⟩) (v := Value.agg (pfA ⟨adOf 0 0 0 0, 0, by decide⟩)) rfl (by kernel_rfl) (by kernel_rfl) (by kernel_rfl) (fun _ _ _ h => nomatch h.1) (yieldsIf_buildL (by rfl) 40 _ rfl built_wpf rfl) hx3 ?_
        simp only [Act.put, List.setIfInBounds_toArray, List.set_cons_zero, List.set_cons_succ]
        refine wpAnyH_take (i := 5) (oi := ⟨some 17, Op.build 42 #[(0 , Operand.tmp 16), (1 , Operand.const (Value.int IntKind.i64 1))], _, _, _, none⟩) (v := Value.agg (rtA wrt)) rfl (by kernel_rfl) (by kernel_rfl) (by kernel_rfl) (fun _ _ _ h => nomatch h.1) (yieldsIf_buildL (by rfl) 42 _ rfl built_wrt rfl) hx3 ?_
        simp only [Act.put, List.setIfInBounds_toArray, List.set_cons_zero, List.set_cons_succ]
        refine wpAnyH_all (rs := [6]) (by kernel_rfl) (by decide) ?_
        intro i hi
        obtain rfl := List.mem_singleton.1 hi
        refine wpOp_of_list (o := ⟨some 18, Op.buildSlice 23 1 #[(0 , Operand.tmp 17)], _, _, _, none⟩) rfl ?_
        refine wpList_lit rfl _ _ rfl elt_rt [.agg (rtA wrt)] rfl (by decide) (by decide) (fun v hv => by rw [List.mem_singleton.1 hv]; exact rtA_size _) rfl ?_
        intro x4 hBg18 hog18 hy4 hs
        obtain ⟨g18, hgg18, hBg18⟩ : ∃ g, g = _ ∧ Bk x4 g 42 (rtL wrt).toArray := ⟨_, rfl, bk_list (l := rtL wrt) hBg18 rfl⟩
        rw [← hgg18]
        have ng3g18 : g3 ≠ g18 := Nat.ne_of_lt (Nat.lt_of_lt_of_le hBg3.lt (Nat.le_of_eq hgg18.symm))
        have ng14g18 : g14 ≠ g18 := Nat.ne_of_lt (Nat.lt_of_lt_of_le hBg14.lt (Nat.le_of_eq hgg18.symm))
        clear hgg18 hs hog18
        have hx4 := bel_tr hx3 hy4
        have hBg3 := hBg3.bel hy4
        have hBg14 := hBg14.bel hy4
        show _ ∧ _
        refine ⟨hx4, ?_⟩
        simp only [Act.put, List.setIfInBounds_toArray, List.set_cons_zero, List.set_cons_succ]
        refine wpAnyH_take (i := 7) (oi := ⟨some 19, Op.build 26 #[(0 , Operand.tmp 14), (1 , Operand.tmp 18)], _, _, _, none⟩) (v := Value.agg #[.slice (some ⟨g14, 0, none⟩) 2 2, .slice (some ⟨g18, 0, none⟩) 1 1, .slice none 0 0]) rfl (by kernel_rfl) (by kernel_rfl) (by kernel_rfl) (fun _ _ _ h => nomatch h.1) (yieldsIf_buildL (by rfl) 26 _ rfl (built_wnt g14 g18) rfl) hx4 ?_
        simp only [Act.put, List.setIfInBounds_toArray, List.set_cons_zero, List.set_cons_succ]
        refine wpAnyH_all (rs := [9]) (by kernel_rfl) (by decide) ?_
        intro i hi
        obtain rfl := List.mem_singleton.1 hi
        refine wpOp_of_list (o := ⟨none, Op.store 26 (Operand.tmp 3) (Operand.tmp 19), _, _, _, none⟩) rfl ?_
        refine wpList_storeB rfl _ _ _ rfl rfl rfl hBg3 net_size rfl (by simp [Value.oneCell']) ?_
        intro x5 hBz hSz
        have hx5 := (hx4 : Below w6.heap.size w6 _).trans (hSz.below hlg3)
        have hA := hBg14.stays hSz (by first | exact ng14g3 | exact Ne.symm ng3g14)
        have hC := hBg18.stays hSz (by first | exact ng18g3 | exact Ne.symm ng3g18)
        show _ ∧ _
        refine ⟨hx5, ?_⟩
        simp only [Act.put]
        refine wpAnyH_done (by kernel_rfl) ?_ _
        exact ⟨rfl, g14, g18, g3, rfl, hA, hC, hBz, hx5⟩
      · skip
        refine wpOp_callM (o := ⟨some 15, Op.call { callee := Callee.value (Operand.func 7), args := #[Operand.const (Value.int IntKind.i64 0), Operand.const (Value.int IntKind.i64 0), Operand.const (Value.int IntKind.i64 0), Operand.const (Value.int IntKind.i64 0)], argTypes := #[3, 3, 3, 3] }, _, _, _, none⟩) rfl (by rfl) (by go_simp) (rof_0 _) ?_
        rintro e x2 ⟨rfl, hy2⟩
        have hx2 := bel_tr hx1 hy2
        have hBg3 := hBg3.bel hy2
        refine ⟨_, rfl, ?_⟩
        show _ ∧ _
        refine ⟨hx2, ?_⟩
        simp only [Act.put, List.setIfInBounds_toArray, List.set_cons_zero, List.set_cons_succ]
        refine wpAnyH_take (i := 4) (oi := ⟨some 16, Op.build 40 #[(0 , Operand.tmp 15)], _, _, _, none⟩) (v := Value.agg (pfA ⟨adOf 0 0 0 0, 0, by decide⟩)) rfl (by kernel_rfl) (by kernel_rfl) (by kernel_rfl) (fun _ _ _ h => nomatch h.1) (yieldsIf_buildL (by rfl) 40 _ rfl built_wpf rfl) hx2 ?_
        simp only [Act.put, List.setIfInBounds_toArray, List.set_cons_zero, List.set_cons_succ]
        refine wpAnyH_take (i := 5) (oi := ⟨some 17, Op.build 42 #[(0 , Operand.tmp 16), (1 , Operand.const (Value.int IntKind.i64 1))], _, _, _, none⟩) (v := Value.agg (rtA wrt)) rfl (by kernel_rfl) (by kernel_rfl) (by kernel_rfl) (fun _ _ _ h => nomatch h.1) (yieldsIf_buildL (by rfl) 42 _ rfl built_wrt rfl) hx2 ?_
        simp only [Act.put, List.setIfInBounds_toArray, List.set_cons_zero, List.set_cons_succ]
        refine wpAnyH_all (rs := [2, 6]) (by kernel_rfl) (by decide) ?_
        intro i hi
        simp only [List.mem_cons, List.not_mem_nil, or_false] at hi
        rcases hi with rfl | rfl
        · skip
          refine wpOp_of_list (o := ⟨some 14, Op.buildSlice 22 2 #[(0 , Operand.tmp 12), (1 , Operand.tmp 13)], _, _, _, none⟩) rfl ?_
          refine wpList_lit rfl _ _ rfl elt_ifc [.agg (ifcA wib), .agg (ifcA wia)] rfl (by decide) (by decide) (fun v hv => by simp at hv; rcases hv with rfl | rfl <;> exact ifcA_size _) rfl ?_
          intro x3 hBg14 hog14 hy3 hs
          obtain ⟨g14, hgg14, hBg14⟩ : ∃ g, g = _ ∧ Bk x3 g 31 (ifcL wib ++ ifcL wia).toArray := ⟨_, rfl, by simpa [ifcA, Value.cells] using hBg14⟩
          rw [← hgg14]
          have ng3g14 : g3 ≠ g14 := Nat.ne_of_lt (Nat.lt_of_lt_of_le hBg3.lt (Nat.le_of_eq hgg14.symm))
          clear hgg14 hs hog14
          have hx3 := bel_tr hx2 hy3
          have hBg3 := hBg3.bel hy3
          show _ ∧ _
          refine ⟨hx3, ?_⟩
          simp only [Act.put, List.setIfInBounds_toArray, List.set_cons_zero, List.set_cons_succ]
          refine wpAnyH_all (rs := [6]) (by kernel_rfl) (by decide) ?_
          intro i hi
          obtain rfl := List.mem_singleton.1 hi
          refine wpOp_of_list (o := ⟨some 18, Op.buildSlice 23 1 #[(0 , Operand.tmp 17)], _, _, _, none⟩) rfl ?_
          refine wpList_lit rfl _ _ rfl elt_rt [.agg (rtA wrt)] rfl (by decide) (by decide) (fun v hv => by rw [List.mem_singleton.1 hv]; exact rtA_size _) rfl ?_
          intro x4 hBg18 hog18 hy4 hs
          obtain ⟨g18, hgg18, hBg18⟩ : ∃ g, g = _ ∧ Bk x4 g 42 (rtL wrt).toArray := ⟨_, rfl, bk_list (l := rtL wrt) hBg18 rfl⟩
          rw [← hgg18]
          have ng3g18 : g3 ≠ g18 := Nat.ne_of_lt (Nat.lt_of_lt_of_le hBg3.lt (Nat.le_of_eq hgg18.symm))
          have ng14g18 : g14 ≠ g18 := Nat.ne_of_lt (Nat.lt_of_lt_of_le hBg14.lt (Nat.le_of_eq hgg18.symm))
          clear hgg18 hs hog18
          have hx4 := bel_tr hx3 hy4
          have hBg3 := hBg3.bel hy4
          have hBg14 := hBg14.bel hy4
          show _ ∧ _
          refine ⟨hx4, ?_⟩
          simp only [Act.put, List.setIfInBounds_toArray, List.set_cons_zero, List.set_cons_succ]
          refine wpAnyH_take (i := 7) (oi := ⟨some 19, Op.build 26 #[(0 , Operand.tmp 14), (1 , Operand.tmp 18)], _, _, _, none⟩) (v := Value.agg #[.slice (some ⟨g14, 0, none⟩) 2 2, .slice (some ⟨g18, 0, none⟩) 1 1, .slice none 0 0]) rfl (by kernel_rfl) (by kernel_rfl) (by kernel_rfl) (fun _ _ _ h => nomatch h.1) (yieldsIf_buildL (by rfl) 26 _ rfl (built_wnt g14 g18) rfl) hx4 ?_
          simp only [Act.put, List.setIfInBounds_toArray, List.set_cons_zero, List.set_cons_succ]
          refine wpAnyH_all (rs := [9]) (by kernel_rfl) (by decide) ?_
          intro i hi
          obtain rfl := List.mem_singleton.1 hi
          refine wpOp_of_list (o := ⟨none, Op.store 26 (Operand.tmp 3) (Operand.tmp 19), _, _, _, none⟩) rfl ?_
          refine wpList_storeB rfl _ _ _ rfl rfl rfl hBg3 net_size rfl (by simp [Value.oneCell']) ?_
          intro x5 hBz hSz
          have hx5 := (hx4 : Below w6.heap.size w6 _).trans (hSz.below hlg3)
          have hA := hBg14.stays hSz (by first | exact ng14g3 | exact Ne.symm ng3g14)
          have hC := hBg18.stays hSz (by first | exact ng18g3 | exact Ne.symm ng3g18)
          show _ ∧ _
          refine ⟨hx5, ?_⟩
          simp only [Act.put]
          refine wpAnyH_done (by kernel_rfl) ?_ _
          exact ⟨rfl, g14, g18, g3, rfl, hA, hC, hBz, hx5⟩
        · skip
          refine wpOp_of_list (o := ⟨some 18, Op.buildSlice 23 1 #[(0 , Operand.tmp 17)], _, _, _, none⟩) rfl ?_
          refine wpList_lit rfl _ _ rfl elt_rt [.agg (rtA wrt)] rfl (by decide) (by decide) (fun v hv => by rw [List.mem_singleton.1 hv]; exact rtA_size _) rfl ?_
          intro x3 hBg18 hog18 hy3 hs
          obtain ⟨g18, hgg18, hBg18⟩ : ∃ g, g = _ ∧ Bk x3 g 42 (rtL wrt).toArray := ⟨_, rfl, bk_list (l := rtL wrt) hBg18 rfl⟩
          rw [← hgg18]
          have ng3g18 : g3 ≠ g18 := Nat.ne_of_lt (Nat.lt_of_lt_of_le hBg3.lt (Nat.le_of_eq hgg18.symm))
          clear hgg18 hs hog18
          have hx3 := bel_tr hx2 hy3
          have hBg3 := hBg3.bel hy3
          show _ ∧ _
          refine ⟨hx3, ?_⟩
          simp only [Act.put, List.setIfInBounds_toArray, List.set_cons_zero, List.set_cons_succ]
          refine wpAnyH_all (rs := [2]) (by kernel_rfl) (by decide) ?_
          intro i hi
          obtain rfl := List.mem_singleton.1 hi
          refine wpOp_of_list (o := ⟨some 14, Op.buildSlice 22 2 #[(0 , Operand.tmp 12), (1 , Operand.tmp 13)], _, _, _, none⟩) rfl ?_
          refine wpList_lit rfl _ _ rfl elt_ifc [.agg (ifcA wib), .agg (ifcA wia)] rfl (by decide) (by decide) (fun v hv => by simp at hv; rcases hv with rfl | rfl <;> exact ifcA_size _) rfl ?_
          intro x4 hBg14 hog14 hy4 hs
          obtain ⟨g14, hgg14, hBg14⟩ : ∃ g, g = _ ∧ Bk x4 g 31 (ifcL wib ++ ifcL wia).toArray := ⟨_, rfl, by simpa [ifcA, Value.cells] using hBg14⟩
          rw [← hgg14]
          have ng3g14 : g3 ≠ g14 := Nat.ne_of_lt (Nat.lt_of_lt_of_le hBg3.lt (Nat.le_of_eq hgg14.symm))
          have ng18g14 : g18 ≠ g14 := Nat.ne_of_lt (Nat.lt_of_lt_of_le hBg18.lt (Nat.le_of_eq hgg14.symm))
          clear hgg14 hs hog14
          have hx4 := bel_tr hx3 hy4
          have hBg3 := hBg3.bel hy4
          have hBg18 := hBg18.bel hy4
          show _ ∧ _
          refine ⟨hx4, ?_⟩
          simp only [Act.put, List.setIfInBounds_toArray, List.set_cons_zero, List.set_cons_succ]
          refine wpAnyH_take (i := 7) (oi := ⟨some 19, Op.build 26 #[(0 , Operand.tmp 14), (1 , Operand.tmp 18)], _, _, _, none⟩) (v := Value.agg #[.slice (some ⟨g14, 0, none⟩) 2 2, .slice (some ⟨g18, 0, none⟩) 1 1, .slice none 0 0]) rfl (by kernel_rfl) (by kernel_rfl) (by kernel_rfl) (fun _ _ _ h => nomatch h.1) (yieldsIf_buildL (by rfl) 26 _ rfl (built_wnt g14 g18) rfl) hx4 ?_
          simp only [Act.put, List.setIfInBounds_toArray, List.set_cons_zero, List.set_cons_succ]
          refine wpAnyH_all (rs := [9]) (by kernel_rfl) (by decide) ?_
          intro i hi
          obtain rfl := List.mem_singleton.1 hi
          refine wpOp_of_list (o := ⟨none, Op.store 26 (Operand.tmp 3) (Operand.tmp 19), _, _, _, none⟩) rfl ?_
          refine wpList_storeB rfl _ _ _ rfl rfl rfl hBg3 net_size rfl (by simp [Value.oneCell']) ?_
          intro x5 hBz hSz
          have hx5 := (hx4 : Below w6.heap.size w6 _).trans (hSz.below hlg3)
          have hA := hBg14.stays hSz (by first | exact ng14g3 | exact Ne.symm ng3g14)
          have hC := hBg18.stays hSz (by first | exact ng18g3 | exact Ne.symm ng3g18)
          show _ ∧ _
          refine ⟨hx5, ?_⟩
          simp only [Act.put]
          refine wpAnyH_done (by kernel_rfl) ?_ _
          exact ⟨rfl, g14, g18, g3, rfl, hA, hC, hBz, hx5⟩
  case k =>
    rintro a b c w7 ⟨hI, hR, hNt, hb67⟩
    have Hb7 := Lib.hid (bel_tr Hb.out hb67)
    have HN : Hid (NetRaw w7 (.slice (some ⟨a, 0, none⟩) 2 2) (.slice (some ⟨b, 0, none⟩) 1 1) (.slice none 0 0) wnt) := Lib.hid ⟨ifs_sl hI, rts_sl hR, Sl.nil _ _, by decide, by decide, by decide⟩
    have HE7 := Lib.hid (HE.out.below Hb7.out)
    have G1 := Lib.hid (H1.out.bel hb67)
    have G2 := Lib.hid (H2.out.bel hb67)
    have G3 := Lib.hid hNt
    clear hI hR hNt hb67 H1 H2 Hb HE L1 L2
    go_wp2_with (fail)
    have R3 := Lib.hid G3.out.rangeNet
    have R1 := Lib.hid G1.out.range_ifc
    have R2 := Lib.hid G2.out.range_ifc
    have HIs : ∀ x : Ifc, (Tryd.prog.info? 31).map (·.size) = some (ifcL x).length := fun x => by rw [ifcL_len]; exact ifc_size
    have HI := Lib.hid HIs
    clear HIs
    refine wp_region_bel (by kernel_rfl) (by kernel_rfl) ?_
    repeat (first
      | go_big_quiet_skip
      | (go_big_quiet_want; first
          | (refine quiet_loadK (o := ⟨some 21, _, _, _, _, _⟩) 26 _ rfl rfl (cs := #[.slice (some ⟨a, 0, none⟩) 2 2, .slice (some ⟨b, 0, none⟩) 1 1, .slice none 0 0]) rfl R3.out net_under rfl net_size (by simp only [Act.put, List.setIfInBounds_toArray, List.set_cons_succ, List.set_cons_zero]; exact rfl) ?_; go_big_quiet_on)
          | (refine quiet_loadK (o := ⟨some 23, _, _, _, _, _⟩) 31 _ rfl rfl (cs := ifcA wia) rfl R1.out ifc_under rfl (HI.out wia) (by simp only [Act.put, List.setIfInBounds_toArray, List.set_cons_succ, List.set_cons_zero]; exact rfl) ?_; go_big_quiet_on)
          | (refine quiet_loadK (o := ⟨some 24, _, _, _, _, _⟩) 31 _ rfl rfl (cs := ifcA wib) rfl R2.out ifc_under rfl (HI.out wib) (by simp only [Act.put, List.setIfInBounds_toArray, List.set_cons_succ, List.set_cons_zero]; exact rfl) ?_; go_big_quiet_on)
          | (go_big_quiet_op; first | go_big_quiet_on | go_big_quiet_call ((go_at_call 7; with_reducible refine bel_call (rof_d _))) | go_big_quiet_call ((go_at_call 6; with_reducible refine bel_call (wbetter (HN.out.below (BelT.bel _)) (HE7.out.below (BelT.bel _))))))))
    refine wpQuiet_nil ?_
    rintro _ ⟨y, rfl⟩
    have hb8 := y.bel
    obtain ⟨w8, hw8⟩ : ∃ w8, w8 = y.at_ := ⟨_, rfl⟩
    rw [← hw8] at hb8 ⊢
    clear hw8
    have Hb78 := Lib.hid hb8
    have HN8 := Lib.hid (HN.out.below hb8)
    have HE8 := Lib.hid (HE7.out.below hb8)
    have L3 : Hid (∀ w', Below w8.heap.size w8 w' → w'.rangeAt c 0 [.slice (some ⟨a, 0, none⟩) 2 2, .slice (some ⟨b, 0, none⟩) 1 1, .slice none 0 0]) := Lib.hid (fun w' h => (G3.out.bel (bel_tr Hb78.out h)).rangeNet)
    clear hb8 R1 R2 R3 HI
    go_wp2_with (fail)
    apply region_cut (R := fun g w' => Bk w' g 31 (ifcA wia) ∧ BelW w8 w')
    case h =>
      refine wp_region_held (S := fun w' => BelW w8 w') (by kernel_rfl) ?_
      refine wpAnyH_take (i := 0) (oi := ⟨some 29, Op.load 26 (Operand.tmp 3), _, _, _, none⟩) (v := Value.agg #[.slice (some ⟨a, 0, none⟩) 2 2, .slice (some ⟨b, 0, none⟩) 1 1, .slice none 0 0]) rfl (by kernel_rfl) (by kernel_rfl) (by kernel_rfl) (fun _ _ _ h => nomatch h.1) (yieldsIf_load_mid (by rfl) _ _ rfl _ _ rfl [.slice (some ⟨a, 0, none⟩) 2 2, .slice (some ⟨b, 0, none⟩) 1 1, .slice none 0 0] _ L3.out net_under rfl net_size) (Below.refl _ _).drew ?_
      simp only [Act.put, List.setIfInBounds_toArray, List.set_cons_zero, List.set_cons_succ]
      refine wpAnyH_all (rs := [1, 6]) (by kernel_rfl) (by decide) ?_
      intro i hi
      simp only [List.mem_cons, List.not_mem_nil, or_false] at hi
      rcases hi with rfl | rfl
      · skip
        refine wpOp_callM (o := ⟨some 30, Op.call { callee := Callee.value (Operand.func 7), args := #[Operand.const (Value.int IntKind.i64 192), Operand.const (Value.int IntKind.i64 0), Operand.const (Value.int IntKind.i64 2), Operand.const (Value.int IntKind.i64 1)], argTypes := #[3, 3, 3, 3] }, _, _, _, none⟩) rfl (by rfl) (by go_simp) (rof_d _) ?_
        rintro e x1 ⟨rfl, hy1⟩
        have hx1 := bel_drew hy1
        refine ⟨_, rfl, ?_⟩
        show _ ∧ _
        refine ⟨hx1, ?_⟩
        simp only [Act.put, List.setIfInBounds_toArray, List.set_cons_zero, List.set_cons_succ]
        refine wpAnyH_all (rs := [2, 6]) (by kernel_rfl) (by decide) ?_
        intro i hi
        simp only [List.mem_cons, List.not_mem_nil, or_false] at hi
        rcases hi with rfl | rfl
        · skip
          refine wpOp_callM (o := ⟨some 31, Op.call { callee := Callee.value (Operand.func 8), args := #[Operand.tmp 29, Operand.tmp 30], argTypes := #[26, 29] }, _, _, _, none⟩) rfl (by rfl) (by go_simp) (wpicks (HN8.out.below (hx1)) (HE8.out.below (hx1))) ?_
          rintro e x2 ⟨rfl, hy2⟩
          have hx2 := bel_tr hx1 hy2
          refine ⟨_, rfl, ?_⟩
          show _ ∧ _
          refine ⟨hx2, ?_⟩
          simp only [Act.put, List.setIfInBounds_toArray, List.set_cons_zero, List.set_cons_succ]
          refine wpAnyH_take (i := 3) (oi := ⟨some 28, Op.move (Operand.tmp 31), _, _, _, none⟩) (v := Value.tuple #[.agg (ifcA wia), .bool true]) rfl (by kernel_rfl) (by kernel_rfl) (by kernel_rfl) (fun _ _ _ h => nomatch h.1) (Or.inl ⟨by rfl, fun w' hS' => by go_simp⟩) hx2 ?_
          simp only [Act.put, List.setIfInBounds_toArray, List.set_cons_zero, List.set_cons_succ]
          refine wpAnyH_take (i := 4) (oi := ⟨some 32, Op.extract (Operand.tmp 28) 0, _, _, _, none⟩) (v := Value.agg (ifcA wia)) rfl (by kernel_rfl) (by kernel_rfl) (by kernel_rfl) (fun _ _ _ h => nomatch h.1) (Or.inl ⟨by rfl, fun w' hS' => by go_simp⟩) hx2 ?_
          simp only [Act.put, List.setIfInBounds_toArray, List.set_cons_zero, List.set_cons_succ]
          refine wpAnyH_take (i := 5) (oi := ⟨some 33, Op.extract (Operand.tmp 28) 1, _, _, _, none⟩) (v := Value.bool true) rfl (by kernel_rfl) (by kernel_rfl) (by kernel_rfl) (fun _ _ _ h => nomatch h.1) (Or.inl ⟨by rfl, fun w' hS' => by go_simp⟩) hx2 ?_
          simp only [Act.put, List.setIfInBounds_toArray, List.set_cons_zero, List.set_cons_succ]
          refine wpAnyH_all (rs := [6]) (by kernel_rfl) (by decide) ?_
          intro i hi
          obtain rfl := List.mem_singleton.1 hi
          refine wpOp_of_list (o := ⟨some 6, Op.alloc 31, _, _, _, none⟩) rfl ?_
          refine wpList_allocZ rfl _ rfl ifc_zero ?_
          intro g6 x3 hgg6 hBg6 hy3 hs
          have hlg6 : w8.heap.size ≤ g6 := Nat.le_trans (hx2 : Below w8.heap.size w8 _).size (Nat.le_of_eq hgg6.symm)
          clear hgg6 hs
          have hx3 := bel_tr hx2 hy3
          show _ ∧ _
          refine ⟨hx3, ?_⟩
          simp only [Act.put, List.setIfInBounds_toArray, List.set_cons_zero, List.set_cons_succ]
          refine wpAnyH_all (rs := [7]) (by kernel_rfl) (by decide) ?_
          intro i hi
          obtain rfl := List.mem_singleton.1 hi
          refine wpOp_of_list (o := ⟨none, Op.store 31 (Operand.tmp 6) (Operand.tmp 32), _, _, _, none⟩) rfl ?_
          refine wpList_store_ifc rfl _ _ rfl rfl rfl hBg6 ?_
          intro x4 hBz hSz
          have hx4 := (hx3 : Below w8.heap.size w8 _).trans (hSz.below hlg6)
          show _ ∧ _
          refine ⟨hx4, ?_⟩
          simp only [Act.put]
          refine wpAnyH_take (i := 8) (oi := ⟨some 7, Op.assign (Operand.tmp 33), _, _, _, none⟩) (v := Value.bool true) rfl (by kernel_rfl) (by kernel_rfl) (by kernel_rfl) (fun _ _ _ h => nomatch h.1) (Or.inl ⟨by rfl, fun w' hS' => by go_simp⟩) hx4 ?_
          simp only [Act.put, List.setIfInBounds_toArray, List.set_cons_zero, List.set_cons_succ]
          refine wpAnyH_done (by kernel_rfl) ?_ _
          exact ⟨rfl, g6, rfl, hBz, hx4⟩
        · skip
          refine wpOp_of_list (o := ⟨some 6, Op.alloc 31, _, _, _, none⟩) rfl ?_
          refine wpList_allocZ rfl _ rfl ifc_zero ?_
          intro g6 x2 hgg6 hBg6 hy2 hs
          have hlg6 : w8.heap.size ≤ g6 := Nat.le_trans (hx1 : Below w8.heap.size w8 _).size (Nat.le_of_eq hgg6.symm)
          clear hgg6 hs
          have hx2 := bel_tr hx1 hy2
          show _ ∧ _
          refine ⟨hx2, ?_⟩
          simp only [Act.put, List.setIfInBounds_toArray, List.set_cons_zero, List.set_cons_succ]
          refine wpAnyH_all (rs := [2]) (by kernel_rfl) (by decide) ?_
          intro i hi
          obtain rfl := List.mem_singleton.1 hi
          refine wpOp_callM (o := ⟨some 31, Op.call { callee := Callee.value (Operand.func 8), args := #[Operand.tmp 29, Operand.tmp 30], argTypes := #[26, 29] }, _, _, _, none⟩) rfl (by rfl) (by go_simp) (wpicks (HN8.out.below (hx2)) (HE8.out.below (hx2))) ?_
          rintro e x3 ⟨rfl, hy3⟩
          have hx3 := bel_tr hx2 hy3
          have hBg6 := hBg6.bel hy3
          refine ⟨_, rfl, ?_⟩
          show _ ∧ _
          refine ⟨hx3, ?_⟩
          simp only [Act.put, List.setIfInBounds_toArray, List.set_cons_zero, List.set_cons_succ]
          refine wpAnyH_take (i := 3) (oi := ⟨some 28, Op.move (Operand.tmp 31), _, _, _, none⟩) (v := Value.tuple #[.agg (ifcA wia), .bool true]) rfl (by kernel_rfl) (by kernel_rfl) (by kernel_rfl) (fun _ _ _ h => nomatch h.1) (Or.inl ⟨by rfl, fun w' hS' => by go_simp⟩) hx3 ?_
          simp only [Act.put, List.setIfInBounds_toArray, List.set_cons_zero, List.set_cons_succ]
          refine wpAnyH_take (i := 4) (oi := ⟨some 32, Op.extract (Operand.tmp 28) 0, _, _, _, none⟩) (v := Value.agg (ifcA wia)) rfl (by kernel_rfl) (by kernel_rfl) (by kernel_rfl) (fun _ _ _ h => nomatch h.1) (Or.inl ⟨by rfl, fun w' hS' => by go_simp⟩) hx3 ?_
          simp only [Act.put, List.setIfInBounds_toArray, List.set_cons_zero, List.set_cons_succ]
          refine wpAnyH_take (i := 5) (oi := ⟨some 33, Op.extract (Operand.tmp 28) 1, _, _, _, none⟩) (v := Value.bool true) rfl (by kernel_rfl) (by kernel_rfl) (by kernel_rfl) (fun _ _ _ h => nomatch h.1) (Or.inl ⟨by rfl, fun w' hS' => by go_simp⟩) hx3 ?_
          simp only [Act.put, List.setIfInBounds_toArray, List.set_cons_zero, List.set_cons_succ]
          refine wpAnyH_all (rs := [7]) (by kernel_rfl) (by decide) ?_
          intro i hi
          obtain rfl := List.mem_singleton.1 hi
          refine wpOp_of_list (o := ⟨none, Op.store 31 (Operand.tmp 6) (Operand.tmp 32), _, _, _, none⟩) rfl ?_
          refine wpList_store_ifc rfl _ _ rfl rfl rfl hBg6 ?_
          intro x4 hBz hSz
          have hx4 := (hx3 : Below w8.heap.size w8 _).trans (hSz.below hlg6)
          show _ ∧ _
          refine ⟨hx4, ?_⟩
          simp only [Act.put]
          refine wpAnyH_take (i := 8) (oi := ⟨some 7, Op.assign (Operand.tmp 33), _, _, _, none⟩) (v := Value.bool true) rfl (by kernel_rfl) (by kernel_rfl) (by kernel_rfl) (fun _ _ _ h => nomatch h.1) (Or.inl ⟨by rfl, fun w' hS' => by go_simp⟩) hx4 ?_
          simp only [Act.put, List.setIfInBounds_toArray, List.set_cons_zero, List.set_cons_succ]
          refine wpAnyH_done (by kernel_rfl) ?_ _
          exact ⟨rfl, g6, rfl, hBz, hx4⟩
      · skip
        refine wpOp_of_list (o := ⟨some 6, Op.alloc 31, _, _, _, none⟩) rfl ?_
        refine wpList_allocZ rfl _ rfl ifc_zero ?_
        intro g6 x1 hgg6 hBg6 hy1 hs
        have hlg6 : w8.heap.size ≤ g6 := Nat.le_trans ((Below.refl _ _).drew : Below w8.heap.size w8 _).size (Nat.le_of_eq hgg6.symm)
        clear hgg6 hs
        have hx1 := bel_drew hy1
        show _ ∧ _
        refine ⟨hx1, ?_⟩
        simp only [Act.put, List.setIfInBounds_toArray, List.set_cons_zero, List.set_cons_succ]
        refine wpAnyH_all (rs := [1]) (by kernel_rfl) (by decide) ?_
        intro i hi
        obtain rfl := List.mem_singleton.1 hi
        refine wpOp_callM (o := ⟨some 30, Op.call { callee := Callee.value (Operand.func 7), args := #[Operand.const (Value.int IntKind.i64 192), Operand.const (Value.int IntKind.i64 0), Operand.const (Value.int IntKind.i64 2), Operand.const (Value.int IntKind.i64 1)], argTypes := #[3, 3, 3, 3] }, _, _, _, none⟩) rfl (by rfl) (by go_simp) (rof_d _) ?_
        rintro e x2 ⟨rfl, hy2⟩
        have hx2 := bel_tr hx1 hy2
        have hBg6 := hBg6.bel hy2
        refine ⟨_, rfl, ?_⟩
        show _ ∧ _
        refine ⟨hx2, ?_⟩
        simp only [Act.put, List.setIfInBounds_toArray, List.set_cons_zero, List.set_cons_succ]
        refine wpAnyH_all (rs := [2]) (by kernel_rfl) (by decide) ?_
        intro i hi
        obtain rfl := List.mem_singleton.1 hi
        refine wpOp_callM (o := ⟨some 31, Op.call { callee := Callee.value (Operand.func 8), args := #[Operand.tmp 29, Operand.tmp 30], argTypes := #[26, 29] }, _, _, _, none⟩) rfl (by rfl) (by go_simp) (wpicks (HN8.out.below (hx2)) (HE8.out.below (hx2))) ?_
        rintro e x3 ⟨rfl, hy3⟩
        have hx3 := bel_tr hx2 hy3
        have hBg6 := hBg6.bel hy3
        refine ⟨_, rfl, ?_⟩
        show _ ∧ _
        refine ⟨hx3, ?_⟩
        simp only [Act.put, List.setIfInBounds_toArray, List.set_cons_zero, List.set_cons_succ]
        refine wpAnyH_take (i := 3) (oi := ⟨some 28, Op.move (Operand.tmp 31), _, _, _, none⟩) (v := Value.tuple #[.agg (ifcA wia), .bool true]) rfl (by kernel_rfl) (by kernel_rfl) (by kernel_rfl) (fun _ _ _ h => nomatch h.1) (Or.inl ⟨by rfl, fun w' hS' => by go_simp⟩) hx3 ?_
        simp only [Act.put, List.setIfInBounds_toArray, List.set_cons_zero, List.set_cons_succ]
        refine wpAnyH_take (i := 4) (oi := ⟨some 32, Op.extract (Operand.tmp 28) 0, _, _, _, none⟩) (v := Value.agg (ifcA wia)) rfl (by kernel_rfl) (by kernel_rfl) (by kernel_rfl) (fun _ _ _ h => nomatch h.1) (Or.inl ⟨by rfl, fun w' hS' => by go_simp⟩) hx3 ?_
        simp only [Act.put, List.setIfInBounds_toArray, List.set_cons_zero, List.set_cons_succ]
        refine wpAnyH_take (i := 5) (oi := ⟨some 33, Op.extract (Operand.tmp 28) 1, _, _, _, none⟩) (v := Value.bool true) rfl (by kernel_rfl) (by kernel_rfl) (by kernel_rfl) (fun _ _ _ h => nomatch h.1) (Or.inl ⟨by rfl, fun w' hS' => by go_simp⟩) hx3 ?_
        simp only [Act.put, List.setIfInBounds_toArray, List.set_cons_zero, List.set_cons_succ]
        refine wpAnyH_all (rs := [7]) (by kernel_rfl) (by decide) ?_
        intro i hi
        obtain rfl := List.mem_singleton.1 hi
        refine wpOp_of_list (o := ⟨none, Op.store 31 (Operand.tmp 6) (Operand.tmp 32), _, _, _, none⟩) rfl ?_
        refine wpList_store_ifc rfl _ _ rfl rfl rfl hBg6 ?_
        intro x4 hBz hSz
        have hx4 := (hx3 : Below w8.heap.size w8 _).trans (hSz.below hlg6)
        show _ ∧ _
        refine ⟨hx4, ?_⟩
        simp only [Act.put]
        refine wpAnyH_take (i := 8) (oi := ⟨some 7, Op.assign (Operand.tmp 33), _, _, _, none⟩) (v := Value.bool true) rfl (by kernel_rfl) (by kernel_rfl) (by kernel_rfl) (fun _ _ _ h => nomatch h.1) (Or.inl ⟨by rfl, fun w' hS' => by go_simp⟩) hx4 ?_
        simp only [Act.put, List.setIfInBounds_toArray, List.set_cons_zero, List.set_cons_succ]
        refine wpAnyH_done (by kernel_rfl) ?_ _
        exact ⟨rfl, g6, rfl, hBz, hx4⟩
    case k =>
      rintro g6 w9 ⟨hB6, hb9⟩
      have hB1 := G1.out.bel (bel_tr (Hb78.out) hb9)
      have Hb9 := Lib.hid (bel_tr (bel_tr Hb7.out Hb78.out) hb9)
      clear hb9
      go_wp2_with (first
        | ((with_reducible show wpList _ _ _ (⟨some 44, _, _, _, _, _⟩ :: _) _ _); refine wpList_guarded (o := ⟨some 44, _, _, _, _, _⟩) rfl ?_; refine wpList_load_ifc (o := ⟨some 44, _, _, _, _, _⟩) rfl _ rfl rfl hB6 ?_)
        | ((with_reducible show wpList _ _ _ (⟨some 45, _, _, _, _, _⟩ :: _) _ _); refine wpList_guarded (o := ⟨some 45, _, _, _, _, _⟩) rfl ?_; refine wpList_load_ifc (o := ⟨some 45, _, _, _, _, _⟩) rfl _ rfl rfl hB1 ?_)
        | ((with_reducible show wpList _ _ _ (⟨some 46, _, _, _, _, _⟩ :: _) _ _); refine wpList_guarded (o := ⟨some 46, _, _, _, _, _⟩) rfl ?_; refine wpList_eql_ifc (o := ⟨some 46, _, _, _, _, _⟩) rfl _ _ rfl rfl rfl ?_; rw [decide_eq_true (rfl : wia = wia)]))
      go_ret
      exact ⟨rfl, Hb9.out⟩
end Go.Proofs.YthlnndjkocnfcaaDoor
