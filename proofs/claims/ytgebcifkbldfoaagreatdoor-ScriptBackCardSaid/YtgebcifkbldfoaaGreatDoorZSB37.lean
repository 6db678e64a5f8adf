/- Contracts and plain lemmas of our own, merged. -/
import Derived.Test.YtgebcifkbldfoaaGreatDoorZSB12
import Derived.Test.YtgebcifkbldfoaaGreatDoorZSB17
import Derived.Test.YtgebcifkbldfoaaGreatDoorZSB19
import Derived.Test.YtgebcifkbldfoaaGreatDoorZSB25
import Derived.Test.YtgebcifkbldfoaaGreatDoorZSB26
import Derived.Test.YtgebcifkbldfoaaGreatDoorZSB28
import Derived.Test.YtgebcifkbldfoaaGreatDoorZSB29
import Derived.Test.YtgebcifkbldfoaaGreatDoorZSB32
import Derived.Test.YtgebcifkbldfoaaGreatDoorZSB34
import Derived.Test.YtgebcifkbldfoaaGreatDoorZSB35
import Derived.Test.YtgebcifkbldfoaaGreatDoorZSB36
import Derived.Test.YtgebcifkbldfoaaGreatDoorZSB4
import Derived.Test.YtgebcifkbldfoaaGreatDoorZSB9
/- script: an event's line, by the program. PRINTED by wip/tools/mk_scp.py. -/
namespace Go.Proofs.YtgebcifkbldfoaaGreatDoor
open Go.RowKit
attribute [local go_sem] ba_get ext_take ext_drop ext_any ba_app
set_option maxRecDepth 100000 in
set_option maxHeartbeats 8000000 in
theorem sline_any (e : Ev) (w : World) (ht : Tab w) (hn : TabN w) (hd : e.d.length ≤ 100000) : Calls Tryz.prog 8 #[.agg (evA e)] w (LnPost w e) := by
  have Ht := Lib.hid ht
  have Hn := Lib.hid hn
  clear ht hn
  have HC := Lib.hid (fun w' => scheck_any e w')
  by_cases hc : chkE e = 0
  case neg =>
    have HR := Lib.hid (lnEv_bad hc)
    obtain ⟨c, hcc⟩ : ∃ c, chkE e = c := ⟨_, rfl⟩
    have hne : (c != 0) = true := by rw [← hcc]; simpa using hc
    rw [hcc] at HR
    have Hcc := Lib.hid hcc
    clear hc hcc
    go_enter Tryz.func8, Tryz.ntmps8
    go_wp2_with (first
      | ((with_reducible show wpList _ _ _ (⟨some 1, _, _, _, _, _⟩ :: _) _ _); refine wpList_boxB (o := ⟨some 1, _, _, _, _, _⟩) rfl _ _ rfl rfl ?_; intro g w1 hg hB hb hs; have HB := Lib.hid hB; have Hb := Lib.hid hb; clear hg hs hB hb)
      | ((with_reducible show wpList _ _ _ (⟨some 5, _, _, _, _, _⟩ :: _) _ _); refine wpList_loadB (o := ⟨some 5, _, _, _, _, _⟩) rfl _ _ rfl rfl HB.out ev_under rfl (ev_size' _) ?_)
      | (go_at_call 10; (with_reducible refine (HC.out _).mono ?_); rintro e2 w2 ⟨rfl, hb2⟩; have HB := Lib.hid (HB.out.bel hb2); have Hb := Lib.hid (bel_tr Hb.out hb2); clear hb2; rw [Hcc.out]))
    go_ret2
    exact ⟨by rw [HR.out]; rfl, Hb.out⟩
  case pos =>
    have HR := Lib.hid (lnEv_ok hc)
    have hlen := linE_len hc
    obtain ⟨h1, h2, h3, h4, h5, h6, h7⟩ := chkE_ok hc
    have Hcc := Lib.hid hc
    clear hc h4 h5 h6 h7
    obtain ⟨k, a, fp, p, d⟩ := e
    dsimp only at h1 h2 h3 hd hlen
    rcases (show k = 1 ∨ k = 2 ∨ k = 3 ∨ k = 4 ∨ k = 5 by omega) with rfl | rfl | rfl | rfl | rfl
    · skip
      clear h1 h2 h3
      go_enter Tryz.func8, Tryz.ntmps8
      go_wp2_with (first
        | ((with_reducible show wpList _ _ _ (⟨some 1, _, _, _, _, _⟩ :: _) _ _); refine wpList_boxB (o := ⟨some 1, _, _, _, _, _⟩) rfl _ _ rfl rfl ?_; intro g w1 hg hB hb hs; have HB := Lib.hid hB; have Hb := Lib.hid hb; clear hg hs hB hb)
        | ((with_reducible show wpList _ _ _ (⟨some 5, _, _, _, _, _⟩ :: _) _ _); refine wpList_loadB (o := ⟨some 5, _, _, _, _, _⟩) rfl _ _ rfl rfl HB.out ev_under rfl (ev_size' _) ?_)
        | (go_at_call 10; (with_reducible refine (HC.out _).mono ?_); rintro e2 w2 ⟨rfl, hb2⟩; have HB := Lib.hid (HB.out.bel hb2); have Hb := Lib.hid (bel_tr Hb.out hb2); clear hb2; rw [Hcc.out]; refine holdL ?_))
      refine Lib.hid ?_
      have c0 : w2.cell? ⟨g, 0, none⟩ = _ := (HB.out.cell 0).trans (evA_0 _)
      have c19 : w2.cell? ⟨g, 19, none⟩ = _ := (HB.out.cell 19).trans (evA_19 _)
      have c20 : w2.cell? ⟨g, 20, none⟩ = _ := (HB.out.cell 20).trans (evA_20 _)
      have c21 : w2.cell? ⟨g, 21, none⟩ = _ := (HB.out.cell 21).trans (evA_21 _)
      have R1 := Lib.hid (HB.out.range_ev)
      dsimp only at c0 c19 c20 c21
      go_wp2
      go_ret2
      exact ⟨by rw [HR.out]; rfl, Hb.out⟩
    · skip
      obtain ⟨hp0, hp1⟩ := h3 (by omega)
      obtain ⟨ha, hf0, hf1⟩ := h2 rfl
      clear h1 h2 h3
      have HP : Hid (∀ w', Tab w' → Calls Tryz.prog 23 #[.int .i64 p] w' (StrPost w' (Lib.itoa p))) := Lib.hid (fun w' h => digits_any p w' h (by omega) (by omega))
      have HF : Hid (∀ w', Tab w' → Calls Tryz.prog 23 #[.int .i64 fp] w' (StrPost w' (Lib.itoa fp))) := Lib.hid (fun w' h => digits_any fp w' h (by omega) (by omega))
      have HX := Lib.hid (fun w' => hex44_any d w' (by omega))
      go_enter Tryz.func8, Tryz.ntmps8
      go_wp2_with (first
        | ((with_reducible show wpList _ _ _ (⟨some 1, _, _, _, _, _⟩ :: _) _ _); refine wpList_boxB (o := ⟨some 1, _, _, _, _, _⟩) rfl _ _ rfl rfl ?_; intro g w1 hg hB hb hs; have HB := Lib.hid hB; have Hb := Lib.hid hb; clear hg hs hB hb)
        | ((with_reducible show wpList _ _ _ (⟨some 5, _, _, _, _, _⟩ :: _) _ _); refine wpList_loadB (o := ⟨some 5, _, _, _, _, _⟩) rfl _ _ rfl rfl HB.out ev_under rfl (ev_size' _) ?_)
        | (go_at_call 10; (with_reducible refine (HC.out _).mono ?_); rintro e2 w2 ⟨rfl, hb2⟩; have HB := Lib.hid (HB.out.bel hb2); have Hb := Lib.hid (bel_tr Hb.out hb2); clear hb2; rw [Hcc.out]; refine holdL ?_))
      refine Lib.hid ?_
      have c0 : w2.cell? ⟨g, 0, none⟩ = _ := (HB.out.cell 0).trans (evA_0 _)
      have c19 : w2.cell? ⟨g, 19, none⟩ = _ := (HB.out.cell 19).trans (evA_19 _)
      have c20 : w2.cell? ⟨g, 20, none⟩ = _ := (HB.out.cell 20).trans (evA_20 _)
      have c21 : w2.cell? ⟨g, 21, none⟩ = _ := (HB.out.cell 21).trans (evA_21 _)
      have R1 := Lib.hid (HB.out.range_ev)
      dsimp only at c0 c19 c20 c21
      have HL : Hid (linE ⟨2, a, fp, p, d⟩ = joi [32] [wPacket, adrT a, Lib.itoa fp, Lib.itoa p, hexE d]) := Lib.hid rfl
      go_wp2_with (fail)
      refine wp_region_bel_tail 12 (by kernel_rfl) (by kernel_rfl) ?_
      simp only [List.take_succ_cons, List.take_zero, List.drop_succ_cons, List.drop_zero]
      repeat (first
        | go_big_quiet_skip
        | (go_big_quiet_want; first
            | ((with_reducible show (⟨some 17, _, _, _, _, _⟩ : Oper).quiet _ _ _ _); refine quiet_loadAd (o := ⟨some 17, _, _, _, _, _⟩) _ rfl rfl R1.out (by simp only [Act.put, List.setIfInBounds_toArray, List.set_cons_succ, List.set_cons_zero]; exact rfl) ?_; go_big_quiet_on)
            | ((with_reducible show (⟨some 20, _, _, _, _, _⟩ : Oper).quiet _ _ _ _); refine quiet_loadC (o := ⟨some 20, _, _, _, _, _⟩) _ _ rfl rfl c19 Tryz.underlying3 rfl (by simp only [Act.put, List.setIfInBounds_toArray, List.set_cons_succ, List.set_cons_zero]; exact rfl) ?_; go_big_quiet_on)
            | ((with_reducible show (⟨some 23, _, _, _, _, _⟩ : Oper).quiet _ _ _ _); refine quiet_loadC (o := ⟨some 23, _, _, _, _, _⟩) _ _ rfl rfl c20 Tryz.underlying3 rfl (by simp only [Act.put, List.setIfInBounds_toArray, List.set_cons_succ, List.set_cons_zero]; exact rfl) ?_; go_big_quiet_on)
            | ((with_reducible show (⟨some 26, _, _, _, _, _⟩ : Oper).quiet _ _ _ _); refine quiet_loadC (o := ⟨some 26, _, _, _, _, _⟩) _ _ rfl rfl c21 Tryz.underlying9 rfl (by simp only [Act.put, List.setIfInBounds_toArray, List.set_cons_succ, List.set_cons_zero]; exact rfl) ?_; go_big_quiet_on)
            | (go_big_quiet_op; first | go_big_quiet_on | go_big_quiet_call ((go_at_call 22; (with_reducible refine bel_call (atext_any a _ (Ht.out.below (bel_tr Hb.out (BelT.bel _))) (Hn.out.below (bel_tr Hb.out (BelT.bel _))))))) | go_big_quiet_call ((go_at_call 23; (with_reducible refine bel_call (HF.out _ (Ht.out.below (bel_tr Hb.out (BelT.bel _))))))) | go_big_quiet_call ((go_at_call 23; (with_reducible refine bel_call (HP.out _ (Ht.out.below (bel_tr Hb.out (BelT.bel _))))))) | go_big_quiet_call ((go_at_call 12; (with_reducible refine bel_call (HX.out _)))))))
      refine wpQuiet_nil ?_
      rintro _ ⟨x, rfl⟩
      have Hb := Lib.hid (bel_tr Hb.out x.bel)
      clear c0 c19 c20 c21 R1
      generalize x.at_ = wx at *
      go_wp2_with (first
        | ((with_reducible show wpList _ _ _ (⟨some 28, _, _, _, _, _⟩ :: _) _ _); refine wpList_lit (o := ⟨some 28, _, _, _, _, _⟩) rfl _ _ rfl elt_strs [.string ⟨(wPacket).toArray⟩, .string ⟨(adrT a).toArray⟩, .string ⟨(Lib.itoa fp).toArray⟩, .string ⟨(Lib.itoa p).toArray⟩, .string ⟨(hexE d).toArray⟩] rfl (by decide) (by decide) (fun v hv => by simp only [List.mem_cons, List.not_mem_nil, or_false] at hv; rcases hv with rfl | rfl | rfl | rfl | rfl <;> rfl) rfl ?_; intro w4 hB4 hx4 hb4 hs4; have Hs4 := Lib.hid (Sl.own hx4); have Hb := Lib.hid (bel_tr Hb.out hb4); clear hB4 hx4 hb4 hs4)
        | (go_at_call 21; refine (join_any [32] [wPacket, adrT a, Lib.itoa fp, Lib.itoa p, hexE d] _ _ Hs4.out (by simp) (by rw [← HL.out]; have := hlen; omega)).mono ?_; rintro e5 w5 ⟨rfl, hb5⟩; have Hb := Lib.hid (bel_tr Hb.out hb5); clear hb5))
      go_ret2
      exact ⟨by rw [HR.out, HL.out]; rfl, Hb.out⟩
    · skip
      obtain ⟨hp0, hp1⟩ := h3 (by omega)
      clear h1 h2 h3
      have HP : Hid (∀ w', Tab w' → Calls Tryz.prog 23 #[.int .i64 p] w' (StrPost w' (Lib.itoa p))) := Lib.hid (fun w' h => digits_any p w' h (by omega) (by omega))
      go_enter Tryz.func8, Tryz.ntmps8
      go_wp2_with (first
        | ((with_reducible show wpList _ _ _ (⟨some 1, _, _, _, _, _⟩ :: _) _ _); refine wpList_boxB (o := ⟨some 1, _, _, _, _, _⟩) rfl _ _ rfl rfl ?_; intro g w1 hg hB hb hs; have HB := Lib.hid hB; have Hb := Lib.hid hb; clear hg hs hB hb)
        | ((with_reducible show wpList _ _ _ (⟨some 5, _, _, _, _, _⟩ :: _) _ _); refine wpList_loadB (o := ⟨some 5, _, _, _, _, _⟩) rfl _ _ rfl rfl HB.out ev_under rfl (ev_size' _) ?_)
        | (go_at_call 10; (with_reducible refine (HC.out _).mono ?_); rintro e2 w2 ⟨rfl, hb2⟩; have HB := Lib.hid (HB.out.bel hb2); have Hb := Lib.hid (bel_tr Hb.out hb2); clear hb2; rw [Hcc.out]; refine holdL ?_))
      refine Lib.hid ?_
      have c0 : w2.cell? ⟨g, 0, none⟩ = _ := (HB.out.cell 0).trans (evA_0 _)
      have c19 : w2.cell? ⟨g, 19, none⟩ = _ := (HB.out.cell 19).trans (evA_19 _)
      have c20 : w2.cell? ⟨g, 20, none⟩ = _ := (HB.out.cell 20).trans (evA_20 _)
      have c21 : w2.cell? ⟨g, 21, none⟩ = _ := (HB.out.cell 21).trans (evA_21 _)
      have R1 := Lib.hid (HB.out.range_ev)
      dsimp only at c0 c19 c20 c21
      have HL : Hid (linE ⟨3, a, fp, p, d⟩ = joi [32] [wOpen, Lib.itoa p]) := Lib.hid rfl
      go_wp2_with (first
        | (go_at_call 23; (with_reducible refine (HP.out _ (Ht.out.below Hb.out)).mono ?_); rintro e3 w3 ⟨rfl, hb3⟩; have Hb := Lib.hid (bel_tr Hb.out hb3); clear hb3 c0 c19 c20 c21 R1)
        | ((with_reducible show wpList _ _ _ (⟨some 35, _, _, _, _, _⟩ :: _) _ _); refine wpList_lit (o := ⟨some 35, _, _, _, _, _⟩) rfl _ _ rfl elt_strs [.string ⟨(wOpen).toArray⟩, .string ⟨(Lib.itoa p).toArray⟩] rfl (by decide) (by decide) (fun v hv => by simp only [List.mem_cons, List.not_mem_nil, or_false] at hv; rcases hv with rfl | rfl <;> rfl) rfl ?_; intro w4 hB4 hx4 hb4 hs4; have Hs4 := Lib.hid (Sl.own hx4); have Hb := Lib.hid (bel_tr Hb.out hb4); clear hB4 hx4 hb4 hs4)
        | (go_at_call 21; refine (join_any [32] [wOpen, Lib.itoa p] _ _ Hs4.out (by simp) (by rw [← HL.out]; have := hlen; omega)).mono ?_; rintro e5 w5 ⟨rfl, hb5⟩; have Hb := Lib.hid (bel_tr Hb.out hb5); clear hb5))
      go_ret2
      exact ⟨by rw [HR.out, HL.out]; rfl, Hb.out⟩
    · skip
      obtain ⟨hp0, hp1⟩ := h3 (by omega)
      clear h1 h2 h3
      have HP : Hid (∀ w', Tab w' → Calls Tryz.prog 23 #[.int .i64 p] w' (StrPost w' (Lib.itoa p))) := Lib.hid (fun w' h => digits_any p w' h (by omega) (by omega))
      have HX := Lib.hid (fun w' => hex44_any d w' (by omega))
      go_enter Tryz.func8, Tryz.ntmps8
      go_wp2_with (first
        | ((with_reducible show wpList _ _ _ (⟨some 1, _, _, _, _, _⟩ :: _) _ _); refine wpList_boxB (o := ⟨some 1, _, _, _, _, _⟩) rfl _ _ rfl rfl ?_; intro g w1 hg hB hb hs; have HB := Lib.hid hB; have Hb := Lib.hid hb; clear hg hs hB hb)
        | ((with_reducible show wpList _ _ _ (⟨some 5, _, _, _, _, _⟩ :: _) _ _); refine wpList_loadB (o := ⟨some 5, _, _, _, _, _⟩) rfl _ _ rfl rfl HB.out ev_under rfl (ev_size' _) ?_)
        | (go_at_call 10; (with_reducible refine (HC.out _).mono ?_); rintro e2 w2 ⟨rfl, hb2⟩; have HB := Lib.hid (HB.out.bel hb2); have Hb := Lib.hid (bel_tr Hb.out hb2); clear hb2; rw [Hcc.out]; refine holdL ?_))
      refine Lib.hid ?_
      have c0 : w2.cell? ⟨g, 0, none⟩ = _ := (HB.out.cell 0).trans (evA_0 _)
      have c19 : w2.cell? ⟨g, 19, none⟩ = _ := (HB.out.cell 19).trans (evA_19 _)
      have c20 : w2.cell? ⟨g, 20, none⟩ = _ := (HB.out.cell 20).trans (evA_20 _)
      have c21 : w2.cell? ⟨g, 21, none⟩ = _ := (HB.out.cell 21).trans (evA_21 _)
      have R1 := Lib.hid (HB.out.range_ev)
      dsimp only at c0 c19 c20 c21
      have HL : Hid (linE ⟨4, a, fp, p, d⟩ = joi [32] [wBytes, Lib.itoa p, hexE d]) := Lib.hid rfl
      go_wp2_with (fail)
      refine wp_region_bel_tail 6 (by kernel_rfl) (by kernel_rfl) ?_
      simp only [List.take_succ_cons, List.take_zero, List.drop_succ_cons, List.drop_zero]
      repeat (first
        | go_big_quiet_skip
        | (go_big_quiet_want; first
            | ((with_reducible show (⟨some 40, _, _, _, _, _⟩ : Oper).quiet _ _ _ _); refine quiet_loadC (o := ⟨some 40, _, _, _, _, _⟩) _ _ rfl rfl c20 Tryz.underlying3 rfl (by simp only [Act.put, List.setIfInBounds_toArray, List.set_cons_succ, List.set_cons_zero]; exact rfl) ?_; go_big_quiet_on)
            | ((with_reducible show (⟨some 43, _, _, _, _, _⟩ : Oper).quiet _ _ _ _); refine quiet_loadC (o := ⟨some 43, _, _, _, _, _⟩) _ _ rfl rfl c21 Tryz.underlying9 rfl (by simp only [Act.put, List.setIfInBounds_toArray, List.set_cons_succ, List.set_cons_zero]; exact rfl) ?_; go_big_quiet_on)
            | (go_big_quiet_op; first | go_big_quiet_on | go_big_quiet_call ((go_at_call 23; (with_reducible refine bel_call (HP.out _ (Ht.out.below (bel_tr Hb.out (BelT.bel _))))))) | go_big_quiet_call ((go_at_call 12; (with_reducible refine bel_call (HX.out _)))))))
      refine wpQuiet_nil ?_
      rintro _ ⟨x, rfl⟩
      have Hb := Lib.hid (bel_tr Hb.out x.bel)
      clear c0 c19 c20 c21 R1
      generalize x.at_ = wx at *
      go_wp2_with (first
        | ((with_reducible show wpList _ _ _ (⟨some 45, _, _, _, _, _⟩ :: _) _ _); refine wpList_lit (o := ⟨some 45, _, _, _, _, _⟩) rfl _ _ rfl elt_strs [.string ⟨(wBytes).toArray⟩, .string ⟨(Lib.itoa p).toArray⟩, .string ⟨(hexE d).toArray⟩] rfl (by decide) (by decide) (fun v hv => by simp only [List.mem_cons, List.not_mem_nil, or_false] at hv; rcases hv with rfl | rfl | rfl <;> rfl) rfl ?_; intro w4 hB4 hx4 hb4 hs4; have Hs4 := Lib.hid (Sl.own hx4); have Hb := Lib.hid (bel_tr Hb.out hb4); clear hB4 hx4 hb4 hs4)
        | (go_at_call 21; refine (join_any [32] [wBytes, Lib.itoa p, hexE d] _ _ Hs4.out (by simp) (by rw [← HL.out]; have := hlen; omega)).mono ?_; rintro e5 w5 ⟨rfl, hb5⟩; have Hb := Lib.hid (bel_tr Hb.out hb5); clear hb5))
      go_ret2
      exact ⟨by rw [HR.out, HL.out]; rfl, Hb.out⟩
    · skip
      obtain ⟨hp0, hp1⟩ := h3 (by omega)
      clear h1 h2 h3
      have HP : Hid (∀ w', Tab w' → Calls Tryz.prog 23 #[.int .i64 p] w' (StrPost w' (Lib.itoa p))) := Lib.hid (fun w' h => digits_any p w' h (by omega) (by omega))
      go_enter Tryz.func8, Tryz.ntmps8
      go_wp2_with (first
        | ((with_reducible show wpList _ _ _ (⟨some 1, _, _, _, _, _⟩ :: _) _ _); refine wpList_boxB (o := ⟨some 1, _, _, _, _, _⟩) rfl _ _ rfl rfl ?_; intro g w1 hg hB hb hs; have HB := Lib.hid hB; have Hb := Lib.hid hb; clear hg hs hB hb)
        | ((with_reducible show wpList _ _ _ (⟨some 5, _, _, _, _, _⟩ :: _) _ _); refine wpList_loadB (o := ⟨some 5, _, _, _, _, _⟩) rfl _ _ rfl rfl HB.out ev_under rfl (ev_size' _) ?_)
        | (go_at_call 10; (with_reducible refine (HC.out _).mono ?_); rintro e2 w2 ⟨rfl, hb2⟩; have HB := Lib.hid (HB.out.bel hb2); have Hb := Lib.hid (bel_tr Hb.out hb2); clear hb2; rw [Hcc.out]; refine holdL ?_))
      refine Lib.hid ?_
      have c0 : w2.cell? ⟨g, 0, none⟩ = _ := (HB.out.cell 0).trans (evA_0 _)
      have c19 : w2.cell? ⟨g, 19, none⟩ = _ := (HB.out.cell 19).trans (evA_19 _)
      have c20 : w2.cell? ⟨g, 20, none⟩ = _ := (HB.out.cell 20).trans (evA_20 _)
      have c21 : w2.cell? ⟨g, 21, none⟩ = _ := (HB.out.cell 21).trans (evA_21 _)
      have R1 := Lib.hid (HB.out.range_ev)
      dsimp only at c0 c19 c20 c21
      have HL : Hid (linE ⟨5, a, fp, p, d⟩ = joi [32] [wClose, Lib.itoa p]) := Lib.hid rfl
      go_wp2_with (first
        | (go_at_call 23; (with_reducible refine (HP.out _ (Ht.out.below Hb.out)).mono ?_); rintro e3 w3 ⟨rfl, hb3⟩; have Hb := Lib.hid (bel_tr Hb.out hb3); clear hb3 c0 c19 c20 c21 R1)
        | ((with_reducible show wpList _ _ _ (⟨some 50, _, _, _, _, _⟩ :: _) _ _); refine wpList_lit (o := ⟨some 50, _, _, _, _, _⟩) rfl _ _ rfl elt_strs [.string ⟨(wClose).toArray⟩, .string ⟨(Lib.itoa p).toArray⟩] rfl (by decide) (by decide) (fun v hv => by simp only [List.mem_cons, List.not_mem_nil, or_false] at hv; rcases hv with rfl | rfl <;> rfl) rfl ?_; intro w4 hB4 hx4 hb4 hs4; have Hs4 := Lib.hid (Sl.own hx4); have Hb := Lib.hid (bel_tr Hb.out hb4); clear hB4 hx4 hb4 hs4)
        | (go_at_call 21; refine (join_any [32] [wClose, Lib.itoa p] _ _ Hs4.out (by simp) (by rw [← HL.out]; have := hlen; omega)).mono ?_; rintro e5 w5 ⟨rfl, hb5⟩; have Hb := Lib.hid (bel_tr Hb.out hb5); clear hb5))
      go_ret2
      exact ⟨by rw [HR.out, HL.out]; rfl, Hb.out⟩
end Go.Proofs.YtgebcifkbldfoaaGreatDoor

/- script: what is wrong with an event, by the reference. PRINTED by wip/tools/mk_scn.py. -/
namespace Go.Proofs.YtgebcifkbldfoaaGreatDoor
open Go.RowKit
attribute [local go_sem] ba_get ext_take ext_drop ext_any ba_app
set_option maxRecDepth 100000 in
set_option maxHeartbeats 8000000 in
theorem rscheck_any (e : Ev) (w : World) : Calls Tryz.prog 11 #[.agg (evA e)] w fun e' w' => e' = .returned (.int .i64 (chkE e)) ∧ Below w.heap.size w w' := by
  obtain ⟨k, a, fp, p, d⟩ := e
  have HC := Lib.hid (chkE_B k a fp p d)
  obtain ⟨c, hc⟩ : ∃ c, chkA a = c := ⟨_, rfl⟩
  have HA : Hid (∀ w', Calls Tryz.prog 28 #[.agg (adA a)] w' fun e w'' => e = .returned (.int .i64 c) ∧ Below w'.heap.size w' w'') := Lib.hid (fun w' => by rw [← hc]; exact rcheckA_any a w')
  have HF := Lib.hid (fun w' => rout_any fp w')
  have HP := Lib.hid (fun w' => rout_any p w')
  rw [hc] at HC
  generalize h1 : (c != 0) = bc at *
  generalize h2 : decide (PrtP fp) = bf at *
  generalize h3 : decide (PrtP p) = bp at *
  generalize h4 : (!decide (a = ad0)) = ba at *
  generalize h5 : (fp != 0) = bz at *
  generalize h6 : (p != 0) = bq at *
  generalize h7 : decide ((65535 : Int) < (d.length : Int)) = bl at *
  generalize h8 : d.isEmpty = be at *
  have h9 : (d == []) = be := by rw [← h8]; cases d <;> rfl
  have H4 := Lib.hid h4
  clear h2 h3 h4 hc
  rcases (show k < 1 ∨ 5 < k ∨ k = 1 ∨ k = 2 ∨ k = 3 ∨ k = 4 ∨ k = 5 by omega) with hk | hk | rfl | rfl | rfl | rfl | rfl
  case' inl => have e2 : (k == 2) = false := beq_eq_false_iff_ne.2 (by omega)
  case' inl => have e4 : (k == 4) = false := beq_eq_false_iff_ne.2 (by omega)
  case' inl => rw [chkB_no (.inl hk)] at HC
  case' inr.inl => have e2 : (k == 2) = false := beq_eq_false_iff_ne.2 (by omega)
  case' inr.inl => have e4 : (k == 4) = false := beq_eq_false_iff_ne.2 (by omega)
  case' inr.inl => have e5 : ¬ k < 1 := by omega
  case' inr.inl => rw [chkB_no (.inr hk)] at HC
  case' inr.inr.inl => rcases (show ba = true ∨ (ba = false ∧ bz = true) ∨ (ba = false ∧ bz = false ∧ bq = true) ∨ (ba = false ∧ bz = false ∧ bq = false ∧ be = false) ∨ (ba = false ∧ bz = false ∧ bq = false ∧ be = true) by cases ba <;> cases bz <;> cases bq <;> cases be <;> simp) with rfl | ⟨rfl, rfl⟩ | ⟨rfl, rfl, rfl⟩ | ⟨rfl, rfl, rfl, rfl⟩ | ⟨rfl, rfl, rfl, rfl⟩
  case' inr.inr.inr.inl => rcases (show bc = true ∨ (bc = false ∧ bf = false) ∨ (bc = false ∧ bf = true ∧ bp = false) ∨ (bc = false ∧ bf = true ∧ bp = true ∧ bl = true) ∨ (bc = false ∧ bf = true ∧ bp = true ∧ bl = false) by cases bc <;> cases bf <;> cases bp <;> cases bl <;> simp) with rfl | ⟨rfl, rfl⟩ | ⟨rfl, rfl, rfl⟩ | ⟨rfl, rfl, rfl, rfl⟩ | ⟨rfl, rfl, rfl, rfl⟩
  case' inr.inr.inr.inr.inl => rcases (show bp = false ∨ (bp = true ∧ ba = true) ∨ (bp = true ∧ ba = false ∧ bz = true) ∨ (bp = true ∧ ba = false ∧ bz = false ∧ be = false) ∨ (bp = true ∧ ba = false ∧ bz = false ∧ be = true) by cases bp <;> cases ba <;> cases bz <;> cases be <;> simp) with rfl | ⟨rfl, rfl⟩ | ⟨rfl, rfl, rfl⟩ | ⟨rfl, rfl, rfl, rfl⟩ | ⟨rfl, rfl, rfl, rfl⟩
  case' inr.inr.inr.inr.inr.inl => rcases (show bp = false ∨ (bp = true ∧ bl = true) ∨ (bp = true ∧ bl = false ∧ ba = true) ∨ (bp = true ∧ bl = false ∧ ba = false ∧ bz = true) ∨ (bp = true ∧ bl = false ∧ ba = false ∧ bz = false) by cases bp <;> cases ba <;> cases bz <;> cases bl <;> simp) with rfl | ⟨rfl, rfl⟩ | ⟨rfl, rfl, rfl⟩ | ⟨rfl, rfl, rfl, rfl⟩ | ⟨rfl, rfl, rfl, rfl⟩
  case' inr.inr.inr.inr.inr.inr => rcases (show bp = false ∨ (bp = true ∧ ba = true) ∨ (bp = true ∧ ba = false ∧ bz = true) ∨ (bp = true ∧ ba = false ∧ bz = false ∧ be = false) ∨ (bp = true ∧ ba = false ∧ bz = false ∧ be = true) by cases bp <;> cases ba <;> cases bz <;> cases be <;> simp) with rfl | ⟨rfl, rfl⟩ | ⟨rfl, rfl, rfl⟩ | ⟨rfl, rfl, rfl, rfl⟩ | ⟨rfl, rfl, rfl, rfl⟩
  all_goals
    go_enter Tryz.func11, Tryz.ntmps11
    go_wp2_with (first
      | ((with_reducible show wpList _ _ _ (⟨some 1, _, _, _, _, none⟩ :: _) _ _); refine wpList_boxB (o := ⟨some 1, _, _, _, _, _⟩) rfl _ _ rfl rfl ?_; intro g w1 hg hB hb hs; have HB := Lib.hid hB; have Hb := Lib.hid hb; clear hg hs hB hb; have c0 : w1.cell? ⟨g, 0, none⟩ = _ := (HB.out.cell 0).trans (evA_0 _); have c19 : w1.cell? ⟨g, 19, none⟩ = _ := (HB.out.cell 19).trans (evA_19 _); have c20 : w1.cell? ⟨g, 20, none⟩ = _ := (HB.out.cell 20).trans (evA_20 _); have c21 : w1.cell? ⟨g, 21, none⟩ = _ := (HB.out.cell 21).trans (evA_21 _); have R1 := Lib.hid (HB.out.range_ev); dsimp only at c0 c19 c20 c21)
      | ((with_reducible show wpList _ _ _ (⟨some 17, _, _, _, _, some _⟩ :: _) _ _); refine wpList_guarded (o := ⟨some 17, _, _, _, _, _⟩) rfl ?_)
      | ((with_reducible show wpList _ _ _ (⟨some 59, _, _, _, _, some _⟩ :: _) _ _); refine wpList_guarded (o := ⟨some 59, _, _, _, _, _⟩) rfl ?_)
      | ((with_reducible show wpList _ _ _ (⟨some 60, _, _, _, _, some _⟩ :: _) _ _); refine wpList_guarded (o := ⟨some 60, _, _, _, _, _⟩) rfl ?_)
      | ((with_reducible show wpList _ _ _ (⟨some 61, _, _, _, _, some _⟩ :: _) _ _); refine wpList_guarded (o := ⟨some 61, _, _, _, _, _⟩) rfl ?_)
      | ((with_reducible show wpList _ _ _ (⟨some 17, _, _, _, _, none⟩ :: _) _ _); refine wpList_loadAdM (o := ⟨some 17, _, _, _, _, _⟩) rfl _ rfl rfl R1.out ?_)
      | ((with_reducible show wpList _ _ _ (⟨some 59, _, _, _, _, none⟩ :: _) _ _); refine wpList_loadAdM (o := ⟨some 59, _, _, _, _, _⟩) rfl _ rfl rfl R1.out ?_)
      | (go_at_call 28; (with_reducible refine (HA.out _).mono ?_); rintro e w3 ⟨rfl, hb3⟩; have HB := Lib.hid (HB.out.bel hb3); have Hb := Lib.hid (bel_tr Hb.out hb3); clear hb3 c0 c19 c20 c21 R1; have c0 : w3.cell? ⟨g, 0, none⟩ = _ := (HB.out.cell 0).trans (evA_0 _); have c19 : w3.cell? ⟨g, 19, none⟩ = _ := (HB.out.cell 19).trans (evA_19 _); have c20 : w3.cell? ⟨g, 20, none⟩ = _ := (HB.out.cell 20).trans (evA_20 _); have c21 : w3.cell? ⟨g, 21, none⟩ = _ := (HB.out.cell 21).trans (evA_21 _); have R1 := Lib.hid (HB.out.range_ev); dsimp only at c0 c19 c20 c21)
      | (go_at_call 29; (with_reducible refine (HF.out _).mono ?_); rintro e w4 ⟨rfl, h4⟩; have h5 := h4.symm; subst h5; clear h4)
      | (go_at_call 29; (with_reducible refine (HP.out _).mono ?_); rintro e w4 ⟨rfl, h4⟩; have h5 := h4.symm; subst h5; clear h4)
      | ((with_reducible show wpList _ _ _ (⟨some 53, _, _, _, _, none⟩ :: _) _ _); refine wpList_buildL (o := ⟨some 53, _, _, _, _, _⟩) rfl _ [] rfl built_adz rfl ?_)
      | ((with_reducible show wpList _ _ _ (⟨some 3, _, _, _, _, none⟩ :: _) _ _); refine wpList_allocAd (o := ⟨some 3, _, _, _, _, _⟩) rfl rfl ?_; intro g3 w5 hg hB5 hb5 hs; have HBo := HB; have Hbo := Hb; have HB := Lib.hid (HB.out.bel hb5); have Hb := Lib.hid (bel_tr Hb.out hb5); have HB5 := Lib.hid hB5; have Hn := Lib.hid (show g ≠ g3 by have := HBo.out.lt; omega); have Hl := Lib.hid (show w.heap.size ≤ g3 by have := Hbo.out.size; omega); clear hg hs hb5 hB5 c0 c19 c20 c21 R1)
      | ((with_reducible show wpList _ _ _ (⟨none, .store _ (.tmp 3) _, _, _, _, _⟩ :: _) _ _); refine wpList_storeAd (o := ⟨none, _, _, _, _, _⟩) rfl (.tmp 3) _ rfl rfl rfl HB5.out ?_; intro w6 hB6 hS6; have HB := Lib.hid (HB.out.stays hS6 Hn.out); have Hb := Lib.hid (Hb.out.trans (hS6.below Hl.out)); have HB6 := Lib.hid hB6; clear hB6 hS6; have c0 : w6.cell? ⟨g, 0, none⟩ = _ := (HB.out.cell 0).trans (evA_0 _); have c19 : w6.cell? ⟨g, 19, none⟩ = _ := (HB.out.cell 19).trans (evA_19 _); have c20 : w6.cell? ⟨g, 20, none⟩ = _ := (HB.out.cell 20).trans (evA_20 _); have c21 : w6.cell? ⟨g, 21, none⟩ = _ := (HB.out.cell 21).trans (evA_21 _); have R1 := Lib.hid (HB.out.range_ev); dsimp only at c0 c19 c20 c21)
      | ((with_reducible show wpList _ _ _ (⟨some 60, _, _, _, _, none⟩ :: _) _ _); refine wpList_loadAd (o := ⟨some 60, _, _, _, _, _⟩) rfl _ rfl rfl HB6.out ?_)
      | ((with_reducible show wpList _ _ _ (⟨some 61, _, _, _, _, none⟩ :: _) _ _); refine wpList_neqAdR (o := ⟨some 61, _, _, _, _, _⟩) rfl _ _ rfl rfl rfl H4.out ?_))
    go_ret
    exact ⟨by rw [HC.out]; rfl, Hb.out⟩
end Go.Proofs.YtgebcifkbldfoaaGreatDoor

/- script: the reference's Text of addresses (9), for its lines. -/
namespace Go.Proofs.YtgebcifkbldfoaaGreatDoor
open Go.RowKit
attribute [local go_sem] ba_get ext_take ext_drop ext_any ba_app

set_option maxRecDepth 100000 in
set_option maxHeartbeats 1000000 in
theorem rat44_any (a : Ad) (w : World) : Calls Tryz.prog 25 #[.agg (adA a)] w (StrPost w (adrT a)) := by
  by_cases h4 : a.fam = 4
  · have i4 : (a.fam == 4) = true := by simpa using h4
    have Hr : Hid (adrT a = qtx a) := Lib.hid (by unfold adrT; rw [if_pos h4])
    clear h4
    go_enter Tryz.func25, Tryz.ntmps25
    go_wp2_with (first
      | ((with_reducible refine wpList_boxB rfl _ _ rfl rfl ?_); intro g w1 hg hB hb hs; clear hg hs; have c0 := hB.cell 0; rw [adA_0] at c0)
      | (with_reducible refine wpList_loadAd (o := ⟨some 6, _, _, _, _, _⟩) rfl _ rfl rfl hB ?_)
      | (go_at_call 43; refine (rqtext_any a _).mono ?_; rintro e w2 ⟨rfl, hb2⟩; have hb02 := bel_tr hb hb2))
    go_ret
    exact ⟨by rw [Hr.out]; rfl, hb02⟩
  · by_cases h6 : a.fam = 6
    · have i4 : (a.fam == 4) = false := by simpa using h4
      have i6 : (a.fam == 6) = true := by simpa using h6
      have Hr : Hid (adrT a = colT a) := Lib.hid (by unfold adrT; rw [if_neg h4, if_pos h6])
      clear h4 h6
      go_enter Tryz.func25, Tryz.ntmps25
      go_wp2_with (first
        | ((with_reducible refine wpList_boxB rfl _ _ rfl rfl ?_); intro g w1 hg hB hb hs; clear hg hs; have c0 := hB.cell 0; rw [adA_0] at c0)
        | (with_reducible refine wpList_loadAd (o := ⟨some 11, _, _, _, _, _⟩) rfl _ rfl rfl hB ?_)
        | (go_at_call 44; refine (rctext_any a _).mono ?_; rintro e w2 ⟨rfl, hb2⟩; have hb02 := bel_tr hb hb2))
      go_ret
      exact ⟨by rw [Hr.out]; rfl, hb02⟩
    · have i4 : (a.fam == 4) = false := by simpa using h4
      have i6 : (a.fam == 6) = false := by simpa using h6
      have Hr : Hid (adrT a = []) := Lib.hid (by unfold adrT; rw [if_neg h4, if_neg h6])
      clear h4 h6
      go_enter Tryz.func25, Tryz.ntmps25
      go_wp2_with (first
        | ((with_reducible refine wpList_boxB rfl _ _ rfl rfl ?_); intro g w1 hg hB hb hs; clear hg hs; have c0 := hB.cell 0; rw [adA_0] at c0))
      go_ret
      exact ⟨by rw [Hr.out]; rfl, hb⟩
end Go.Proofs.YtgebcifkbldfoaaGreatDoor

/- script: an event's line, by the reference. PRINTED by wip/tools/mk_scp.py. -/
namespace Go.Proofs.YtgebcifkbldfoaaGreatDoor
open Go.RowKit
attribute [local go_sem] ba_get ext_take ext_drop ext_any ba_app
set_option maxRecDepth 100000 in
set_option maxHeartbeats 8000000 in
theorem rsline_any (e : Ev) (w : World) (hd : e.d.length ≤ 100000) : Calls Tryz.prog 9 #[.agg (evA e)] w (LnPost w e) := by
  have HC := Lib.hid (fun w' => rscheck_any e w')
  by_cases hc : chkE e = 0
  case neg =>
    have HR := Lib.hid (lnEv_bad hc)
    obtain ⟨c, hcc⟩ : ∃ c, chkE e = c := ⟨_, rfl⟩
    have hne : (c != 0) = true := by rw [← hcc]; simpa using hc
    rw [hcc] at HR
    have Hcc := Lib.hid hcc
    clear hc hcc
    go_enter Tryz.func9, Tryz.ntmps9
    go_wp2_with (first
      | ((with_reducible show wpList _ _ _ (⟨some 1, _, _, _, _, _⟩ :: _) _ _); refine wpList_boxB (o := ⟨some 1, _, _, _, _, _⟩) rfl _ _ rfl rfl ?_; intro g w1 hg hB hb hs; have HB := Lib.hid hB; have Hb := Lib.hid hb; clear hg hs hB hb)
      | ((with_reducible show wpList _ _ _ (⟨some 6, _, _, _, _, _⟩ :: _) _ _); refine wpList_loadB (o := ⟨some 6, _, _, _, _, _⟩) rfl _ _ rfl rfl HB.out ev_under rfl (ev_size' _) ?_)
      | (go_at_call 11; (with_reducible refine (HC.out _).mono ?_); rintro e2 w2 ⟨rfl, hb2⟩; have HB := Lib.hid (HB.out.bel hb2); have Hb := Lib.hid (bel_tr Hb.out hb2); clear hb2; rw [Hcc.out]))
    go_ret2
    exact ⟨by rw [HR.out]; rfl, Hb.out⟩
  case pos =>
    have HR := Lib.hid (lnEv_ok hc)
    have hlen := linE_len hc
    obtain ⟨h1, h2, h3, h4, h5, h6, h7⟩ := chkE_ok hc
    have Hcc := Lib.hid hc
    have hp00 := h6
    clear hc h4 h5 h6 h7
    obtain ⟨k, a, fp, p, d⟩ := e
    dsimp only at h1 h2 h3 hd hlen hp00
    rcases (show k = 1 ∨ k = 2 ∨ k = 3 ∨ k = 4 ∨ k = 5 by omega) with rfl | rfl | rfl | rfl | rfl
    · skip
      clear h1 h2 h3
      obtain rfl : p = 0 := hp00 rfl
      have HP : Hid (∀ w', Calls Tryz.prog 24 #[.int .i64 0] w' fun e w'' => e = .returned (.string ⟨(Lib.itoa 0).toArray⟩) ∧ w' = w'') := Lib.hid (fun w' => rdigits_any 0 w' (by omega) (by omega))
      go_enter Tryz.func9, Tryz.ntmps9
      go_wp2_with (first
        | ((with_reducible show wpList _ _ _ (⟨some 1, _, _, _, _, _⟩ :: _) _ _); refine wpList_boxB (o := ⟨some 1, _, _, _, _, _⟩) rfl _ _ rfl rfl ?_; intro g w1 hg hB hb hs; have HB := Lib.hid hB; have Hb := Lib.hid hb; clear hg hs hB hb)
        | ((with_reducible show wpList _ _ _ (⟨some 6, _, _, _, _, _⟩ :: _) _ _); refine wpList_loadB (o := ⟨some 6, _, _, _, _, _⟩) rfl _ _ rfl rfl HB.out ev_under rfl (ev_size' _) ?_)
        | (go_at_call 11; (with_reducible refine (HC.out _).mono ?_); rintro e2 w2 ⟨rfl, hb2⟩; have HB := Lib.hid (HB.out.bel hb2); have Hb := Lib.hid (bel_tr Hb.out hb2); clear hb2; rw [Hcc.out]; refine holdL ?_))
      refine Lib.hid ?_
      have c0 : w2.cell? ⟨g, 0, none⟩ = _ := (HB.out.cell 0).trans (evA_0 _)
      have c19 : w2.cell? ⟨g, 19, none⟩ = _ := (HB.out.cell 19).trans (evA_19 _)
      have c20 : w2.cell? ⟨g, 20, none⟩ = _ := (HB.out.cell 20).trans (evA_20 _)
      have c21 : w2.cell? ⟨g, 21, none⟩ = _ := (HB.out.cell 21).trans (evA_21 _)
      have R1 := Lib.hid (HB.out.range_ev)
      dsimp only at c0 c19 c20 c21
      go_wp2_with (go_at_call 24; (with_reducible refine (HP.out _).mono ?_); rintro e3 w3 ⟨rfl, h3⟩; have h4 := h3.symm; subst h4; clear h3)
      go_ret2
      exact ⟨by rw [HR.out]; rfl, Hb.out⟩
    · skip
      obtain ⟨hp0, hp1⟩ := h3 (by omega)
      obtain ⟨ha, hf0, hf1⟩ := h2 rfl
      clear h1 h2 h3
      have HP : Hid (∀ w', Calls Tryz.prog 24 #[.int .i64 p] w' fun e w'' => e = .returned (.string ⟨(Lib.itoa p).toArray⟩) ∧ w' = w'') := Lib.hid (fun w' => rdigits_any p w' (by omega) (by omega))
      have HF : Hid (∀ w', Calls Tryz.prog 24 #[.int .i64 fp] w' fun e w'' => e = .returned (.string ⟨(Lib.itoa fp).toArray⟩) ∧ w' = w'') := Lib.hid (fun w' => rdigits_any fp w' (by omega) (by omega))
      have HX := Lib.hid (fun w' => rhex44_any d w' (by omega))
      go_enter Tryz.func9, Tryz.ntmps9
      go_wp2_with (first
        | ((with_reducible show wpList _ _ _ (⟨some 1, _, _, _, _, _⟩ :: _) _ _); refine wpList_boxB (o := ⟨some 1, _, _, _, _, _⟩) rfl _ _ rfl rfl ?_; intro g w1 hg hB hb hs; have HB := Lib.hid hB; have Hb := Lib.hid hb; clear hg hs hB hb)
        | ((with_reducible show wpList _ _ _ (⟨some 6, _, _, _, _, _⟩ :: _) _ _); refine wpList_loadB (o := ⟨some 6, _, _, _, _, _⟩) rfl _ _ rfl rfl HB.out ev_under rfl (ev_size' _) ?_)
        | (go_at_call 11; (with_reducible refine (HC.out _).mono ?_); rintro e2 w2 ⟨rfl, hb2⟩; have HB := Lib.hid (HB.out.bel hb2); have Hb := Lib.hid (bel_tr Hb.out hb2); clear hb2; rw [Hcc.out]; refine holdL ?_))
      refine Lib.hid ?_
      have c0 : w2.cell? ⟨g, 0, none⟩ = _ := (HB.out.cell 0).trans (evA_0 _)
      have c19 : w2.cell? ⟨g, 19, none⟩ = _ := (HB.out.cell 19).trans (evA_19 _)
      have c20 : w2.cell? ⟨g, 20, none⟩ = _ := (HB.out.cell 20).trans (evA_20 _)
      have c21 : w2.cell? ⟨g, 21, none⟩ = _ := (HB.out.cell 21).trans (evA_21 _)
      have R1 := Lib.hid (HB.out.range_ev)
      dsimp only at c0 c19 c20 c21
      have HL : Hid (linE ⟨2, a, fp, p, d⟩ = joi [32] [wPacket, adrT a, Lib.itoa fp, Lib.itoa p, hexE d]) := Lib.hid rfl
      have hxl := hexE_len d
      have hal := adrT_len a
      have hfl := itoa_len ⟨hf0, hf1⟩
      have hpl := itoa_len ⟨hp0, hp1⟩
      go_wp2_with (go_at_call 24; (with_reducible refine (HP.out _).mono ?_); rintro e3 w3 ⟨rfl, h3⟩; have h4 := h3.symm; subst h4; clear h3)
      refine wp_region_bel (by kernel_rfl) (by kernel_rfl) ?_
      repeat (first
        | go_big_quiet_skip
        | (go_big_quiet_want; first
            | ((with_reducible show (⟨some 21, _, _, _, _, _⟩ : Oper).quiet _ _ _ _); refine quiet_loadAd (o := ⟨some 21, _, _, _, _, _⟩) _ rfl rfl R1.out (by simp only [Act.put, List.setIfInBounds_toArray, List.set_cons_succ, List.set_cons_zero]; exact rfl) ?_; go_big_quiet_on)
            | ((with_reducible show (⟨some 26, _, _, _, _, _⟩ : Oper).quiet _ _ _ _); refine quiet_loadC (o := ⟨some 26, _, _, _, _, _⟩) _ _ rfl rfl c19 Tryz.underlying3 rfl (by simp only [Act.put, List.setIfInBounds_toArray, List.set_cons_succ, List.set_cons_zero]; exact rfl) ?_; go_big_quiet_on)
            | ((with_reducible show (⟨some 34, _, _, _, _, _⟩ : Oper).quiet _ _ _ _); refine quiet_loadC (o := ⟨some 34, _, _, _, _, _⟩) _ _ rfl rfl c21 Tryz.underlying9 rfl (by simp only [Act.put, List.setIfInBounds_toArray, List.set_cons_succ, List.set_cons_zero]; exact rfl) ?_; go_big_quiet_on)
            | (go_big_quiet_op; first | go_big_quiet_on | go_big_quiet_call ((go_at_call 25; (with_reducible refine bel_call (rat44_any a _)))) | go_big_quiet_call ((go_at_call 24; (with_reducible refine bel_call_eq (HF.out _)))) | go_big_quiet_call ((go_at_call 13; (with_reducible refine bel_call (HX.out _)))))))
      refine wpQuiet_nil ?_
      rintro _ ⟨x, rfl⟩
      have Hb := Lib.hid (bel_tr Hb.out x.bel)
      go_wp2
      go_ret2
      exact ⟨by rw [HR.out, HL.out]; simp [datV, stv, joi, Lib.join, wPacket], Hb.out⟩
    · skip
      obtain ⟨hp0, hp1⟩ := h3 (by omega)
      clear h1 h2 h3
      have HP : Hid (∀ w', Calls Tryz.prog 24 #[.int .i64 p] w' fun e w'' => e = .returned (.string ⟨(Lib.itoa p).toArray⟩) ∧ w' = w'') := Lib.hid (fun w' => rdigits_any p w' (by omega) (by omega))
      go_enter Tryz.func9, Tryz.ntmps9
      go_wp2_with (first
        | ((with_reducible show wpList _ _ _ (⟨some 1, _, _, _, _, _⟩ :: _) _ _); refine wpList_boxB (o := ⟨some 1, _, _, _, _, _⟩) rfl _ _ rfl rfl ?_; intro g w1 hg hB hb hs; have HB := Lib.hid hB; have Hb := Lib.hid hb; clear hg hs hB hb)
        | ((with_reducible show wpList _ _ _ (⟨some 6, _, _, _, _, _⟩ :: _) _ _); refine wpList_loadB (o := ⟨some 6, _, _, _, _, _⟩) rfl _ _ rfl rfl HB.out ev_under rfl (ev_size' _) ?_)
        | (go_at_call 11; (with_reducible refine (HC.out _).mono ?_); rintro e2 w2 ⟨rfl, hb2⟩; have HB := Lib.hid (HB.out.bel hb2); have Hb := Lib.hid (bel_tr Hb.out hb2); clear hb2; rw [Hcc.out]; refine holdL ?_))
      refine Lib.hid ?_
      have c0 : w2.cell? ⟨g, 0, none⟩ = _ := (HB.out.cell 0).trans (evA_0 _)
      have c19 : w2.cell? ⟨g, 19, none⟩ = _ := (HB.out.cell 19).trans (evA_19 _)
      have c20 : w2.cell? ⟨g, 20, none⟩ = _ := (HB.out.cell 20).trans (evA_20 _)
      have c21 : w2.cell? ⟨g, 21, none⟩ = _ := (HB.out.cell 21).trans (evA_21 _)
      have R1 := Lib.hid (HB.out.range_ev)
      dsimp only at c0 c19 c20 c21
      have HL : Hid (linE ⟨3, a, fp, p, d⟩ = joi [32] [wOpen, Lib.itoa p]) := Lib.hid rfl
      have hpl := itoa_len ⟨hp0, hp1⟩
      go_wp2_with (go_at_call 24; (with_reducible refine (HP.out _).mono ?_); rintro e3 w3 ⟨rfl, h3⟩; have h4 := h3.symm; subst h4; clear h3)
      go_ret2
      exact ⟨by rw [HR.out, HL.out]; simp [datV, stv, joi, Lib.join, wOpen], Hb.out⟩
    · skip
      obtain ⟨hp0, hp1⟩ := h3 (by omega)
      clear h1 h2 h3
      have HP : Hid (∀ w', Calls Tryz.prog 24 #[.int .i64 p] w' fun e w'' => e = .returned (.string ⟨(Lib.itoa p).toArray⟩) ∧ w' = w'') := Lib.hid (fun w' => rdigits_any p w' (by omega) (by omega))
      have HX := Lib.hid (fun w' => rhex44_any d w' (by omega))
      go_enter Tryz.func9, Tryz.ntmps9
      go_wp2_with (first
        | ((with_reducible show wpList _ _ _ (⟨some 1, _, _, _, _, _⟩ :: _) _ _); refine wpList_boxB (o := ⟨some 1, _, _, _, _, _⟩) rfl _ _ rfl rfl ?_; intro g w1 hg hB hb hs; have HB := Lib.hid hB; have Hb := Lib.hid hb; clear hg hs hB hb)
        | ((with_reducible show wpList _ _ _ (⟨some 6, _, _, _, _, _⟩ :: _) _ _); refine wpList_loadB (o := ⟨some 6, _, _, _, _, _⟩) rfl _ _ rfl rfl HB.out ev_under rfl (ev_size' _) ?_)
        | (go_at_call 11; (with_reducible refine (HC.out _).mono ?_); rintro e2 w2 ⟨rfl, hb2⟩; have HB := Lib.hid (HB.out.bel hb2); have Hb := Lib.hid (bel_tr Hb.out hb2); clear hb2; rw [Hcc.out]; refine holdL ?_))
      refine Lib.hid ?_
      have c0 : w2.cell? ⟨g, 0, none⟩ = _ := (HB.out.cell 0).trans (evA_0 _)
      have c19 : w2.cell? ⟨g, 19, none⟩ = _ := (HB.out.cell 19).trans (evA_19 _)
      have c20 : w2.cell? ⟨g, 20, none⟩ = _ := (HB.out.cell 20).trans (evA_20 _)
      have c21 : w2.cell? ⟨g, 21, none⟩ = _ := (HB.out.cell 21).trans (evA_21 _)
      have R1 := Lib.hid (HB.out.range_ev)
      dsimp only at c0 c19 c20 c21
      have HL : Hid (linE ⟨4, a, fp, p, d⟩ = joi [32] [wBytes, Lib.itoa p, hexE d]) := Lib.hid rfl
      have hxl := hexE_len d
      have hpl := itoa_len ⟨hp0, hp1⟩
      go_wp2_with (first
        | (go_at_call 24; (with_reducible refine (HP.out _).mono ?_); rintro e3 w3 ⟨rfl, h3⟩; have h4 := h3.symm; subst h4; clear h3)
        | (go_at_call 13; refine (HX.out _).mono ?_; rintro e6 w6 ⟨rfl, hb6⟩; have Hb := Lib.hid (bel_tr Hb.out hb6); clear hb6))
      go_ret2
      exact ⟨by rw [HR.out, HL.out]; simp [datV, stv, joi, Lib.join, wBytes], Hb.out⟩
    · skip
      obtain ⟨hp0, hp1⟩ := h3 (by omega)
      clear h1 h2 h3
      have HP : Hid (∀ w', Calls Tryz.prog 24 #[.int .i64 p] w' fun e w'' => e = .returned (.string ⟨(Lib.itoa p).toArray⟩) ∧ w' = w'') := Lib.hid (fun w' => rdigits_any p w' (by omega) (by omega))
      go_enter Tryz.func9, Tryz.ntmps9
      go_wp2_with (first
        | ((with_reducible show wpList _ _ _ (⟨some 1, _, _, _, _, _⟩ :: _) _ _); refine wpList_boxB (o := ⟨some 1, _, _, _, _, _⟩) rfl _ _ rfl rfl ?_; intro g w1 hg hB hb hs; have HB := Lib.hid hB; have Hb := Lib.hid hb; clear hg hs hB hb)
        | ((with_reducible show wpList _ _ _ (⟨some 6, _, _, _, _, _⟩ :: _) _ _); refine wpList_loadB (o := ⟨some 6, _, _, _, _, _⟩) rfl _ _ rfl rfl HB.out ev_under rfl (ev_size' _) ?_)
        | (go_at_call 11; (with_reducible refine (HC.out _).mono ?_); rintro e2 w2 ⟨rfl, hb2⟩; have HB := Lib.hid (HB.out.bel hb2); have Hb := Lib.hid (bel_tr Hb.out hb2); clear hb2; rw [Hcc.out]; refine holdL ?_))
      refine Lib.hid ?_
      have c0 : w2.cell? ⟨g, 0, none⟩ = _ := (HB.out.cell 0).trans (evA_0 _)
      have c19 : w2.cell? ⟨g, 19, none⟩ = _ := (HB.out.cell 19).trans (evA_19 _)
      have c20 : w2.cell? ⟨g, 20, none⟩ = _ := (HB.out.cell 20).trans (evA_20 _)
      have c21 : w2.cell? ⟨g, 21, none⟩ = _ := (HB.out.cell 21).trans (evA_21 _)
      have R1 := Lib.hid (HB.out.range_ev)
      dsimp only at c0 c19 c20 c21
      have HL : Hid (linE ⟨5, a, fp, p, d⟩ = joi [32] [wClose, Lib.itoa p]) := Lib.hid rfl
      have hpl := itoa_len ⟨hp0, hp1⟩
      go_wp2_with (go_at_call 24; (with_reducible refine (HP.out _).mono ?_); rintro e3 w3 ⟨rfl, h3⟩; have h4 := h3.symm; subst h4; clear h3)
      go_ret2
      exact ⟨by rw [HR.out, HL.out]; simp [datV, stv, joi, Lib.join, wClose], Hb.out⟩
end Go.Proofs.YtgebcifkbldfoaaGreatDoor
