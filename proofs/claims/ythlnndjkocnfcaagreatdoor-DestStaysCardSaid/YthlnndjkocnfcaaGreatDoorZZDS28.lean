/- Contracts and plain lemmas of our own, merged. -/
import Derived.Test.YthlnndjkocnfcaaGreatDoorZZDS1
import Derived.Test.YthlnndjkocnfcaaGreatDoorZZDS10
import Derived.Test.YthlnndjkocnfcaaGreatDoorZZDS12
import Derived.Test.YthlnndjkocnfcaaGreatDoorZZDS13
import Derived.Test.YthlnndjkocnfcaaGreatDoorZZDS21
import Derived.Test.YthlnndjkocnfcaaGreatDoorZZDS23
import Derived.Test.YthlnndjkocnfcaaGreatDoorZZDS24
import Derived.Test.YthlnndjkocnfcaaGreatDoorZZDS27
import Derived.Deep.DeepCutAuto
/- dest.Order (printed by mk_dso.py). -/
namespace Go.Proofs.YthlnndjkocnfcaaGreatDoor
open Go.RowKit
attribute [local go_sem] ba_get ext_take ext_drop ext_any ba_app

/-- by which the addresses are put in order. -/
def dcm (N : Nt) (a b : Ad) : Int := (dbet (dwN N a) (dwN N b)).1
theorem dcm_neg (N : Nt) (a b : Ad) : dcm N b a = - dcm N a b := (dbet_neg _ _).1
theorem put_new {α : Type} (A : List α) (d y : α) (r : Nat) : (A ++ List.replicate (r + 1) d).set A.length y = midS A y A.length (List.replicate r d) := by
  rw [midS_top, List.set_append_right _ _ (Nat.le_refl _), Nat.sub_self, List.replicate_succ]
  rfl
structure OrR (w : World) (g2 : Nat) (vi vr vp v5 v6 : Value) (B5 B6 : Nat) (O : List Ad) (Q : List Dw) (wr : World) : Prop where
  b2 : Bk wr g2 26 #[vi, vr, vp]
  o5 : wr.ownsRow B5 29 18 v5 O.length (O.flatMap adL)
  o6 : wr.ownsRow B6 49 10 v6 Q.length (Q.flatMap dwL)
  b : Below w.heap.size w wr
theorem OrR.bel {w wr w' : World} {g2 : Nat} {vi vr vp v5 v6 : Value} {B5 B6 : Nat} {O : List Ad} {Q : List Dw} (h : OrR w g2 vi vr vp v5 v6 B5 B6 O Q wr) (k : Below wr.heap.size wr w') : OrR w g2 vi vr vp v5 v6 B5 B6 O Q w' :=
  ⟨h.b2.bel k, own_below h.o5 k, own_below h.o6 k, bel_tr h.b k⟩
set_option maxRecDepth 100000 in
set_option maxHeartbeats 40000000 in
theorem dOrder_pos (vi vr vp v : Value) (N : Nt) (l : List Ad) (w : World) (hN : NetRaw w vi vr vp N) (hE : EnvS w) (hlI : N.I.length ≤ 1000000) (hlR : N.R.length ≤ 1000000) (hlP : N.P.length ≤ 1000000) (hs : Sl w 18 v l.length (l.flatMap adL)) (hl : l.length ≤ 1000) (hp : 0 < l.length) :
    Calls Tryz.prog 10 #[.agg #[vi, vr, vp], v] w (AdsPost w (ordF (dcm N) l)) := by
  have HN := Lib.hid hN
  have HE := Lib.hid hE
  have Hns := Lib.hid (show (Tryz.prog.info? 26).map (·.size) = some (#[vi, vr, vp] : Array Value).size from net_size)
  have HW : Hid (∀ a w', NetRaw w' vi vr vp N → EnvS w' → Calls Tryz.prog 16 #[.agg #[vi, vr, vp], .agg (adA a)] w' (DwPost w' (dwN N a))) := Lib.hid (fun a w' h k => dworth_any vi vr vp N a w' h k hlI hlR hlP)
  have HB : Hid (∀ a b w', Calls Tryz.prog 15 #[.agg (dwA (dwN N a)), .agg (dwA (dwN N b))] w' fun e w'' => e = .returned (.tuple #[.int .i64 (dcm N a b), .int .i64 (dbet (dwN N a) (dwN N b)).2]) ∧ Below w'.heap.size w' w'') := Lib.hid (fun a b w' => dbetter_any _ _ w')
  have HC : Hid (∀ w', Sl w' 18 v l.length (l.flatMap adL) → Calls Tryz.prog 23 #[v] w' (AdsPost w' l)) := Lib.hid (fun w' h => rclone_any v l w' h (by omega))
  obtain ⟨A, c, rfl, hc⟩ := hs.any
  have Hsl := Lib.hid hs
  clear hN hE hlI hlR hlP hs
  obtain ⟨n, hn⟩ : ∃ n, n = l.length := ⟨_, rfl⟩
  rw [← hn] at hl hp hc Hsl HC ⊢
  have Hn := Lib.hid hn
  clear hn
  go_enter Tryz.func10, Tryz.ntmps10
  go_wp2_with (first
    | ((with_reducible refine wpList_boxB (o := ⟨some 2, _, _, _, _, _⟩) rfl _ _ rfl rfl ?_); intro g2 w1 hg hB2 hb1 hs; clear hg hs)
    | (go_at_call 23; (with_reducible refine (HC.out w1 (Hsl.out.below hb1)).mono ?_); rintro e w2 ⟨v5, rfl, ho5, hb2⟩)
    | ((with_reducible show wpList _ _ _ (⟨some 16, _, _, _, _, _⟩ :: _) _ _); refine wpList_makeDw (o := ⟨some 16, _, _, _, _, _⟩) rfl _ _ rfl n rfl rfl rfl rfl (by omega) ?_; intro v6 w3 ho6 hb3))
  have hb02 := bel_tr hb1 hb2
  have R0 : OrR w g2 vi vr vp v5 v6 w1.heap.size w2.heap.size l (List.replicate n dw0) w3 :=
    ⟨(hB2.bel hb2).bel hb3, own_below ho5 hb3, ho6, bel_tr hb02 hb3⟩
  have Hbs := Lib.hid (show w.heap.size ≤ w1.heap.size ∧ w1.heap.size ≤ w2.heap.size ∧ g2 < w1.heap.size from ⟨hb1.size, hb2.size, hB2.lt⟩)
  have Hsep : Hid (∀ g5 c5 f5 g6 c6 f6 : Nat, v5 = .slice (some ⟨g5, f5, none⟩) n c5 → v6 = .slice (some ⟨g6, f6, none⟩) n c6 → g5 < g6) := Lib.hid (by
    intro g5 c5 f5 g6 c6 f6 h5 h6
    have h1 := (ho5.lt g5 (by rw [h5]; rfl)).2
    have h2 := (ho6.lt g6 (by rw [h6]; rfl)).1
    omega)
  generalize w1.heap.size = B5 at *
  generalize w2.heap.size = B6 at *
  clear hB2 hb1 hb2 hb3 hb02 ho5 ho6 HC hc
  go_loopw [19] (fun kv wr => ∃ k : Nat, k ≤ n ∧ kv = .int .i64 k ∧ OrR w g2 vi vr vp v5 v6 B5 B6 (ordF (dcm N) (l.take k) ++ l.drop k) ((ordF (dcm N) (l.take k)).map (dwN N) ++ List.replicate (n - k) dw0) wr) (fun kv _ => n - (intOf kv).toNat)
  case atStart => exact ⟨0, by omega, rfl, by rw [List.take_zero, List.drop_zero, Nat.sub_zero]; exact R0⟩
  case round =>
    obtain ⟨k, hk, rfl, ro⟩ := hrel
    clear R0
    obtain ⟨wo, rfl⟩ : ∃ wo, wo = wr := ⟨_, rfl⟩
    by_cases hlt : k < n
    · have hkl : k < l.length := by have := Hn.out; omega
      have hPl : (ordF (dcm N) (l.take k)).length = k := ordF_take_len _ _ (by omega)
      have hlen : (ordF (dcm N) (l.take k) ++ l.drop k).length = n := by rw [List.length_append, hPl, List.length_drop]; have := Hn.out; omega
      have hQlen : ((ordF (dcm N) (l.take k)).map (dwN N) ++ List.replicate (n - k) dw0).length = n := by rw [List.length_append, List.length_map, hPl, List.length_replicate]; omega
      obtain ⟨g5, c5, f5, hv5, hf5, hb5, hl5, hc5⟩ := own_head ro.o5 (by omega)
      obtain ⟨g6, c6, f6, hv6, hf6, hb6, hl6, hc6⟩ := own_head ro.o6 (by omega)
      rw [hlen] at hv5 hc5
      rw [hQlen] at hv6 hc6
      have hsep := Hsep.out _ _ _ _ _ _ hv5 hv6
      have Hgs := Lib.hid (show w.heap.size ≤ g5 ∧ w.heap.size ≤ g6 ∧ g2 < g5 ∧ g5 < g6 by have := Hbs.out; omega)
      clear Hsep
      subst hv5 hv6
      have f5z := Lib.hid hf5
      have f6z := Lib.hid hf6
      clear hf5 hf6 hb5 hb6 hl5 hl6 hsep Hbs
      have j0 : (k : Int) < (n : Int) := by omega
      have HO : Hid (∀ j, goF (dcm N) l[k] (ordF (dcm N) (l.take k)) k = j → midS (ordF (dcm N) (l.take k)) l[k] j (l.drop (k + 1)) = ordF (dcm N) (l.take (k + 1)) ++ l.drop (k + 1)) := Lib.hid (fun j hj => by
        have := midS_ins (P := ordF (dcm N) (l.take k)) (x := l[k]) (Y := l.drop (k + 1)) (dcm N)
        rw [hPl, hj] at this
        rw [this, ordF_snoc (dcm N) l hkl])
      have HQ : Hid (∀ j, goF (dcm N) l[k] (ordF (dcm N) (l.take k)) k = j → midS ((ordF (dcm N) (l.take k)).map (dwN N)) (dwN N l[k]) j (List.replicate (n - (k + 1)) dw0) = (ordF (dcm N) (l.take (k + 1))).map (dwN N) ++ List.replicate (n - (k + 1)) dw0) := Lib.hid (fun j hj => by
        have := midS_ins_map (P := ordF (dcm N) (l.take k)) (x := l[k]) (dwN N) (dcm N) (List.replicate (n - (k + 1)) dw0)
        rw [hPl, hj] at this
        rw [this, ordF_snoc (dcm N) l hkl])
      have hput : ((ordF (dcm N) (l.take k)).map (dwN N) ++ List.replicate (n - k) dw0).set k (dwN N l[k]) = midS ((ordF (dcm N) (l.take k)).map (dwN N)) (dwN N l[k]) k (List.replicate (n - (k + 1)) dw0) := by
        have := put_new ((ordF (dcm N) (l.take k)).map (dwN N)) dw0 (dwN N l[k]) (n - (k + 1))
        rw [List.length_map, hPl, show n - (k + 1) + 1 = n - k by omega] at this
        exact this
      have hO0 : ordF (dcm N) (l.take k) ++ l.drop k = midS (ordF (dcm N) (l.take k)) l[k] k (l.drop (k + 1)) := by
        have := midS_top (P := ordF (dcm N) (l.take k)) (x := l[k]) (Y := l.drop (k + 1))
        rw [hPl] at this
        rw [this, ← List.drop_eq_getElem_cons hkl]
      have HBm : Hid (∀ m (h : m < (ordF (dcm N) (l.take k)).length) (h' : m < ((ordF (dcm N) (l.take k)).map (dwN N)).length) w', Calls Tryz.prog 15 #[.agg (dwA (dwN N l[k])), .agg (dwA ((ordF (dcm N) (l.take k)).map (dwN N))[m])] w' fun e w'' => e = .returned (.tuple #[.int .i64 (dcm N l[k] (ordF (dcm N) (l.take k))[m]), .int .i64 (dbet (dwN N l[k]) ((ordF (dcm N) (l.take k)).map (dwN N))[m]).2]) ∧ Below w'.heap.size w' w'') := Lib.hid (fun m h h' w' => by rw [List.getElem_map]; exact HB.out _ _ w')
      have HWx := Lib.hid (HW.out l[k])
      obtain ⟨b, off, c', hv, hc', hbl, hcell⟩ := (Hsl.out.below ro.b).pos (by omega)
      injection hv with hv1 hv2 hv3
      subst hv1 hv3
      have hR := range_of adL_len hcell hkl
      have hPW : ((ordF (dcm N) (l.take k)).map (dwN N)).length = k := by rw [List.length_map, hPl]
      clear hcell hv2 hc' hlen
      rw [hO0] at ro
      generalize ((ordF (dcm N) (l.take k)).map (dwN N) ++ List.replicate (n - k) dw0) = Q0 at *
      generalize hO1 : ordF (dcm N) (l.take (k + 1)) ++ l.drop (k + 1) = O1 at *
      generalize hQ1 : (ordF (dcm N) (l.take (k + 1))).map (dwN N) ++ List.replicate (n - (k + 1)) dw0 = Q1 at *
      generalize (ordF (dcm N) (l.take k)).map (dwN N) = PW at *
      generalize dwN N l[k] = Wx at *
      generalize l[k] = x at *
      generalize ordF (dcm N) (l.take k) = P at *
      generalize hY : l.drop (k + 1) = Y at *
      generalize hZ : List.replicate (n - (k + 1)) dw0 = Z at *
      have HY := Lib.hid hY
      have HZ := Lib.hid hZ
      clear hY hZ
      have HO1 := Lib.hid hO1
      have HQ1 := Lib.hid hQ1
      have LR := Lib.hid hR
      have RO := Lib.hid ro
      have Hput := Lib.hid hput
      have HkQ := Lib.hid (show k < Q0.length by omega)
      have HPl := Lib.hid (show P.length = k ∧ PW.length = k from ⟨hPl, hPW⟩)
      clear hO1 hQ1 hR ro hput hQlen hPl hPW hO0 hkl
      go_wp2_with (first
        | (with_reducible refine wpList_loadAdM (o := ⟨some 23, _, _, _, _, _⟩) rfl _ rfl rfl LR.out ?_)
        | ((with_reducible refine wpList_allocAd (o := ⟨some 8, _, _, _, _, _⟩) rfl rfl ?_); intro g8 w4 hg hB8 hb4 hs; have hg8 : wo.heap.size ≤ g8 := Nat.le_of_eq hg.symm; clear hg hs)
        | ((with_reducible refine wpList_storeAd (o := ⟨none, _, _, _, _, _⟩) rfl (.tmp 8) _ rfl rfl rfl hB8 ?_); intro w5 hB85 hS5; have hbz := hb4.trans (hS5.below hg8); have R5 := Lib.hid (RO.out.bel hbz); have B8 := Lib.hid hB85; clear RO hB8 hb4 hg8 hB85 hS5 hbz LR; refine hold ?_))
      refine Lib.hid ?_
      go_wp2_with (first
        | (with_reducible refine wpList_loadB (o := ⟨some 26, _, _, _, _, _⟩) rfl _ _ rfl rfl R5.out.b2 net_under rfl Hns.out ?_)
        | (with_reducible refine wpList_loadAd (o := ⟨some 27, _, _, _, _, _⟩) rfl _ rfl rfl B8.out ?_)
        | (go_at_call 16; (with_reducible refine (HWx.out _ (HN.out.below R5.out.b) (HE.out.below R5.out.b)).mono ?_); rintro e w6 ⟨rfl, hb6⟩; have R6 := Lib.hid (R5.out.bel hb6); clear R5 hb6 B8)
        | ((with_reducible show wpList _ _ _ (⟨none, .store 49 _ _, _, _, _, _⟩ :: _) _ _); refine wpList_storeO (k := k) (o := ⟨none, .store 49 _ _, _, _, _, _⟩) dwL_len rfl _ _ _ rfl rfl rfl f6z.out R6.out.o6 HkQ.out dw_size (dwA_one _) ?_; intro w7 o7 s7
           rw [Hput.out] at o7
           have g := Hgs.out
           have R7 : Hid (OrR w g2 vi vr vp (.slice (some ⟨g5, f5, none⟩) n c5) (.slice (some ⟨g6, f6, none⟩) n c6) B5 B6 (midS P x k Y) (midS PW Wx k Z) w7) := Lib.hid ⟨R6.out.b2.stays s7 (by omega), own_apart R6.out.o5 s7 (by omega), o7, R6.out.b.trans (s7.below g.2.1)⟩
           clear R6 o7 s7 g
           refine hold ?_))
      refine Lib.hid ?_
      clear HWx Hput HkQ
      go_wp2_with (fail)
      go_loopw [9] (fun jv wr => ∃ (j : Nat) (z : Int), j ≤ k ∧ jv = .int .i64 z ∧ z = (j : Int) ∧ goF (dcm N) x P k = goF (dcm N) x P j ∧ OrR w g2 vi vr vp (.slice (some ⟨g5, f5, none⟩) n c5) (.slice (some ⟨g6, f6, none⟩) n c6) B5 B6 (midS P x j Y) (midS PW Wx j Z) wr) (fun jv _ => (intOf jv).toNat)
      case atStart => exact ⟨k, (k : Int), Nat.le_refl _, rfl, rfl, rfl, R7.out⟩
      case round =>
        obtain ⟨j, z, hj, rfl, hz, hg, ri⟩ := hrel
        clear R7
        rcases Nat.eq_zero_or_pos j with h0 | h0
        · subst h0
          obtain rfl : z = 0 := by omega
          have RI := Lib.hid ri
          have G : Hid (goF (dcm N) x P k = 0) := Lib.hid hg
          clear hz hg ri
          go_wp2_with (fail)
          go_roundw
          case rel => exact ⟨k + 1, by omega, by go_num, by rw [HY.out, HZ.out, HO1.out, HQ1.out, ← HO.out _ G.out, ← HQ.out _ G.out]; exact RI.out⟩
          case measure => simp [intOf]; omega
        · obtain ⟨m, rfl⟩ : ∃ m, j = m + 1 := ⟨j - 1, by omega⟩
          obtain rfl : z = (m : Int) + 1 := by omega
          have hmP : m < P.length := by have := HPl.out; omega
          have hmW : m < PW.length := by have := HPl.out; omega
          have K1 := Lib.hid (show m + 1 < (midS PW Wx (m + 1) Z).length by rw [midS_len]; omega)
          have K0 := Lib.hid (show m < (midS PW Wx (m + 1) Z).length by rw [midS_len]; omega)
          have C1 := Lib.hid (show m + 1 < (midS P x (m + 1) Y).length by rw [midS_len]; omega)
          have C0 := Lib.hid (show m < (midS P x (m + 1) Y).length by rw [midS_len]; omega)
          have r1 := own_range dwL_len f6z.out ri.o6 K1.out
          rw [midS_at (by omega)] at r1
          have r0 := own_range dwL_len f6z.out ri.o6 K0.out
          rw [midS_below (by omega)] at r0
          have HBt := Lib.hid (HBm.out m hmP hmW)
          have hst : dcm N x P[m] ≤ 0 → goF (dcm N) x P (m + 1) = m + 1 := fun h => goF_stop (by rw [passB_at hmP]; exact decide_eq_false (by omega))
          have hon : ¬ dcm N x P[m] ≤ 0 → goF (dcm N) x P (m + 1) = goF (dcm N) x P m := fun h => goF_on (by rw [passB_at hmP]; exact decide_eq_true (by omega))
          have HA0 : Hid (∀ h : m < (midS P x (m + 1) Y).length, (midS P x (m + 1) Y)[m] = P[m]) := Lib.hid (fun h => midS_below (by omega) h)
          have HW0 : Hid (∀ h : m < (midS PW Wx (m + 1) Z).length, (midS PW Wx (m + 1) Z)[m] = PW[m]) := Lib.hid (fun h => midS_below (by omega) h)
          have HW1 : Hid (∀ h : m + 1 < (midS PW Wx (m + 1) Z).length, (midS PW Wx (m + 1) Z)[m + 1] = Wx) := Lib.hid (fun h => midS_at (by omega) h)
          have HA1 : Hid (∀ h : m + 1 < (midS P x (m + 1) Y).length, (midS P x (m + 1) Y)[m + 1] = x) := Lib.hid (fun h => midS_at (by omega) h)
          have hsw : ((midS P x (m + 1) Y).set (m + 1) P[m]).set m x = midS P x m Y := midS_swap (by omega)
          have hsW : ((midS PW Wx (m + 1) Z).set (m + 1) PW[m]).set m Wx = midS PW Wx m Z := midS_swap (by omega)
          generalize dcm N x P[m] = D at *
          generalize (dbet Wx PW[m]).2 = D2 at *
          generalize PW[m] = Wy at *
          generalize P[m] = y at *
          have L1 := Lib.hid r1
          have L0 := Lib.hid r0
          have RI := Lib.hid ri
          have HG := Lib.hid hg
          have Hst := Lib.hid hst
          have Hon := Lib.hid hon
          have Hsw := Lib.hid hsw
          have HsW := Lib.hid hsW
          have Hmk := Lib.hid (show m + 1 < n by omega)
          have HI1 : Hid ((Tryz.prog.info? 49).map (·.size) = some (dwL Wx).length) := Lib.hid (by rw [dwL_len]; exact dw_size)
          have HI0 : Hid ((Tryz.prog.info? 49).map (·.size) = some (dwL Wy).length) := Lib.hid (by rw [dwL_len]; exact dw_size)
          have m1 : (m : Int) + 1 < (n : Int) := by omega
          have m0 : (m : Int) < (n : Int) := by omega
          have n1 : (0 : Int) < (m : Int) + 1 := by omega
          have n0 : (0 : Int) ≤ (m : Int) + 1 := by omega
          have n2 : (0 : Int) ≤ (m : Int) := by omega
          have wm : IntKind.i64.wrap (m : Int) = (m : Int) := IntWalk.i64_in _ (by omega)
          clear r1 r0 ri hg hst hon hsw hsW hz h0 hmP hmW
          go_wp2_with (fail)
          refine wp_region_bel (by kernel_rfl) (by kernel_rfl) ?_
          repeat (first
            | go_big_quiet_skip
            | (go_big_quiet_want; first
                | ((with_reducible show (⟨some 39, _, _, _, _, _⟩ : Oper).quiet _ _ _ _); refine quiet_loadK (o := ⟨some 39, _, _, _, _, _⟩) 49 _ rfl rfl (cs := dwA Wx) rfl L1.out dw_under rfl HI1.out (by simp only [Act.put, List.setIfInBounds_toArray, List.set_cons_succ, List.set_cons_zero]; exact rfl) ?_; go_big_quiet_on)
                | ((with_reducible show (⟨some 44, _, _, _, _, _⟩ : Oper).quiet _ _ _ _); refine quiet_loadK (o := ⟨some 44, _, _, _, _, _⟩) 49 _ rfl rfl (cs := dwA Wy) rfl L0.out dw_under rfl HI0.out (by simp only [Act.put, List.setIfInBounds_toArray, List.set_cons_succ, List.set_cons_zero]; exact rfl) ?_; go_big_quiet_on)
                | (go_big_quiet_op; first | go_big_quiet_on | go_big_quiet_call ((go_at_call 15; with_reducible refine bel_call (HBt.out _))))))
          refine wpQuiet_nil ?_
          rintro _ ⟨u, rfl⟩
          have RU := Lib.hid (RI.out.bel u.bel)
          clear RI L1 L0 HBt HI1 HI0
          by_cases hD : D ≤ 0
          · have G : Hid (goF (dcm N) x P k = m + 1) := Lib.hid (HG.out.trans (Hst.out (by omega)))
            go_wp2_with (fail)
            go_roundw
            case rel => exact ⟨k + 1, by omega, by go_num, by rw [HY.out, HZ.out, HO1.out, HQ1.out, ← HO.out _ G.out, ← HQ.out _ G.out]; exact RU.out⟩
            case measure => simp [intOf]; omega
          · have G : Hid (goF (dcm N) x P k = goF (dcm N) x P m) := Lib.hid (HG.out.trans (Hon.out (by omega)))
            clear Hst Hon HG
            have hD' : 0 < D := by omega
            go_wp2_with (fail)
            apply region_cut0 (R := fun w' => w'.ownsRow B6 49 10 (.slice (some ⟨g6, f6, none⟩) n c6) (((midS PW Wx (m + 1) Z).set (m + 1) Wy).set m Wx).length ((((midS PW Wx (m + 1) Z).set (m + 1) Wy).set m Wx).flatMap dwL) ∧ Stays g6 u.at_ w')
            case h =>
              have o6 := RU.out.o6
              have r1 := own_range dwL_len f6z.out o6 K1.out
              rw [HW1.out] at r1
              have r0 := own_range dwL_len f6z.out o6 K0.out
              rw [HW0.out] at r0
              refine wp_region_held (S := fun _ => True) (by kernel_rfl) ?_
              obtain ⟨wd, hwd⟩ : ∃ wd : World, wd = { u.at_ with drawn := u.at_.drawn + 1 } := ⟨_, rfl⟩
              rw [← hwd]
              have oD := Lib.hid (show wd.ownsRow B6 49 10 (.slice (some ⟨g6, f6, none⟩) n c6) (midS PW Wx (m + 1) Z).length ((midS PW Wx (m + 1) Z).flatMap dwL) by rw [hwd]; exact o6)
              have sD : Stays g6 u.at_ wd := by rw [hwd]; exact ⟨rfl, rfl, rfl, rfl, fun _ _ => rfl⟩
              have L1 := Lib.hid (show wd.rangeAt g6 (f6 + (m + 1) * 10) (dwL Wx) by rw [hwd]; exact r1)
              have L0 := Lib.hid (show wd.rangeAt g6 (f6 + m * 10) (dwL Wy) by rw [hwd]; exact r0)
              clear o6 r1 r0 hwd
              refine wpAnyH_take (i := 0) (oi := ⟨some 50, Op.move (Operand.tmp 6), _, _, _, none⟩) (v := Value.slice (some ⟨g6, f6, none⟩) n c6) rfl (by kernel_rfl) (by kernel_rfl) (by kernel_rfl) (fun _ _ _ h => nomatch h.1) (Or.inl ⟨by rfl, fun w' hS' => by go_simp⟩) trivial ?_
              simp only [Act.put, List.setIfInBounds_toArray, List.set_cons_zero, List.set_cons_succ]
              refine wpAnyH_take (i := 1) (oi := ⟨some 51, Op.move (Operand.tmp 9), _, _, _, none⟩) (v := Value.int .i64 ((m : Int) + 1)) rfl (by kernel_rfl) (by kernel_rfl) (by kernel_rfl) (fun _ _ _ h => nomatch h.1) (Or.inl ⟨by rfl, fun w' hS' => by go_simp⟩) trivial ?_
              simp only [Act.put, List.setIfInBounds_toArray, List.set_cons_zero, List.set_cons_succ]
              refine wpAnyH_take (i := 2) (oi := ⟨some 52, Op.move (Operand.tmp 6), _, _, _, none⟩) (v := Value.slice (some ⟨g6, f6, none⟩) n c6) rfl (by kernel_rfl) (by kernel_rfl) (by kernel_rfl) (fun _ _ _ h => nomatch h.1) (Or.inl ⟨by rfl, fun w' hS' => by go_simp⟩) trivial ?_
              simp only [Act.put, List.setIfInBounds_toArray, List.set_cons_zero, List.set_cons_succ]
              refine wpAnyH_take (i := 3) (oi := ⟨some 53, Op.move (Operand.tmp 9), _, _, _, none⟩) (v := Value.int .i64 ((m : Int) + 1)) rfl (by kernel_rfl) (by kernel_rfl) (by kernel_rfl) (fun _ _ _ h => nomatch h.1) (Or.inl ⟨by rfl, fun w' hS' => by go_simp⟩) trivial ?_
              simp only [Act.put, List.setIfInBounds_toArray, List.set_cons_zero, List.set_cons_succ]
              refine wpAnyH_take (i := 4) (oi := ⟨some 54, Op.binOp BinOp.sub 3 (Operand.tmp 53) (Operand.const (Value.int IntKind.i64 1)) 3, _, _, _, none⟩) (v := Value.int .i64 (m : Int)) rfl (by kernel_rfl) (by kernel_rfl) (by kernel_rfl) (fun _ _ _ h => nomatch h.1) (Or.inl ⟨by rfl, fun w' hS' => by go_simp⟩) trivial ?_
              simp only [Act.put, List.setIfInBounds_toArray, List.set_cons_zero, List.set_cons_succ]
              refine wpAnyH_take (i := 5) (oi := ⟨some 55, Op.move (Operand.tmp 6), _, _, _, none⟩) (v := Value.slice (some ⟨g6, f6, none⟩) n c6) rfl (by kernel_rfl) (by kernel_rfl) (by kernel_rfl) (fun _ _ _ h => nomatch h.1) (Or.inl ⟨by rfl, fun w' hS' => by go_simp⟩) trivial ?_
              simp only [Act.put, List.setIfInBounds_toArray, List.set_cons_zero, List.set_cons_succ]
              refine wpAnyH_take (i := 6) (oi := ⟨some 56, Op.move (Operand.tmp 9), _, _, _, none⟩) (v := Value.int .i64 ((m : Int) + 1)) rfl (by kernel_rfl) (by kernel_rfl) (by kernel_rfl) (fun _ _ _ h => nomatch h.1) (Or.inl ⟨by rfl, fun w' hS' => by go_simp⟩) trivial ?_
              simp only [Act.put, List.setIfInBounds_toArray, List.set_cons_zero, List.set_cons_succ]
              refine wpAnyH_take (i := 7) (oi := ⟨some 57, Op.binOp BinOp.sub 3 (Operand.tmp 56) (Operand.const (Value.int IntKind.i64 1)) 3, _, _, _, none⟩) (v := Value.int .i64 (m : Int)) rfl (by kernel_rfl) (by kernel_rfl) (by kernel_rfl) (fun _ _ _ h => nomatch h.1) (Or.inl ⟨by rfl, fun w' hS' => by go_simp⟩) trivial ?_
              simp only [Act.put, List.setIfInBounds_toArray, List.set_cons_zero, List.set_cons_succ]
              refine wpAnyH_take (i := 8) (oi := ⟨some 58, Op.indexAddr 63 (Operand.tmp 55) (Operand.tmp 57), _, _, _, none⟩) (v := Value.pointer (some ⟨g6, f6 + m * 10, none⟩)) rfl (by kernel_rfl) (by kernel_rfl) (by kernel_rfl) (fun _ _ _ h => nomatch h.1) (Or.inl ⟨by rfl, fun w' hS' => by go_simp⟩) trivial ?_
              simp only [Act.put, List.setIfInBounds_toArray, List.set_cons_zero, List.set_cons_succ]
              refine wpAnyH_take (i := 10) (oi := ⟨some 60, Op.move (Operand.tmp 6), _, _, _, none⟩) (v := Value.slice (some ⟨g6, f6, none⟩) n c6) rfl (by kernel_rfl) (by kernel_rfl) (by kernel_rfl) (fun _ _ _ h => nomatch h.1) (Or.inl ⟨by rfl, fun w' hS' => by go_simp⟩) trivial ?_
              simp only [Act.put, List.setIfInBounds_toArray, List.set_cons_zero, List.set_cons_succ]
              refine wpAnyH_take (i := 11) (oi := ⟨some 61, Op.move (Operand.tmp 9), _, _, _, none⟩) (v := Value.int .i64 ((m : Int) + 1)) rfl (by kernel_rfl) (by kernel_rfl) (by kernel_rfl) (fun _ _ _ h => nomatch h.1) (Or.inl ⟨by rfl, fun w' hS' => by go_simp⟩) trivial ?_
              simp only [Act.put, List.setIfInBounds_toArray, List.set_cons_zero, List.set_cons_succ]
              refine wpAnyH_take (i := 12) (oi := ⟨some 62, Op.indexAddr 63 (Operand.tmp 60) (Operand.tmp 61), _, _, _, none⟩) (v := Value.pointer (some ⟨g6, f6 + (m + 1) * 10, none⟩)) rfl (by kernel_rfl) (by kernel_rfl) (by kernel_rfl) (fun _ _ _ h => nomatch h.1) (Or.inl ⟨by rfl, fun w' hS' => by go_simp⟩) trivial ?_
              simp only [Act.put, List.setIfInBounds_toArray, List.set_cons_zero, List.set_cons_succ]
              refine wpAnyH_all (rs := [9, 13]) (by kernel_rfl) (by decide) ?_
              intro i hi
              simp only [List.mem_cons, List.not_mem_nil, or_false] at hi
              rcases hi with rfl | rfl
              · skip
                refine wpOp_of_list (o := ⟨some 59, Op.load 49 (Operand.tmp 58), _, _, _, none⟩) rfl ?_
                refine wpList_loadM_dw rfl _ rfl rfl L0.out ?_
                show True ∧ _
                refine ⟨trivial, ?_⟩
                simp only [Act.put, List.setIfInBounds_toArray, List.set_cons_zero, List.set_cons_succ]
                refine wpAnyH_all (rs := [13]) (by kernel_rfl) (by decide) ?_
                intro i hi
                obtain rfl := List.mem_singleton.1 hi
                refine wpOp_of_list (o := ⟨some 63, Op.load 49 (Operand.tmp 62), _, _, _, none⟩) rfl ?_
                refine wpList_loadM_dw rfl _ rfl rfl L1.out ?_
                show True ∧ _
                refine ⟨trivial, ?_⟩
                simp only [Act.put, List.setIfInBounds_toArray, List.set_cons_zero, List.set_cons_succ]
                refine wpAnyH_take (i := 14) (oi := ⟨some 64, Op.indexAddr 63 (Operand.tmp 50) (Operand.tmp 51), _, _, _, none⟩) (v := Value.pointer (some ⟨g6, f6 + (m + 1) * 10, none⟩)) rfl (by kernel_rfl) (by kernel_rfl) (by kernel_rfl) (fun _ _ _ h => nomatch h.1) (Or.inl ⟨by rfl, fun w' hS' => by go_simp⟩) trivial ?_
                simp only [Act.put, List.setIfInBounds_toArray, List.set_cons_zero, List.set_cons_succ]
                refine wpAnyH_all (rs := [15]) (by kernel_rfl) (by decide) ?_
                intro i hi
                obtain rfl := List.mem_singleton.1 hi
                refine wpOp_of_list (o := ⟨none, Op.store 49 (Operand.tmp 64) (Operand.tmp 59), _, _, _, none⟩) rfl ?_
                refine wpList_storeO (k := m + 1) dwL_len rfl _ _ _ rfl rfl rfl f6z.out oD.out K1.out dw_size (dwA_one _) ?_
                intro x1 o1 s1
                have O1 := Lib.hid o1
                clear o1
                show True ∧ _
                refine ⟨trivial, ?_⟩
                simp only [Act.put]
                refine wpAnyH_take (i := 16) (oi := ⟨some 65, Op.indexAddr 63 (Operand.tmp 52) (Operand.tmp 54), _, _, _, none⟩) (v := Value.pointer (some ⟨g6, f6 + m * 10, none⟩)) rfl (by kernel_rfl) (by kernel_rfl) (by kernel_rfl) (fun _ _ _ h => nomatch h.1) (Or.inl ⟨by rfl, fun w' hS' => by go_simp⟩) trivial ?_
                simp only [Act.put, List.setIfInBounds_toArray, List.set_cons_zero, List.set_cons_succ]
                refine wpAnyH_all (rs := [17]) (by kernel_rfl) (by decide) ?_
                intro i hi
                obtain rfl := List.mem_singleton.1 hi
                refine wpOp_of_list (o := ⟨none, Op.store 49 (Operand.tmp 65) (Operand.tmp 63), _, _, _, none⟩) rfl ?_
                refine wpList_storeO (k := m) dwL_len rfl _ _ _ rfl rfl rfl f6z.out O1.out (by rw [List.length_set]; exact K0.out) dw_size (dwA_one _) ?_
                intro x2 o2 s2
                show True ∧ _
                refine ⟨trivial, ?_⟩
                simp only [Act.put]
                refine wpAnyH_done (by kernel_rfl) ?_ _
                refine ⟨rfl, rfl, ?_, sD.trans (s1.trans s2)⟩
                exact o2
              · skip
                refine wpOp_of_list (o := ⟨some 63, Op.load 49 (Operand.tmp 62), _, _, _, none⟩) rfl ?_
                refine wpList_loadM_dw rfl _ rfl rfl L1.out ?_
                show True ∧ _
                refine ⟨trivial, ?_⟩
                simp only [Act.put, List.setIfInBounds_toArray, List.set_cons_zero, List.set_cons_succ]
                refine wpAnyH_all (rs := [9]) (by kernel_rfl) (by decide) ?_
                intro i hi
                obtain rfl := List.mem_singleton.1 hi
                refine wpOp_of_list (o := ⟨some 59, Op.load 49 (Operand.tmp 58), _, _, _, none⟩) rfl ?_
                refine wpList_loadM_dw rfl _ rfl rfl L0.out ?_
                show True ∧ _
                refine ⟨trivial, ?_⟩
                simp only [Act.put, List.setIfInBounds_toArray, List.set_cons_zero, List.set_cons_succ]
                refine wpAnyH_take (i := 14) (oi := ⟨some 64, Op.indexAddr 63 (Operand.tmp 50) (Operand.tmp 51), _, _, _, none⟩) (v := Value.pointer (some ⟨g6, f6 + (m + 1) * 10, none⟩)) rfl (by kernel_rfl) (by kernel_rfl) (by kernel_rfl) (fun _ _ _ h => nomatch h.1) (Or.inl ⟨by rfl, fun w' hS' => by go_simp⟩) trivial ?_
                simp only [Act.put, List.setIfInBounds_toArray, List.set_cons_zero, List.set_cons_succ]
                refine wpAnyH_all (rs := [15]) (by kernel_rfl) (by decide) ?_
                intro i hi
                obtain rfl := List.mem_singleton.1 hi
                refine wpOp_of_list (o := ⟨none, Op.store 49 (Operand.tmp 64) (Operand.tmp 59), _, _, _, none⟩) rfl ?_
                refine wpList_storeO (k := m + 1) dwL_len rfl _ _ _ rfl rfl rfl f6z.out oD.out K1.out dw_size (dwA_one _) ?_
                intro x1 o1 s1
                have O1 := Lib.hid o1
                clear o1
                show True ∧ _
                refine ⟨trivial, ?_⟩
                simp only [Act.put]
                refine wpAnyH_take (i := 16) (oi := ⟨some 65, Op.indexAddr 63 (Operand.tmp 52) (Operand.tmp 54), _, _, _, none⟩) (v := Value.pointer (some ⟨g6, f6 + m * 10, none⟩)) rfl (by kernel_rfl) (by kernel_rfl) (by kernel_rfl) (fun _ _ _ h => nomatch h.1) (Or.inl ⟨by rfl, fun w' hS' => by go_simp⟩) trivial ?_
                simp only [Act.put, List.setIfInBounds_toArray, List.set_cons_zero, List.set_cons_succ]
                refine wpAnyH_all (rs := [17]) (by kernel_rfl) (by decide) ?_
                intro i hi
                obtain rfl := List.mem_singleton.1 hi
                refine wpOp_of_list (o := ⟨none, Op.store 49 (Operand.tmp 65) (Operand.tmp 63), _, _, _, none⟩) rfl ?_
                refine wpList_storeO (k := m) dwL_len rfl _ _ _ rfl rfl rfl f6z.out O1.out (by rw [List.length_set]; exact K0.out) dw_size (dwA_one _) ?_
                intro x2 o2 s2
                show True ∧ _
                refine ⟨trivial, ?_⟩
                simp only [Act.put]
                refine wpAnyH_done (by kernel_rfl) ?_ _
                refine ⟨rfl, rfl, ?_, sD.trans (s1.trans s2)⟩
                exact o2
            case k =>
              rintro w8 ⟨o8, s8⟩
              have g := Hgs.out
              rw [HsW.out] at o8
              have RV : Hid (Bk w8 g2 26 #[vi, vr, vp] ∧ w8.ownsRow B5 29 18 (.slice (some ⟨g5, f5, none⟩) n c5) (midS P x (m + 1) Y).length ((midS P x (m + 1) Y).flatMap adL) ∧ w8.ownsRow B6 49 10 (.slice (some ⟨g6, f6, none⟩) n c6) (midS PW Wx m Z).length ((midS PW Wx m Z).flatMap dwL) ∧ Below w.heap.size w w8) := Lib.hid ⟨RU.out.b2.stays s8 (by omega), own_apart RU.out.o5 s8 (by omega), o8, RU.out.b.trans (s8.below g.2.1)⟩
              clear RU o8 s8 HsW HW0 HW1
              go_wp2_with (fail)
              apply region_cut0 (R := fun w' => w'.ownsRow B5 29 18 (.slice (some ⟨g5, f5, none⟩) n c5) (((midS P x (m + 1) Y).set (m + 1) y).set m x).length ((((midS P x (m + 1) Y).set (m + 1) y).set m x).flatMap adL) ∧ Stays g5 w8 w')
              case h =>
                have o5 := RV.out.2.1
                have r1 := own_range adL_len f5z.out o5 C1.out
                rw [HA1.out] at r1
                have r0 := own_range adL_len f5z.out o5 C0.out
                rw [HA0.out] at r0
                refine wp_region_held (S := fun _ => True) (by kernel_rfl) ?_
                obtain ⟨wd, hwd⟩ : ∃ wd : World, wd = { w8 with drawn := w8.drawn + 1 } := ⟨_, rfl⟩
                rw [← hwd]
                have oD := Lib.hid (show wd.ownsRow B5 29 18 (.slice (some ⟨g5, f5, none⟩) n c5) (midS P x (m + 1) Y).length ((midS P x (m + 1) Y).flatMap adL) by rw [hwd]; exact o5)
                have sD : Stays g5 w8 wd := by rw [hwd]; exact ⟨rfl, rfl, rfl, rfl, fun _ _ => rfl⟩
                have L1 := Lib.hid (show wd.rangeAt g5 (f5 + (m + 1) * 18) (adL x) by rw [hwd]; exact r1)
                have L0 := Lib.hid (show wd.rangeAt g5 (f5 + m * 18) (adL y) by rw [hwd]; exact r0)
                have K1 := C1
                have K0 := C0
                clear o5 r1 r0 hwd
                refine wpAnyH_take (i := 0) (oi := ⟨some 66, Op.move (Operand.tmp 5), _, _, _, none⟩) (v := Value.slice (some ⟨g5, f5, none⟩) n c5) rfl (by kernel_rfl) (by kernel_rfl) (by kernel_rfl) (fun _ _ _ h => nomatch h.1) (Or.inl ⟨by rfl, fun w' hS' => by go_simp⟩) trivial ?_
                simp only [Act.put, List.setIfInBounds_toArray, List.set_cons_zero, List.set_cons_succ]
                refine wpAnyH_take (i := 1) (oi := ⟨some 67, Op.move (Operand.tmp 9), _, _, _, none⟩) (v := Value.int .i64 ((m : Int) + 1)) rfl (by kernel_rfl) (by kernel_rfl) (by kernel_rfl) (fun _ _ _ h => nomatch h.1) (Or.inl ⟨by rfl, fun w' hS' => by go_simp⟩) trivial ?_
                simp only [Act.put, List.setIfInBounds_toArray, List.set_cons_zero, List.set_cons_succ]
                refine wpAnyH_take (i := 2) (oi := ⟨some 68, Op.move (Operand.tmp 5), _, _, _, none⟩) (v := Value.slice (some ⟨g5, f5, none⟩) n c5) rfl (by kernel_rfl) (by kernel_rfl) (by kernel_rfl) (fun _ _ _ h => nomatch h.1) (Or.inl ⟨by rfl, fun w' hS' => by go_simp⟩) trivial ?_
                simp only [Act.put, List.setIfInBounds_toArray, List.set_cons_zero, List.set_cons_succ]
                refine wpAnyH_take (i := 3) (oi := ⟨some 69, Op.move (Operand.tmp 9), _, _, _, none⟩) (v := Value.int .i64 ((m : Int) + 1)) rfl (by kernel_rfl) (by kernel_rfl) (by kernel_rfl) (fun _ _ _ h => nomatch h.1) (Or.inl ⟨by rfl, fun w' hS' => by go_simp⟩) trivial ?_
                simp only [Act.put, List.setIfInBounds_toArray, List.set_cons_zero, List.set_cons_succ]
                refine wpAnyH_take (i := 4) (oi := ⟨some 70, Op.binOp BinOp.sub 3 (Operand.tmp 69) (Operand.const (Value.int IntKind.i64 1)) 3, _, _, _, none⟩) (v := Value.int .i64 (m : Int)) rfl (by kernel_rfl) (by kernel_rfl) (by kernel_rfl) (fun _ _ _ h => nomatch h.1) (Or.inl ⟨by rfl, fun w' hS' => by go_simp⟩) trivial ?_
                simp only [Act.put, List.setIfInBounds_toArray, List.set_cons_zero, List.set_cons_succ]
                refine wpAnyH_take (i := 5) (oi := ⟨some 71, Op.move (Operand.tmp 5), _, _, _, none⟩) (v := Value.slice (some ⟨g5, f5, none⟩) n c5) rfl (by kernel_rfl) (by kernel_rfl) (by kernel_rfl) (fun _ _ _ h => nomatch h.1) (Or.inl ⟨by rfl, fun w' hS' => by go_simp⟩) trivial ?_
                simp only [Act.put, List.setIfInBounds_toArray, List.set_cons_zero, List.set_cons_succ]
                refine wpAnyH_take (i := 6) (oi := ⟨some 72, Op.move (Operand.tmp 9), _, _, _, none⟩) (v := Value.int .i64 ((m : Int) + 1)) rfl (by kernel_rfl) (by kernel_rfl) (by kernel_rfl) (fun _ _ _ h => nomatch h.1) (Or.inl ⟨by rfl, fun w' hS' => by go_simp⟩) trivial ?_
                simp only [Act.put, List.setIfInBounds_toArray, List.set_cons_zero, List.set_cons_succ]
                refine wpAnyH_take (i := 7) (oi := ⟨some 73, Op.binOp BinOp.sub 3 (Operand.tmp 72) (Operand.const (Value.int IntKind.i64 1)) 3, _, _, _, none⟩) (v := Value.int .i64 (m : Int)) rfl (by kernel_rfl) (by kernel_rfl) (by kernel_rfl) (fun _ _ _ h => nomatch h.1) (Or.inl ⟨by rfl, fun w' hS' => by go_simp⟩) trivial ?_
                simp only [Act.put, List.setIfInBounds_toArray, List.set_cons_zero, List.set_cons_succ]
                refine wpAnyH_take (i := 8) (oi := ⟨some 74, Op.indexAddr 35 (Operand.tmp 71) (Operand.tmp 73), _, _, _, none⟩) (v := Value.pointer (some ⟨g5, f5 + m * 18, none⟩)) rfl (by kernel_rfl) (by kernel_rfl) (by kernel_rfl) (fun _ _ _ h => nomatch h.1) (Or.inl ⟨by rfl, fun w' hS' => by go_simp⟩) trivial ?_
                simp only [Act.put, List.setIfInBounds_toArray, List.set_cons_zero, List.set_cons_succ]
                refine wpAnyH_take (i := 10) (oi := ⟨some 76, Op.move (Operand.tmp 5), _, _, _, none⟩) (v := Value.slice (some ⟨g5, f5, none⟩) n c5) rfl (by kernel_rfl) (by kernel_rfl) (by kernel_rfl) (fun _ _ _ h => nomatch h.1) (Or.inl ⟨by rfl, fun w' hS' => by go_simp⟩) trivial ?_
                simp only [Act.put, List.setIfInBounds_toArray, List.set_cons_zero, List.set_cons_succ]
                refine wpAnyH_take (i := 11) (oi := ⟨some 77, Op.move (Operand.tmp 9), _, _, _, none⟩) (v := Value.int .i64 ((m : Int) + 1)) rfl (by kernel_rfl) (by kernel_rfl) (by kernel_rfl) (fun _ _ _ h => nomatch h.1) (Or.inl ⟨by rfl, fun w' hS' => by go_simp⟩) trivial ?_
                simp only [Act.put, List.setIfInBounds_toArray, List.set_cons_zero, List.set_cons_succ]
                refine wpAnyH_take (i := 12) (oi := ⟨some 78, Op.indexAddr 35 (Operand.tmp 76) (Operand.tmp 77), _, _, _, none⟩) (v := Value.pointer (some ⟨g5, f5 + (m + 1) * 18, none⟩)) rfl (by kernel_rfl) (by kernel_rfl) (by kernel_rfl) (fun _ _ _ h => nomatch h.1) (Or.inl ⟨by rfl, fun w' hS' => by go_simp⟩) trivial ?_
                simp only [Act.put, List.setIfInBounds_toArray, List.set_cons_zero, List.set_cons_succ]
                refine wpAnyH_all (rs := [9, 13]) (by kernel_rfl) (by decide) ?_
                intro i hi
                simp only [List.mem_cons, List.not_mem_nil, or_false] at hi
                rcases hi with rfl | rfl
                · skip
                  refine wpOp_of_list (o := ⟨some 75, Op.load 29 (Operand.tmp 74), _, _, _, none⟩) rfl ?_
                  refine wpList_loadAdM rfl _ rfl rfl L0.out ?_
                  show True ∧ _
                  refine ⟨trivial, ?_⟩
                  simp only [Act.put, List.setIfInBounds_toArray, List.set_cons_zero, List.set_cons_succ]
                  refine wpAnyH_all (rs := [13]) (by kernel_rfl) (by decide) ?_
                  intro i hi
                  obtain rfl := List.mem_singleton.1 hi
                  refine wpOp_of_list (o := ⟨some 79, Op.load 29 (Operand.tmp 78), _, _, _, none⟩) rfl ?_
                  refine wpList_loadAdM rfl _ rfl rfl L1.out ?_
                  show True ∧ _
                  refine ⟨trivial, ?_⟩
                  simp only [Act.put, List.setIfInBounds_toArray, List.set_cons_zero, List.set_cons_succ]
                  refine wpAnyH_take (i := 14) (oi := ⟨some 80, Op.indexAddr 35 (Operand.tmp 66) (Operand.tmp 67), _, _, _, none⟩) (v := Value.pointer (some ⟨g5, f5 + (m + 1) * 18, none⟩)) rfl (by kernel_rfl) (by kernel_rfl) (by kernel_rfl) (fun _ _ _ h => nomatch h.1) (Or.inl ⟨by rfl, fun w' hS' => by go_simp⟩) trivial ?_
                  simp only [Act.put, List.setIfInBounds_toArray, List.set_cons_zero, List.set_cons_succ]
                  refine wpAnyH_all (rs := [15]) (by kernel_rfl) (by decide) ?_
                  intro i hi
                  obtain rfl := List.mem_singleton.1 hi
                  refine wpOp_of_list (o := ⟨none, Op.store 29 (Operand.tmp 80) (Operand.tmp 75), _, _, _, none⟩) rfl ?_
                  refine wpList_storeO (k := m + 1) adL_len rfl _ _ _ rfl rfl rfl f5z.out oD.out K1.out ad_size (adA_one _) ?_
                  intro x1 o1 s1
                  have O1 := Lib.hid o1
                  clear o1
                  show True ∧ _
                  refine ⟨trivial, ?_⟩
                  simp only [Act.put]
                  refine wpAnyH_take (i := 16) (oi := ⟨some 81, Op.indexAddr 35 (Operand.tmp 68) (Operand.tmp 70), _, _, _, none⟩) (v := Value.pointer (some ⟨g5, f5 + m * 18, none⟩)) rfl (by kernel_rfl) (by kernel_rfl) (by kernel_rfl) (fun _ _ _ h => nomatch h.1) (Or.inl ⟨by rfl, fun w' hS' => by go_simp⟩) trivial ?_
                  simp only [Act.put, List.setIfInBounds_toArray, List.set_cons_zero, List.set_cons_succ]
                  refine wpAnyH_all (rs := [17]) (by kernel_rfl) (by decide) ?_
                  intro i hi
                  obtain rfl := List.mem_singleton.1 hi
                  refine wpOp_of_list (o := ⟨none, Op.store 29 (Operand.tmp 81) (Operand.tmp 79), _, _, _, none⟩) rfl ?_
                  refine wpList_storeO (k := m) adL_len rfl _ _ _ rfl rfl rfl f5z.out O1.out (by rw [List.length_set]; exact K0.out) ad_size (adA_one _) ?_
                  intro x2 o2 s2
                  show True ∧ _
                  refine ⟨trivial, ?_⟩
                  simp only [Act.put]
                  refine wpAnyH_done (by kernel_rfl) ?_ _
                  refine ⟨rfl, rfl, ?_, sD.trans (s1.trans s2)⟩
                  exact o2
                · skip
                  refine wpOp_of_list (o := ⟨some 79, Op.load 29 (Operand.tmp 78), _, _, _, none⟩) rfl ?_
                  refine wpList_loadAdM rfl _ rfl rfl L1.out ?_
                  show True ∧ _
                  refine ⟨trivial, ?_⟩
                  simp only [Act.put, List.setIfInBounds_toArray, List.set_cons_zero, List.set_cons_succ]
                  refine wpAnyH_all (rs := [9]) (by kernel_rfl) (by decide) ?_
                  intro i hi
                  obtain rfl := List.mem_singleton.1 hi
                  refine wpOp_of_list (o := ⟨some 75, Op.load 29 (Operand.tmp 74), _, _, _, none⟩) rfl ?_
                  refine wpList_loadAdM rfl _ rfl rfl L0.out ?_
                  show True ∧ _
                  refine ⟨trivial, ?_⟩
                  simp only [Act.put, List.setIfInBounds_toArray, List.set_cons_zero, List.set_cons_succ]
                  refine wpAnyH_take (i := 14) (oi := ⟨some 80, Op.indexAddr 35 (Operand.tmp 66) (Operand.tmp 67), _, _, _, none⟩) (v := Value.pointer (some ⟨g5, f5 + (m + 1) * 18, none⟩)) rfl (by kernel_rfl) (by kernel_rfl) (by kernel_rfl) (fun _ _ _ h => nomatch h.1) (Or.inl ⟨by rfl, fun w' hS' => by go_simp⟩) trivial ?_
                  simp only [Act.put, List.setIfInBounds_toArray, List.set_cons_zero, List.set_cons_succ]
                  refine wpAnyH_all (rs := [15]) (by kernel_rfl) (by decide) ?_
                  intro i hi
                  obtain rfl := List.mem_singleton.1 hi
                  refine wpOp_of_list (o := ⟨none, Op.store 29 (Operand.tmp 80) (Operand.tmp 75), _, _, _, none⟩) rfl ?_
                  refine wpList_storeO (k := m + 1) adL_len rfl _ _ _ rfl rfl rfl f5z.out oD.out K1.out ad_size (adA_one _) ?_
                  intro x1 o1 s1
                  have O1 := Lib.hid o1
                  clear o1
                  show True ∧ _
                  refine ⟨trivial, ?_⟩
                  simp only [Act.put]
                  refine wpAnyH_take (i := 16) (oi := ⟨some 81, Op.indexAddr 35 (Operand.tmp 68) (Operand.tmp 70), _, _, _, none⟩) (v := Value.pointer (some ⟨g5, f5 + m * 18, none⟩)) rfl (by kernel_rfl) (by kernel_rfl) (by kernel_rfl) (fun _ _ _ h => nomatch h.1) (Or.inl ⟨by rfl, fun w' hS' => by go_simp⟩) trivial ?_
                  simp only [Act.put, List.setIfInBounds_toArray, List.set_cons_zero, List.set_cons_succ]
                  refine wpAnyH_all (rs := [17]) (by kernel_rfl) (by decide) ?_
                  intro i hi
                  obtain rfl := List.mem_singleton.1 hi
                  refine wpOp_of_list (o := ⟨none, Op.store 29 (Operand.tmp 81) (Operand.tmp 79), _, _, _, none⟩) rfl ?_
                  refine wpList_storeO (k := m) adL_len rfl _ _ _ rfl rfl rfl f5z.out O1.out (by rw [List.length_set]; exact K0.out) ad_size (adA_one _) ?_
                  intro x2 o2 s2
                  show True ∧ _
                  refine ⟨trivial, ?_⟩
                  simp only [Act.put]
                  refine wpAnyH_done (by kernel_rfl) ?_ _
                  refine ⟨rfl, rfl, ?_, sD.trans (s1.trans s2)⟩
                  exact o2
              case k =>
                rintro w9 ⟨o9, s9⟩
                have g := Hgs.out
                rw [Hsw.out] at o9
                have RF : Hid (OrR w g2 vi vr vp (.slice (some ⟨g5, f5, none⟩) n c5) (.slice (some ⟨g6, f6, none⟩) n c6) B5 B6 (midS P x m Y) (midS PW Wx m Z) w9) := Lib.hid ⟨RV.out.1.stays s9 (by omega), o9, own_apart RV.out.2.2.1 s9 (by omega), RV.out.2.2.2.trans (s9.below g.1)⟩
                clear RV o9 s9
                go_wp2_with (fail)
                go_roundw
                case rel => exact ⟨m, (m : Int), by omega, by go_num, rfl, G.out, RF.out⟩
                case measure => (simp [intOf]) <;> omega
    · have hkn : k = n := by omega
      subst hkn
      have hfin : ordF (dcm N) (l.take k) ++ l.drop k = ordF (dcm N) l := by rw [Hn.out, List.take_length, List.drop_length, List.append_nil]
      have j0 : ¬ (k : Int) < (k : Int) := by omega
      rw [hfin] at ro
      have RO := Lib.hid ro
      have hb1 := Hbs.out.1
      clear ro hfin
      go_wp2_with (fail)
      go_ret
      exact ⟨_, rfl, own_base RO.out.o5 hb1, RO.out.b⟩
theorem dOrder_nil (vi vr vp v : Value) (N : Nt) (l : List Ad) (w : World) (hs : Sl w 18 v l.length (l.flatMap adL)) (hp : l.length = 0) :
    Calls Tryz.prog 10 #[.agg #[vi, vr, vp], v] w (AdsPost w (ordF (dcm N) l)) := by
  have HC : Hid (∀ w', Sl w' 18 v l.length (l.flatMap adL) → Calls Tryz.prog 23 #[v] w' (AdsPost w' l)) := Lib.hid (fun w' h => rclone_any v l w' h (by omega))
  obtain ⟨A, c, rfl, hc⟩ := hs.any
  have Hsl := Lib.hid hs
  clear hs
  have hnil : l = [] := List.eq_nil_of_length_eq_zero hp
  subst hnil
  clear hp hc
  go_enter Tryz.func10, Tryz.ntmps10
  go_wp2_with (first
    | ((with_reducible refine wpList_boxB (o := ⟨some 2, _, _, _, _, _⟩) rfl _ _ rfl rfl ?_); intro g2 w1 hg hB2 hb1 hs; clear hg hs)
    | (go_at_call 23; (refine (HC.out w1 (Hsl.out.below hb1)).mono ?_); rintro e w2 ⟨v5, rfl, ho5, hb2⟩)
    | ((with_reducible show wpList _ _ _ (⟨some 16, _, _, _, _, _⟩ :: _) _ _); refine wpList_makeDw (o := ⟨some 16, _, _, _, _, _⟩) rfl _ _ rfl 0 rfl rfl rfl rfl (by omega) ?_; intro v6 w3 ho6 hb3))
  have O5 := Lib.hid (own_base (own_below ho5 hb3) hb1.size)
  have Hb := Lib.hid (bel_tr (bel_tr hb1 hb2) hb3)
  clear hB2 hb1 hb2 hb3 ho5 ho6
  go_loopw [19] (fun kv wr => kv = .int .i64 0 ∧ wr = w3) (fun _ _ => 0)
  case atStart => exact ⟨rfl, rfl⟩
  case round =>
    obtain ⟨rfl, rfl⟩ := hrel
    go_wp2_with (fail)
    go_ret
    exact ⟨_, rfl, O5.out, Hb.out⟩
theorem dOrder_any (vi vr vp v : Value) (N : Nt) (l : List Ad) (w : World) (hN : NetRaw w vi vr vp N) (hE : EnvS w) (hlI : N.I.length ≤ 1000000) (hlR : N.R.length ≤ 1000000) (hlP : N.P.length ≤ 1000000) (hs : Sl w 18 v l.length (l.flatMap adL)) (hl : l.length ≤ 1000) :
    Calls Tryz.prog 10 #[.agg #[vi, vr, vp], v] w (AdsPost w (ordF (dcm N) l)) := by
  rcases Nat.eq_zero_or_pos l.length with h | h
  · exact dOrder_nil vi vr vp v N l w hs h
  · exact dOrder_pos vi vr vp v N l w hN hE hlI hlR hlP hs hl h
end Go.Proofs.YthlnndjkocnfcaaGreatDoor

/- Dest, plain: the reference's answers are the code's. No walk here. -/
namespace Go.Proofs.YthlnndjkocnfcaaGreatDoor

/-! ### 36, 37: the row of the longest prefix, found from above -/
theorem with_bits {a : Ad} {p : Pf} (h : withB a p = true) : 0 ≤ p.bits ∧ p.bits < 129 := by
  unfold withB at h
  rw [Bool.and_eq_true, Bool.and_eq_true, beq_iff_eq, decide_eq_true_iff] at h
  obtain ⟨h1, _, h3⟩ := h
  have h4 := comA_ok a p.ad
  unfold chkP at h1
  split at h1
  · next h => exact absurd h1 h
  · split at h1
    · omega
    · omega
theorem rofP_eq (a : Ad) (R : List Pol) : rofP a R = ofP a R := by
  unfold rofP ofP zerA
  rw [fW_setZ, dsc_bst (f := fW (mpA a)) (g := gW) (n := 129) (fun y _ hf => with_bits hf)]
theorem chk_zone {a : Ad} (h : chkA a = 0) (hz : 0 < a.zone) : a.fam = 6 := by
  unfold chkA at h
  split at h
  · split at h
    · next h6 =>
      have : a.zone = 0 := by rw [h6]; rfl
      omega
    · omega
  · split at h
    · assumption
    · omega
def zone128 (a : Ad) : Rt := ⟨⟨a, 128, by decide⟩, a.zone, false, a.ok.2.2⟩
theorem zoneR_128 {a : Ad} (h : a.fam = 6) : zoneR a = zone128 a := by
  have h2 : bitsA a = 128 := by unfold bitsA; rw [if_neg (by omega), if_pos h]
  unfold zoneR zone128
  congr 1
  congr 1
theorem wayP_bad {a : Ad} {R : List Rt} (h : chkA a ≠ 0) : wayP a R = (rt0, false) := by unfold wayP; rw [if_pos h]
theorem wayP_zone {a : Ad} {R : List Rt} (h : chkA a = 0) (hz : 0 < a.zone) : wayP a R = (zone128 a, true) := by
  unfold wayP
  rw [if_neg (by omega), if_pos ⟨chk_zone h hz, hz⟩, zoneR_128 (chk_zone h hz)]
theorem wayP_else {a : Ad} {R : List Rt} (h : chkA a = 0) (hz : ¬ 0 < a.zone) : wayP a R = ((dsc (fR a) gR R 129).getD rt0, (dsc (fR a) gR R 129).isSome) := by
  unfold wayP
  rw [if_neg (by omega), if_neg (fun k => hz k.2), dsc_bst (f := fR a) (g := gR) (n := 129) (fun y _ hf => with_bits hf)]

/-! ### 38: the rules of the reference -/
def selfB (a d : Ad) : Bool := (a.fam == d.fam) && (a.ip == d.ip)
theorem selfB_eq (a d : Ad) : decide (z0A a = z0A d) = selfB a d := by
  unfold selfB
  rw [Bool.eq_iff_iff, decide_eq_true_iff, Bool.and_eq_true, beq_iff_eq, beq_iff_eq]
  constructor
  · intro h
    rw [← Ad.same_iff] at h
    exact ⟨h.1, h.2.1⟩
  · intro h
    exact Ad.same h.1 h.2 rfl
theorem comF_setZ2 (a b : Ad) (z : Int) (h) : ∀ k i, comF a (b.setZ z h) k i = comF a b k i := by
  intro k
  induction k with
  | zero => intro i; rfl
  | succ k ih =>
    intro i
    rw [comF, comF, ih]
    rfl
theorem comA_z0 (a b : Ad) : comA a (z0A b) = comA a b := by
  unfold comA z0A
  rw [comF_setZ2]
  rfl
theorem ordB_cmp (a b : Int) : ordB (decide (b < a)) (decide (a < b)) = cmpI a b := by
  unfold ordB cmpI
  by_cases h1 : a < b
  · rw [if_pos h1, decide_eq_true h1, decide_eq_false (show ¬ b < a by omega)]; rfl
  · rw [if_neg h1, decide_eq_false h1]
    by_cases h2 : b < a
    · rw [if_pos h2, decide_eq_true h2]; rfl
    · rw [if_neg h2, decide_eq_false h2]; rfl
/-- the longest common beginning, no longer than the own prefix. -/
def bitN (x : Ifc) (d : Ad) : Int := min (comA x.ad d : Int) x.bits
def labB (N : Nt) (a d : Ad) : Bool := (ofP a (polN N.P)).lab == (ofP d (polN N.P)).lab
def nearB (N : Nt) (d : Ad) (a : Ifc) : Bool := (wayP d (rtN N.R)).2 && (a.idx == (wayP d (rtN N.R)).1.idx)
/-- what tells, in the reference's words. -/
def rtelL (N : Nt) (d : Ad) (a b : Ifc) : List Int := [ordB (selfB a.ad d) (selfB b.ad d), scoI (scoA a.ad) (scoA b.ad) (scoA d), ordB (!a.dep) (!b.dep), ordB a.hom b.hom, ordB (nearB N d a) (nearB N d b), ordB (labB N a.ad d) (labB N b.ad d), ordB a.tem b.tem, ordB (decide (bitN b d < bitN a d)) (decide (bitN a d < bitN b d))]
theorem rtelL_eq (N : Nt) (d : Ad) (a b : Ifc) : rtelL N d a b = betL N d a b := by
  unfold rtelL betL telL worN aimN nearB labB bitN
  dsimp only
  rw [selfB_eq, selfB_eq, comA_z0, comA_z0, ordB_cmp]
theorem betL_neg (N : Nt) (d : Ad) (a b : Ifc) : fst1 (betL N d b a) = - fst1 (betL N d a b) := by
  refine (fst1_neg (betL N d a b) (betL N d b a) 0 rfl fun i => ?_).1
  match i with
  | 0 => exact ordB_neg _ _
  | 1 =>
    show scoI _ _ _ = - scoI _ _ _
    unfold scoI
    split <;> split
    · exact cmpI_neg _ _
    · omega
    · omega
    · exact cmpI_neg _ _
  | 2 => exact ordB_neg _ _
  | 3 => exact ordB_neg _ _
  | 4 => exact ordB_neg _ _
  | 5 => exact ordB_neg _ _
  | 6 => exact ordB_neg _ _
  | 7 => exact cmpI_neg _ _
  | n + 8 => simp [betL, telL]
/-- which of two own addresses is better. -/
def bsg (N : Nt) (d : Ad) (a b : Ifc) : Int := fst1 (betL N d a b)
theorem bsg_neg (N : Nt) (d : Ad) (a b : Ifc) : bsg N d b a = - bsg N d a b := betL_neg N d a b
theorem bsg_self (N : Nt) (d : Ad) (a : Ifc) : bsg N d a a = 0 := by have := bsg_neg N d a a; omega
/-- none is better. -/
def topB (N : Nt) (d : Ad) (L : List Ifc) (x : Ifc) : Bool := L.all (fun y => decide (bsg N d y x ≤ 0))
theorem pick_find (N : Nt) (d : Ad) : pickN N d = (((ownN N d).find? (topB N d (ownN N d))).getD ifc0, ((ownN N d).find? (topB N d (ownN N d))).isSome) := by
  unfold pickN
  cases h : ownN N d with
  | nil => rfl
  | cons x l =>
    show (l.foldl (pstep N (aimN N d)) x, true) = _
    obtain ⟨A, B, h1, h2, h3⟩ := best_fold (bsg N d) (bsg_neg N d) (fun a b c => telL_thr _ _ _ _) x l
    have hf : l.foldl (pstep N (aimN N d)) x = l.foldl (fun best f => if 0 < bsg N d f best then f else best) x := rfl
    rw [← hf] at h1 h2 h3
    generalize l.foldl (pstep N (aimN N d)) x = t at *
    have : (x :: l).find? (topB N d (x :: l)) = some t := by
      rw [List.find?_eq_some_iff_append]
      refine ⟨?_, A, B, h1, fun y hy => ?_⟩
      · unfold topB
        rw [List.all_eq_true, h1]
        intro y hy
        rw [decide_eq_true_iff]
        rw [List.mem_append, List.mem_cons] at hy
        rcases hy with hy | rfl | hy
        · have := h2 y hy
          have := bsg_neg N d t y
          omega
        · have := bsg_self N d y
          omega
        · exact h3 y hy
      · rw [Bool.not_eq_true', Bool.eq_false_iff]
        intro k
        unfold topB at k
        rw [List.all_eq_true] at k
        have h4 := k t (by rw [h1]; simp)
        rw [decide_eq_true_iff] at h4
        have := h2 y hy
        omega
    rw [this]
    rfl

/-! ### 39: the rules of the reference -/
theorem dtel_rules (N : Nt) (a b : Ad) (x y : Ifc) (p q : Bool) (hx : pickN N a = (x, p)) (hy : pickN N b = (y, q)) (hx0 : p = false → x = ifc0) (hy0 : q = false → y = ifc0) :
    dtelL (dwN N a) (dwN N b) = [ordB p q, ordB (p && (scoA a == scoA x.ad)) (q && (scoA b == scoA y.ad)), ordB (!x.dep) (!y.dep), ordB x.hom y.hom,
      ordB (p && ((ofP a (polN N.P)).lab == (ofP x.ad (polN N.P)).lab)) (q && ((ofP b (polN N.P)).lab == (ofP y.ad (polN N.P)).lab)),
      ordB (decide ((ofP b (polN N.P)).prec < (ofP a (polN N.P)).prec)) (decide ((ofP a (polN N.P)).prec < (ofP b (polN N.P)).prec)),
      ordB (!(wayP a (rtN N.R)).1.tun) (!(wayP b (rtN N.R)).1.tun), ordB (decide (scoA a < scoA b)) (decide (scoA b < scoA a)),
      if a.fam = b.fam then ordB (decide ((if q = true then min (comA b y.ad : Int) y.bits else 0) < (if p = true then min (comA a x.ad : Int) x.bits else 0))) (decide ((if p = true then min (comA a x.ad : Int) x.bits else 0) < (if q = true then min (comA b y.ad : Int) y.bits else 0))) else 0] := by
  have e1 : ∀ u v : Int, (u == v) = (v == u) := fun u v => by rw [Bool.eq_iff_iff, beq_iff_eq, beq_iff_eq]; exact eq_comm
  have e2 : ∀ u v : Bool, ordB (!u) (!v) = ordB v u := fun u v => by cases u <;> cases v <;> rfl
  rw [ordB_cmp, ordB_cmp, ordB_cmp, e2, e2]
  unfold dwN
  rw [hx, hy]
  cases p <;> cases q
  · rw [hx0 rfl, hy0 rfl]; rfl
  · rw [hx0 rfl, e1 (scoA b), e1 (ofP b _).lab]; rfl
  · rw [hy0 rfl, e1 (scoA a), e1 (ofP a _).lab]; rfl
  · rw [e1 (scoA b), e1 (ofP b _).lab, e1 (scoA a), e1 (ofP a _).lab]; rfl
end Go.Proofs.YthlnndjkocnfcaaGreatDoor

/- The reference's Rows (36), Routes, Ifaces (37), at any net (printed by mk_dsh.py). -/
namespace Go.Proofs.YthlnndjkocnfcaaGreatDoor
open Go.RowKit
attribute [local go_sem] ba_get ext_take ext_drop ext_any ba_app

theorem range_rtPf {w : World} {g off : Nat} {p : Rt} (h : w.rangeAt g off (rtL p)) : w.rangeAt g off (pfL p.pf) := fun j v hv => by
  refine h j v ?_
  unfold rtL
  rw [List.getElem?_append_left (List.getElem?_eq_some_iff.1 hv).1]
  exact hv
theorem pf_zeroD : ZeroIs Tryz.prog 44 (pfA pf0) := by unfold ZeroIs; kernel_rfl
theorem wpList_allocPfD {w : World} {ops : Array Oper} {rest : List Oper} {o : Oper} {a : Act} {Q : Exit → Act → World → Prop} (hgd : o.guard = none) (ho : o.op = .alloc 44)
    (h : ∀ g w', g = w.heap.size → Bk w' g 44 (pfA pf0) → Below w.heap.size w w' → w'.heap.size = g + 1 → wpList Tryz.prog ops Q rest (a.put o.dst (.pointer (some ⟨g, 0, none⟩))) w') : wpList Tryz.prog ops Q (o :: rest) a w :=
  wpList_allocZ hgd _ ho pf_zeroD h
theorem wpList_loadPfD {w : World} {ops : Array Oper} {rest : List Oper} {o : Oper} {a : Act} {Q : Exit → Act → World → Prop} (hgd : o.guard = none) (x : Operand) (ho : o.op = .load 44 x) {g : Nat} (hx : a.eval x = .pointer (some ⟨g, 0, none⟩))
    {t : TypeId} {b : Pf} (hB : Bk w g t (pfA b)) (h : wpList Tryz.prog ops Q rest (a.put o.dst (.agg (pfA b))) w) : wpList Tryz.prog ops Q (o :: rest) a w :=
  wpList_loadB hgd _ x ho hx hB pf_under2 rfl (by rw [pfA_size]; exact pf_size2) h
theorem wpList_storePfD {w : World} {ops : Array Oper} {rest : List Oper} {o : Oper} {a : Act} {Q : Exit → Act → World → Prop} (hgd : o.guard = none) (x y : Operand) (ho : o.op = .store 44 x y) {g : Nat} {b c : Pf} (hx : a.eval x = .pointer (some ⟨g, 0, none⟩)) (hy : a.eval y = .agg (pfA b))
    {t : TypeId} (hB : Bk w g t (pfA c)) (h : ∀ w', Bk w' g t (pfA b) → Stays g w w' → wpList Tryz.prog ops Q rest (a.put o.dst undef) w') : wpList Tryz.prog ops Q (o :: rest) a w :=
  wpList_storeB hgd _ x y ho hx hy hB (by rw [pfA_size]; exact pf_size2) (by rw [pfA_size, pfA_size]) (pfA_one b) h
set_option maxRecDepth 100000 in
set_option maxHeartbeats 4000000 in
theorem rroutes_any (vi vr vp : Value) (N : Nt) (w : World) (hN : NetRaw w vi vr vp N) (hl : N.R.length ≤ 1000000) : Calls Tryz.prog 34 #[.agg #[vi, vr, vp]] w (RtsPost w (rtN N.R)) := by
  have h0 := hN.r
  clear hN
  generalize N.R = L at *
  obtain ⟨A, c, rfl, hc⟩ := h0.any
  have H := Lib.hid h0
  clear h0 hc
  go_enter Tryz.func34, Tryz.ntmps34
  go_wp2_with (first
    | ((with_reducible refine wpList_boxB rfl _ _ rfl rfl ?_); intro g1 w1 hg hB1 hb1 hs; have c2 : w1.cell? ⟨g1, 1, none⟩ = some (.slice A L.length c) := hB1.cell 1; have hl1 := hB1.lt; clear hg hs))
  have H1 := Lib.hid (H.out.below hb1)
  go_loopw [3, 4] (fun v i wr => ∃ k : Nat, k ≤ L.length ∧ i = .int .i64 k ∧ FltRel w1 46 21 rtL okR 32 L k v wr) (fun _ i _ => L.length - (intOf i).toNat)
  case atStart => exact ⟨0, Nat.zero_le _, rfl, by simp, by simpa using World.ownsRow_nil w1 w1.heap.size 46 21, Below.refl _ _⟩
  case round =>
    obtain ⟨k, hk, rfl, hcnt, hown, hbel⟩ := hrel
    obtain ⟨ao, co, rfl⟩ := own_anyF hown
    have Hown := Lib.hid hown
    have cr : wr.cell? ⟨g1, 1, none⟩ = some (.slice A L.length c) := (hbel.cell (p := ⟨g1, 1, none⟩) hl1).trans c2
    have hlr : g1 < wr.heap.size := Nat.lt_of_lt_of_le hl1 hbel.size
    clear hown c2
    by_cases hlt : k < L.length
    · obtain ⟨b, off, c, hv, hc, hbl, hcell⟩ := H1.out.pos (by omega)
      injection hv with hv1 _ hv2
      subst hv1 hv2
      have hR := range_of rtL_len hcell hlt
      have HR : Hid (wr.rangeAt b (off + k * 21) (rtL L[k])) := Lib.hid (fun j u hu => ((hbel.cell (p := ⟨b, off + k * 21 + j, none⟩) hbl).trans (hR j u hu)))
      have hblr : b < wr.heap.size := Nat.lt_of_lt_of_le hbl hbel.size
      clear hR hcell hbl
      have hltI : (k : Int) < (L.length : Int) := by omega
      by_cases hst : 32 ≤ ((L.take k).filter okR).length
      · have hfin : leftF okR 32 L = (L.take k).filter okR := by rw [leftF_stop hst, List.take_of_length_le hcnt]
        have Hfin : Hid (rtN L = (L.take k).filter okR) := Lib.hid hfin
        clear hfin
        generalize (L.take k).filter okR = Q at *
        have i15 : ¬ ((Q.length : Int) < 32) := by omega
        generalize hql : Q.length = q at *
        go_wp2
        go_ret
        refine ⟨_, rfl, ?_, bel_tr hb1 hbel⟩
        rw [Hfin.out, hql]
        exact own_base Hown.out hb1.size
      · have hst2 : ((L.take k).filter okR).length < 32 := by omega
        have hnx := filt_next (p := okR) hlt
        have Hnx := Lib.hid hnx
        clear hnx hst
        generalize hp : L[k] = p at *
        generalize hQ : (L.take k).filter okR = Q at *
        have i15 : (Q.length : Int) < 32 := by omega
        have Hbd : Hid (Q.length < 32) := Lib.hid hst2
        have hok : ∀ y : Bool, (chkP p.pf == 0) = y → okR p = y := by intro y hy; unfold okR; exact hy
        have Hok := Lib.hid hok
        have hRp := range_rtPf HR.out
        clear hok hst2 hp hQ
        have HH : Hid (∀ w, Calls Tryz.prog 61 #[.agg (pfA p.pf)] w fun e w' => e = .returned (.int .i64 (chkP p.pf)) ∧ Below w.heap.size w w') := Lib.hid (rholds_any p.pf)
        generalize hch : chkP p.pf = ch at *
        clear hch
        cases i0 : (ch == 0)
        all_goals
          have Ho := Lib.hid (Hok.out _ i0)
          clear Hok
          go_wp2_with (first
            | (with_reducible refine wpList_loadPfM (o := ⟨some 22, _, _, _, _, _⟩) rfl _ rfl rfl hRp ?_)
            | (go_at_call 61; refine (HH.out _).mono ?_; rintro e w5 ⟨rfl, hb5⟩; have HX := Lib.hid hb5; have c5 : w5.cell? ⟨g1, 1, none⟩ = some (.slice (some ⟨b, off, none⟩) L.length c) := (hb5.cell (p := ⟨g1, 1, none⟩) hlr).trans cr; have HR5 : Hid (w5.rangeAt b (off + k * 21) (rtL p)) := Lib.hid (fun j u hu => ((hb5.cell (p := ⟨b, off + k * 21 + j, none⟩) hblr).trans (HR.out j u hu))); clear hRp hb5 cr)
            | (with_reducible refine wpList_loadM_rt (o := ⟨some 30, _, _, _, _, _⟩) rfl _ rfl rfl HR5.out ?_)
            | ((with_reducible show wpList _ _ _ (⟨some 31, _, _, _, _, _⟩ :: _) _ _); refine wpList_lit (o := ⟨some 31, _, _, _, _, _⟩) rfl _ _ rfl elt_rt [.agg (rtA p)] rfl (by decide) (by decide) (fun v hv => by rw [List.mem_singleton.1 hv]; exact rtA_size _) rfl ?_; intro w6 hB6 hx6 hb6 hs6; clear hx6 hs6; have hb06 := bel_tr HX.out hb6; have hB6 := bk_list (l := rtL p) hB6 rfl)
            | (at_builtin; refine wpList_app rfl (.tmp 25) (.tmp 31) _ rfl elt_rt rfl (own_below Hown.out hb06) rfl (hB6.sl (size := 21) (n := 1) (rtL_len _) 1 (Nat.le_refl _)) (rtL_one _) (Nat.le_trans hbel.size hb06.size) (by have := Hbd.out; omega) (by have := Hbd.out; omega) ?_; intro v7 w7 ho7 hb7 hg7; clear hg7))
          skip
        · go_roundw
          case rel =>
            refine ⟨k + 1, by omega, by go_num, ?_⟩
            unfold FltRel
            rw [Hnx.out, if_neg (by rw [Ho.out]; decide), List.append_nil]
            exact ⟨Nat.le_of_lt Hbd.out, own_below Hown.out HX.out, hbel.trans (HX.out.mono hbel.size)⟩
          case measure => simp [intOf]; omega
        · go_roundw
          case rel =>
            refine ⟨k + 1, by omega, by go_num, ?_⟩
            unfold FltRel
            rw [Hnx.out, if_pos (show okR p = true from Ho.out), List.length_append, List.flatMap_append]
            refine ⟨by have := Hbd.out; simp; omega, ?_, (hbel.trans (hb06.mono hbel.size)).trans hb7⟩
            simpa using ho7
          case measure => simp [intOf]; omega
    · have hkl : k = L.length := by omega
      subst hkl
      have hfin : leftF okR 32 L = (L.take L.length).filter okR := by rw [leftF, List.take_length, List.take_of_length_le (by rw [List.take_length] at hcnt; exact hcnt)]
      have Hfin : Hid (rtN L = (L.take L.length).filter okR) := Lib.hid hfin
      have j0 : ¬ (L.length : Int) < (L.length : Int) := by omega
      clear hfin
      generalize (L.take L.length).filter okR = Q at *
      generalize hql : Q.length = q at *
      go_wp2
      go_ret
      refine ⟨_, rfl, ?_, bel_tr hb1 hbel⟩
      rw [Hfin.out, hql]
      exact own_base Hown.out hb1.size
set_option maxRecDepth 100000 in
set_option maxHeartbeats 4000000 in
theorem rprows_any (vi vr vp : Value) (N : Nt) (w : World) (hN : NetRaw w vi vr vp N) (hl : N.P.length ≤ 1000000) : Calls Tryz.prog 36 #[.agg #[vi, vr, vp]] w (PolsPost w (polN N.P)) := by
  have h0 := hN.p
  clear hN
  generalize N.P = L at *
  obtain ⟨A, c, rfl, hc⟩ := h0.any
  have H := Lib.hid h0
  clear h0 hc
  go_enter Tryz.func36, Tryz.ntmps36
  go_wp2_with (first
    | ((with_reducible refine wpList_boxB rfl _ _ rfl rfl ?_); intro g1 w1 hg hB1 hb1 hs; have c2 : w1.cell? ⟨g1, 2, none⟩ = some (.slice A L.length c) := hB1.cell 2; have hl1 := hB1.lt; clear hg hs))
  have H1 := Lib.hid (H.out.below hb1)
  go_loopw [3, 4] (fun v i wr => ∃ k : Nat, k ≤ L.length ∧ i = .int .i64 k ∧ FltRel w1 56 21 polL okP 32 L k v wr) (fun _ i _ => L.length - (intOf i).toNat)
  case atStart => exact ⟨0, Nat.zero_le _, rfl, by simp, by simpa using World.ownsRow_nil w1 w1.heap.size 56 21, Below.refl _ _⟩
  case round =>
    obtain ⟨k, hk, rfl, hcnt, hown, hbel⟩ := hrel
    obtain ⟨ao, co, rfl⟩ := own_anyF hown
    have Hown := Lib.hid hown
    have cr : wr.cell? ⟨g1, 2, none⟩ = some (.slice A L.length c) := (hbel.cell (p := ⟨g1, 2, none⟩) hl1).trans c2
    have hlr : g1 < wr.heap.size := Nat.lt_of_lt_of_le hl1 hbel.size
    clear hown c2
    by_cases hlt : k < L.length
    · obtain ⟨b, off, c, hv, hc, hbl, hcell⟩ := H1.out.pos (by omega)
      injection hv with hv1 _ hv2
      subst hv1 hv2
      have hR := range_of polL_len hcell hlt
      have HR : Hid (wr.rangeAt b (off + k * 21) (polL L[k])) := Lib.hid (fun j u hu => ((hbel.cell (p := ⟨b, off + k * 21 + j, none⟩) hbl).trans (hR j u hu)))
      have hblr : b < wr.heap.size := Nat.lt_of_lt_of_le hbl hbel.size
      clear hR hcell hbl
      have hltI : (k : Int) < (L.length : Int) := by omega
      by_cases hst : 32 ≤ ((L.take k).filter okP).length
      · have hfin : leftF okP 32 L = (L.take k).filter okP := by rw [leftF_stop hst, List.take_of_length_le hcnt]
        have Hfin := Lib.hid (polN_some hfin (by omega))
        clear hfin
        generalize (L.take k).filter okP = Q at *
        have i15 : ¬ ((Q.length : Int) < 32) := by omega
        have i34 : ((Q.length : Int) == 0) = false := by rw [beq_eq_false_iff_ne]; omega
        generalize hql : Q.length = q at *
        go_wp2
        go_ret
        refine ⟨_, rfl, ?_, bel_tr hb1 hbel⟩
        rw [Hfin.out, hql]
        exact own_base Hown.out hb1.size
      · have hst2 : ((L.take k).filter okP).length < 32 := by omega
        have hnx := filt_next (p := okP) hlt
        have Hnx := Lib.hid hnx
        clear hnx hst
        generalize hp : L[k] = p at *
        generalize hQ : (L.take k).filter okP = Q at *
        have i15 : (Q.length : Int) < 32 := by omega
        have Hbd : Hid (Q.length < 32) := Lib.hid hst2
        have hok : ∀ x y : Bool, (p.pf.ad.fam == 6) = x → (chkP p.pf == 0) = y → okP p = (x && y) := by intro x y hx hy; unfold okP; rw [hx, hy]
        have Hok := Lib.hid hok
        have hRp := range_polPf HR.out
        clear hok hst2 hp hQ
        have HH : Hid (∀ w, Calls Tryz.prog 61 #[.agg (pfA p.pf)] w fun e w' => e = .returned (.int .i64 (chkP p.pf)) ∧ Below w.heap.size w w') := Lib.hid (rholds_any p.pf)
        generalize hch : chkP p.pf = ch at *
        clear hch
        cases i6 : (p.pf.ad.fam == 6) <;> cases i0 : (ch == 0)
        all_goals
          have Ho := Lib.hid (Hok.out _ _ i6 i0)
          clear Hok
          go_wp2_with (first
            | (with_reducible refine wpList_loadPfM (o := ⟨some 23, _, _, _, _, _⟩) rfl _ rfl rfl hRp ?_)
            | ((with_reducible refine wpList_allocPfD (o := ⟨some 5, _, _, _, _, _⟩) rfl rfl ?_); intro g2 w2 hg hB2 hb2 hs; have hg2 : wr.heap.size ≤ g2 := Nat.le_of_eq hg.symm; clear hg hs)
            | ((with_reducible refine wpList_storePfD (o := ⟨none, _, _, _, _, _⟩) rfl _ _ rfl rfl rfl hB2 ?_); intro w4 hB4 hS4; have hb4 : Below wr.heap.size wr w4 := hb2.trans (hS4.below (by omega)); have d0 := hB4.cell 0; rw [pfA_0] at d0; have HX := Lib.hid hb4; have hl4 := hb4.size; have c4 : w4.cell? ⟨g1, 2, none⟩ = some (.slice (some ⟨b, off, none⟩) L.length c) := (hb4.cell (p := ⟨g1, 2, none⟩) hlr).trans cr; have HR4 : Hid (w4.rangeAt b (off + k * 21) (polL p)) := Lib.hid (fun j u hu => ((hb4.cell (p := ⟨b, off + k * 21 + j, none⟩) hblr).trans (HR.out j u hu))); have B4 := Lib.hid hB4; clear hB4 hb4 hB2 hb2 hS4 hg2 hRp cr)
            | ((with_reducible show wpList _ _ _ (⟨some 29, _, _, _, _, _⟩ :: _) _ _); refine wpList_guarded (o := ⟨some 29, _, _, _, _, _⟩) rfl ?_; refine wpList_loadPfD (o := ⟨some 29, _, _, _, _, _⟩) rfl _ rfl rfl B4.out ?_)
            | (go_at_call 61; refine (HH.out _).mono ?_; rintro e w5 ⟨rfl, hb5⟩; have HX5 := Lib.hid (bel_tr HX.out hb5); clear HX; have HX := HX5; clear HX5; have c5 : w5.cell? ⟨g1, 2, none⟩ = some (.slice (some ⟨b, off, none⟩) L.length c) := (hb5.cell (p := ⟨g1, 2, none⟩) (Nat.lt_of_lt_of_le hlr hl4)).trans c4; have HR5 : Hid (w5.rangeAt b (off + k * 21) (polL p)) := Lib.hid (fun j u hu => ((hb5.cell (p := ⟨b, off + k * 21 + j, none⟩) (Nat.lt_of_lt_of_le hblr hl4)).trans (HR4.out j u hu))); clear d0 hb5 c4)
            | (with_reducible refine wpList_loadPolM (o := ⟨some 38, _, _, _, _, _⟩) rfl _ rfl rfl HR5.out ?_)
            | ((with_reducible show wpList _ _ _ (⟨some 39, _, _, _, _, _⟩ :: _) _ _); refine wpList_lit (o := ⟨some 39, _, _, _, _, _⟩) rfl _ _ rfl elt_pols [.agg (polA p)] rfl (by decide) (by decide) (fun v hv => by rw [List.mem_singleton.1 hv]; exact polA_size _) rfl ?_; intro w6 hB6 hx6 hb6 hs6; clear hx6 hs6; have hb06 := bel_tr HX.out hb6; have hB6 := bk_list (l := polL p) hB6 rfl)
            | (at_builtin; refine wpList_app rfl (.tmp 33) (.tmp 39) _ rfl elt_pols rfl (own_below Hown.out hb06) rfl (hB6.sl (size := 21) (n := 1) (polL_len _) 1 (Nat.le_refl _)) (polL_one _) (Nat.le_trans hbel.size hb06.size) (by have := Hbd.out; omega) (by have := Hbd.out; omega) ?_; intro v7 w7 ho7 hb7 hg7; clear hg7))
          skip
        · go_roundw
          case rel =>
            refine ⟨k + 1, by omega, by go_num, ?_⟩
            unfold FltRel
            rw [Hnx.out, if_neg (by rw [Ho.out]; decide), List.append_nil]
            exact ⟨Nat.le_of_lt Hbd.out, own_below Hown.out HX.out, hbel.trans (HX.out.mono hbel.size)⟩
          case measure => simp [intOf]; omega
        · go_roundw
          case rel =>
            refine ⟨k + 1, by omega, by go_num, ?_⟩
            unfold FltRel
            rw [Hnx.out, if_neg (by rw [Ho.out]; decide), List.append_nil]
            exact ⟨Nat.le_of_lt Hbd.out, own_below Hown.out HX.out, hbel.trans (HX.out.mono hbel.size)⟩
          case measure => simp [intOf]; omega
        · go_roundw
          case rel =>
            refine ⟨k + 1, by omega, by go_num, ?_⟩
            unfold FltRel
            rw [Hnx.out, if_neg (by rw [Ho.out]; decide), List.append_nil]
            exact ⟨Nat.le_of_lt Hbd.out, own_below Hown.out HX.out, hbel.trans (HX.out.mono hbel.size)⟩
          case measure => simp [intOf]; omega
        · go_roundw
          case rel =>
            refine ⟨k + 1, by omega, by go_num, ?_⟩
            unfold FltRel
            rw [Hnx.out, if_pos (show okP p = true from Ho.out), List.length_append, List.flatMap_append]
            refine ⟨by have := Hbd.out; simp; omega, ?_, (hbel.trans (hb06.mono hbel.size)).trans hb7⟩
            simpa using ho7
          case measure => simp [intOf]; omega
    · have hkl : k = L.length := by omega
      subst hkl
      have hfin : leftF okP 32 L = (L.take L.length).filter okP := by rw [leftF, List.take_length, List.take_of_length_le (by rw [List.take_length] at hcnt; exact hcnt)]
      have hn1 : ((L.take L.length).filter okP).length ≠ 0 → polN L = (L.take L.length).filter okP := polN_some hfin
      have hn2 : ((L.take L.length).filter okP).length = 0 → polN L = plainP := polN_none hfin
      have j0 : ¬ (L.length : Int) < (L.length : Int) := by omega
      clear hfin
      generalize (L.take L.length).filter okP = Q at *
      by_cases hq : Q.length = 0
      · have Hfin := Lib.hid (hn2 hq)
        have i34 : ((Q.length : Int) == 0) = true := by rw [beq_iff_eq]; omega
        clear hn1 hn2 hq
        generalize hql : Q.length = q at *
        go_wp2_with (first
          | (go_at_call 62; refine (rpolplain_any _).mono ?_; rintro e w2 ⟨v, rfl, ho, hb2⟩))
        go_ret
        have hb0 := bel_tr hb1 hbel
        refine ⟨_, rfl, ?_, bel_tr hb0 hb2⟩
        rw [Hfin.out]
        exact own_base ho hb0.size
      · have Hfin := Lib.hid (hn1 hq)
        have i34 : ((Q.length : Int) == 0) = false := by rw [beq_eq_false_iff_ne]; omega
        clear hn1 hn2 hq
        generalize hql : Q.length = q at *
        go_wp2
        go_ret
        refine ⟨_, rfl, ?_, bel_tr hb1 hbel⟩
        rw [Hfin.out, hql]
        exact own_base Hown.out hb1.size
set_option maxRecDepth 100000 in
set_option maxHeartbeats 4000000 in
theorem rifaces_any (vi vr vp : Value) (N : Nt) (w : World) (hN : NetRaw w vi vr vp N) (hl : N.I.length ≤ 1000000) : Calls Tryz.prog 55 #[.agg #[vi, vr, vp]] w (IfcsPost w (ifcN N.I)) := by
  have h0 := hN.i
  clear hN
  generalize N.I = L at *
  obtain ⟨A, c, rfl, hc⟩ := h0.any
  have H := Lib.hid h0
  clear h0 hc
  go_enter Tryz.func55, Tryz.ntmps55
  go_wp2_with (first
    | ((with_reducible refine wpList_boxB rfl _ _ rfl rfl ?_); intro g1 w1 hg hB1 hb1 hs; have c2 : w1.cell? ⟨g1, 0, none⟩ = some (.slice A L.length c) := hB1.cell 0; have hl1 := hB1.lt; clear hg hs))
  have H1 := Lib.hid (H.out.below hb1)
  go_loopw [3, 4] (fun v i wr => ∃ k : Nat, k ≤ L.length ∧ i = .int .i64 k ∧ FltRel w1 42 23 ifcL okI 32 L k v wr) (fun _ i _ => L.length - (intOf i).toNat)
  case atStart => exact ⟨0, Nat.zero_le _, rfl, by simp, by simpa using World.ownsRow_nil w1 w1.heap.size 42 23, Below.refl _ _⟩
  case round =>
    obtain ⟨k, hk, rfl, hcnt, hown, hbel⟩ := hrel
    obtain ⟨ao, co, rfl⟩ := own_anyF hown
    have Hown := Lib.hid hown
    have cr : wr.cell? ⟨g1, 0, none⟩ = some (.slice A L.length c) := (hbel.cell (p := ⟨g1, 0, none⟩) hl1).trans c2
    have hlr : g1 < wr.heap.size := Nat.lt_of_lt_of_le hl1 hbel.size
    clear hown c2
    by_cases hlt : k < L.length
    · obtain ⟨b, off, c, hv, hc, hbl, hcell⟩ := H1.out.pos (by omega)
      injection hv with hv1 _ hv2
      subst hv1 hv2
      have hR := range_of ifcL_len hcell hlt
      have HR : Hid (wr.rangeAt b (off + k * 23) (ifcL L[k])) := Lib.hid (fun j u hu => ((hbel.cell (p := ⟨b, off + k * 23 + j, none⟩) hbl).trans (hR j u hu)))
      have hblr : b < wr.heap.size := Nat.lt_of_lt_of_le hbl hbel.size
      clear hR hcell hbl
      have hltI : (k : Int) < (L.length : Int) := by omega
      by_cases hst : 32 ≤ ((L.take k).filter okI).length
      · have hfin : leftF okI 32 L = (L.take k).filter okI := by rw [leftF_stop hst, List.take_of_length_le hcnt]
        have Hfin : Hid (ifcN L = (L.take k).filter okI) := Lib.hid hfin
        clear hfin
        generalize (L.take k).filter okI = Q at *
        have i15 : ¬ ((Q.length : Int) < 32) := by omega
        generalize hql : Q.length = q at *
        go_wp2
        go_ret
        refine ⟨_, rfl, ?_, bel_tr hb1 hbel⟩
        rw [Hfin.out, hql]
        exact own_base Hown.out hb1.size
      · have hst2 : ((L.take k).filter okI).length < 32 := by omega
        have hnx := filt_next (p := okI) hlt
        have Hnx := Lib.hid hnx
        clear hnx hst
        generalize hp : L[k] = p at *
        generalize hQ : (L.take k).filter okI = Q at *
        have i15 : (Q.length : Int) < 32 := by omega
        have Hbd : Hid (Q.length < 32) := Lib.hid hst2
        have hok : (chkA p.ad == 0) = false ∧ okI p = false ∨ ((chkA p.ad == 0) = true ∧ decide (0 ≤ p.bits) = false ∧ okI p = false) ∨ ((chkA p.ad == 0) = true ∧ decide (0 ≤ p.bits) = true ∧ decide (p.bits ≤ bitsA p.ad) = false ∧ okI p = false) ∨
            ((chkA p.ad == 0) = true ∧ decide (0 ≤ p.bits) = true ∧ decide (p.bits ≤ bitsA p.ad) = true ∧ mulA p.ad = true ∧ okI p = false) ∨ ((chkA p.ad == 0) = true ∧ decide (0 ≤ p.bits) = true ∧ decide (p.bits ≤ bitsA p.ad) = true ∧ mulA p.ad = false ∧ okI p = true) := by
          unfold okI
          cases (chkA p.ad == 0) <;> cases mulA p.ad <;> cases decide (0 ≤ p.bits) <;> cases decide (p.bits ≤ bitsA p.ad) <;> simp
        clear hst2 hp hQ
        have HH : Hid (∀ w, Calls Tryz.prog 33 #[.agg (adA p.ad)] w fun e w' => e = .returned (.int .i64 (chkA p.ad)) ∧ Below w.heap.size w w') := Lib.hid (rcheckA_any p.ad)
        have HM : Hid (∀ w, Calls Tryz.prog 73 #[.agg (adA p.ad)] w (BoPost w (mulA p.ad))) := Lib.hid (rmulti_any p.ad)
        have HT : Hid (∀ w, Calls Tryz.prog 40 #[.agg (adA p.ad)] w fun e w' => e = .returned (.int .i64 (bitsA p.ad)) ∧ Below w.heap.size w w') := Lib.hid (rbits_any p.ad)
        generalize chkA p.ad = ch at *
        generalize mulA p.ad = mu at *
        generalize bitsA p.ad = bt at *
        go_wp2_with (first
          | (with_reducible refine wpList_loadM_ifc rfl _ rfl rfl HR.out ?_)
          | ((with_reducible refine wpList_alloc_ifc rfl rfl ?_); intro g2 w2 hg hB2 hb2 hs; have hg2 : wr.heap.size ≤ g2 := Nat.le_of_eq hg.symm; clear hg hs)
          | ((with_reducible refine wpList_store_ifc (o := ⟨none, _, _, _, _, _⟩) rfl _ _ rfl rfl rfl hB2 ?_); intro w4 hB4 hS4; have hb4 : Below wr.heap.size wr w4 := hb2.trans (hS4.below (by omega)); have hq4 := Lib.hid hB4.rangehd_ifc; have c19 := hB4.cell 19; rw [ifcA_19] at c19; have HX : Hid (Bk w4 g2 42 (ifcA p) ∧ Below wr.heap.size wr w4) := Lib.hid ⟨hB4, hb4⟩; clear hB4 hb4 hB2 hb2 hS4 hg2))
        have x19 := fun x : BelT w4 => x.cell c19
        clear c19
        rcases hok with ⟨i0, ho⟩ | ⟨i0, id0, ho⟩ | ⟨i0, id0, id1, ho⟩ | ⟨i0, id0, id1, im, ho⟩ | ⟨i0, id0, id1, im, ho⟩
        all_goals
          have Ho := Lib.hid ho
          clear ho
          refine wp_region_bel (by kernel_rfl) (by kernel_rfl) ?_
          repeat (first
            | go_big_quiet_skip
            | (go_big_quiet_want; first
                | (refine quiet_loadAd _ rfl rfl hq4.out (by simp only [Act.put, List.setIfInBounds_toArray, List.set_cons_succ, List.set_cons_zero]; exact rfl) ?_; go_big_quiet_on)
                | (go_big_quiet_op; first | go_big_quiet_on | go_big_quiet_call ((go_at_call 33; with_reducible refine bel_call (HH.out _))) | go_big_quiet_call ((go_at_call 73; with_reducible refine bel_call (HM.out _))) | go_big_quiet_call ((go_at_call 40; with_reducible refine bel_call (HT.out _))))))
          refine wpQuiet_nil ?_
          rintro _ ⟨x, rfl⟩
          have HX5 : Hid (Bk x.at_ g2 42 (ifcA p) ∧ Below wr.heap.size wr x.at_) := Lib.hid ⟨HX.out.1.bel x.bel, bel_tr HX.out.2 x.bel⟩
          clear HX x19 hq4
          have HB5 := Lib.hid HX5.out.1
          have HX := Lib.hid HX5.out.2
          clear HX5
          go_wp2_with (first
            | (with_reducible refine wpList_load_ifc (o := ⟨some 47, _, _, _, _, _⟩) rfl _ rfl rfl HB5.out ?_)
            | ((with_reducible show wpList _ _ _ (⟨some 48, _, _, _, _, _⟩ :: _) _ _); refine wpList_lit (o := ⟨some 48, _, _, _, _, _⟩) rfl _ _ rfl elt_ifc [.agg (ifcA p)] rfl (by decide) (by decide) (fun v hv => by rw [List.mem_singleton.1 hv]; exact ifcA_size _) rfl ?_; intro w6 hB6 hx6 hb6 hs6; clear hx6 hs6; have hb06 := bel_tr HX.out hb6; have hB6 := bk_list (l := ifcL p) hB6 rfl)
            | (at_builtin; refine wpList_app rfl (.tmp 46) (.tmp 48) _ rfl elt_ifc rfl (own_below Hown.out hb06) rfl (hB6.sl (size := 23) (n := 1) (ifcL_len _) 1 (Nat.le_refl _)) (ifcL_one _) (Nat.le_trans hbel.size hb06.size) (by have := Hbd.out; omega) (by have := Hbd.out; omega) ?_; intro v7 w7 ho7 hb7 hg7; clear hg7))
          skip
        · go_roundw
          case rel =>
            refine ⟨k + 1, by omega, by go_num, ?_⟩
            unfold FltRel
            rw [Hnx.out, if_neg (by rw [Ho.out]; decide), List.append_nil]
            exact ⟨Nat.le_of_lt Hbd.out, own_below Hown.out HX.out, hbel.trans (HX.out.mono hbel.size)⟩
          case measure => simp [intOf]; omega
        · go_roundw
          case rel =>
            refine ⟨k + 1, by omega, by go_num, ?_⟩
            unfold FltRel
            rw [Hnx.out, if_neg (by rw [Ho.out]; decide), List.append_nil]
            exact ⟨Nat.le_of_lt Hbd.out, own_below Hown.out HX.out, hbel.trans (HX.out.mono hbel.size)⟩
          case measure => simp [intOf]; omega
        · go_roundw
          case rel =>
            refine ⟨k + 1, by omega, by go_num, ?_⟩
            unfold FltRel
            rw [Hnx.out, if_neg (by rw [Ho.out]; decide), List.append_nil]
            exact ⟨Nat.le_of_lt Hbd.out, own_below Hown.out HX.out, hbel.trans (HX.out.mono hbel.size)⟩
          case measure => simp [intOf]; omega
        · go_roundw
          case rel =>
            refine ⟨k + 1, by omega, by go_num, ?_⟩
            unfold FltRel
            rw [Hnx.out, if_neg (by rw [Ho.out]; decide), List.append_nil]
            exact ⟨Nat.le_of_lt Hbd.out, own_below Hown.out HX.out, hbel.trans (HX.out.mono hbel.size)⟩
          case measure => simp [intOf]; omega
        · go_roundw
          case rel =>
            refine ⟨k + 1, by omega, by go_num, ?_⟩
            unfold FltRel
            rw [Hnx.out, if_pos (show okI p = true from Ho.out), List.length_append, List.flatMap_append]
            refine ⟨by have := Hbd.out; simp; omega, ?_, (hbel.trans (hb06.mono hbel.size)).trans hb7⟩
            simpa using ho7
          case measure => simp [intOf]; omega
    · have hkl : k = L.length := by omega
      subst hkl
      have hfin : leftF okI 32 L = (L.take L.length).filter okI := by rw [leftF, List.take_length, List.take_of_length_le (by rw [List.take_length] at hcnt; exact hcnt)]
      have Hfin : Hid (ifcN L = (L.take L.length).filter okI) := Lib.hid hfin
      have j0 : ¬ (L.length : Int) < (L.length : Int) := by omega
      clear hfin
      generalize (L.take L.length).filter okI = Q at *
      generalize hql : Q.length = q at *
      go_wp2
      go_ret
      refine ⟨_, rfl, ?_, bel_tr hb1 hbel⟩
      rw [Hfin.out, hql]
      exact own_base Hown.out hb1.size
end Go.Proofs.YthlnndjkocnfcaaGreatDoor

/- The reference's Of and Own (37), at any net (printed by mk_dsi.py). -/
namespace Go.Proofs.YthlnndjkocnfcaaGreatDoor
open Go.RowKit
attribute [local go_sem] ba_get ext_take ext_drop ext_any ba_app

def hitR (A : Ad) (z : Int) (p : Rt) : Bool := decide (gR p = z) && fR A p
theorem built_pf128 (a : Ad) : Tryz.prog.built 44 [(0, .agg (adA a)), (1, .int .i64 128)] = some (pfA ⟨a, 128, by decide⟩) := built_pf a 128 (by decide)
theorem rtL_18 (p : Rt) : (rtL p)[18]? = some (.int .i64 p.pf.bits) := by have := rtA_18 p; unfold rtA at this; rwa [List.getElem?_toArray] at this
structure RwRel (w : World) (g3 g4 : Nat) (A : Ad) (An : Option Addr) (R : List Rt) (lo : Nat) (wr : World) : Prop where
  b3 : Bk wr g3 29 (adA A)
  b4 : Bk wr g4 46 (rtA rt0)
  r : SRow rtL 21 wr An R lo
  b : Below w.heap.size w wr
theorem RwRel.bel {w wr w' : World} {g3 g4 lo : Nat} {A : Ad} {An : Option Addr} {R : List Rt} (h : RwRel w g3 g4 A An R lo wr) (hb : Below wr.heap.size wr w') : RwRel w g3 g4 A An R lo w' := ⟨h.b3.bel hb, h.b4.bel hb, h.r.bel hb, bel_tr h.b hb⟩
set_option maxRecDepth 100000 in
set_option maxHeartbeats 40000000 in
theorem rway_none (vi vr vp : Value) (a : Ad) (w : World) (R : List Rt) (hc : chkA a ≠ 0) :
    Calls Tryz.prog 18 #[.agg #[vi, vr, vp], .agg (adA a)] w (WayPost w (wayP a R)) := by
  have Hof : Hid (wayP a R = (rt0, false)) := Lib.hid (wayP_bad hc)
  have i0 : (chkA a != 0) = true := by simpa using hc
  generalize hch : chkA a = ch at *
  have Hch := Lib.hid hch
  clear hch hc
  go_enter Tryz.func18, Tryz.ntmps18
  go_wp2_with (first
    | ((with_reducible refine wpList_boxB (o := ⟨some 2, _, _, _, _, _⟩) rfl _ _ rfl rfl ?_); intro g2 w1 hg hB2 hb1 hs; clear hg hs)
    | ((with_reducible refine wpList_boxB (o := ⟨some 3, _, _, _, _, _⟩) rfl _ _ rfl rfl ?_); intro g3 w2 hg hB3 hb2 hs; have hB22 := hB2.bel hb2; have hb02 := bel_tr hb1 hb2; clear hg hs)
    | ((with_reducible refine wpList_alloc_rt (o := ⟨some 4, _, _, _, _, _⟩) rfl rfl ?_); intro g4 w3 hg hB4 hb3 hs; have hg4 : w2.heap.size ≤ g4 := Nat.le_of_eq hg.symm; have hB23 := hB22.bel hb3; have hB33 := hB3.bel hb3; have hb03 := bel_tr hb02 hb3; have hw4 : w.heap.size ≤ g4 := Nat.le_trans hb02.size hg4; clear hg hs)
    | (with_reducible refine wpList_loadAd (o := ⟨some 9, _, _, _, _, _⟩) rfl _ rfl rfl hB33 ?_)
    | (go_at_call 33; refine (rcheckA_any a _).mono ?_; rintro e w4 ⟨rfl, hb4⟩; rw [Hch.out]; have hB44 := hB4.bel hb4; have hb04 := bel_tr hb03 hb4)
    | (with_reducible refine wpList_buildL (o := ⟨some 12, _, _, _, _, _⟩) rfl 46 _ rfl built_rt0 rfl ?_)
    | ((with_reducible refine wpList_store_rt (o := ⟨none, _, _, _, _, _⟩) rfl (.tmp 4) _ rfl rfl rfl hB44 ?_); intro wc hB4c hSc))
  exact ret_rtE Tryz.results18 rfl rfl hB4c rfl ⟨by rw [Hof.out]; rfl, hb04.trans (hSc.below hw4)⟩
set_option maxRecDepth 100000 in
set_option maxHeartbeats 40000000 in
theorem rway_zone (vi vr vp : Value) (a : Ad) (w : World) (R : List Rt) (hc : chkA a = 0) (hz : 0 < a.zone) :
    Calls Tryz.prog 18 #[.agg #[vi, vr, vp], .agg (adA a)] w (WayPost w (wayP a R)) := by
  have Hof : Hid (wayP a R = (zone128 a, true)) := Lib.hid (wayP_zone hc hz)
  have Hc := Lib.hid hc
  have iz : decide (0 < a.zone) = true := decide_eq_true hz
  have H1 := Lib.hid (built_pf128 a)
  have H2 : Hid (Tryz.prog.built 46 [(0, .agg (pfA ⟨a, 128, by decide⟩)), (1, .int .i64 a.zone)] = some (rtA (zone128 a))) := Lib.hid (built_zr ⟨a, 128, by decide⟩ a.zone a.ok.2.2)
  generalize hF : (⟨a, 128, by decide⟩ : Pf) = F at *
  clear hF hc hz
  generalize zone128 a = Z at *
  go_enter Tryz.func18, Tryz.ntmps18
  go_wp2_with (first
    | ((with_reducible refine wpList_boxB (o := ⟨some 2, _, _, _, _, _⟩) rfl _ _ rfl rfl ?_); intro g2 w1 hg hB2 hb1 hs; clear hg hs)
    | ((with_reducible refine wpList_boxB (o := ⟨some 3, _, _, _, _, _⟩) rfl _ _ rfl rfl ?_); intro g3 w2 hg hB3 hb2 hs; have hB22 := hB2.bel hb2; have hb02 := bel_tr hb1 hb2; clear hg hs)
    | ((with_reducible refine wpList_alloc_rt (o := ⟨some 4, _, _, _, _, _⟩) rfl rfl ?_); intro g4 w3 hg hB4 hb3 hs; have hg4 : w2.heap.size ≤ g4 := Nat.le_of_eq hg.symm; have hB23 := hB22.bel hb3; have hB33 := hB3.bel hb3; have hb03 := bel_tr hb02 hb3; have hw4 : w.heap.size ≤ g4 := Nat.le_trans hb02.size hg4; clear hg hs)
    | (with_reducible refine wpList_loadAd (o := ⟨some 9, _, _, _, _, _⟩) rfl _ rfl rfl hB33 ?_)
    | (go_at_call 33; refine (rcheckA_any a _).mono ?_; rintro e w4 ⟨rfl, hb4⟩; rw [Hc.out]; have hB44 := hB4.bel hb4; have hB34 := hB33.bel hb4; have c17 := hB34.cell 17; rw [adA_17] at c17; have hb04 := bel_tr hb03 hb4; refine hold ?_))
  refine Lib.hid ?_
  go_wp2_with (first
    | (with_reducible refine wpList_loadAd (o := ⟨some 16, _, _, _, _, _⟩) rfl _ rfl rfl hB34 ?_)
    | ((with_reducible show wpList _ _ _ (⟨some 17, _, _, _, _, _⟩ :: _) _ _); refine wpList_buildL (o := ⟨some 17, _, _, _, _, _⟩) rfl 44 _ rfl H1.out rfl ?_)
    | ((with_reducible show wpList _ _ _ (⟨some 20, _, _, _, _, _⟩ :: _) _ _); refine wpList_buildL (o := ⟨some 20, _, _, _, _, _⟩) rfl 46 _ rfl H2.out rfl ?_)
    | ((with_reducible refine wpList_store_rt (o := ⟨none, _, _, _, _, _⟩) rfl (.tmp 4) _ rfl rfl rfl hB44 ?_); intro wc hB4c hSc))
  exact ret_rtE Tryz.results18 rfl rfl hB4c rfl ⟨by rw [Hof.out]; rfl, hb04.trans (hSc.below hw4)⟩
set_option maxRecDepth 100000 in
set_option maxHeartbeats 40000000 in
theorem rway_loop (vi vr vp : Value) (N : Nt) (a : Ad) (w : World) (hN : NetRaw w vi vr vp N) (hl : N.R.length ≤ 1000000) (hc : chkA a = 0) (hz : ¬ 0 < a.zone) :
    Calls Tryz.prog 18 #[.agg #[vi, vr, vp], .agg (adA a)] w (WayPost w (wayP a (rtN N.R))) := by
  have HN := Lib.hid hN
  have Hns := Lib.hid (show (Tryz.prog.info? 26).map (·.size) = some (#[vi, vr, vp] : Array Value).size from net_size)
  have hRl : (rtN N.R).length ≤ 32 := by unfold rtN leftF; rw [List.length_take]; omega
  have HRts : Hid (∀ w', NetRaw w' vi vr vp N → Calls Tryz.prog 34 #[.agg #[vi, vr, vp]] w' (RtsPost w' (rtN N.R))) := Lib.hid (fun w' h' => rroutes_any vi vr vp N w' h' hl)
  generalize rtN N.R = R at *
  have Hof : Hid (wayP a R = ((dsc (fR a) gR R 129).getD rt0, (dsc (fR a) gR R 129).isSome)) := Lib.hid (wayP_else hc hz)
  generalize wayP a R = T at *
  have Hc := Lib.hid hc
  have iz : decide (0 < a.zone) = false := decide_eq_false hz
  clear hN hc hz hl
  go_enter Tryz.func18, Tryz.ntmps18
  go_wp2_with (first
    | ((with_reducible refine wpList_boxB (o := ⟨some 2, _, _, _, _, _⟩) rfl _ _ rfl rfl ?_); intro g2 w1 hg hB2 hb1 hs; clear hg hs)
    | ((with_reducible refine wpList_boxB (o := ⟨some 3, _, _, _, _, _⟩) rfl _ _ rfl rfl ?_); intro g3 w2 hg hB3 hb2 hs; have hB22 := hB2.bel hb2; have hb02 := bel_tr hb1 hb2; clear hg hs)
    | ((with_reducible refine wpList_alloc_rt (o := ⟨some 4, _, _, _, _, _⟩) rfl rfl ?_); intro g4 w3 hg hB4 hb3 hs; have hg4 : w2.heap.size ≤ g4 := Nat.le_of_eq hg.symm; have hB23 := hB22.bel hb3; have hB33 := hB3.bel hb3; have hb03 := bel_tr hb02 hb3; have hw4 : w.heap.size ≤ g4 := Nat.le_trans hb02.size hg4; clear hg hs)
    | (with_reducible refine wpList_loadAd (o := ⟨some 9, _, _, _, _, _⟩) rfl _ rfl rfl hB33 ?_)
    | (go_at_call 33; refine (rcheckA_any a _).mono ?_; rintro e w4 ⟨rfl, hb4⟩; rw [Hc.out]; have hB44 := hB4.bel hb4; have hB34 := hB33.bel hb4; have hB24 := hB23.bel hb4; have c17 := hB34.cell 17; rw [adA_17] at c17; have hb04 := bel_tr hb03 hb4; refine hold ?_))
  refine Lib.hid ?_
  have hl4 := hB44.lt
  have hl3 := hB3.lt
  go_wp2_with (first
    | (with_reducible refine wpList_loadB (o := ⟨some 21, _, _, _, _, _⟩) rfl _ _ rfl rfl hB24 net_under rfl Hns.out ?_)
    | (go_at_call 34; refine (HRts.out _ (HN.out.below hb04)).mono ?_; rintro e w8 ⟨v8, rfl, ho8, hb8⟩; obtain ⟨A8, c8, rfl, hc8⟩ := (Sl.own ho8).any; have hr8 := SRow.own rtL_len ho8; have hX8 := hB34.bel hb8; have hZ8 := hB44.bel hb8; have hb08 := bel_tr hb04 hb8; clear ho8))
  generalize w4.heap.size = lo at *
  have R0 : RwRel w g3 g4 a A8 R lo w8 := ⟨hX8, hZ8, hr8, hb08⟩
  clear hB2 hB22 hB23 hB24 hB3 hB33 hB34 hB4 hB44 hX8 hZ8 hb1 hb2 hb3 hb4 hb8 hb02 hb03 hb04 hb08 hr8 hg4 c17 iz Hc
  go_loopw [7, 8] (fun bv iv wr => ∃ (m : Nat) (z : Int), m ≤ 129 ∧ bv = .int .i64 z ∧ z = (m : Int) - 1 ∧ T = ((dsc (fR a) gR R m).getD rt0, (dsc (fR a) gR R m).isSome) ∧ RwRel w g3 g4 a A8 R lo wr) (fun bv _ _ => (intOf bv + 1).toNat)
  case atStart => exact ⟨129, 128, by omega, rfl, by omega, Hof.out, R0⟩
  case round =>
    obtain ⟨m, z, hm, rfl, hz, hT, ro⟩ := hrel
    clear R0 Hof
    obtain ⟨wo, rfl⟩ : ∃ wo, wo = wr := ⟨_, rfl⟩
    rcases Nat.eq_zero_or_pos m with h0 | h0
    · subst h0
      have hT' := Lib.hid hT
      obtain rfl : z = -1 := by omega
      have r4 := ro.b4
      have HR := Lib.hid ro.b
      clear hz hT ro
      go_wp2_with (first
        | (with_reducible refine wpList_buildL (o := ⟨some 54, _, _, _, _, _⟩) rfl 46 _ rfl built_rt0 rfl ?_)
        | ((with_reducible refine wpList_store_rt (o := ⟨none, _, _, _, _, _⟩) rfl (.tmp 4) _ rfl rfl rfl r4 ?_); intro wc hB4c hSc))
      exact ret_rtE Tryz.results18 rfl rfl hB4c rfl ⟨by rw [hT'.out]; rfl, HR.out.trans (hSc.below hw4)⟩
    · obtain ⟨n, rfl⟩ : ∃ n, m = n + 1 := ⟨m - 1, by omega⟩
      have hzn : z = (n : Int) := by omega
      have z0 : (0 : Int) ≤ z := by omega
      have z1 : z ≤ 128 := by omega
      have hT1 : ∃ q, fnd (fR a) gR z R = q ∧ (∀ x, q = some x → T = (x, true)) ∧ (q = none → T = ((dsc (fR a) gR R n).getD rt0, (dsc (fR a) gR R n).isSome)) := by
        refine ⟨_, rfl, fun x hx => ?_, fun hx => ?_⟩
        · rw [hT, dsc, ← hzn, hx]; rfl
        · rw [hT, dsc, ← hzn, hx]
      obtain ⟨q, hq, hq1, hq2⟩ := hT1
      have Hq1 := Lib.hid hq1
      have Hq2 := Lib.hid hq2
      have Hzn := Lib.hid hzn
      have hf0 : R.find? (hitR a z) = q := hq
      have Hf0 := Lib.hid hf0
      have RO := Lib.hid ro
      clear hz hT hq1 hq2 hzn hq hf0 ro
      go_wp2_with (fail)
      go_loopw [8] (fun iv wr => ∃ k : Nat, k ≤ R.length ∧ iv = .int .i64 k ∧ (R.drop k).find? (hitR a z) = q ∧ RwRel w g3 g4 a A8 R lo wr) (fun iv _ => R.length - (intOf iv).toNat)
      case atStart => exact ⟨0, by omega, rfl, by rw [List.drop_zero]; exact Hf0.out, RO.out⟩
      case round =>
        obtain ⟨k, hk, rfl, hfk, rr⟩ := hrel
        clear RO Hf0
        by_cases hlt : k < R.length
        · obtain ⟨b, off, rfl, hblo, hblt, hrg⟩ := rr.r k hlt
          have j0 : (k : Int) < (R.length : Int) := by omega
          rw [List.drop_eq_getElem_cons hlt, List.find?_cons] at hfk
          generalize hp : R[k] = p at *
          have HW : Hid (∀ w, Calls Tryz.prog 35 #[.agg (adA a), .agg (pfA p.pf)] w fun e w' => e = .returned (.bool (withB a p.pf)) ∧ Below w.heap.size w w') := Lib.hid (rwithin_any a p.pf)
          have hcs : ((p.pf.bits == z) = false ∧ (R.drop (k + 1)).find? (hitR a z) = q) ∨ ((p.pf.bits == z) = true ∧ withB a p.pf = false ∧ (R.drop (k + 1)).find? (hitR a z) = q) ∨ ((p.pf.bits == z) = true ∧ withB a p.pf = true ∧ some p = q) := by
            cases hb : p.pf.bits == z with
            | false =>
              left
              have : hitR a z p = false := by unfold hitR gR; rw [decide_eq_false (by simpa using hb)]; rfl
              rw [this] at hfk
              exact ⟨rfl, hfk⟩
            | true =>
              right
              cases hw : withB a p.pf with
              | false =>
                left
                have : hitR a z p = false := by unfold hitR fR; rw [hw, Bool.and_false]
                rw [this] at hfk
                exact ⟨rfl, rfl, hfk⟩
              | true =>
                right
                have : hitR a z p = true := by unfold hitR fR gR; rw [hw, decide_eq_true (by simpa using hb)]; rfl
                rw [this] at hfk
                exact ⟨rfl, rfl, hfk⟩
          clear hp hfk
          have hR3 := rr.b3.rangeAd
          have hRp := range_rtPf hrg
          have c18 := hrg 18 _ (rtL_18 p)
          have x18 := fun x : BelT wr => x.cell c18
          rcases hcs with ⟨i1, hn⟩ | ⟨i1, hw, hn⟩ | ⟨i1, hw, hn⟩
          · have Hn := Lib.hid hn
            clear hn c18
            go_wp2_with (fail)
            refine wp_region_bel (by kernel_rfl) (by kernel_rfl) ?_
            repeat (first
              | go_big_quiet_skip
              | (go_big_quiet_want; first
                  | ((with_reducible refine quiet_loadAd _ rfl rfl hR3 (by simp only [Act.put, List.setIfInBounds_toArray, List.set_cons_succ, List.set_cons_zero]; exact rfl) ?_); go_big_quiet_on)
                  | ((with_reducible refine quiet_loadPf _ rfl rfl hRp (by simp only [Act.put, List.setIfInBounds_toArray, List.set_cons_succ, List.set_cons_zero]; exact rfl) ?_); go_big_quiet_on)
                  | (go_big_quiet_op; first | go_big_quiet_on | go_big_quiet_call ((with_reducible refine bel_call (HW.out _))))))
            refine wpQuiet_nil ?_
            rintro _ ⟨x, rfl⟩
            have HX := Lib.hid (rr.bel x.bel)
            clear x18
            go_wp2_with (fail)
            go_roundw
            case rel => exact ⟨k + 1, by omega, by go_num, Hn.out, HX.out⟩
            case measure => simp [intOf]; omega
          · have Hn := Lib.hid hn
            rw [hw] at HW
            clear hw
            clear hn c18
            go_wp2_with (fail)
            refine wp_region_bel (by kernel_rfl) (by kernel_rfl) ?_
            repeat (first
              | go_big_quiet_skip
              | (go_big_quiet_want; first
                  | ((with_reducible refine quiet_loadAd _ rfl rfl hR3 (by simp only [Act.put, List.setIfInBounds_toArray, List.set_cons_succ, List.set_cons_zero]; exact rfl) ?_); go_big_quiet_on)
                  | ((with_reducible refine quiet_loadPf _ rfl rfl hRp (by simp only [Act.put, List.setIfInBounds_toArray, List.set_cons_succ, List.set_cons_zero]; exact rfl) ?_); go_big_quiet_on)
                  | (go_big_quiet_op; first | go_big_quiet_on | go_big_quiet_call ((with_reducible refine bel_call (HW.out _))))))
            refine wpQuiet_nil ?_
            rintro _ ⟨x, rfl⟩
            have HX := Lib.hid (rr.bel x.bel)
            clear x18
            go_wp2_with (fail)
            go_roundw
            case rel => exact ⟨k + 1, by omega, by go_num, Hn.out, HX.out⟩
            case measure => simp [intOf]; omega
          · have Hn := Lib.hid hn
            rw [hw] at HW
            clear hw
            clear hn c18
            go_wp2_with (fail)
            refine wp_region_bel (by kernel_rfl) (by kernel_rfl) ?_
            repeat (first
              | go_big_quiet_skip
              | (go_big_quiet_want; first
                  | ((with_reducible refine quiet_loadAd _ rfl rfl hR3 (by simp only [Act.put, List.setIfInBounds_toArray, List.set_cons_succ, List.set_cons_zero]; exact rfl) ?_); go_big_quiet_on)
                  | ((with_reducible refine quiet_loadPf _ rfl rfl hRp (by simp only [Act.put, List.setIfInBounds_toArray, List.set_cons_succ, List.set_cons_zero]; exact rfl) ?_); go_big_quiet_on)
                  | (go_big_quiet_op; first | go_big_quiet_on | go_big_quiet_call ((with_reducible refine bel_call (HW.out _))))))
            refine wpQuiet_nil ?_
            rintro _ ⟨x, rfl⟩
            have HX := Lib.hid (rr.bel x.bel)
            have r4 := HX.out.b4
            have hrg2 : x.at_.rangeAt b (off + k * 21) (rtL p) := fun j v hv => x.cell (hrg j v hv)
            clear x18
            go_wp2_with (first
              | (with_reducible refine wpList_loadM_rt (o := ⟨some 53, _, _, _, _, _⟩) rfl _ rfl rfl hrg2 ?_)
              | ((with_reducible refine wpList_store_rt (o := ⟨none, _, _, _, _, _⟩) rfl (.tmp 4) _ rfl rfl rfl r4 ?_); intro wc hB4c hSc))
            exact ret_rtE Tryz.results18 rfl rfl hB4c rfl ⟨by rw [Hq1.out p Hn.out.symm]; rfl, HX.out.b.trans (hSc.below hw4)⟩
        · have hkR : k = R.length := by omega
          subst hkR
          have j0 : ¬ (R.length : Int) < (R.length : Int) := by omega
          rw [List.drop_length, List.find?_nil] at hfk
          have Hn := Lib.hid (Hq2.out hfk.symm)
          have RR := Lib.hid rr
          clear hfk rr
          go_wp2_with (fail)
          go_roundw
          case rel => exact ⟨n, z - 1, by omega, by go_num, by have := Hzn.out; omega, Hn.out, RR.out⟩
          case measure => simp [intOf]; omega
theorem rway_any (vi vr vp : Value) (N : Nt) (a : Ad) (w : World) (hN : NetRaw w vi vr vp N) (hl : N.R.length ≤ 1000000) :
    Calls Tryz.prog 18 #[.agg #[vi, vr, vp], .agg (adA a)] w (WayPost w (wayP a (rtN N.R))) := by
  by_cases hc : chkA a = 0
  · by_cases hz : 0 < a.zone
    · exact rway_zone vi vr vp a w _ hc hz
    · exact rway_loop vi vr vp N a w hN hl hc hz
  · exact rway_none vi vr vp a w _ hc
end Go.Proofs.YthlnndjkocnfcaaGreatDoor

/- The reference's Unmap (9). -/
namespace Go.Proofs.YthlnndjkocnfcaaGreatDoor
open Go.RowKit
attribute [local go_sem] ba_get ext_take ext_drop ext_any ba_app

theorem ip_16 (a : Ad) : a.ip = [a.b 0, a.b 1, a.b 2, a.b 3, a.b 4, a.b 5, a.b 6, a.b 7, a.b 8, a.b 9, a.b 10, a.b 11, a.b 12, a.b 13, a.b 14, a.b 15] := by
  refine List.ext_getElem? fun i => ?_
  by_cases hi : i < 16
  · rw [a.b_eq hi]
    rcases (show i = 0 ∨ i = 1 ∨ i = 2 ∨ i = 3 ∨ i = 4 ∨ i = 5 ∨ i = 6 ∨ i = 7 ∨ i = 8 ∨ i = 9 ∨ i = 10 ∨ i = 11 ∨ i = 12 ∨ i = 13 ∨ i = 14 ∨ i = 15 by omega) with rfl | rfl | rfl | rfl | rfl | rfl | rfl | rfl | rfl | rfl | rfl | rfl | rfl | rfl | rfl | rfl <;> rfl
  · rw [List.getElem?_eq_none (by rw [a.len]; omega), List.getElem?_eq_none (by simp; omega)]
theorem mapA_ip (a : Ad) : (a.ip == (mapA (ad12 a)).ip) = (a.ip.take 12 == ahd) := by
  have h2 : (mapA (ad12 a)).ip = ahd ++ [a.b 12, a.b 13, a.b 14, a.b 15] := rfl
  have h1 : a.ip = a.ip.take 12 ++ [a.b 12, a.b 13, a.b 14, a.b 15] := by
    rw [ip_16 a]; rfl
  rw [h2, Bool.eq_iff_iff]
  simp only [beq_iff_eq]
  constructor
  · intro h; rw [h]; rfl
  · intro h; rw [h1, h]
set_option maxRecDepth 100000 in
set_option maxHeartbeats 1000000 in
theorem runmap_any (a : Ad) (w : World) : Calls Tryz.prog 38 #[.agg (adA a)] w (AdPost w (unA a)) := by
  have Hm := Lib.hid (show mpA (ad12 a) = mapA (ad12 a) from if_pos rfl)
  have He := Lib.hid (mapA_ip a)
  have Hl := Lib.hid a.len
  have Hl2 := Lib.hid (mapA (ad12 a)).len
  have Hof : Hid (adOf (a.b 12) (a.b 13) (a.b 14) (a.b 15) = ad12 a) := Lib.hid rfl
  have hu : ∀ p q : Bool, (a.fam == 6) = p → (a.ip.take 12 == ahd) = q → unA a = if (p && q) = true then ad12 a else a := by
    intro p q hp hq
    unfold unA mapdB
    rw [hp, hq]
  have Hu := Lib.hid hu
  clear hu
  have l12 := u8lt (a.b 12)
  have l13 := u8lt (a.b 13)
  have l14 := u8lt (a.b 14)
  have l15 := u8lt (a.b 15)
  go_enter Tryz.func38, Tryz.ntmps38
  go_wp2_with (first
    | ((with_reducible refine wpList_boxB rfl _ _ rfl rfl ?_); intro g1 w1 hg hB1 hb1 hs; have hg1 : w.heap.size ≤ g1 := Nat.le_of_eq hg.symm; clear hg hs)
    | ((with_reducible refine wpList_allocAd (o := ⟨some 2, _, _, _, _, _⟩) rfl rfl ?_); intro g2 w2 hg hB2 hb2 hs; have hg2 : w1.heap.size ≤ g2 := Nat.le_of_eq hg.symm; have hB12 := hB1.bel hb2; have hb02 := bel_tr hb1 hb2; have hB : Hid (w.heap.size ≤ g2 ∧ g1 < g2) := Lib.hid ⟨by have := hb1.size; omega, by have := hB1.lt; omega⟩; clear hg hs
       have c13 := hB12.cell 13; rw [adA_13] at c13
       have c14 := hB12.cell 14; rw [adA_14] at c14
       have c15 := hB12.cell 15; rw [adA_15] at c15
       have c16 := hB12.cell 16; rw [adA_16] at c16
       clear hb1 hB1)
    | (go_at_call 14; refine (rof_any (a.b 12) (a.b 13) (a.b 14) (a.b 15) _).mono ?_; rintro e w3 ⟨rfl, hb3⟩; rw [Hof.out]; have hB13 := hB12.bel hb3; have hB23 := hB2.bel hb3; have hb03 := bel_tr hb02 hb3; clear c13 c14 c15 c16; refine hold ?_))
  refine Lib.hid ?_
  clear hB12 hB2 hb3 hb02
  go_wp2_with (first
    | ((with_reducible refine wpList_allocAd (o := ⟨some 3, _, _, _, _, _⟩) rfl rfl ?_); intro g3 w4 hg hB3 hb4 hs; have hg3 : w3.heap.size ≤ g3 := Nat.le_of_eq hg.symm; have hB14 := hB13.bel hb4; have hB24 := hB23.bel hb4; clear hg hs)
    | ((with_reducible refine wpList_storeAd (o := ⟨none, _, _, _, _, _⟩) rfl (.tmp 3) _ rfl rfl rfl hB3 ?_); intro w5 hB35 hS5
       have hB15 := hB14.stays hS5 (by have := hB13.lt; omega)
       have hB25 := hB24.stays hS5 (by have := hB23.lt; omega)
       have hb05 := hb03.trans ((hb4.trans (hS5.below hg3)).mono hb03.size)
       clear hB14 hB24 hB13 hB23 hB3 hS5 hb4 hg3)
    | (with_reducible refine wpList_loadAd (o := ⟨some 22, _, _, _, _, _⟩) rfl _ rfl rfl hB35 ?_)
    | (go_at_call 37; refine (rmap_all (ad12 a) _).mono ?_; rintro e w6 ⟨rfl, hb6⟩; rw [Hm.out]; have hB16 := hB15.bel hb6; have hB26 := hB25.bel hb6; have hB36 := hB35.bel hb6; have hb06 := bel_tr hb05 hb6; refine hold ?_))
  refine Lib.hid ?_
  clear hB15 hB25 hB35 hb6 hb05
  go_wp2_with (first
    | ((with_reducible refine wpList_allocAd (o := ⟨some 4, _, _, _, _, _⟩) rfl rfl ?_); intro g4 w7 hg hB4 hb7 hs; have hg4 : w6.heap.size ≤ g4 := Nat.le_of_eq hg.symm; have hB17 := hB16.bel hb7; have hB27 := hB26.bel hb7; have hB37 := hB36.bel hb7; clear hg hs)
    | ((with_reducible refine wpList_storeAd (o := ⟨none, _, _, _, _, _⟩) rfl (.tmp 4) _ rfl rfl rfl hB4 ?_); intro w8 hB48 hS8
       have hB18 := hB17.stays hS8 (by have := hB16.lt; omega)
       have hB28 := hB27.stays hS8 (by have := hB26.lt; omega)
       have hB38 := hB37.stays hS8 (by have := hB36.lt; omega)
       have hb08 := hb06.trans ((hb7.trans (hS8.below hg4)).mono hb06.size)
       clear hB17 hB27 hB37 hB4 hS8 hb7 hg4 hB16 hB26 hB36 hb06
       refine hold ?_))
  refine Lib.hid ?_
  have d0 := hB18.cell 0
  rw [adA_0] at d0
  cases i6 : (a.fam == 6) <;> cases iq : (a.ip.take 12 == ahd)
  all_goals
    have HU := Lib.hid (Hu.out _ _ i6 iq)
    have Iq := Lib.hid iq
    clear Hu iq
    go_wp2_with (first
      | (refine wpList_guarded (o := ⟨some 29, _, _, _, _, _⟩) rfl ?_; with_reducible refine wpList_loadIp (o := ⟨some 29, _, _, _, _, _⟩) rfl _ rfl rfl hB18 ?_)
      | (refine wpList_guarded (o := ⟨some 31, _, _, _, _, _⟩) rfl ?_; with_reducible refine wpList_loadIp (o := ⟨some 31, _, _, _, _, _⟩) rfl _ rfl rfl hB48 ?_)
      | (refine wpList_guarded (o := ⟨some 32, _, _, _, _, _⟩) rfl ?_; with_reducible refine wpList_eqlIp (o := ⟨some 32, _, _, _, _, _⟩) rfl _ _ rfl rfl rfl Hl.out Hl2.out ?_; rw [He.out, Iq.out])
      | (with_reducible refine wpList_loadAd (o := ⟨some 34, _, _, _, _, _⟩) rfl _ rfl rfl hB38 ?_)
      | (with_reducible refine wpList_loadAd (o := ⟨some 35, _, _, _, _, _⟩) rfl _ rfl rfl hB18 ?_)
      | ((with_reducible refine wpList_storeAd (o := ⟨none, _, _, _, _, _⟩) rfl (.tmp 2) _ rfl rfl rfl hB28 ?_); intro w9 hB9 hS9))
    exact ret_ad Tryz.results38 rfl hB9 rfl ⟨by rw [HU.out]; rfl, hb08.trans (hS9.below hB.out.1)⟩
end Go.Proofs.YthlnndjkocnfcaaGreatDoor

/- The reference's Own (37), by, itself, scopes, alike, bits (38), at any net (printed by mk_dsj.py). -/
namespace Go.Proofs.YthlnndjkocnfcaaGreatDoor
open Go.RowKit
attribute [local go_sem] ba_get ext_take ext_drop ext_any ba_app

theorem ifcL_0 (p : Ifc) : (ifcL p)[0]? = some (.int .i64 p.ad.fam) := by have := ifcA_0 p; unfold ifcA at this; rwa [List.getElem?_toArray] at this
theorem ifcL_18 (p : Ifc) : (ifcL p)[18]? = some (.int .i64 p.idx) := by have := ifcA_18 p; unfold ifcA at this; rwa [List.getElem?_toArray] at this
set_option maxRecDepth 100000 in
set_option maxHeartbeats 40000000 in
theorem rown_any (vi vr vp : Value) (N : Nt) (a : Ad) (w : World) (hN : NetRaw w vi vr vp N) (hlI : N.I.length ≤ 1000000) (hlR : N.R.length ≤ 1000000) :
    Calls Tryz.prog 31 #[.agg #[vi, vr, vp], .agg (adA a)] w (IfcsPost w (ownN N a)) := by
  have HN := Lib.hid hN
  have Hns := Lib.hid (show (Tryz.prog.info? 26).map (·.size) = some (#[vi, vr, vp] : Array Value).size from net_size)
  have HW : Hid (∀ w', NetRaw w' vi vr vp N → Calls Tryz.prog 18 #[.agg #[vi, vr, vp], .agg (adA a)] w' (WayPost w' (wayP a (rtN N.R)))) := Lib.hid (fun w' h' => rway_any vi vr vp N a w' h' hlR)
  have HI : Hid (∀ w', NetRaw w' vi vr vp N → Calls Tryz.prog 55 #[.agg #[vi, vr, vp]] w' (IfcsPost w' (ifcN N.I))) := Lib.hid (fun w' h' => rifaces_any vi vr vp N w' h' hlI)
  have Hof : Hid (ownN N a = if (wayP a (rtN N.R)).2 = true then (ifcN N.I).filter (okO a.fam (wayP a (rtN N.R)).1.idx) else []) := Lib.hid rfl
  have HRl := Lib.hid (ifcN_len N.I)
  clear hN hlI hlR
  generalize ownN N a = O at *
  generalize ifcN N.I = R at *
  generalize wayP a (rtN N.R) = wv at *
  obtain ⟨r, wb⟩ := wv
  go_enter Tryz.func31, Tryz.ntmps31
  go_wp2_with (first
    | ((with_reducible refine wpList_boxB (o := ⟨some 2, _, _, _, _, _⟩) rfl _ _ rfl rfl ?_); intro g2 w1 hg hB2 hb1 hs; clear hg hs)
    | ((with_reducible refine wpList_boxB (o := ⟨some 3, _, _, _, _, _⟩) rfl _ _ rfl rfl ?_); intro g3 w2 hg hB3 hb2 hs; have hB22 := hB2.bel hb2; have hb02 := bel_tr hb1 hb2; clear hg hs)
    | (with_reducible refine wpList_loadB (o := ⟨some 11, _, _, _, _, _⟩) rfl _ _ rfl rfl hB22 net_under rfl Hns.out ?_)
    | (with_reducible refine wpList_loadAd (o := ⟨some 12, _, _, _, _, _⟩) rfl _ rfl rfl hB3 ?_)
    | (go_at_call 18; refine (HW.out _ (HN.out.below hb02)).mono ?_; rintro e w4 ⟨rfl, hb4⟩; have hB24 := hB22.bel hb4; have hB34 := hB3.bel hb4; have hb04 := bel_tr hb02 hb4; refine hold ?_))
  refine Lib.hid ?_
  go_wp2_with (first
    | ((with_reducible refine wpList_alloc_rt (o := ⟨some 5, _, _, _, _, _⟩) rfl rfl ?_); intro g5 w5 hg hB5 hb5 hs; have hg5 : w4.heap.size ≤ g5 := Nat.le_of_eq hg.symm; have hB25 := hB24.bel hb5; have hB35 := hB34.bel hb5; have hb05 := bel_tr hb04 hb5; clear hg hs)
    | ((with_reducible refine wpList_store_rt (o := ⟨none, _, _, _, _, _⟩) rfl (.tmp 5) _ rfl rfl rfl hB5 ?_); intro w6 hB56 hS6
       have hB26 := hB25.stays hS6 (by have := hB24.lt; omega)
       have hB36 := hB35.stays hS6 (by have := hB34.lt; omega)
       have hb06 : Below w.heap.size w w6 := hb05.trans (hS6.below (Nat.le_trans hb04.size hg5)))
    | (with_reducible refine wpList_loadB (o := ⟨some 16, _, _, _, _, _⟩) rfl _ _ rfl rfl hB26 net_under rfl Hns.out ?_)
    | (go_at_call 55; refine (HI.out _ (HN.out.below hb06)).mono ?_; rintro e w8 ⟨v8, rfl, ho8, hb8⟩; obtain ⟨A8, c8, rfl, hc8⟩ := (Sl.own ho8).any; have HR8 := Lib.hid (SRow.own ifcL_len ho8); have H3 := Lib.hid (hB36.bel hb8); have H5 := Lib.hid (hB56.bel hb8); have Hb8 := Lib.hid (bel_tr hb06 hb8)))
  clear hB2 hB22 hB24 hB25 hB26 hB3 hB34 hB35 hB36 hB5 hB56 hS6 hb1 hb2 hb4 hb5 hb02 hb04 hb05 hb06 hb8 ho8 hg5 HW HI
  cases wb with
  | false =>
    have Hf : Hid (O = []) := Lib.hid (by rw [Hof.out]; rfl)
    clear Hof
    go_loopw [7, 9] (fun v i wr => v = .slice none 0 0 ∧ i = .int .i64 0 ∧ wr = w8) (fun _ _ _ => 0)
    case atStart => exact ⟨rfl, rfl, rfl⟩
    case round =>
      obtain ⟨rfl, rfl, rfl⟩ := hrel
      go_wp2_with (fail)
      all_goals
        go_ret
        refine ⟨_, rfl, ?_, Hb8.out⟩
        rw [Hf.out]
        simpa using World.ownsRow_nil wr w.heap.size 42 23
  | true =>
    have Hf : Hid (O = R.filter (okO a.fam r.idx)) := Lib.hid (by rw [Hof.out]; rfl)
    clear Hof
    have hRl := HRl.out
    go_loopw [7, 9] (fun v i wr => ∃ k : Nat, k ≤ R.length ∧ i = .int .i64 k ∧ FltRel w8 42 23 ifcL (okO a.fam r.idx) 32 R k v wr) (fun _ i _ => R.length - (intOf i).toNat)
    case atStart => exact ⟨0, Nat.zero_le _, rfl, by simp, by simpa using World.ownsRow_nil w8 w8.heap.size 42 23, Below.refl _ _⟩
    case round =>
      obtain ⟨k, hk, rfl, hcnt, hown, hbel⟩ := hrel
      obtain ⟨ao, co, rfl⟩ := own_anyF hown
      have Hown := Lib.hid hown
      clear hown
      by_cases hlt : k < R.length
      · obtain ⟨b, off, hA, hblo, hblt, hrg⟩ := HR8.out.bel hbel k hlt
        subst hA
        have hltI : (k : Int) < (R.length : Int) := by omega
        have hnx := filt_next (p := okO a.fam r.idx) hlt
        have Hnx := Lib.hid hnx
        have hcnt2 : ((R.take k).filter (okO a.fam r.idx)).length < 32 := by
          have h1 := List.length_filter_le (okO a.fam r.idx) (R.take k)
          rw [List.length_take] at h1
          have := HRl.out
          omega
        clear hnx hcnt
        generalize hp : R[k] = p at *
        generalize hQ : (R.take k).filter (okO a.fam r.idx) = Q at *
        have Hbd : Hid (Q.length < 32) := Lib.hid hcnt2
        have hok : ∀ x y : Bool, (p.ad.fam == a.fam) = x → (p.idx == r.idx) = y → okO a.fam r.idx p = (x && y) := by intro x y hx hy; unfold okO; rw [hx, hy]
        have Hok := Lib.hid hok
        clear hok hcnt2 hp hQ
        have HRg := Lib.hid hrg
        have e0 := hrg 0 _ (ifcL_0 p)
        rw [Nat.add_zero] at e0
        have e18 := hrg 18 _ (ifcL_18 p)
        have c3 := (H3.out.bel hbel).cell 0
        rw [adA_0] at c3
        have c5 := (H5.out.bel hbel).cell 19
        rw [rtA_19] at c5
        have x0 := fun x : BelT wr => x.cell e0
        have x18 := fun x : BelT wr => x.cell e18
        have x3 := fun x : BelT wr => x.cell c3
        have x5 := fun x : BelT wr => x.cell c5
        clear hrg hblo hblt e0 e18 c3 c5
        cases i6 : (p.ad.fam == a.fam) <;> cases i0 : (p.idx == r.idx)
        all_goals
          have Ho := Lib.hid (Hok.out _ _ i6 i0)
          clear Hok
          go_wp2_with (fail)
          refine wp_region_bel (by kernel_rfl) (by kernel_rfl) ?_
          repeat (first
            | go_big_quiet_skip
            | (go_big_quiet_want; first
                | (go_big_quiet_op; first | go_big_quiet_on)))
          refine wpQuiet_nil ?_
          rintro _ ⟨x, rfl⟩
          have HX : Hid (Below wr.heap.size wr x.at_) := Lib.hid x.bel
          have HRx : Hid (x.at_.rangeAt b (off + k * 23) (ifcL p)) := Lib.hid (fun j v hv => x.cell (HRg.out j v hv))
          clear x0 x18 x3 x5 HRg
          go_wp2_with (first
            | (with_reducible refine wpList_loadM_ifc (o := ⟨some 50, _, _, _, _, _⟩) rfl _ rfl rfl HRx.out ?_)
            | ((with_reducible show wpList _ _ _ (⟨some 51, _, _, _, _, _⟩ :: _) _ _); refine wpList_lit (o := ⟨some 51, _, _, _, _, _⟩) rfl _ _ rfl elt_ifc [.agg (ifcA p)] rfl (by decide) (by decide) (fun v hv => by rw [List.mem_singleton.1 hv]; exact ifcA_size _) rfl ?_; intro w6 hB6 hx6 hb6 hs6; clear hx6 hs6; have hb06 := bel_tr HX.out hb6; have hB6 := bk_list (l := ifcL p) hB6 rfl)
            | (at_builtin; refine wpList_app rfl (.tmp 46) (.tmp 51) _ rfl elt_ifc rfl (own_below Hown.out hb06) rfl (hB6.sl (size := 23) (n := 1) (ifcL_len _) 1 (Nat.le_refl _)) (ifcL_one _) (Nat.le_trans hbel.size hb06.size) (by have := Hbd.out; omega) (by have := Hbd.out; omega) ?_; intro v7 w7 ho7 hb7 hg7; clear hg7))
          skip
        · go_roundw
          case rel =>
            refine ⟨k + 1, by omega, by go_num, ?_⟩
            unfold FltRel
            rw [Hnx.out, if_neg (by rw [Ho.out]; decide), List.append_nil]
            exact ⟨Nat.le_of_lt Hbd.out, own_below Hown.out HX.out, hbel.trans (HX.out.mono hbel.size)⟩
          case measure => simp [intOf]; omega
        · go_roundw
          case rel =>
            refine ⟨k + 1, by omega, by go_num, ?_⟩
            unfold FltRel
            rw [Hnx.out, if_neg (by rw [Ho.out]; decide), List.append_nil]
            exact ⟨Nat.le_of_lt Hbd.out, own_below Hown.out HX.out, hbel.trans (HX.out.mono hbel.size)⟩
          case measure => simp [intOf]; omega
        · go_roundw
          case rel =>
            refine ⟨k + 1, by omega, by go_num, ?_⟩
            unfold FltRel
            rw [Hnx.out, if_neg (by rw [Ho.out]; decide), List.append_nil]
            exact ⟨Nat.le_of_lt Hbd.out, own_below Hown.out HX.out, hbel.trans (HX.out.mono hbel.size)⟩
          case measure => simp [intOf]; omega
        · go_roundw
          case rel =>
            refine ⟨k + 1, by omega, by go_num, ?_⟩
            unfold FltRel
            rw [Hnx.out, if_pos (show okO a.fam r.idx p = true from Ho.out), List.length_append, List.flatMap_append]
            refine ⟨by have := Hbd.out; simp; omega, ?_, (hbel.trans (hb06.mono hbel.size)).trans hb7⟩
            simpa using ho7
          case measure => simp [intOf]; omega
      · have hkl : k = R.length := by omega
        subst hkl
        have Hf2 : Hid (O = (R.take R.length).filter (okO a.fam r.idx)) := Lib.hid (by rw [List.take_length]; exact Hf.out)
        have j0 : ¬ (R.length : Int) < (R.length : Int) := by omega
        clear Hf
        generalize (R.take R.length).filter (okO a.fam r.idx) = Q at *
        generalize hql : Q.length = q at *
        go_wp2_with (fail)
        go_ret
        refine ⟨_, rfl, ?_, bel_tr Hb8.out hbel⟩
        rw [Hf2.out, hql]
        exact own_base Hown.out Hb8.out.size
set_option maxRecDepth 100000 in
theorem rby_any (a b : Bool) (w : World) : Calls Tryz.prog 56 #[.bool a, .bool b] w (InPost w (ordB a b)) := by
  cases a <;> cases b
  all_goals
    go_enter Tryz.func56, Tryz.ntmps56
    go_wp2
    go_ret
    exact ⟨rfl, Below.refl _ _⟩
theorem scoI_cases (a b d : Int) : (a = b ∧ scoI a b d = 0) ∨ (¬ a = b ∧ d ≤ a ∧ b < d ∧ scoI a b d = 1) ∨ (¬ a = b ∧ d ≤ a ∧ ¬ b < d ∧ ¬ a < d ∧ scoI a b d = ordB (decide (a < b)) (decide (b < a))) ∨ (¬ a = b ∧ ¬ d ≤ a ∧ d ≤ b ∧ a < d ∧ scoI a b d = -1) ∨ (¬ a = b ∧ ¬ d ≤ a ∧ ¬ d ≤ b ∧ scoI a b d = ordB (decide (b < a)) (decide (a < b))) := by
  rw [ordB_cmp, ordB_cmp]
  unfold scoI cmpI
  by_cases h1 : a < d <;> by_cases h2 : b < d <;> by_cases h3 : a < b <;> by_cases h4 : b < a <;> simp [h1, h2, h3, h4] <;> omega
set_option maxRecDepth 100000 in
theorem rscopes_any (a b d : Int) (w : World) : Calls Tryz.prog 58 #[.int .i64 a, .int .i64 b, .int .i64 d] w (InPost w (scoI a b d)) := by
  rcases scoI_cases a b d with ⟨h1, h⟩ | ⟨h1, h2, h3, h⟩ | ⟨h1, h2, h3, h4, h⟩ | ⟨h1, h2, h3, h4, h⟩ | ⟨h1, h2, h3, h⟩
  · have H := Lib.hid h
    have i1 : (a == b) = true := by simpa using h1
    clear h h1
    go_enter Tryz.func58, Tryz.ntmps58
    go_wp2
    go_ret
    exact ⟨by rw [H.out]; rfl, Below.refl _ _⟩
  · have H := Lib.hid h
    have i1 : (a == b) = false := by simpa using h1
    have i2 : decide (d ≤ a) = true := decide_eq_true h2
    have i3 : decide (b < d) = true := decide_eq_true h3
    clear h h1 h2 h3
    go_enter Tryz.func58, Tryz.ntmps58
    go_wp2
    go_ret
    exact ⟨by rw [H.out]; rfl, Below.refl _ _⟩
  · have H := Lib.hid h
    have i1 : (a == b) = false := by simpa using h1
    have i2 : decide (d ≤ a) = true := decide_eq_true h2
    have i3 : decide (b < d) = false := decide_eq_false h3
    have i4 : decide (a < d) = false := decide_eq_false h4
    have i5 : decide (d ≤ b) = true := decide_eq_true (by omega)
    clear h h1 h2 h3 h4
    go_enter Tryz.func58, Tryz.ntmps58
    go_wp2_with (go_at_call 56; refine (rby_any _ _ _).mono ?_; rintro e w1 ⟨rfl, hb1⟩)
    go_ret
    exact ⟨by rw [H.out]; rfl, hb1⟩
  · have H := Lib.hid h
    have i1 : (a == b) = false := by simpa using h1
    have i2 : decide (d ≤ a) = false := decide_eq_false h2
    have i3 : decide (d ≤ b) = true := decide_eq_true h3
    have i4 : decide (a < d) = true := decide_eq_true h4
    clear h h1 h2 h3 h4
    go_enter Tryz.func58, Tryz.ntmps58
    go_wp2
    go_ret
    exact ⟨by rw [H.out]; rfl, Below.refl _ _⟩
  · have H := Lib.hid h
    have i1 : (a == b) = false := by simpa using h1
    have i2 : decide (d ≤ a) = false := decide_eq_false h2
    have i3 : decide (d ≤ b) = false := decide_eq_false h3
    clear h h1 h2 h3
    go_enter Tryz.func58, Tryz.ntmps58
    go_wp2_with (go_at_call 56; refine (rby_any _ _ _).mono ?_; rintro e w1 ⟨rfl, hb1⟩)
    go_ret
    exact ⟨by rw [H.out]; rfl, hb1⟩
set_option maxRecDepth 100000 in
set_option maxHeartbeats 4000000 in
theorem rself_any (a d : Ad) (w : World) : Calls Tryz.prog 57 #[.agg (adA a), .agg (adA d)] w (BoPost w (selfB a d)) := by
  have Hf : ∀ x y : Bool, (a.fam == d.fam) = x → (a.ip == d.ip) = y → selfB a d = (x && y) := by intro x y hx hy; unfold selfB; rw [hx, hy]
  have HF := Lib.hid Hf
  have Hl := Lib.hid a.len
  have Hl2 := Lib.hid d.len
  clear Hf
  generalize selfB a d = S at *
  cases i6 : (a.fam == d.fam) <;> cases iq : (a.ip == d.ip)
  all_goals
    have HU := Lib.hid (HF.out _ _ i6 iq)
    have Iq := Lib.hid iq
    clear HF iq
    go_enter Tryz.func57, Tryz.ntmps57
    go_wp2_with (first
      | ((with_reducible refine wpList_boxB (o := ⟨some 2, _, _, _, _, _⟩) rfl _ _ rfl rfl ?_); intro g2 w1 hg hB2 hb1 hs; clear hg hs)
      | ((with_reducible refine wpList_boxB (o := ⟨some 3, _, _, _, _, _⟩) rfl _ _ rfl rfl ?_); intro g3 w2 hg hB3 hb2 hs; have hB22 := hB2.bel hb2; have hb02 := bel_tr hb1 hb2; have c2 := hB22.cell 0; rw [adA_0] at c2; have c3 := hB3.cell 0; rw [adA_0] at c3; clear hg hs)
      | ((with_reducible show wpList _ _ _ (⟨some 12, _, _, _, _, _⟩ :: _) _ _); refine wpList_guarded (o := ⟨some 12, _, _, _, _, _⟩) rfl ?_; with_reducible refine wpList_loadIp (o := ⟨some 12, _, _, _, _, _⟩) rfl _ rfl rfl hB22 ?_)
      | ((with_reducible show wpList _ _ _ (⟨some 14, _, _, _, _, _⟩ :: _) _ _); refine wpList_guarded (o := ⟨some 14, _, _, _, _, _⟩) rfl ?_; with_reducible refine wpList_loadIp (o := ⟨some 14, _, _, _, _, _⟩) rfl _ rfl rfl hB3 ?_)
      | ((with_reducible show wpList _ _ _ (⟨some 15, _, _, _, _, _⟩ :: _) _ _); refine wpList_guarded (o := ⟨some 15, _, _, _, _, _⟩) rfl ?_; with_reducible refine wpList_eqlIp (o := ⟨some 15, _, _, _, _, _⟩) rfl _ _ rfl rfl rfl Hl.out Hl2.out ?_; rw [Iq.out]))
    go_ret
    exact ⟨by rw [HU.out]; rfl, hb02⟩
theorem rpofN_any (vi vr vp : Value) (N : Nt) (a : Ad) (w : World) (hN : NetRaw w vi vr vp N) (hl : N.P.length ≤ 1000000) : Calls Tryz.prog 19 #[.agg #[vi, vr, vp], .agg (adA a)] w (PolPost w (ofP a (polN N.P))) := by
  rw [← rofP_eq]
  exact rpof_any #[vi, vr, vp] rfl (polN N.P) a w (polN_len _) (fun w' hb => rprows_any vi vr vp N w' (hN.below hb) hl)
set_option maxRecDepth 100000 in
set_option maxHeartbeats 4000000 in
theorem ralike_any (vi vr vp : Value) (N : Nt) (a d : Ad) (w : World) (hN : NetRaw w vi vr vp N) (hlP : N.P.length ≤ 1000000) :
    Calls Tryz.prog 59 #[.agg #[vi, vr, vp], .agg (adA a), .agg (adA d)] w (BoPost w (labB N a d)) := by
  have HN := Lib.hid hN
  have Hf : Hid (labB N a d = ((ofP a (polN N.P)).lab == (ofP d (polN N.P)).lab)) := Lib.hid rfl
  have HA : Hid (∀ w', NetRaw w' vi vr vp N → Calls Tryz.prog 19 #[.agg #[vi, vr, vp], .agg (adA a)] w' (PolPost w' (ofP a (polN N.P)))) := Lib.hid (fun w' h => rpofN_any vi vr vp N a w' h hlP)
  have HD : Hid (∀ w', NetRaw w' vi vr vp N → Calls Tryz.prog 19 #[.agg #[vi, vr, vp], .agg (adA d)] w' (PolPost w' (ofP d (polN N.P)))) := Lib.hid (fun w' h => rpofN_any vi vr vp N d w' h hlP)
  clear hN hlP
  generalize labB N a d = B at *
  generalize ofP a (polN N.P) = Pa at *
  generalize ofP d (polN N.P) = Pd at *
  go_enter Tryz.func59, Tryz.ntmps59
  go_wp2_with (first
    | ((with_reducible refine wpList_boxB (o := ⟨some 3, _, _, _, _, _⟩) rfl _ _ rfl rfl ?_); intro g3 w1 hg hB3 hb1 hs; clear hg hs)
    | ((with_reducible refine wpList_boxB (o := ⟨some 4, _, _, _, _, _⟩) rfl _ _ rfl rfl ?_); intro g4 w2 hg hB4 hb2 hs; have hB32 := hB3.bel hb2; have hb02 := bel_tr hb1 hb2; clear hg hs)
    | ((with_reducible refine wpList_boxB (o := ⟨some 5, _, _, _, _, _⟩) rfl _ _ rfl rfl ?_); intro g5 w3 hg hB5 hb3 hs; have hB33 := hB32.bel hb3; have hB43 := hB4.bel hb3; have hb03 := bel_tr hb02 hb3; clear hg hs))
  have L3 := Lib.hid hB33.rangeNet
  have L4 := Lib.hid hB43.rangeAd
  have L5 := Lib.hid hB5.rangeAd
  have Hb := Lib.hid hb03
  clear hB3 hB32 hB33 hB4 hB43 hB5 hb1 hb2 hb3 hb02 hb03
  refine wp_region_bel (by kernel_rfl) (by kernel_rfl) ?_
  repeat (first
    | go_big_quiet_skip
    | (go_big_quiet_want; first
        | (refine quiet_loadK (o := ⟨some 7, _, _, _, _, _⟩) 26 _ rfl rfl (cs := #[vi, vr, vp]) rfl L3.out net_under rfl net_size (by simp only [Act.put, List.setIfInBounds_toArray, List.set_cons_succ, List.set_cons_zero]; exact rfl) ?_; go_big_quiet_on)
        | (refine quiet_loadK (o := ⟨some 11, _, _, _, _, _⟩) 26 _ rfl rfl (cs := #[vi, vr, vp]) rfl L3.out net_under rfl net_size (by simp only [Act.put, List.setIfInBounds_toArray, List.set_cons_succ, List.set_cons_zero]; exact rfl) ?_; go_big_quiet_on)
        | (refine quiet_loadAd (o := ⟨some 8, _, _, _, _, _⟩) _ rfl rfl L4.out (by simp only [Act.put, List.setIfInBounds_toArray, List.set_cons_succ, List.set_cons_zero]; exact rfl) ?_; go_big_quiet_on)
        | (refine quiet_loadAd (o := ⟨some 12, _, _, _, _, _⟩) _ rfl rfl L5.out (by simp only [Act.put, List.setIfInBounds_toArray, List.set_cons_succ, List.set_cons_zero]; exact rfl) ?_; go_big_quiet_on)
        | (refine quiet_fieldOne (o := ⟨some 10, _, _, _, _, _⟩) _ _ 2 rfl rfl pol_under (ty := 3) (off := 20) (by kernel_rfl) Tryz.underlying3 rfl (polA_20 _) (by simp only [Act.put, List.setIfInBounds_toArray, List.set_cons_succ, List.set_cons_zero]; exact rfl) ?_; go_big_quiet_on)
        | (refine quiet_fieldOne (o := ⟨some 14, _, _, _, _, _⟩) _ _ 2 rfl rfl pol_under (ty := 3) (off := 20) (by kernel_rfl) Tryz.underlying3 rfl (polA_20 _) (by simp only [Act.put, List.setIfInBounds_toArray, List.set_cons_succ, List.set_cons_zero]; exact rfl) ?_; go_big_quiet_on)
        | (go_big_quiet_op; first | go_big_quiet_on | go_big_quiet_call ((go_at_call 19; (first | (with_reducible refine bel_call (HA.out _ (HN.out.below (bel_tr Hb.out (BelT.bel _))))) | (with_reducible refine bel_call (HD.out _ (HN.out.below (bel_tr Hb.out (BelT.bel _)))))))))))
  refine wpQuiet_nil ?_
  rintro _ ⟨y, rfl⟩
  have hby := bel_tr Hb.out y.bel
  go_wp2_with (fail)
  go_ret
  exact ⟨by rw [Hf.out]; rfl, hby⟩
set_option maxRecDepth 100000 in
set_option maxHeartbeats 4000000 in
theorem rbits38_any (x : Ifc) (d : Ad) (w : World) : Calls Tryz.prog 60 #[.agg (ifcA x), .agg (adA d)] w (InPost w (bitN x d)) := by
  have Hf : Hid (bitN x d = min (comA x.ad d : Int) x.bits) := Lib.hid rfl
  have HC : Hid (∀ w', Calls Tryz.prog 22 #[.agg (adA x.ad), .agg (adA d)] w' (InPost w' (comA x.ad d : Int))) := Lib.hid (fun w' => rcommon_any x.ad d w')
  generalize hcm : ((comA x.ad d : Nat) : Int) = cm at *
  generalize bitN x d = B at *
  clear hcm
  go_enter Tryz.func60, Tryz.ntmps60
  go_wp2_with (first
    | ((with_reducible refine wpList_boxB (o := ⟨some 2, _, _, _, _, _⟩) rfl _ _ rfl rfl ?_); intro g2 w1 hg hB2 hb1 hs; clear hg hs)
    | ((with_reducible refine wpList_boxB (o := ⟨some 3, _, _, _, _, _⟩) rfl _ _ rfl rfl ?_); intro g3 w2 hg hB3 hb2 hs; have hB22 := hB2.bel hb2; have hb02 := bel_tr hb1 hb2; clear hg hs))
  have L2 := Lib.hid hB22.rangehd_ifc
  have L3 := Lib.hid hB3.rangeAd
  have c19 := hB22.cell 19
  rw [ifcA_19] at c19
  have x19 := fun y : BelT w2 => y.cell c19
  have Hb := Lib.hid hb02
  clear hB2 hB22 hB3 hb1 hb2 hb02 c19
  refine wp_region_bel_tail 6 (by kernel_rfl) (by kernel_rfl) ?_
  simp only [List.take_succ_cons, List.take_zero, List.drop_succ_cons, List.drop_zero]
  repeat (first
    | go_big_quiet_skip
    | (go_big_quiet_want; first
        | (refine quiet_loadAd (o := ⟨some 6, _, _, _, _, _⟩) _ rfl rfl L2.out (by simp only [Act.put, List.setIfInBounds_toArray, List.set_cons_succ, List.set_cons_zero]; exact rfl) ?_; go_big_quiet_on)
        | (refine quiet_loadAd (o := ⟨some 7, _, _, _, _, _⟩) _ rfl rfl L3.out (by simp only [Act.put, List.setIfInBounds_toArray, List.set_cons_succ, List.set_cons_zero]; exact rfl) ?_; go_big_quiet_on)
        | (go_big_quiet_op; first | go_big_quiet_on | go_big_quiet_call ((go_at_call 22; with_reducible refine bel_call (HC.out _))))))
  refine wpQuiet_nil ?_
  rintro _ ⟨u, rfl⟩
  have hbu := bel_tr Hb.out u.bel
  clear x19
  go_wp2_with (fail)
  go_ret
  exact ⟨by rw [Hf.out]; rfl, hbu⟩
end Go.Proofs.YthlnndjkocnfcaaGreatDoor

/- The reference's Scope (9). -/
namespace Go.Proofs.YthlnndjkocnfcaaGreatDoor
open Go.RowKit
attribute [local go_sem] ba_get ext_take ext_drop ext_any ba_app

theorem bo_of {P : Program} {f : FuncId} {args : Array Value} {w : World} {p q : Bool} (h : p = q) (hc : Calls P f args w (BoPost w p)) : Calls P f args w (BoPost w q) := by subst h; exact hc
set_option maxRecDepth 100000 in
set_option maxHeartbeats 1000000 in
theorem rscope4_any (a : Ad) (w : World) (h4 : a.fam = 4) : Calls Tryz.prog 20 #[.agg (adA a)] w (InPost w (sc4 a)) := by
  have i6 : (a.fam == 6) = false := by rw [h4]; rfl
  have n4 : (a.fam != 4) = false := by rw [h4]; rfl
  have E3 : Hid (wiC a cfe8 10 = false) := Lib.hid (wiX (by rw [h4]; decide))
  have E4 : Hid (wiC a al1 128 = false) := Lib.hid (wiX (by rw [h4]; decide))
  have E5 : Hid (wiC a als 10 = false) := Lib.hid (wiX (by rw [h4]; decide))
  have hr : ∀ p q : Bool, wiC a c127 8 = p → wiC a c169 16 = q → sc4 a = if (p || q) = true then 2 else 14 := by
    intro p q hp hq
    rw [← hp, ← hq, wi_127 h4, wi_169 h4]
    unfold sc4
    have e1 : (((a.b 0).toNat : Int) == 127) = decide (a.b 0 = 127) := u8_eqI (a.b 0) 127
    have e2 : (((a.b 0).toNat : Int) == 169) = decide (a.b 0 = 169) := u8_eqI (a.b 0) 169
    have e3 : (((a.b 1).toNat : Int) == 254) = decide (a.b 1 = 254) := u8_eqI (a.b 1) 254
    rw [e1, e2, e3]
    by_cases k1 : a.b 0 = 127
    · simp [k1]
    · by_cases k2 : a.b 0 = 169
      · by_cases k3 : a.b 1 = 254 <;> simp [k2, k3]
      · simp [k1, k2]
  have Hr := Lib.hid hr
  clear hr h4
  cases p1 : wiC a c127 8 <;> cases p2 : wiC a c169 16
  all_goals
    have HR := Lib.hid (Hr.out _ _ p1 p2)
    have E1 := Lib.hid p1
    have E2 := Lib.hid p2
    clear Hr p1 p2
    go_enter Tryz.func20, Tryz.ntmps20
    go_wp2_with (first
      | ((with_reducible refine wpList_boxB rfl _ _ rfl rfl ?_); intro g w1 hg hB1 hb1 hs; clear hg hs; have c0 := hB1.cell 0; rw [adA_0] at c0))
    have x0 := fun x : BelT w1 => x.cell c0
    refine wp_region_bel (by kernel_rfl) (by kernel_rfl) ?_
    repeat (first
      | go_big_quiet_skip
      | (go_big_quiet_want; (go_big_quiet_op; first | go_big_quiet_on)))
    refine wpQuiet_nil ?_
    rintro _ ⟨x, rfl⟩
    have HB : Hid (Bk x.at_ g 29 (adA a) ∧ Below w.heap.size w x.at_) := Lib.hid ⟨hB1.bel x.bel, bel_tr hb1 x.bel⟩
    have c0 := HB.out.1.cell 0
    rw [adA_0] at c0
    clear hB1 hb1 x0
    go_wp2_with (first
      | (with_reducible refine wpList_loadAd (o := ⟨some 40, _, _, _, _, _⟩) rfl _ rfl rfl HB.out.1 ?_)
      | (refine wpList_loadAdG (o := ⟨some 43, _, _, _, _, _⟩) rfl _ rfl rfl HB.out.1 ?_)
      | (refine wpList_loadAdG (o := ⟨some 47, _, _, _, _, _⟩) rfl _ rfl rfl HB.out.1 ?_)
      | (refine wpList_loadAdG (o := ⟨some 51, _, _, _, _, _⟩) rfl _ rfl rfl HB.out.1 ?_)
      | (with_reducible refine wpList_loadAd (o := ⟨some 55, _, _, _, _, _⟩) rfl _ rfl rfl HB.out.1 ?_)
      | (go_at_call 39
         first
          | (with_reducible refine (bo_of E1.out (rin_127 a _)).mono ?_)
          | (with_reducible refine (bo_of E2.out (rin_169 a _)).mono ?_)
          | (with_reducible refine (bo_of E3.out (rin_fe8 a _)).mono ?_)
          | (with_reducible refine (bo_of E4.out (rin_1 a _)).mono ?_)
          | (with_reducible refine (bo_of E5.out (rin_fec a _)).mono ?_)
         rintro e w' ⟨rfl, hb'⟩
         have HB' := Lib.hid (And.intro (HB.out.1.bel hb') (bel_tr HB.out.2 hb'))
         clear HB hb' c0
         have HB := HB'
         clear HB'
         have c0 := HB.out.1.cell 0
         rw [adA_0] at c0))
    go_ret
    exact ⟨by rw [HR.out]; rfl, HB.out.2⟩
theorem ne_of_fam {a : Ad} (h : a.fam = 6) : (!decide (ad12 a = a)) = true := by
  have : ad12 a ≠ a := fun e => by
    have := congrArg Ad.fam e
    rw [h] at this
    cases this
  simp [this]
theorem sc6_map {a : Ad} (hm : mapdB a = true) : sc6 a = sc4 (ad12 a) := by
  have hr : sc6r a = sc4 (ad12 a) := by unfold sc6r; rw [if_pos hm]
  have hq : a.ip.take 12 = ahd := by unfold mapdB at hm; simpa using (Bool.and_eq_true_iff.1 hm).2
  have b0 : a.b 0 = 0 := by
    have := congrArg (fun l => l[0]?) hq
    rw [List.getElem?_take_of_lt (by omega), a.b_eq (by omega)] at this
    injection this
  have b10 : a.b 10 = 255 := by
    have := congrArg (fun l => l[10]?) hq
    rw [List.getElem?_take_of_lt (by omega), a.b_eq (by omega)] at this
    injection this
  have hl : (a.ip == lo1) = false := by
    cases h : (a.ip == lo1) with
    | false => rfl
    | true =>
      have h := eq_of_beq h
      have := congrArg (fun l => l[10]?) h
      rw [a.b_eq (by omega), b10] at this
      injection this with this
      cases this
  unfold sc6
  rw [b0, hl, hr]
  rfl
set_option maxRecDepth 100000 in
set_option maxHeartbeats 1000000 in
theorem rscope_any (a : Ad) (w : World) : Calls Tryz.prog 20 #[.agg (adA a)] w (InPost w (scoA a)) := by
  by_cases h4 : a.fam = 4
  · have := rscope4_any a w h4
    unfold scoA
    rw [if_pos h4]
    exact this
  have n4 : (a.fam != 4) = true := by simpa using h4
  by_cases h6 : a.fam = 6
  · have i6 : (a.fam == 6) = true := by simpa using h6
    have n6 : (a.fam != 6) = false := by simp [h6]
    have hs : scoA a = sc6 a := by unfold scoA; rw [if_neg h4, if_pos h6]
    cases hm : mapdB a with
    | true =>
      have Hu : Hid (unA a = ad12 a) := Lib.hid (by unfold unA; rw [if_pos hm])
      have Hn := Lib.hid (ne_of_fam h6)
      have HR : Hid (scoA a = sc4 (ad12 a)) := Lib.hid (hs.trans (sc6_map hm))
      clear hm hs h4 h6
      go_enter Tryz.func20, Tryz.ntmps20
      go_wp2_with (first
        | ((with_reducible refine wpList_boxB rfl _ _ rfl rfl ?_); intro g w1 hg hB1 hb1 hs; clear hg hs; have c0 := hB1.cell 0; rw [adA_0] at c0))
      have x0 := fun x : BelT w1 => x.cell c0
      have hR := hB1.rangeAd
      have HU : Hid (∀ w, Calls Tryz.prog 38 #[.agg (adA a)] w (AdPost w (ad12 a))) := Lib.hid (fun w => by have := runmap_any a w; rw [Hu.out] at this; exact this)
      refine wp_region_bel (by kernel_rfl) (by kernel_rfl) ?_
      repeat (first
        | go_big_quiet_skip
        | (go_big_quiet_want; first
            | (refine quiet_loadAd _ rfl rfl hR (by simp only [Act.put, List.setIfInBounds_toArray, List.set_cons_succ, List.set_cons_zero]; exact rfl) ?_; go_big_quiet_on)
            | (refine quiet_neqAd _ _ rfl rfl rfl Hn.out (by simp only [Act.put, List.setIfInBounds_toArray, List.set_cons_succ, List.set_cons_zero]; exact rfl) ?_; go_big_quiet_on)
            | (go_big_quiet_op; first | go_big_quiet_on | go_big_quiet_call ((go_at_call 38; refine bel_call (HU.out _))))))
      refine wpQuiet_nil ?_
      rintro _ ⟨x, rfl⟩
      have hB2 := hB1.bel x.bel
      have hb2 := bel_tr hb1 x.bel
      clear hB1 hb1 x0
      go_wp2_with (first
        | (with_reducible refine wpList_loadAd (o := ⟨some 12, _, _, _, _, _⟩) rfl _ rfl rfl hB2 ?_)
        | (go_at_call 38; refine (HU.out _).mono ?_; rintro e w3 ⟨rfl, hb3⟩)
        | (go_at_call 20; refine (rscope4_any (ad12 a) _ rfl).mono ?_; rintro e w4 ⟨rfl, hb4⟩))
      go_ret
      exact ⟨by rw [HR.out]; rfl, bel_tr (bel_tr hb2 hb3) hb4⟩
    | false =>
      have Hu : Hid (unA a = a) := Lib.hid (by unfold unA; rw [if_neg (by rw [hm]; decide)])
      have HU : Hid (∀ w, Calls Tryz.prog 38 #[.agg (adA a)] w (AdPost w a)) := Lib.hid (fun w => by have := runmap_any a w; rw [Hu.out] at this; exact this)
      have hr : ∀ p3 p4 p5 : Bool, (((a.b 0).toNat : Int) == 255) = false → wiC a cfe8 10 = p3 → wiC a al1 128 = p4 → wiC a als 10 = p5 → scoA a = if (p3 || p4) = true then 2 else if p5 = true then 5 else 14 := by
        intro p3 p4 p5 k h3 h4 h5
        rw [hs, ← h3, ← h4, ← h5, wi_fe8 h6, wi_1 h6, wi_fec h6]
        unfold sc6 sc6r
        have e2 : (((a.b 0).toNat : Int) == 254) = decide (a.b 0 = 254) := u8_eqI (a.b 0) 254
        have e3 : (a.ip == lo1) = decide (a.ip = lo1) := by
          rw [Bool.eq_iff_iff]; simp
        have e4 : ((q64 a : Int) == 128) = decide ((a.b 1).toNat / 64 * 64 = 128) := by
          unfold q64; rw [Bool.eq_iff_iff]; simp only [beq_iff_eq, decide_eq_true_eq]; omega
        have e5 : ((q64 a : Int) == 192) = decide ((a.b 1).toNat / 64 * 64 = 192) := by
          unfold q64; rw [Bool.eq_iff_iff]; simp only [beq_iff_eq, decide_eq_true_eq]; omega
        rw [k, e2, e3, e4, e5, hm]
        by_cases k1 : a.ip = lo1
        · simp [k1]
        · by_cases k2 : a.b 0 = 254
          · by_cases k3 : (a.b 1).toNat / 64 * 64 = 128
            · simp [k1, k2, k3]
            · by_cases k4 : (a.b 1).toNat / 64 * 64 = 192 <;> simp [k1, k2, k3, k4]
          · simp [k1, k2]
      have Hr := Lib.hid hr
      have hr5 : (((a.b 0).toNat : Int) == 255) = true → scoA a = (((a.b 1).toNat % 16 : Nat) : Int) := by
        intro k; rw [hs]; unfold sc6; rw [if_pos k]
      have Hr5 := Lib.hid hr5
      have E1 : Hid (wiC a c127 8 = false) := Lib.hid (wiX (by rw [h6]; decide))
      have E2 : Hid (wiC a c169 16 = false) := Lib.hid (wiX (by rw [h6]; decide))
      clear hr hr5 hs hm h4 h6 Hu
      cases i5 : (((a.b 0).toNat : Int) == 255) with
      | true =>
        have HR := Lib.hid (Hr5.out i5)
        have hx : (((a.b 1).toNat % 16 : Nat) : Int) < 16 := by omega
        have hx1 : Hid ((wrap64 ((a.b 1).toNat : Int)).tmod 16 = (((a.b 1).toNat % 16 : Nat) : Int)) := Lib.hid (by
          have hl := (a.b 1).toNat_lt
          have e : wrap64 ((a.b 1).toNat : Int) = ((a.b 1).toNat : Int) := by unfold wrap64; omega
          rw [e, Int.tmod_eq_emod_of_nonneg (by omega)]
          omega)
        clear Hr Hr5
        go_enter Tryz.func20, Tryz.ntmps20
        go_wp2_with (first
          | ((with_reducible refine wpList_boxB rfl _ _ rfl rfl ?_); intro g w1 hg hB1 hb1 hs; clear hg hs; have c0 := hB1.cell 0; rw [adA_0] at c0))
        have x0 := fun x : BelT w1 => x.cell c0
        have hR := hB1.rangeAd
        refine wp_region_bel (by kernel_rfl) (by kernel_rfl) ?_
        repeat (first
          | go_big_quiet_skip
          | (go_big_quiet_want; first
              | (refine quiet_loadAd _ rfl rfl hR (by simp only [Act.put, List.setIfInBounds_toArray, List.set_cons_succ, List.set_cons_zero]; exact rfl) ?_; go_big_quiet_on)
              | (refine quiet_neqAd _ _ rfl rfl rfl (r := false) (by simp) (by simp only [Act.put, List.setIfInBounds_toArray, List.set_cons_succ, List.set_cons_zero]; exact rfl) ?_; go_big_quiet_on)
              | (go_big_quiet_op; first | go_big_quiet_on | go_big_quiet_call ((go_at_call 38; refine bel_call (HU.out _))))))
        refine wpQuiet_nil ?_
        rintro _ ⟨x, rfl⟩
        have hB2 := hB1.bel x.bel
        have hb2 := bel_tr hb1 x.bel
        have c0 := hB2.cell 0
        rw [adA_0] at c0
        have c1 := hB2.cell 1
        rw [adA_1] at c1
        have c2 := hB2.cell 2
        rw [adA_2] at c2
        clear hB1 hb1 x0
        go_wp2
        go_ret
        exact ⟨by rw [HR.out, ← hx1.out]; rfl, hb2⟩
      | false =>
        have I5 := Lib.hid i5
        clear Hr5
        cases p3 : wiC a cfe8 10 <;> cases p4 : wiC a al1 128 <;> cases p5 : wiC a als 10
        all_goals
          have HR := Lib.hid (Hr.out _ _ _ I5.out p3 p4 p5)
          have E3 := Lib.hid p3
          have E4 := Lib.hid p4
          have E5 := Lib.hid p5
          clear Hr p3 p4 p5
          go_enter Tryz.func20, Tryz.ntmps20
          go_wp2_with (first
            | ((with_reducible refine wpList_boxB rfl _ _ rfl rfl ?_); intro g w1 hg hB1 hb1 hs; clear hg hs; have c0 := hB1.cell 0; rw [adA_0] at c0))
          have x0 := fun x : BelT w1 => x.cell c0
          have hR := hB1.rangeAd
          refine wp_region_bel (by kernel_rfl) (by kernel_rfl) ?_
          repeat (first
            | go_big_quiet_skip
            | (go_big_quiet_want; first
                | (refine quiet_loadAd _ rfl rfl hR (by simp only [Act.put, List.setIfInBounds_toArray, List.set_cons_succ, List.set_cons_zero]; exact rfl) ?_; go_big_quiet_on)
                | (refine quiet_neqAd _ _ rfl rfl rfl (r := false) (by simp) (by simp only [Act.put, List.setIfInBounds_toArray, List.set_cons_succ, List.set_cons_zero]; exact rfl) ?_; go_big_quiet_on)
                | (go_big_quiet_op; first | go_big_quiet_on | go_big_quiet_call ((go_at_call 38; refine bel_call (HU.out _))))))
          refine wpQuiet_nil ?_
          rintro _ ⟨x, rfl⟩
          have HB : Hid (Bk x.at_ g 29 (adA a) ∧ Below w.heap.size w x.at_) := Lib.hid ⟨hB1.bel x.bel, bel_tr hb1 x.bel⟩
          have c0 := HB.out.1.cell 0
          rw [adA_0] at c0
          have c1 := HB.out.1.cell 1
          rw [adA_1] at c1
          clear hB1 hb1 x0
          go_wp2_with (first
            | (with_reducible refine wpList_loadAd (o := ⟨some 40, _, _, _, _, _⟩) rfl _ rfl rfl HB.out.1 ?_)
            | (refine wpList_loadAdG (o := ⟨some 43, _, _, _, _, _⟩) rfl _ rfl rfl HB.out.1 ?_)
            | (refine wpList_loadAdG (o := ⟨some 47, _, _, _, _, _⟩) rfl _ rfl rfl HB.out.1 ?_)
            | (refine wpList_loadAdG (o := ⟨some 51, _, _, _, _, _⟩) rfl _ rfl rfl HB.out.1 ?_)
            | (with_reducible refine wpList_loadAd (o := ⟨some 55, _, _, _, _, _⟩) rfl _ rfl rfl HB.out.1 ?_)
            | (go_at_call 39
               first
                | (with_reducible refine (bo_of E1.out (rin_127 a _)).mono ?_)
                | (with_reducible refine (bo_of E2.out (rin_169 a _)).mono ?_)
                | (with_reducible refine (bo_of E3.out (rin_fe8 a _)).mono ?_)
                | (with_reducible refine (bo_of E4.out (rin_1 a _)).mono ?_)
                | (with_reducible refine (bo_of E5.out (rin_fec a _)).mono ?_)
               rintro e w' ⟨rfl, hb'⟩
               have HB' := Lib.hid (And.intro (HB.out.1.bel hb') (bel_tr HB.out.2 hb'))
               clear HB hb' c0 c1
               have HB := HB'
               clear HB'
               have c0 := HB.out.1.cell 0
               rw [adA_0] at c0
               have c1 := HB.out.1.cell 1
               rw [adA_1] at c1))
          go_ret
          exact ⟨by rw [HR.out]; rfl, HB.out.2⟩
  · have i6 : (a.fam == 6) = false := by simpa using h6
    have n6 : (a.fam != 6) = true := by simpa using h6
    have HR : Hid (scoA a = 0) := Lib.hid (by unfold scoA; rw [if_neg h4, if_neg h6])
    clear h4 h6
    go_enter Tryz.func20, Tryz.ntmps20
    go_wp2_with (first
      | ((with_reducible refine wpList_boxB rfl _ _ rfl rfl ?_); intro g w1 hg hB1 hb1 hs; clear hg hs; have c0 := hB1.cell 0; rw [adA_0] at c0))
    have x0 := fun x : BelT w1 => x.cell c0
    refine wp_region_bel (by kernel_rfl) (by kernel_rfl) ?_
    repeat (first
      | go_big_quiet_skip
      | (go_big_quiet_want; (go_big_quiet_op; first | go_big_quiet_on)))
    refine wpQuiet_nil ?_
    rintro _ ⟨x, rfl⟩
    have hB2 := hB1.bel x.bel
    have hb2 := bel_tr hb1 x.bel
    have c0 := hB2.cell 0
    rw [adA_0] at c0
    clear hB1 hb1 x0
    go_wp2
    go_ret
    exact ⟨by rw [HR.out]; rfl, hb2⟩
end Go.Proofs.YthlnndjkocnfcaaGreatDoor

/- The reference's Better (38), at any net (printed by mk_dsk.py). -/
namespace Go.Proofs.YthlnndjkocnfcaaGreatDoor
open Go.RowKit
attribute [local go_sem] ba_get ext_take ext_drop ext_any ba_app

structure RbS (w : World) (g4 g5 g6 g7 g10 : Nat) (vi vr vp : Value) (d : Ad) (a b : Ifc) (r : Rt) (wr : World) : Prop where
  b4 : Bk wr g4 26 #[vi, vr, vp]
  b5 : Bk wr g5 29 (adA d)
  b6 : Bk wr g6 42 (ifcA a)
  b7 : Bk wr g7 42 (ifcA b)
  b10 : Bk wr g10 46 (rtA r)
  b : Below w.heap.size w wr
theorem RbS.bel {w wr w' : World} {g4 g5 g6 g7 g10 : Nat} {vi vr vp : Value} {d : Ad} {a b : Ifc} {r : Rt} (h : RbS w g4 g5 g6 g7 g10 vi vr vp d a b r wr) (k : Below wr.heap.size wr w') : RbS w g4 g5 g6 g7 g10 vi vr vp d a b r w' := ⟨h.b4.bel k, h.b5.bel k, h.b6.bel k, h.b7.bel k, h.b10.bel k, bel_tr h.b k⟩
set_option maxRecDepth 100000 in
set_option maxHeartbeats 40000000 in
theorem rbetter38_any (vi vr vp : Value) (N : Nt) (d : Ad) (a b : Ifc) (w : World) (hN : NetRaw w vi vr vp N) (hlR : N.R.length ≤ 1000000) (hlP : N.P.length ≤ 1000000) :
    Calls Tryz.prog 32 #[.agg #[vi, vr, vp], .agg (adA d), .agg (ifcA a), .agg (ifcA b)] w (BetPost w (betL N d a b)) := by
  rw [← rtelL_eq]
  have HN := Lib.hid hN
  have Hns := Lib.hid (show (Tryz.prog.info? 26).map (·.size) = some (#[vi, vr, vp] : Array Value).size from net_size)
  have HW : Hid (∀ w', NetRaw w' vi vr vp N → Calls Tryz.prog 18 #[.agg #[vi, vr, vp], .agg (adA d)] w' (WayPost w' (wayP d (rtN N.R)))) := Lib.hid (fun w' h => rway_any vi vr vp N d w' h hlR)
  have HIa : Hid (∀ w', Calls Tryz.prog 57 #[.agg (adA a.ad), .agg (adA d)] w' (BoPost w' (selfB a.ad d))) := Lib.hid (rself_any a.ad d)
  have HIb : Hid (∀ w', Calls Tryz.prog 57 #[.agg (adA b.ad), .agg (adA d)] w' (BoPost w' (selfB b.ad d))) := Lib.hid (rself_any b.ad d)
  have HSa : Hid (∀ w', Calls Tryz.prog 20 #[.agg (adA a.ad)] w' (InPost w' (scoA a.ad))) := Lib.hid (rscope_any a.ad)
  have HSb : Hid (∀ w', Calls Tryz.prog 20 #[.agg (adA b.ad)] w' (InPost w' (scoA b.ad))) := Lib.hid (rscope_any b.ad)
  have HSd : Hid (∀ w', Calls Tryz.prog 20 #[.agg (adA d)] w' (InPost w' (scoA d))) := Lib.hid (rscope_any d)
  have HLa : Hid (∀ w', NetRaw w' vi vr vp N → Calls Tryz.prog 59 #[.agg #[vi, vr, vp], .agg (adA a.ad), .agg (adA d)] w' (BoPost w' (labB N a.ad d))) := Lib.hid (fun w' h => ralike_any vi vr vp N a.ad d w' h hlP)
  have HLb : Hid (∀ w', NetRaw w' vi vr vp N → Calls Tryz.prog 59 #[.agg #[vi, vr, vp], .agg (adA b.ad), .agg (adA d)] w' (BoPost w' (labB N b.ad d))) := Lib.hid (fun w' h => ralike_any vi vr vp N b.ad d w' h hlP)
  have HBa : Hid (∀ w', Calls Tryz.prog 60 #[.agg (ifcA a), .agg (adA d)] w' (InPost w' (bitN a d))) := Lib.hid (rbits38_any a d)
  have HBb : Hid (∀ w', Calls Tryz.prog 60 #[.agg (ifcA b), .agg (adA d)] w' (InPost w' (bitN b d))) := Lib.hid (rbits38_any b d)
  have Hna : Hid (nearB N d a = ((wayP d (rtN N.R)).2 && (a.idx == (wayP d (rtN N.R)).1.idx))) := Lib.hid rfl
  have Hnb : Hid (nearB N d b = ((wayP d (rtN N.R)).2 && (b.idx == (wayP d (rtN N.R)).1.idx))) := Lib.hid rfl
  have HL : Hid (rtelL N d a b = [ordB (selfB a.ad d) (selfB b.ad d), scoI (scoA a.ad) (scoA b.ad) (scoA d), ordB (!a.dep) (!b.dep), ordB a.hom b.hom, ordB (nearB N d a) (nearB N d b), ordB (labB N a.ad d) (labB N b.ad d), ordB a.tem b.tem, ordB (decide (bitN b d < bitN a d)) (decide (bitN a d < bitN b d))]) := Lib.hid rfl
  clear hN hlR hlP
  generalize wayP d (rtN N.R) = wv at *
  obtain ⟨r, wb⟩ := wv
  generalize rtelL N d a b = L at *
  generalize selfB a.ad d = sa at *
  generalize selfB b.ad d = sb at *
  generalize scoA a.ad = ca at *
  generalize scoA b.ad = cb at *
  generalize scoA d = cd at *
  generalize labB N a.ad d = la at *
  generalize labB N b.ad d = lb at *
  generalize bitN a d = ba at *
  generalize bitN b d = bb at *
  generalize nearB N d a = na at *
  generalize nearB N d b = nb at *
  have H0 : Hid (∀ w', Calls Tryz.prog 56 #[.bool sa, .bool sb] w' (InPost w' (ordB sa sb))) := Lib.hid (rby_any _ _)
  have H1 : Hid (∀ w', Calls Tryz.prog 58 #[.int .i64 ca, .int .i64 cb, .int .i64 cd] w' (InPost w' (scoI ca cb cd))) := Lib.hid (rscopes_any _ _ _)
  have H2 : Hid (∀ w', Calls Tryz.prog 56 #[.bool (!a.dep), .bool (!b.dep)] w' (InPost w' (ordB (!a.dep) (!b.dep)))) := Lib.hid (rby_any _ _)
  have H3 : Hid (∀ w', Calls Tryz.prog 56 #[.bool a.hom, .bool b.hom] w' (InPost w' (ordB a.hom b.hom))) := Lib.hid (rby_any _ _)
  have H5 : Hid (∀ w', Calls Tryz.prog 56 #[.bool la, .bool lb] w' (InPost w' (ordB la lb))) := Lib.hid (rby_any _ _)
  have H6 : Hid (∀ w', Calls Tryz.prog 56 #[.bool a.tem, .bool b.tem] w' (InPost w' (ordB a.tem b.tem))) := Lib.hid (rby_any _ _)
  have H7 : Hid (∀ w', Calls Tryz.prog 56 #[.bool (decide (bb < ba)), .bool (decide (ba < bb))] w' (InPost w' (ordB (decide (bb < ba)) (decide (ba < bb))))) := Lib.hid (rby_any _ _)
  have H4 : Hid (∀ x y w', x = na → y = nb → Calls Tryz.prog 56 #[.bool x, .bool y] w' (InPost w' (ordB na nb))) := Lib.hid (fun x y w' hx hy => by subst hx hy; exact rby_any _ _ _)
  generalize ordB sa sb = o0 at *
  generalize scoI ca cb cd = o1 at *
  generalize ordB (!a.dep) (!b.dep) = o2 at *
  generalize ordB a.hom b.hom = o3 at *
  generalize ordB na nb = o4 at *
  generalize ordB la lb = o5 at *
  generalize ordB a.tem b.tem = o6 at *
  generalize ordB (decide (bb < ba)) (decide (ba < bb)) = o7 at *
  go_enter Tryz.func32, Tryz.ntmps32
  go_wp2_with (first
    | ((with_reducible refine wpList_boxB (o := ⟨some 4, _, _, _, _, _⟩) rfl _ _ rfl rfl ?_); intro g4 w1 hg hB4 hb1 hs; clear hg hs)
    | ((with_reducible refine wpList_boxB (o := ⟨some 5, _, _, _, _, _⟩) rfl _ _ rfl rfl ?_); intro g5 w2 hg hB5 hb2 hs; have hB42 := hB4.bel hb2; have hb02 := bel_tr hb1 hb2; clear hg hs)
    | ((with_reducible refine wpList_boxB (o := ⟨some 6, _, _, _, _, _⟩) rfl _ _ rfl rfl ?_); intro g6 w3 hg hB6 hb3 hs; have hB43 := hB42.bel hb3; have hB53 := hB5.bel hb3; have hb03 := bel_tr hb02 hb3; clear hg hs)
    | ((with_reducible refine wpList_boxB (o := ⟨some 7, _, _, _, _, _⟩) rfl _ _ rfl rfl ?_); intro g7 w4 hg hB7 hb4 hs; have hB44 := hB43.bel hb4; have hB54 := hB53.bel hb4; have hB64 := hB6.bel hb4; have hb04 := bel_tr hb03 hb4; clear hg hs; refine hold ?_))
  refine Lib.hid ?_
  clear hB4 hB42 hB43 hB5 hB53 hB6 hb1 hb2 hb3 hb4 hb02 hb03
  go_wp2_with (first
    | (with_reducible refine wpList_loadB (o := ⟨some 15, _, _, _, _, _⟩) rfl _ _ rfl rfl hB44 net_under rfl Hns.out ?_)
    | (with_reducible refine wpList_loadAd (o := ⟨some 16, _, _, _, _, _⟩) rfl _ rfl rfl hB54 ?_)
    | (go_at_call 18; refine (HW.out _ (HN.out.below hb04)).mono ?_; rintro e w5 ⟨rfl, hb5⟩; refine hold ?_))
  refine Lib.hid ?_
  go_wp2_with (first
    | ((with_reducible refine wpList_alloc_rt (o := ⟨some 10, _, _, _, _, _⟩) rfl rfl ?_); intro g10 w6 hg hB10 hb6 hs; have hg10 : w5.heap.size ≤ g10 := Nat.le_of_eq hg.symm; clear hg hs)
    | ((with_reducible refine wpList_store_rt (o := ⟨none, _, _, _, _, _⟩) rfl (.tmp 10) _ rfl rfl rfl hB10 ?_); intro w7 hB107 hS7
       have hbx := bel_tr hb5 (hb6.trans (hS7.below hg10))
       have R : Hid (RbS w g4 g5 g6 g7 g10 vi vr vp d a b r w7) := Lib.hid ⟨hB44.bel hbx, hB54.bel hbx, hB64.bel hbx, hB7.bel hbx, hB107, bel_tr hb04 hbx⟩
       clear hB44 hB54 hB64 hB7 hB10 hB107 hS7 hb04 hb5 hb6 hbx hg10
       refine hold ?_))
  refine Lib.hid ?_
  clear HW
  have HE : Hid (Tryz.prog.built 88 [(0, .int .i64 o0), (1, .int .i64 o1), (2, .int .i64 o2), (3, .int .i64 o3), (4, .int .i64 o4), (5, .int .i64 o5), (6, .int .i64 o6), (7, .int .i64 o7)] = some (giA L)) := Lib.hid (by rw [HL.out]; exact built_i8 _ _ _ _ _ _ _ _)
  have HLn : Hid (L.length = 8) := Lib.hid (by rw [HL.out]; rfl)
  have HLn2 := HLn
  have HLz : Hid ((Tryz.prog.info? 88).map (·.size) = some (giA L).size) := Lib.hid (by rw [giA_size, HLn.out]; exact i8_size)
  clear HL
  obtain ⟨wo, hwo⟩ : ∃ wo, wo = w7 := ⟨_, rfl⟩
  rw [← hwo] at R ⊢
  clear hwo
  go_upto_region 2 with (fail)
  go_cut [12] (fun s12 wx => ∃ g, s12 = .pointer (some ⟨g, 0, none⟩) ∧ Bk wx g 88 (giA L) ∧ Below w.heap.size w wx)
  case first =>
    have HIfa : Hid ((Tryz.prog.info? 42).map (·.size) = some (ifcL a).length) := Lib.hid (by rw [ifcL_len]; exact ifc_size)
    have HIfb : Hid ((Tryz.prog.info? 42).map (·.size) = some (ifcL b).length) := Lib.hid (by rw [ifcL_len]; exact ifc_size)
    cases wb
    · have H4w : Hid (∀ w', Calls Tryz.prog 56 #[.bool false, .bool false] w' (InPost w' o4)) := Lib.hid (fun w' => H4.out _ _ w' (by rw [Hna.out]; rfl) (by rw [Hnb.out]; rfl))
      clear H4 Hna Hnb HLn
      apply wp_region_bel_new1 79 (by kernel_rfl) (by exact rfl) rfl rfl i8_zero
      case hB => intro G; kernel_rfl
      case hds => kernel_rfl
      case hH =>
        intro w0 hb0
        have R0 := R.out.bel hb0
        have k6_20 := R0.b6.cell 20
        rw [ifcA_20] at k6_20
        have x6_20 := fun z : BelT w0 => z.cell k6_20
        clear k6_20
        have k7_20 := R0.b7.cell 20
        rw [ifcA_20] at k7_20
        have x7_20 := fun z : BelT w0 => z.cell k7_20
        clear k7_20
        have k6_21 := R0.b6.cell 21
        rw [ifcA_21] at k6_21
        have x6_21 := fun z : BelT w0 => z.cell k6_21
        clear k6_21
        have k7_21 := R0.b7.cell 21
        rw [ifcA_21] at k7_21
        have x7_21 := fun z : BelT w0 => z.cell k7_21
        clear k7_21
        have k6_22 := R0.b6.cell 22
        rw [ifcA_22] at k6_22
        have x6_22 := fun z : BelT w0 => z.cell k6_22
        clear k6_22
        have k7_22 := R0.b7.cell 22
        rw [ifcA_22] at k7_22
        have x7_22 := fun z : BelT w0 => z.cell k7_22
        clear k7_22
        have L4 := Lib.hid R0.b4.rangeNet
        have L5 := Lib.hid R0.b5.rangeAd
        have L6 := Lib.hid R0.b6.rangehd_ifc
        have L7 := Lib.hid R0.b7.rangehd_ifc
        have M6 := Lib.hid R0.b6.range_ifc
        have M7 := Lib.hid R0.b7.range_ifc
        have Hb := Lib.hid R0.b
        clear R0
        simp only [List.append_eq, List.cons_append, List.nil_append, List.take_succ_cons, List.take_zero]
        repeat (first
          | go_big_quiet_skip
          | (go_big_quiet_want; first
              | ((with_reducible show (⟨some 21, _, _, _, _, _⟩ : Oper).quiet _ _ _ _); refine quiet_loadAd (o := ⟨some 21, _, _, _, _, _⟩) _ rfl rfl L6.out (by simp only [Act.put, List.setIfInBounds_toArray, List.set_cons_succ, List.set_cons_zero]; exact rfl) ?_; go_big_quiet_on)
              | ((with_reducible show (⟨some 30, _, _, _, _, _⟩ : Oper).quiet _ _ _ _); refine quiet_loadAd (o := ⟨some 30, _, _, _, _, _⟩) _ rfl rfl L6.out (by simp only [Act.put, List.setIfInBounds_toArray, List.set_cons_succ, List.set_cons_zero]; exact rfl) ?_; go_big_quiet_on)
              | ((with_reducible show (⟨some 69, _, _, _, _, _⟩ : Oper).quiet _ _ _ _); refine quiet_loadAd (o := ⟨some 69, _, _, _, _, _⟩) _ rfl rfl L6.out (by simp only [Act.put, List.setIfInBounds_toArray, List.set_cons_succ, List.set_cons_zero]; exact rfl) ?_; go_big_quiet_on)
              | ((with_reducible show (⟨some 25, _, _, _, _, _⟩ : Oper).quiet _ _ _ _); refine quiet_loadAd (o := ⟨some 25, _, _, _, _, _⟩) _ rfl rfl L7.out (by simp only [Act.put, List.setIfInBounds_toArray, List.set_cons_succ, List.set_cons_zero]; exact rfl) ?_; go_big_quiet_on)
              | ((with_reducible show (⟨some 33, _, _, _, _, _⟩ : Oper).quiet _ _ _ _); refine quiet_loadAd (o := ⟨some 33, _, _, _, _, _⟩) _ rfl rfl L7.out (by simp only [Act.put, List.setIfInBounds_toArray, List.set_cons_succ, List.set_cons_zero]; exact rfl) ?_; go_big_quiet_on)
              | ((with_reducible show (⟨some 74, _, _, _, _, _⟩ : Oper).quiet _ _ _ _); refine quiet_loadAd (o := ⟨some 74, _, _, _, _, _⟩) _ rfl rfl L7.out (by simp only [Act.put, List.setIfInBounds_toArray, List.set_cons_succ, List.set_cons_zero]; exact rfl) ?_; go_big_quiet_on)
              | ((with_reducible show (⟨some 22, _, _, _, _, _⟩ : Oper).quiet _ _ _ _); refine quiet_loadAd (o := ⟨some 22, _, _, _, _, _⟩) _ rfl rfl L5.out (by simp only [Act.put, List.setIfInBounds_toArray, List.set_cons_succ, List.set_cons_zero]; exact rfl) ?_; go_big_quiet_on)
              | ((with_reducible show (⟨some 26, _, _, _, _, _⟩ : Oper).quiet _ _ _ _); refine quiet_loadAd (o := ⟨some 26, _, _, _, _, _⟩) _ rfl rfl L5.out (by simp only [Act.put, List.setIfInBounds_toArray, List.set_cons_succ, List.set_cons_zero]; exact rfl) ?_; go_big_quiet_on)
              | ((with_reducible show (⟨some 35, _, _, _, _, _⟩ : Oper).quiet _ _ _ _); refine quiet_loadAd (o := ⟨some 35, _, _, _, _, _⟩) _ rfl rfl L5.out (by simp only [Act.put, List.setIfInBounds_toArray, List.set_cons_succ, List.set_cons_zero]; exact rfl) ?_; go_big_quiet_on)
              | ((with_reducible show (⟨some 70, _, _, _, _, _⟩ : Oper).quiet _ _ _ _); refine quiet_loadAd (o := ⟨some 70, _, _, _, _, _⟩) _ rfl rfl L5.out (by simp only [Act.put, List.setIfInBounds_toArray, List.set_cons_succ, List.set_cons_zero]; exact rfl) ?_; go_big_quiet_on)
              | ((with_reducible show (⟨some 75, _, _, _, _, _⟩ : Oper).quiet _ _ _ _); refine quiet_loadAd (o := ⟨some 75, _, _, _, _, _⟩) _ rfl rfl L5.out (by simp only [Act.put, List.setIfInBounds_toArray, List.set_cons_succ, List.set_cons_zero]; exact rfl) ?_; go_big_quiet_on)
              | ((with_reducible show (⟨some 84, _, _, _, _, _⟩ : Oper).quiet _ _ _ _); refine quiet_loadAd (o := ⟨some 84, _, _, _, _, _⟩) _ rfl rfl L5.out (by simp only [Act.put, List.setIfInBounds_toArray, List.set_cons_succ, List.set_cons_zero]; exact rfl) ?_; go_big_quiet_on)
              | ((with_reducible show (⟨some 87, _, _, _, _, _⟩ : Oper).quiet _ _ _ _); refine quiet_loadAd (o := ⟨some 87, _, _, _, _, _⟩) _ rfl rfl L5.out (by simp only [Act.put, List.setIfInBounds_toArray, List.set_cons_succ, List.set_cons_zero]; exact rfl) ?_; go_big_quiet_on)
              | ((with_reducible show (⟨some 91, _, _, _, _, _⟩ : Oper).quiet _ _ _ _); refine quiet_loadAd (o := ⟨some 91, _, _, _, _, _⟩) _ rfl rfl L5.out (by simp only [Act.put, List.setIfInBounds_toArray, List.set_cons_succ, List.set_cons_zero]; exact rfl) ?_; go_big_quiet_on)
              | ((with_reducible show (⟨some 94, _, _, _, _, _⟩ : Oper).quiet _ _ _ _); refine quiet_loadAd (o := ⟨some 94, _, _, _, _, _⟩) _ rfl rfl L5.out (by simp only [Act.put, List.setIfInBounds_toArray, List.set_cons_succ, List.set_cons_zero]; exact rfl) ?_; go_big_quiet_on)
              | ((with_reducible show (⟨some 67, _, _, _, _, _⟩ : Oper).quiet _ _ _ _); refine quiet_loadK (o := ⟨some 67, _, _, _, _, _⟩) 26 _ rfl rfl (cs := #[vi, vr, vp]) rfl L4.out net_under rfl net_size (by simp only [Act.put, List.setIfInBounds_toArray, List.set_cons_succ, List.set_cons_zero]; exact rfl) ?_; go_big_quiet_on)
              | ((with_reducible show (⟨some 72, _, _, _, _, _⟩ : Oper).quiet _ _ _ _); refine quiet_loadK (o := ⟨some 72, _, _, _, _, _⟩) 26 _ rfl rfl (cs := #[vi, vr, vp]) rfl L4.out net_under rfl net_size (by simp only [Act.put, List.setIfInBounds_toArray, List.set_cons_succ, List.set_cons_zero]; exact rfl) ?_; go_big_quiet_on)
              | ((with_reducible show (⟨some 83, _, _, _, _, _⟩ : Oper).quiet _ _ _ _); refine quiet_loadK (o := ⟨some 83, _, _, _, _, _⟩) 42 _ rfl rfl (cs := ifcA a) rfl M6.out ifc_under rfl HIfa.out (by simp only [Act.put, List.setIfInBounds_toArray, List.set_cons_succ, List.set_cons_zero]; exact rfl) ?_; go_big_quiet_on)
              | ((with_reducible show (⟨some 93, _, _, _, _, _⟩ : Oper).quiet _ _ _ _); refine quiet_loadK (o := ⟨some 93, _, _, _, _, _⟩) 42 _ rfl rfl (cs := ifcA a) rfl M6.out ifc_under rfl HIfa.out (by simp only [Act.put, List.setIfInBounds_toArray, List.set_cons_succ, List.set_cons_zero]; exact rfl) ?_; go_big_quiet_on)
              | ((with_reducible show (⟨some 86, _, _, _, _, _⟩ : Oper).quiet _ _ _ _); refine quiet_loadK (o := ⟨some 86, _, _, _, _, _⟩) 42 _ rfl rfl (cs := ifcA b) rfl M7.out ifc_under rfl HIfb.out (by simp only [Act.put, List.setIfInBounds_toArray, List.set_cons_succ, List.set_cons_zero]; exact rfl) ?_; go_big_quiet_on)
              | ((with_reducible show (⟨some 90, _, _, _, _, _⟩ : Oper).quiet _ _ _ _); refine quiet_loadK (o := ⟨some 90, _, _, _, _, _⟩) 42 _ rfl rfl (cs := ifcA b) rfl M7.out ifc_under rfl HIfb.out (by simp only [Act.put, List.setIfInBounds_toArray, List.set_cons_succ, List.set_cons_zero]; exact rfl) ?_; go_big_quiet_on)
              | ((with_reducible show (⟨some 98, _, _, _, _, _⟩ : Oper).quiet _ _ _ _); refine quiet_bld (o := ⟨some 98, _, _, _, _, _⟩) 88 _ rfl HE.out rfl (by simp only [Act.put, List.setIfInBounds_toArray, List.set_cons_succ, List.set_cons_zero]; exact rfl) ?_; go_big_quiet_on)
              | (go_big_quiet_op; first | go_big_quiet_on | go_big_quiet_call ((go_at_call 57; (first | (with_reducible refine bel_call (HIa.out _)) | (with_reducible refine bel_call (HIb.out _))))) | go_big_quiet_call ((go_at_call 20; (first | (with_reducible refine bel_call (HSa.out _)) | (with_reducible refine bel_call (HSb.out _)) | (with_reducible refine bel_call (HSd.out _))))) | go_big_quiet_call ((go_at_call 58; (first | (with_reducible refine bel_call (H1.out _))))) | go_big_quiet_call ((go_at_call 56; (first | (with_reducible refine bel_call (H0.out _)) | (with_reducible refine bel_call (H2.out _)) | (with_reducible refine bel_call (H3.out _)) | (with_reducible refine bel_call (H4w.out _)) | (with_reducible refine bel_call (H5.out _)) | (with_reducible refine bel_call (H6.out _)) | (with_reducible refine bel_call (H7.out _))))) | go_big_quiet_call ((go_at_call 59; (first | (with_reducible refine bel_call (HLa.out _ (HN.out.below (bel_tr Hb.out (BelT.bel _))))) | (with_reducible refine bel_call (HLb.out _ (HN.out.below (bel_tr Hb.out (BelT.bel _)))))))) | go_big_quiet_call ((go_at_call 60; (first | (with_reducible refine bel_call (HBa.out _)) | (with_reducible refine bel_call (HBb.out _))))))))
        refine wpQuiet_nil ?_
        rfl
      case hT =>
        intro g12 wz hz12 hB12 hbz
        simp only [List.append_eq, List.cons_append, List.nil_append, List.drop_succ_cons, List.drop_zero, Act.put, List.setIfInBounds_toArray, List.set_cons_succ, List.set_cons_zero]
        have hb := bel_tr R.out.b hbz
        have hz : w.heap.size ≤ g12 := Nat.le_trans R.out.b.size hz12
        go_wp2_with (first
          | ((with_reducible show wpList _ _ _ (⟨none, .store _ _ _, _, _, _, _⟩ :: _) _ _); refine wpList_storeB (o := ⟨none, _, _, _, _, _⟩) rfl _ (.tmp 12) _ rfl rfl rfl hB12 HLz.out (by rw [giA_size, giA_size, HLn2.out]; rfl) (giA_one L) ?_; intro v2 hB2 hS2))
        go_meet
        exact ⟨g12, rfl, hB2, hb.trans (hS2.below hz)⟩
    · have H4w : Hid (∀ w', Calls Tryz.prog 56 #[.bool (a.idx == r.idx), .bool (b.idx == r.idx)] w' (InPost w' o4)) := Lib.hid (fun w' => H4.out _ _ w' (by rw [Hna.out]; rfl) (by rw [Hnb.out]; rfl))
      clear H4 Hna Hnb HLn
      apply wp_region_bel_new1 79 (by kernel_rfl) (by exact rfl) rfl rfl i8_zero
      case hB => intro G; kernel_rfl
      case hds => kernel_rfl
      case hH =>
        intro w0 hb0
        have R0 := R.out.bel hb0
        have k6_20 := R0.b6.cell 20
        rw [ifcA_20] at k6_20
        have x6_20 := fun z : BelT w0 => z.cell k6_20
        clear k6_20
        have k7_20 := R0.b7.cell 20
        rw [ifcA_20] at k7_20
        have x7_20 := fun z : BelT w0 => z.cell k7_20
        clear k7_20
        have k6_21 := R0.b6.cell 21
        rw [ifcA_21] at k6_21
        have x6_21 := fun z : BelT w0 => z.cell k6_21
        clear k6_21
        have k7_21 := R0.b7.cell 21
        rw [ifcA_21] at k7_21
        have x7_21 := fun z : BelT w0 => z.cell k7_21
        clear k7_21
        have k6_22 := R0.b6.cell 22
        rw [ifcA_22] at k6_22
        have x6_22 := fun z : BelT w0 => z.cell k6_22
        clear k6_22
        have k7_22 := R0.b7.cell 22
        rw [ifcA_22] at k7_22
        have x7_22 := fun z : BelT w0 => z.cell k7_22
        clear k7_22
        have k6_18 := R0.b6.cell 18
        rw [ifcA_18] at k6_18
        have x6_18 := fun z : BelT w0 => z.cell k6_18
        clear k6_18
        have k7_18 := R0.b7.cell 18
        rw [ifcA_18] at k7_18
        have x7_18 := fun z : BelT w0 => z.cell k7_18
        clear k7_18
        have k10_19 := R0.b10.cell 19
        rw [rtA_19] at k10_19
        have x10_19 := fun z : BelT w0 => z.cell k10_19
        clear k10_19
        have L4 := Lib.hid R0.b4.rangeNet
        have L5 := Lib.hid R0.b5.rangeAd
        have L6 := Lib.hid R0.b6.rangehd_ifc
        have L7 := Lib.hid R0.b7.rangehd_ifc
        have M6 := Lib.hid R0.b6.range_ifc
        have M7 := Lib.hid R0.b7.range_ifc
        have Hb := Lib.hid R0.b
        clear R0
        simp only [List.append_eq, List.cons_append, List.nil_append, List.take_succ_cons, List.take_zero]
        repeat (first
          | go_big_quiet_skip
          | (go_big_quiet_want; first
              | ((with_reducible show (⟨some 21, _, _, _, _, _⟩ : Oper).quiet _ _ _ _); refine quiet_loadAd (o := ⟨some 21, _, _, _, _, _⟩) _ rfl rfl L6.out (by simp only [Act.put, List.setIfInBounds_toArray, List.set_cons_succ, List.set_cons_zero]; exact rfl) ?_; go_big_quiet_on)
              | ((with_reducible show (⟨some 30, _, _, _, _, _⟩ : Oper).quiet _ _ _ _); refine quiet_loadAd (o := ⟨some 30, _, _, _, _, _⟩) _ rfl rfl L6.out (by simp only [Act.put, List.setIfInBounds_toArray, List.set_cons_succ, List.set_cons_zero]; exact rfl) ?_; go_big_quiet_on)
              | ((with_reducible show (⟨some 69, _, _, _, _, _⟩ : Oper).quiet _ _ _ _); refine quiet_loadAd (o := ⟨some 69, _, _, _, _, _⟩) _ rfl rfl L6.out (by simp only [Act.put, List.setIfInBounds_toArray, List.set_cons_succ, List.set_cons_zero]; exact rfl) ?_; go_big_quiet_on)
              | ((with_reducible show (⟨some 25, _, _, _, _, _⟩ : Oper).quiet _ _ _ _); refine quiet_loadAd (o := ⟨some 25, _, _, _, _, _⟩) _ rfl rfl L7.out (by simp only [Act.put, List.setIfInBounds_toArray, List.set_cons_succ, List.set_cons_zero]; exact rfl) ?_; go_big_quiet_on)
              | ((with_reducible show (⟨some 33, _, _, _, _, _⟩ : Oper).quiet _ _ _ _); refine quiet_loadAd (o := ⟨some 33, _, _, _, _, _⟩) _ rfl rfl L7.out (by simp only [Act.put, List.setIfInBounds_toArray, List.set_cons_succ, List.set_cons_zero]; exact rfl) ?_; go_big_quiet_on)
              | ((with_reducible show (⟨some 74, _, _, _, _, _⟩ : Oper).quiet _ _ _ _); refine quiet_loadAd (o := ⟨some 74, _, _, _, _, _⟩) _ rfl rfl L7.out (by simp only [Act.put, List.setIfInBounds_toArray, List.set_cons_succ, List.set_cons_zero]; exact rfl) ?_; go_big_quiet_on)
              | ((with_reducible show (⟨some 22, _, _, _, _, _⟩ : Oper).quiet _ _ _ _); refine quiet_loadAd (o := ⟨some 22, _, _, _, _, _⟩) _ rfl rfl L5.out (by simp only [Act.put, List.setIfInBounds_toArray, List.set_cons_succ, List.set_cons_zero]; exact rfl) ?_; go_big_quiet_on)
              | ((with_reducible show (⟨some 26, _, _, _, _, _⟩ : Oper).quiet _ _ _ _); refine quiet_loadAd (o := ⟨some 26, _, _, _, _, _⟩) _ rfl rfl L5.out (by simp only [Act.put, List.setIfInBounds_toArray, List.set_cons_succ, List.set_cons_zero]; exact rfl) ?_; go_big_quiet_on)
              | ((with_reducible show (⟨some 35, _, _, _, _, _⟩ : Oper).quiet _ _ _ _); refine quiet_loadAd (o := ⟨some 35, _, _, _, _, _⟩) _ rfl rfl L5.out (by simp only [Act.put, List.setIfInBounds_toArray, List.set_cons_succ, List.set_cons_zero]; exact rfl) ?_; go_big_quiet_on)
              | ((with_reducible show (⟨some 70, _, _, _, _, _⟩ : Oper).quiet _ _ _ _); refine quiet_loadAd (o := ⟨some 70, _, _, _, _, _⟩) _ rfl rfl L5.out (by simp only [Act.put, List.setIfInBounds_toArray, List.set_cons_succ, List.set_cons_zero]; exact rfl) ?_; go_big_quiet_on)
              | ((with_reducible show (⟨some 75, _, _, _, _, _⟩ : Oper).quiet _ _ _ _); refine quiet_loadAd (o := ⟨some 75, _, _, _, _, _⟩) _ rfl rfl L5.out (by simp only [Act.put, List.setIfInBounds_toArray, List.set_cons_succ, List.set_cons_zero]; exact rfl) ?_; go_big_quiet_on)
              | ((with_reducible show (⟨some 84, _, _, _, _, _⟩ : Oper).quiet _ _ _ _); refine quiet_loadAd (o := ⟨some 84, _, _, _, _, _⟩) _ rfl rfl L5.out (by simp only [Act.put, List.setIfInBounds_toArray, List.set_cons_succ, List.set_cons_zero]; exact rfl) ?_; go_big_quiet_on)
              | ((with_reducible show (⟨some 87, _, _, _, _, _⟩ : Oper).quiet _ _ _ _); refine quiet_loadAd (o := ⟨some 87, _, _, _, _, _⟩) _ rfl rfl L5.out (by simp only [Act.put, List.setIfInBounds_toArray, List.set_cons_succ, List.set_cons_zero]; exact rfl) ?_; go_big_quiet_on)
              | ((with_reducible show (⟨some 91, _, _, _, _, _⟩ : Oper).quiet _ _ _ _); refine quiet_loadAd (o := ⟨some 91, _, _, _, _, _⟩) _ rfl rfl L5.out (by simp only [Act.put, List.setIfInBounds_toArray, List.set_cons_succ, List.set_cons_zero]; exact rfl) ?_; go_big_quiet_on)
              | ((with_reducible show (⟨some 94, _, _, _, _, _⟩ : Oper).quiet _ _ _ _); refine quiet_loadAd (o := ⟨some 94, _, _, _, _, _⟩) _ rfl rfl L5.out (by simp only [Act.put, List.setIfInBounds_toArray, List.set_cons_succ, List.set_cons_zero]; exact rfl) ?_; go_big_quiet_on)
              | ((with_reducible show (⟨some 67, _, _, _, _, _⟩ : Oper).quiet _ _ _ _); refine quiet_loadK (o := ⟨some 67, _, _, _, _, _⟩) 26 _ rfl rfl (cs := #[vi, vr, vp]) rfl L4.out net_under rfl net_size (by simp only [Act.put, List.setIfInBounds_toArray, List.set_cons_succ, List.set_cons_zero]; exact rfl) ?_; go_big_quiet_on)
              | ((with_reducible show (⟨some 72, _, _, _, _, _⟩ : Oper).quiet _ _ _ _); refine quiet_loadK (o := ⟨some 72, _, _, _, _, _⟩) 26 _ rfl rfl (cs := #[vi, vr, vp]) rfl L4.out net_under rfl net_size (by simp only [Act.put, List.setIfInBounds_toArray, List.set_cons_succ, List.set_cons_zero]; exact rfl) ?_; go_big_quiet_on)
              | ((with_reducible show (⟨some 83, _, _, _, _, _⟩ : Oper).quiet _ _ _ _); refine quiet_loadK (o := ⟨some 83, _, _, _, _, _⟩) 42 _ rfl rfl (cs := ifcA a) rfl M6.out ifc_under rfl HIfa.out (by simp only [Act.put, List.setIfInBounds_toArray, List.set_cons_succ, List.set_cons_zero]; exact rfl) ?_; go_big_quiet_on)
              | ((with_reducible show (⟨some 93, _, _, _, _, _⟩ : Oper).quiet _ _ _ _); refine quiet_loadK (o := ⟨some 93, _, _, _, _, _⟩) 42 _ rfl rfl (cs := ifcA a) rfl M6.out ifc_under rfl HIfa.out (by simp only [Act.put, List.setIfInBounds_toArray, List.set_cons_succ, List.set_cons_zero]; exact rfl) ?_; go_big_quiet_on)
              | ((with_reducible show (⟨some 86, _, _, _, _, _⟩ : Oper).quiet _ _ _ _); refine quiet_loadK (o := ⟨some 86, _, _, _, _, _⟩) 42 _ rfl rfl (cs := ifcA b) rfl M7.out ifc_under rfl HIfb.out (by simp only [Act.put, List.setIfInBounds_toArray, List.set_cons_succ, List.set_cons_zero]; exact rfl) ?_; go_big_quiet_on)
              | ((with_reducible show (⟨some 90, _, _, _, _, _⟩ : Oper).quiet _ _ _ _); refine quiet_loadK (o := ⟨some 90, _, _, _, _, _⟩) 42 _ rfl rfl (cs := ifcA b) rfl M7.out ifc_under rfl HIfb.out (by simp only [Act.put, List.setIfInBounds_toArray, List.set_cons_succ, List.set_cons_zero]; exact rfl) ?_; go_big_quiet_on)
              | ((with_reducible show (⟨some 98, _, _, _, _, _⟩ : Oper).quiet _ _ _ _); refine quiet_bld (o := ⟨some 98, _, _, _, _, _⟩) 88 _ rfl HE.out rfl (by simp only [Act.put, List.setIfInBounds_toArray, List.set_cons_succ, List.set_cons_zero]; exact rfl) ?_; go_big_quiet_on)
              | (go_big_quiet_op; first | go_big_quiet_on | go_big_quiet_call ((go_at_call 57; (first | (with_reducible refine bel_call (HIa.out _)) | (with_reducible refine bel_call (HIb.out _))))) | go_big_quiet_call ((go_at_call 20; (first | (with_reducible refine bel_call (HSa.out _)) | (with_reducible refine bel_call (HSb.out _)) | (with_reducible refine bel_call (HSd.out _))))) | go_big_quiet_call ((go_at_call 58; (first | (with_reducible refine bel_call (H1.out _))))) | go_big_quiet_call ((go_at_call 56; (first | (with_reducible refine bel_call (H0.out _)) | (with_reducible refine bel_call (H2.out _)) | (with_reducible refine bel_call (H3.out _)) | (with_reducible refine bel_call (H4w.out _)) | (with_reducible refine bel_call (H5.out _)) | (with_reducible refine bel_call (H6.out _)) | (with_reducible refine bel_call (H7.out _))))) | go_big_quiet_call ((go_at_call 59; (first | (with_reducible refine bel_call (HLa.out _ (HN.out.below (bel_tr Hb.out (BelT.bel _))))) | (with_reducible refine bel_call (HLb.out _ (HN.out.below (bel_tr Hb.out (BelT.bel _)))))))) | go_big_quiet_call ((go_at_call 60; (first | (with_reducible refine bel_call (HBa.out _)) | (with_reducible refine bel_call (HBb.out _))))))))
        refine wpQuiet_nil ?_
        rfl
      case hT =>
        intro g12 wz hz12 hB12 hbz
        simp only [List.append_eq, List.cons_append, List.nil_append, List.drop_succ_cons, List.drop_zero, Act.put, List.setIfInBounds_toArray, List.set_cons_succ, List.set_cons_zero]
        have hb := bel_tr R.out.b hbz
        have hz : w.heap.size ≤ g12 := Nat.le_trans R.out.b.size hz12
        go_wp2_with (first
          | ((with_reducible show wpList _ _ _ (⟨none, .store _ _ _, _, _, _, _⟩ :: _) _ _); refine wpList_storeB (o := ⟨none, _, _, _, _, _⟩) rfl _ (.tmp 12) _ rfl rfl rfl hB12 HLz.out (by rw [giA_size, giA_size, HLn2.out]; rfl) (giA_one L) ?_; intro v2 hB2 hS2))
        go_meet
        exact ⟨g12, rfl, hB2, hb.trans (hS2.below hz)⟩
  case rest =>
    obtain ⟨g12, rfl, hB12, hb9⟩ := hcut
    obtain ⟨w9, hw9⟩ : ∃ w9, w9 = wc := ⟨_, rfl⟩
    rw [← hw9] at hB12 hb9 ⊢
    clear hw9 R HIa HIb HSa HSb HSd HLa HLb HBa HBb H0 H1 H2 H3 H4 H5 H6 H7 HE HLz Hna Hnb HLn2
    have B12 := Lib.hid hB12
    have Hb9 := Lib.hid hb9
    clear hB12 hb9
    go_wp2_with (fail)
    go_loopw [13] (fun i wr => ∃ k : Nat, k ≤ 8 ∧ i = .int .i64 k ∧ fst1 L = fst1 (L.drop k) ∧ fstI L 0 = fstI (L.drop k) k ∧ wr = w9) (fun i _ => 8 - (intOf i).toNat)
    case atStart => exact ⟨0, by omega, rfl, rfl, rfl, rfl⟩
    case round =>
      obtain ⟨k, hk, rfl, h1, h2, rfl⟩ := hrel
      by_cases hlt : k < 8
      · have hkL : k < L.length := by rw [HLn.out]; exact hlt
        obtain ⟨x, hd, hc⟩ : ∃ x : Int, L.drop k = x :: L.drop (k + 1) ∧ wr.cell? ⟨g12, k, none⟩ = some (.int .i64 x) := ⟨L[k], List.drop_eq_getElem_cons hkL, by have := B12.out.cell k; rw [giA_at hkL] at this; exact this⟩
        rw [hd] at h1 h2
        have j0 : (k : Int) < 8 := by omega
        by_cases hx : x = 0
        · rw [fst1_cons _ _ hx] at h1
          rw [fstI_cons _ _ _ hx] at h2
          have G1 := Lib.hid h1
          have G2 := Lib.hid h2
          have i1 : (x != 0) = false := by simp [hx]
          clear h1 h2 hd hx hkL
          go_wp2_with (fail)
          go_roundw
          case rel => exact ⟨k + 1, by omega, by go_num, G1.out, G2.out, by first | rfl | trivial⟩
          case measure => simp [intOf]; omega
        · rw [fst1_hit _ _ hx] at h1
          rw [fstI_hit _ _ _ hx] at h2
          have G1 := Lib.hid h1
          have G2 := Lib.hid h2
          have i1 : (x != 0) = true := by simpa using hx
          clear h1 h2 hd hx hkL
          go_wp2_with (fail)
          go_ret2
          exact ⟨by rw [G1.out, G2.out]; rfl, Hb9.out⟩
      · have hk8 : k = 8 := by omega
        subst hk8
        have hd : L.drop 8 = [] := List.drop_eq_nil_of_le (by rw [HLn.out]; omega)
        rw [hd] at h1 h2
        have G1 := Lib.hid h1
        have G2 := Lib.hid h2
        clear h1 h2 hd
        go_wp2_with (fail)
        go_ret2
        exact ⟨by rw [G1.out, G2.out]; rfl, Hb9.out⟩
end Go.Proofs.YthlnndjkocnfcaaGreatDoor
