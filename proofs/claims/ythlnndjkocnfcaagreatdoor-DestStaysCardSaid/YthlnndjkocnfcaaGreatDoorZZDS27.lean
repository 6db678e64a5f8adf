/- Contracts and plain lemmas of our own, merged. -/
import Derived.Test.YthlnndjkocnfcaaGreatDoorZZDS1
import Derived.Test.YthlnndjkocnfcaaGreatDoorZZDS10
import Derived.Test.YthlnndjkocnfcaaGreatDoorZZDS12
import Derived.Test.YthlnndjkocnfcaaGreatDoorZZDS13
import Derived.Test.YthlnndjkocnfcaaGreatDoorZZDS21
import Derived.Test.YthlnndjkocnfcaaGreatDoorZZDS23
import Derived.Test.YthlnndjkocnfcaaGreatDoorZZDS24
import Derived.Test.YthlnndjkocnfcaaGreatDoorZZDS26
/- source.Pick at any net. -/
namespace Go.Proofs.YthlnndjkocnfcaaGreatDoor
open Go.RowKit
attribute [local go_sem] ba_get ext_take ext_drop ext_any ba_app

theorem ret_ifcE {fn : Func} {p q : Tmp} (h : fn.results = #[.cell p 42, .tmp q]) {R : Ending → World → Prop} {a : Act} {w : World} {g : Nat} {t : TypeId} {b : Ifc} {v : Value}
    (hp : a.tmps.getD p undef = .pointer (some ⟨g, 0, none⟩)) (hq : a.tmps.getD q undef = v) (hB : Bk w g t (ifcA b)) (hd : a.defers = []) (hR : R (.returned (.tuple #[.agg (ifcA b), v])) w) : bodyPost Tryz.prog fn R .ret a w := by
  refine bodyPost_ret_by (v := .tuple #[.agg (ifcA b), v]) ?_ hd hR
  have hp' : a.tmps[p]?.getD undef = .pointer (some ⟨g, 0, none⟩) := by simpa using hp
  have hq' : a.tmps[q]?.getD undef = v := by simpa using hq
  simp [results, h, hp', hq', asAddr, run_loadVar_row (P := Tryz.prog) w g t 42 (ifcA b) (0, 0) _ hB ifc_under rfl (ifc_size' b)]
/-- the better of the best so far and the next. -/
def pstep (N : Nt) (t : Aim) (best f : Ifc) : Ifc := if 0 < fst1 (telL t (worN N t f) (worN N t best)) then f else best
/-- the own address from which one speaks. -/
def pickN (N : Nt) (d : Ad) : Ifc × Bool := match ownN N d with
  | [] => (ifc0, false)
  | x :: l => (l.foldl (pstep N (aimN N d)) x, true)
def PickPost (w : World) (x : Ifc × Bool) (e : Ending) (w' : World) : Prop := e = .returned (.tuple #[.agg (ifcA x.1), .bool x.2]) ∧ Below w.heap.size w w'
theorem built_ifc0 : Tryz.prog.built 42 [] = some (ifcA ifc0) := by kernel_rfl
set_option maxRecDepth 100000 in
set_option maxHeartbeats 4000000 in
theorem pick_none (vi vr vp : Value) (N : Nt) (d : Ad) (w : World) (hN : NetRaw w vi vr vp N) (hlI : N.I.length ≤ 1000000) (hlR : N.R.length ≤ 1000000) (h0 : ownN N d = []) :
    Calls Tryz.prog 29 #[.agg #[vi, vr, vp], .agg (adA d)] w (PickPost w (pickN N d)) := by
  have HN := Lib.hid hN
  have Hns := Lib.hid (show (Tryz.prog.info? 26).map (·.size) = some (#[vi, vr, vp] : Array Value).size from net_size)
  have HO : Hid (∀ w', NetRaw w' vi vr vp N → Calls Tryz.prog 50 #[.agg #[vi, vr, vp], .agg (adA d)] w' (IfcsPost w' [])) := Lib.hid (fun w' h' => by rw [← h0]; exact ownS_any vi vr vp N d w' h' hlI hlR)
  have Hf : Hid (pickN N d = (ifc0, false)) := Lib.hid (by unfold pickN; rw [h0])
  clear hN hlI hlR h0
  go_enter Tryz.func29, Tryz.ntmps29
  go_wp2_with (first
    | ((with_reducible refine wpList_boxB (o := ⟨some 2, _, _, _, _, _⟩) rfl _ _ rfl rfl ?_); intro g2 w1 hg hB2 hb1 hs; clear hg hs)
    | ((with_reducible refine wpList_boxB (o := ⟨some 3, _, _, _, _, _⟩) rfl _ _ rfl rfl ?_); intro g3 w2 hg hB3 hb2 hs; have hB22 := hB2.bel hb2; have hb02 := bel_tr hb1 hb2; clear hg hs)
    | ((with_reducible refine wpList_alloc_ifc (o := ⟨some 4, _, _, _, _, _⟩) rfl rfl ?_); intro g4 w3 hg hB4 hb3 hs; have hw4 : w.heap.size ≤ g4 := Nat.le_trans hb02.size (Nat.le_of_eq hg.symm); have hB23 := hB22.bel hb3; have hB33 := hB3.bel hb3; have hb03 := bel_tr hb02 hb3; clear hg hs)
    | (with_reducible refine wpList_loadB (o := ⟨some 15, _, _, _, _, _⟩) rfl _ _ rfl rfl hB23 net_under rfl Hns.out ?_)
    | (with_reducible refine wpList_loadAd (o := ⟨some 16, _, _, _, _, _⟩) rfl _ rfl rfl hB33 ?_)
    | (go_at_call 50; refine (HO.out _ (HN.out.below hb03)).mono ?_; rintro e w4 ⟨v4, rfl, ho4, hb4⟩; obtain ⟨A4, c4, rfl, hc4⟩ := (Sl.own ho4).any; have hB44 := hB4.bel hb4; have hb04 := bel_tr hb03 hb4)
    | (with_reducible refine wpList_buildL (o := ⟨some 21, _, _, _, _, _⟩) rfl 42 _ rfl built_ifc0 rfl ?_)
    | ((with_reducible refine wpList_store_ifc (o := ⟨none, _, _, _, _, _⟩) rfl (.tmp 4) _ rfl rfl rfl hB44 ?_); intro wc hBc hSc))
  exact ret_ifcE Tryz.results29 rfl rfl hBc rfl ⟨by rw [Hf.out]; rfl, hb04.trans (hSc.below hw4)⟩
theorem SRow.stays2 {α : Type} {f : α → List Value} {s : Nat} {w w' : World} {b off : Nat} {R : List α} {lo g : Nat} (h : SRow f s w (some ⟨b, off, none⟩) R lo) (hs : Stays g w w') (hg : b ≠ g) : SRow f s w' (some ⟨b, off, none⟩) R lo := fun k hk => by
  obtain ⟨b', off', h1, h2, h3, h4⟩ := h k hk
  injection h1 with h1
  injection h1 with h1a h1b
  subst h1a h1b
  refine ⟨_, _, rfl, h2, by rw [hs.size]; exact h3, fun j v hv => ?_⟩
  rw [← h4 j v hv]
  have := hs.block _ hg
  unfold World.cell?
  rw [this]
theorem SRow.rng {α : Type} {f : α → List Value} {s : Nat} {w : World} {b off : Nat} {R : List α} {lo : Nat} (h : SRow f s w (some ⟨b, off, none⟩) R lo) {k : Nat} (hk : k < R.length) : b < w.heap.size ∧ w.rangeAt b (off + k * s) (f R[k]) := by
  obtain ⟨b', off', h1, h2, h3, h4⟩ := h k hk
  injection h1 with h1
  injection h1 with h1a h1b
  subst h1a h1b
  exact ⟨h3, h4⟩
structure PickRel (w : World) (g2 g4 g7 g8 g9 : Nat) (vi vr vp : Value) (N : Nt) (t : Aim) (b off : Nat) (R : List Ifc) (lo : Nat) (best : Ifc) (wr : World) : Prop where
  b2 : Bk wr g2 26 #[vi, vr, vp]
  b4 : Bk wr g4 42 (ifcA ifc0)
  b7 : Bk wr g7 77 (aimA t)
  b8 : Bk wr g8 42 (ifcA best)
  b9 : Bk wr g9 80 (worA (worN N t best))
  r : SRow ifcL 23 wr (some ⟨b, off, none⟩) R lo
  b : Below w.heap.size w wr
set_option maxRecDepth 100000 in
set_option maxHeartbeats 4000000 in
theorem pick_some (vi vr vp : Value) (N : Nt) (d : Ad) (w : World) (hN : NetRaw w vi vr vp N) (hE : EnvS w) (hlI : N.I.length ≤ 1000000) (hlR : N.R.length ≤ 1000000) (hlP : N.P.length ≤ 1000000) (x : Ifc) (l : List Ifc) (h0 : ownN N d = x :: l) :
    Calls Tryz.prog 29 #[.agg #[vi, vr, vp], .agg (adA d)] w (PickPost w (pickN N d)) := by
  have HN := Lib.hid hN
  have HE := Lib.hid hE
  have Hns := Lib.hid (show (Tryz.prog.info? 26).map (·.size) = some (#[vi, vr, vp] : Array Value).size from net_size)
  have HO : Hid (∀ w', NetRaw w' vi vr vp N → Calls Tryz.prog 50 #[.agg #[vi, vr, vp], .agg (adA d)] w' (IfcsPost w' (x :: l))) := Lib.hid (fun w' h' => by rw [← h0]; exact ownS_any vi vr vp N d w' h' hlI hlR)
  have Hf : Hid (pickN N d = (l.foldl (pstep N (aimN N d)) x, true)) := Lib.hid (by unfold pickN; rw [h0])
  have hlen : l.length + 1 ≤ 32 := by
    have h1 : (ownN N d).length ≤ 32 := by
      unfold ownN
      split
      · exact Nat.le_trans (List.length_filter_le _ _) (ifcN_len _)
      · simp
    rw [h0] at h1
    simpa using h1
  have HA : Hid (∀ w', NetRaw w' vi vr vp N → EnvS w' → Calls Tryz.prog 51 #[.agg #[vi, vr, vp], .agg (adA d)] w' (AimPost w' (aimN N d))) := Lib.hid (fun w' h k => aimof_any vi vr vp N d w' h k hlP hlR)
  have HW : Hid (∀ t f w', NetRaw w' vi vr vp N → EnvS w' → Calls Tryz.prog 52 #[.agg #[vi, vr, vp], .agg (aimA t), .agg (ifcA f)] w' (WorPost w' (worN N t f))) := Lib.hid (fun t f w' h k => worthof_any vi vr vp N t f w' h k hlP)
  clear hN hE hlI hlR hlP h0
  generalize pickN N d = PV at *
  generalize aimN N d = t at *
  go_enter Tryz.func29, Tryz.ntmps29
  go_wp2_with (first
    | ((with_reducible refine wpList_boxB (o := ⟨some 2, _, _, _, _, _⟩) rfl _ _ rfl rfl ?_); intro g2 w1 hg hB2 hb1 hs; have hg2 : w.heap.size ≤ g2 := Nat.le_of_eq hg.symm; clear hg hs)
    | ((with_reducible refine wpList_boxB (o := ⟨some 3, _, _, _, _, _⟩) rfl _ _ rfl rfl ?_); intro g3 w2 hg hB3 hb2 hs; have hB22 := hB2.bel hb2; have hb02 := bel_tr hb1 hb2; clear hg hs)
    | ((with_reducible refine wpList_alloc_ifc (o := ⟨some 4, _, _, _, _, _⟩) rfl rfl ?_); intro g4 w3 hg hB4 hb3 hs; have hg4 : w2.heap.size ≤ g4 := Nat.le_of_eq hg.symm; have hB23 := hB22.bel hb3; have hB33 := hB3.bel hb3; have hb03 := bel_tr hb02 hb3; clear hg hs)
    | (with_reducible refine wpList_loadB (o := ⟨some 15, _, _, _, _, _⟩) rfl _ _ rfl rfl hB23 net_under rfl Hns.out ?_)
    | (with_reducible refine wpList_loadAd (o := ⟨some 16, _, _, _, _, _⟩) rfl _ rfl rfl hB33 ?_)
    | (go_at_call 50; refine (HO.out _ (HN.out.below hb03)).mono ?_; rintro e w4 ⟨v4, rfl, ho4, hb4⟩; obtain ⟨A4, c4, rfl, hc4⟩ := (Sl.own ho4).any; have hr4 := SRow.own ifcL_len ho4; obtain ⟨b, off, rfl, hblo, hblt, hrg⟩ := hr4 0 (by simp); have HC4 : Hid ((x :: l).length ≤ c4) := Lib.hid hc4; have hB24 := hB23.bel hb4; have hB34 := hB33.bel hb4; have hB44 := hB4.bel hb4; have hb04 := bel_tr hb03 hb4; have hlw : w3.heap.size ≤ w3.heap.size := Nat.le_refl _; refine hold ?_))
  refine Lib.hid ?_
  have hl3 : g2 < w3.heap.size ∧ g4 < w3.heap.size ∧ w.heap.size ≤ g2 ∧ g2 < g4 := ⟨hB23.lt, hB4.lt, hg2, by have := hB22.lt; omega⟩
  have hl4 := hb4.size
  generalize w3.heap.size = lo at *
  have HR4 := Lib.hid hr4
  have HB2 := Lib.hid hB24
  have HB3 := Lib.hid hB34
  have HB4 := Lib.hid hB44
  have Hb4 := Lib.hid hb04
  have hc1 : l.length + 1 ≤ c4 := by simpa using HC4.out
  clear hB2 hB22 hB23 hB24 hB3 hB33 hB34 hB4 hB44 hb1 hb2 hb3 hb4 hb02 hb03 hb04 hr4 hrg hg2 hg4 hlw ho4 HO
  generalize hm : l.length = m at *
  go_wp2_with (first
    | (with_reducible refine wpList_loadB (o := ⟨some 22, _, _, _, _, _⟩) rfl _ _ rfl rfl HB2.out net_under rfl Hns.out ?_)
    | (with_reducible refine wpList_loadAd (o := ⟨some 23, _, _, _, _, _⟩) rfl _ rfl rfl HB3.out ?_)
    | (go_at_call 51; refine (HA.out _ (HN.out.below Hb4.out) (HE.out.below Hb4.out)).mono ?_; rintro e w5 ⟨rfl, hb5⟩; have hb05 := Lib.hid (bel_tr Hb4.out hb5); have hB25 := Lib.hid (HB2.out.bel hb5); have hB45 := Lib.hid (HB4.out.bel hb5); have HR5 := Lib.hid (HR4.out.bel hb5); have hl5 := hb5.size; clear hb5; refine hold ?_))
  refine Lib.hid ?_
  clear HB2 HB3 HB4 HR4 Hb4
  go_wp2_with (first
    | ((with_reducible refine wpList_alloc_aim (o := ⟨some 7, _, _, _, _, _⟩) rfl rfl ?_); intro g7 w6 hg hB7 hb6 hs; have hg7 : w5.heap.size ≤ g7 := Nat.le_of_eq hg.symm; clear hg hs)
    | ((with_reducible refine wpList_store_aim (o := ⟨none, _, _, _, _, _⟩) rfl (.tmp 7) _ rfl rfl rfl hB7 ?_); intro w7 hB77 hS7
       have hbx : Below w5.heap.size w5 w7 := hb6.trans (hS7.below hg7)
       have X2 := Lib.hid (hB25.out.bel hbx)
       have X4 := Lib.hid (hB45.out.bel hbx)
       have XR := Lib.hid (HR5.out.bel hbx)
       have Xb := Lib.hid (bel_tr hb05.out hbx)
       have X7 := Lib.hid hB77
       have hl7 := hbx.size
       have hg7w := hB77.lt
       clear hB25 hB45 HR5 hb05 hB77 hS7 hb6 hB7 hbx
       refine hold ?_))
  refine Lib.hid ?_
  have r0 := (XR.out.rng (k := 0) (by simp)).2
  rw [Nat.zero_mul, Nat.add_zero] at r0
  have hbw5 : b < w5.heap.size := by omega
  go_wp2_with (first
    | (with_reducible refine wpList_loadM_ifc (o := ⟨some 27, _, _, _, _, _⟩) rfl _ rfl rfl r0 ?_)
    | ((with_reducible refine wpList_alloc_ifc (o := ⟨some 8, _, _, _, _, _⟩) rfl rfl ?_); intro g8 w8 hg hB8 hb8 hs; have hg8 : w7.heap.size ≤ g8 := Nat.le_of_eq hg.symm; clear hg hs)
    | ((with_reducible refine wpList_store_ifc (o := ⟨none, _, _, _, _, _⟩) rfl (.tmp 8) _ rfl rfl rfl hB8 ?_); intro w9 hB89 hS9
       have hbx : Below w7.heap.size w7 w9 := hb8.trans (hS9.below hg8)
       have Y2 := Lib.hid (X2.out.bel hbx)
       have Y4 := Lib.hid (X4.out.bel hbx)
       have YR := Lib.hid (XR.out.bel hbx)
       have Yb := Lib.hid (bel_tr Xb.out hbx)
       have Y7 := Lib.hid (X7.out.bel hbx)
       have Y8 := Lib.hid hB89
       have hl9 := hbx.size
       have hg8w := hB89.lt
       clear X2 X4 XR Xb X7 hB89 hS9 hb8 hB8 hbx r0
       refine hold ?_))
  refine Lib.hid ?_
  have HWx := Lib.hid (HW.out t x)
  generalize hWx : worN N t x = Wx at *
  go_wp2_with (first
    | (with_reducible refine wpList_loadB (o := ⟨some 28, _, _, _, _, _⟩) rfl _ _ rfl rfl Y2.out net_under rfl Hns.out ?_)
    | (with_reducible refine wpList_load_aim (o := ⟨some 29, _, _, _, _, _⟩) rfl _ rfl rfl Y7.out ?_)
    | (with_reducible refine wpList_load_ifc (o := ⟨some 30, _, _, _, _, _⟩) rfl _ rfl rfl Y8.out ?_)
    | (go_at_call 52; refine (HWx.out _ (HN.out.below Yb.out) (HE.out.below Yb.out)).mono ?_; rintro e wa ⟨rfl, hba⟩; have hla := hba.size)
    | ((with_reducible refine wpList_alloc_wor (o := ⟨some 9, _, _, _, _, _⟩) rfl rfl ?_); intro g9 wb hg hB9 hbb hs; have hg9 : wa.heap.size ≤ g9 := Nat.le_of_eq hg.symm; clear hg hs)
    | ((with_reducible refine wpList_store_wor (o := ⟨none, _, _, _, _, _⟩) rfl (.tmp 9) _ rfl rfl rfl hB9 ?_); intro wc hB9c hSc
       have hbx : Below w9.heap.size w9 wc := hba.trans ((hbb.trans (hSc.below hg9)).mono hba.size)
       have Z2 := Lib.hid (Y2.out.bel hbx)
       have Z4 := Lib.hid (Y4.out.bel hbx)
       have ZR := Lib.hid (YR.out.bel hbx)
       have Zb := Lib.hid (bel_tr Yb.out hbx)
       have Z7 := Lib.hid (Y7.out.bel hbx)
       have Z8 := Lib.hid (Y8.out.bel hbx)
       have Z9 := Lib.hid hB9c
       clear Y2 Y4 YR Yb Y7 Y8 hB9c hSc hbb hB9 hbx hba
       refine hold ?_))
  refine Lib.hid ?_
  subst hWx
  have hne : g2 < g4 ∧ g4 < lo ∧ lo ≤ b ∧ b < g7 ∧ g7 < g8 ∧ g8 < g9 ∧ w.heap.size ≤ g2 := by omega
  have R0 : PickRel w g2 g4 g7 g8 g9 vi vr vp N t b off (x :: l) lo x wc := ⟨Z2.out, Z4.out, Z7.out, Z8.out, Z9.out, ZR.out, Zb.out⟩
  clear Z2 Z4 ZR Zb Z7 Z8 Z9 HWx hl3 hl4 hl7 hl9 hg7 hg8 hg9 hg7w hg8w hla hbw5 hblo hblt HA
  subst hm
  by_cases hcc : c4 = 1
  · subst hcc
    have hl0 : l = [] := List.eq_nil_of_length_eq_zero (by omega)
    subst hl0
    have hw4 : w.heap.size ≤ g4 := by omega
    have Q0 := Lib.hid R0
    clear R0 hne
    go_wp2_with (fail)
    go_loopw [35] (fun i wr => i = .int .i64 0 ∧ wr = wc) (fun _ _ => 0)
    case atStart => exact ⟨rfl, rfl⟩
    case round =>
      obtain ⟨rfl, rfl⟩ := hrel
      go_wp2_with (first
        | (with_reducible refine wpList_load_ifc (o := ⟨some 55, _, _, _, _, _⟩) rfl _ rfl rfl Q0.out.b8 ?_)
        | ((with_reducible refine wpList_store_ifc (o := ⟨none, _, _, _, _, _⟩) rfl (.tmp 4) _ rfl rfl rfl Q0.out.b4 ?_); intro wz hB4z hSz))
      exact ret_ifcE Tryz.results29 rfl rfl hB4z rfl ⟨by rw [Hf.out]; rfl, Q0.out.b.trans (hSz.below hw4)⟩
  go_wp2_with (fail)
  go_loopw [35] (fun i wr => ∃ (k : Nat) (best : Ifc), k ≤ l.length ∧ i = .int .i64 k ∧ best = (l.take k).foldl (pstep N t) x ∧ PickRel w g2 g4 g7 g8 g9 vi vr vp N t b off (x :: l) lo best wr) (fun i _ => l.length - (intOf i).toNat)
  case atStart => exact ⟨0, x, by omega, rfl, rfl, R0⟩
  case round =>
    obtain ⟨k, best, hk, rfl, hbst, r2, r4, r7, r8, r9, rr, rb⟩ := hrel
    clear R0
    by_cases hlt : k < l.length
    · have hrg := (rr.rng (k := k + 1) (by simpa using hlt)).2
      have hbwr := (rr.rng (k := k + 1) (by simpa using hlt)).1
      have hel : (x :: l)[k + 1]'(by simpa using hlt) = l[k] := rfl
      rw [hel, show off + (k + 1) * 23 = off + 23 + k * 23 by omega] at hrg
      have hbn : (l.take (k + 1)).foldl (pstep N t) x = pstep N t best l[k] := by
        rw [List.take_succ_eq_append_getElem hlt, List.foldl_append, ← hbst]; rfl
      generalize l[k] = f at *
      have Hbn := Lib.hid hbn
      have j0 : (k : Int) < (l.length : Int) := by omega
      clear hbn hbst hel
      have HWf := Lib.hid (HW.out t f)
      have HBt : Hid (∀ w', Calls Tryz.prog 53 #[.agg (aimA t), .agg (worA (worN N t f)), .agg (worA (worN N t best))] w' (BetPost w' (telL t (worN N t f) (worN N t best)))) := Lib.hid (fun w' => sbetter_any _ _ _ w')
      have hps : pstep N t best f = if 0 < fst1 (telL t (worN N t f) (worN N t best)) then f else best := rfl
      have Hps := Lib.hid hps
      clear hps
      generalize hWf : worN N t f = Wf at *
      generalize hWb : worN N t best = Wb at *
      generalize telL t Wf Wb = T at *
      have l9 := r9.lt
      have hgn : g9 < wr.heap.size := l9
      have R2 := Lib.hid r2
      have R7 := Lib.hid r7
      have R9 := Lib.hid r9
      have Rb := Lib.hid rb
      go_wp2_with (first
        | (with_reducible refine wpList_loadM_ifc (o := ⟨some 38, _, _, _, _, _⟩) rfl _ rfl rfl hrg ?_)
        | ((with_reducible refine wpList_alloc_ifc (o := ⟨some 11, _, _, _, _, _⟩) rfl rfl ?_); intro g11 wa hg hB11 hba hs; have hg11 : wr.heap.size ≤ g11 := Nat.le_of_eq hg.symm; clear hg hs)
        | ((with_reducible refine wpList_store_ifc (o := ⟨none, _, _, _, _, _⟩) rfl (.tmp 11) _ rfl rfl rfl hB11 ?_); intro wb' hB11b hSb
           have hb1 : Below wr.heap.size wr wb' := hba.trans (hSb.below hg11)
           have B11 := Lib.hid hB11b
           have Hb1 := Lib.hid hb1
           clear hB11 hB11b hSb hba hb1 hrg
           refine hold ?_))
      refine Lib.hid ?_
      go_wp2_with (first
        | (with_reducible refine wpList_loadB (o := ⟨some 39, _, _, _, _, _⟩) rfl _ _ rfl rfl (R2.out.bel Hb1.out) net_under rfl Hns.out ?_)
        | (with_reducible refine wpList_load_aim (o := ⟨some 40, _, _, _, _, _⟩) rfl _ rfl rfl (R7.out.bel Hb1.out) ?_)
        | (with_reducible refine wpList_load_ifc (o := ⟨some 41, _, _, _, _, _⟩) rfl _ rfl rfl B11.out ?_)
        | (go_at_call 52; refine (HWf.out _ (HN.out.below (bel_tr Rb.out Hb1.out)) (HE.out.below (bel_tr Rb.out Hb1.out))).mono ?_; rintro e wc' ⟨rfl, hbc⟩; have Hb2 := Lib.hid (bel_tr Hb1.out hbc); have hlc : wr.heap.size ≤ wc'.heap.size := (bel_tr Hb1.out hbc).size; have B11c := Lib.hid (B11.out.bel hbc); clear hbc)
        | ((with_reducible refine wpList_alloc_wor (o := ⟨some 12, _, _, _, _, _⟩) rfl rfl ?_); intro g12 wd hg hB12 hbd hs; have hg12 : wc'.heap.size ≤ g12 := Nat.le_of_eq hg.symm; clear hg hs)
        | ((with_reducible refine wpList_store_wor (o := ⟨none, _, _, _, _, _⟩) rfl (.tmp 12) _ rfl rfl rfl hB12 ?_); intro we hB12e hSe
           have hb3 := hbd.trans (hSe.below hg12)
           have B11e := Lib.hid (B11c.out.bel hb3)
           have B12e := Lib.hid hB12e
           have Hb3 := Lib.hid (bel_tr Hb2.out hb3)
           clear hB12 hB12e hSe hbd hb3 B11c Hb2
           refine hold ?_))
      refine Lib.hid ?_
      go_wp2_with (first
        | (with_reducible refine wpList_load_aim (o := ⟨some 44, _, _, _, _, _⟩) rfl _ rfl rfl (R7.out.bel Hb3.out) ?_)
        | (with_reducible refine wpList_load_wor (o := ⟨some 45, _, _, _, _, _⟩) rfl _ rfl rfl B12e.out ?_)
        | (with_reducible refine wpList_load_wor (o := ⟨some 46, _, _, _, _, _⟩) rfl _ rfl rfl (R9.out.bel Hb3.out) ?_)
        | (go_at_call 53; refine (HBt.out _).mono ?_; rintro e wf ⟨rfl, hbf⟩; have Hb4 := Lib.hid (bel_tr Hb3.out hbf); have B11f := Lib.hid (B11e.out.bel hbf); have B12f := Lib.hid (B12e.out.bel hbf); clear hbf; refine hold ?_))
      refine Lib.hid ?_
      have Q2 := Lib.hid (r2.bel Hb4.out)
      have Q4 := Lib.hid (r4.bel Hb4.out)
      have Q7 := Lib.hid (r7.bel Hb4.out)
      have Q8 := Lib.hid (r8.bel Hb4.out)
      have Q9 := Lib.hid (r9.bel Hb4.out)
      have QR := Lib.hid (rr.bel Hb4.out)
      have Qb := Lib.hid (bel_tr Rb.out Hb4.out)
      clear r2 r4 r7 r8 r9 rr rb R2 R7 R9 Rb Hb1 Hb3 Hb4 B11 B11e B12e
      by_cases hpos : 0 < fst1 T
      · have Hst : Hid (pstep N t best f = f) := Lib.hid (by rw [Hps.out, if_pos hpos])
        have ip : decide (fst1 T > 0) = true := decide_eq_true hpos
        have ip2 : decide (0 < fst1 T) = true := decide_eq_true hpos
        generalize fst1 T = z at *
        clear hpos Hps
        go_wp2_with (fail)
        have n1 : g2 ≠ g8 ∧ g2 ≠ g9 ∧ g4 ≠ g8 ∧ g4 ≠ g9 ∧ g7 ≠ g8 ∧ g7 ≠ g9 ∧ g8 ≠ g9 ∧ b ≠ g8 ∧ b ≠ g9 ∧ w.heap.size ≤ g8 ∧ w.heap.size ≤ g9 := by omega
        have n2 : g11 ≠ g8 ∧ g11 ≠ g9 ∧ g12 ≠ g8 ∧ g12 ≠ g9 := by omega
        have HIf : Hid ((Tryz.prog.info? 42).map (·.size) = some (ifcL f).length) := Lib.hid (by rw [ifcL_len]; exact ifc_size)
        have HWf2 : Hid ((Tryz.prog.info? 80).map (·.size) = some (worL Wf).length) := Lib.hid (by rw [worL_len]; exact wor_size)
        have hdr : Below wf.heap.size wf wf.drew := (Below.refl _ _).drew
        apply region_cut0 (R := fun w' => ∃ wg, Stays g8 wf.drew wg ∧ Stays g9 wg w' ∧ Bk wg g8 42 (ifcA f) ∧ Bk w' g9 80 (worA Wf))
        case h =>
          have b11 := B11f.out.bel hdr
          have b12 := B12f.out.bel hdr
          have q8 := Q8.out.bel hdr
          have q9 := Q9.out.bel hdr
          refine wp_region_held (S := fun w' => w'.rangeAt g11 0 (ifcL f) ∧ w'.rangeAt g12 0 (worL Wf)) (by kernel_rfl) ?_
          refine wpAnyH_take (i := 0) (oi := ⟨some 52, Op.load 42 (Operand.tmp 11), _, _, _, none⟩) (v := Value.agg (ifcA f)) rfl (by kernel_rfl) (by kernel_rfl) (by kernel_rfl) (fun _ _ _ h => nomatch h.1) (yieldsIf_load_mid (by rfl) _ _ rfl _ _ rfl (ifcL f) _ (fun w' h => h.1) ifc_under rfl HIf.out) ⟨b11.range_ifc, b12.range_wor⟩ ?_
          simp only [Act.put, List.setIfInBounds_toArray, List.set_cons_zero, List.set_cons_succ]
          refine wpAnyH_take (i := 1) (oi := ⟨some 53, Op.load 80 (Operand.tmp 12), _, _, _, none⟩) (v := Value.agg (worA Wf)) rfl (by kernel_rfl) (by kernel_rfl) (by kernel_rfl) (fun _ _ _ h => nomatch h.1) (yieldsIf_load_mid (by rfl) _ _ rfl _ _ rfl (worL Wf) _ (fun w' h => h.2) wor_under rfl HWf2.out) ⟨b11.range_ifc, b12.range_wor⟩ ?_
          simp only [Act.put, List.setIfInBounds_toArray, List.set_cons_zero, List.set_cons_succ]
          refine wpAnyH_all (rs := [2]) (by kernel_rfl) (by decide) ?_
          intro i hi
          obtain rfl := List.mem_singleton.1 hi
          refine wpOp_of_list (o := ⟨none, Op.store 42 (Operand.tmp 8) (Operand.tmp 52), _, _, _, none⟩) rfl ?_
          refine wpList_store_ifc rfl _ _ rfl rfl rfl q8 ?_
          intro wg hB8g hSg
          have b11g := b11.stays hSg n2.1
          have b12g := b12.stays hSg n2.2.2.1
          have q9g := q9.stays hSg (Ne.symm n1.2.2.2.2.2.2.1)
          show _ ∧ _
          refine ⟨⟨b11g.range_ifc, b12g.range_wor⟩, ?_⟩
          simp only [Act.put]
          refine wpAnyH_all (rs := [3]) (by kernel_rfl) (by decide) ?_
          intro i hi
          obtain rfl := List.mem_singleton.1 hi
          refine wpOp_of_list (o := ⟨none, Op.store 80 (Operand.tmp 9) (Operand.tmp 53), _, _, _, none⟩) rfl ?_
          refine wpList_store_wor rfl _ _ rfl rfl rfl q9g ?_
          intro wh hB9h hSh
          show _ ∧ _
          refine ⟨⟨(b11g.stays hSh n2.2.1).range_ifc, (b12g.stays hSh n2.2.2.2).range_wor⟩, ?_⟩
          simp only [Act.put]
          refine wpAnyH_done (by kernel_rfl) ?_ _
          exact ⟨rfl, rfl, wg, hSg, hSh, hB8g, hB9h⟩
        case k =>
        rintro wh ⟨wg, hSg, hSh, hB8g, hB9h⟩
        go_wp2_with (fail)
        go_roundw
        case rel =>
          refine ⟨k + 1, f, by omega, by go_num, (Hbn.out.trans Hst.out).symm, ((Q2.out.bel hdr).stays hSg n1.1).stays hSh n1.2.1, ((Q4.out.bel hdr).stays hSg n1.2.2.1).stays hSh n1.2.2.2.1, ((Q7.out.bel hdr).stays hSg n1.2.2.2.2.1).stays hSh n1.2.2.2.2.2.1, hB8g.stays hSh n1.2.2.2.2.2.2.1, ?_, ((QR.out.bel hdr).stays2 hSg n1.2.2.2.2.2.2.2.1).stays2 hSh n1.2.2.2.2.2.2.2.2.1, ((bel_tr Qb.out hdr).trans (hSg.below n1.2.2.2.2.2.2.2.2.2.1)).trans (hSh.below n1.2.2.2.2.2.2.2.2.2.2)⟩
          rw [hWf]; exact hB9h
        case measure => simp [intOf]; omega
      · have Hst : Hid (pstep N t best f = best) := Lib.hid (by rw [Hps.out, if_neg hpos])
        have ip2 : decide (0 < fst1 T) = false := decide_eq_false hpos
        generalize fst1 T = z at *
        clear hpos Hps
        go_wp2_with (fail)
        go_roundw
        case rel =>
          refine ⟨k + 1, best, by omega, by go_num, (Hbn.out.trans Hst.out).symm, Q2.out, Q4.out, Q7.out, Q8.out, ?_, QR.out, Qb.out⟩
          rw [hWb]; exact Q9.out
        case measure => simp [intOf]; omega
    · have hkl : k = l.length := by omega
      subst hkl
      rw [List.take_length] at hbst
      rw [← hbst] at Hf
      have j0 : ¬ (l.length : Int) < (l.length : Int) := by omega
      have hw4 : w.heap.size ≤ g4 := by omega
      clear hbst
      go_wp2_with (first
        | (with_reducible refine wpList_load_ifc (o := ⟨some 55, _, _, _, _, _⟩) rfl _ rfl rfl r8 ?_)
        | ((with_reducible refine wpList_store_ifc (o := ⟨none, _, _, _, _, _⟩) rfl (.tmp 4) _ rfl rfl rfl r4 ?_); intro wz hB4z hSz))
      exact ret_ifcE Tryz.results29 rfl rfl hB4z rfl ⟨by rw [Hf.out]; rfl, rb.trans (hSz.below hw4)⟩
theorem pickS_any (vi vr vp : Value) (N : Nt) (d : Ad) (w : World) (hN : NetRaw w vi vr vp N) (hE : EnvS w) (hlI : N.I.length ≤ 1000000) (hlR : N.R.length ≤ 1000000) (hlP : N.P.length ≤ 1000000) :
    Calls Tryz.prog 29 #[.agg #[vi, vr, vp], .agg (adA d)] w (PickPost w (pickN N d)) := by
  cases h : ownN N d with
  | nil => exact pick_none vi vr vp N d w hN hlI hlR h
  | cons x l => exact pick_some vi vr vp N d w hN hE hlI hlR hlP x l h
end Go.Proofs.YthlnndjkocnfcaaGreatDoor

/- dest: what counts of an address; dest.order (printed by mk_dsb.py). -/
namespace Go.Proofs.YthlnndjkocnfcaaGreatDoor
open Go.RowKit
attribute [local go_sem] ba_get ext_take ext_drop ext_any ba_app

structure Dw where
  own : Bool
  scd : Bool
  dep : Bool
  hom : Bool
  lab : Bool
  prec : Int
  tun : Bool
  sco : Int
  fam : Int
  com : Int
  ok : (-9223372036854775808 ≤ prec ∧ prec ≤ 9223372036854775807) ∧ (-9223372036854775808 ≤ sco ∧ sco ≤ 9223372036854775807) ∧ (-9223372036854775808 ≤ fam ∧ fam ≤ 9223372036854775807) ∧ (-9223372036854775808 ≤ com ∧ com ≤ 9223372036854775807)
theorem Dw.same_iff {a b : Dw} : (a.own = b.own ∧ a.scd = b.scd ∧ a.dep = b.dep ∧ a.hom = b.hom ∧ a.lab = b.lab ∧ a.prec = b.prec ∧ a.tun = b.tun ∧ a.sco = b.sco ∧ a.fam = b.fam ∧ a.com = b.com) ↔ a = b := ⟨fun ⟨h0, h1, h2, h3, h4, h5, h6, h7, h8, h9⟩ => by cases a; cases b; simp only at h0 h1 h2 h3 h4 h5 h6 h7 h8 h9; subst h0 h1 h2 h3 h4 h5 h6 h7 h8 h9; rfl, fun h => by rw [h]; exact ⟨rfl, rfl, rfl, rfl, rfl, rfl, rfl, rfl, rfl, rfl⟩⟩
instance : DecidableEq Dw := fun _ _ => decidable_of_iff _ Dw.same_iff
def dwL (x : Dw) : List Value := [.bool x.own, .bool x.scd, .bool x.dep, .bool x.hom, .bool x.lab, .int .i64 x.prec, .bool x.tun, .int .i64 x.sco, .int .i64 x.fam, .int .i64 x.com]
def dwA (x : Dw) : Array Value := (dwL x).toArray
theorem dwL_len (x : Dw) : (dwL x).length = 10 := rfl
theorem dwA_size (x : Dw) : (dwA x).size = 10 := by unfold dwA; rw [List.size_toArray, dwL_len]
theorem dwA_0 (x : Dw) : (dwA x)[0]? = some (.bool x.own) := by rfl
theorem dwA_1 (x : Dw) : (dwA x)[1]? = some (.bool x.scd) := by rfl
theorem dwA_2 (x : Dw) : (dwA x)[2]? = some (.bool x.dep) := by rfl
theorem dwA_3 (x : Dw) : (dwA x)[3]? = some (.bool x.hom) := by rfl
theorem dwA_4 (x : Dw) : (dwA x)[4]? = some (.bool x.lab) := by rfl
theorem dwA_5 (x : Dw) : (dwA x)[5]? = some (.int .i64 x.prec) := by rfl
theorem dwA_6 (x : Dw) : (dwA x)[6]? = some (.bool x.tun) := by rfl
theorem dwA_7 (x : Dw) : (dwA x)[7]? = some (.int .i64 x.sco) := by rfl
theorem dwA_8 (x : Dw) : (dwA x)[8]? = some (.int .i64 x.fam) := by rfl
theorem dwA_9 (x : Dw) : (dwA x)[9]? = some (.int .i64 x.com) := by rfl
theorem dwL_one (x : Dw) : ∀ v ∈ dwL x, v.oneCell' = true := by
  intro v hv
  unfold dwL at hv
  simp at hv
  rcases hv with rfl | rfl | rfl | rfl | rfl | rfl | rfl | rfl | rfl | rfl <;> rfl
theorem dwA_one (x : Dw) : (dwA x).all (·.oneCell') = true := all_oneCell_toArray (dwL_one x)
theorem dw_under : Tryz.prog.underlying 49 = some (.struct (Tryz.prog.fieldsOf 49)) := by kernel_rfl
theorem dw_size : (Tryz.prog.info? 49).map (·.size) = some 10 := by kernel_rfl
theorem dw_size' (x : Dw) : (Tryz.prog.info? 49).map (·.size) = some (dwA x).size := by rw [dwA_size]; exact dw_size
def dw0 : Dw := ⟨false, false, false, false, false, 0, false, 0, 0, 0, by decide⟩
theorem dw_zero : ZeroIs Tryz.prog 49 (dwA dw0) := by unfold ZeroIs; kernel_rfl
theorem elt_dw : Elt Tryz.prog 63 49 10 48 := Elt.mk' (z := .agg (dwA dw0)) Tryz.underlying63 (by kernel_rfl) (by kernel_rfl) (by decide)
theorem wpList_alloc_dw {w : World} {ops : Array Oper} {rest : List Oper} {o : Oper} {a : Act} {Q : Exit → Act → World → Prop} (hgd : o.guard = none) (ho : o.op = .alloc 49)
    (h : ∀ g w', g = w.heap.size → Bk w' g 49 (dwA dw0) → Below w.heap.size w w' → w'.heap.size = g + 1 → wpList Tryz.prog ops Q rest (a.put o.dst (.pointer (some ⟨g, 0, none⟩))) w') : wpList Tryz.prog ops Q (o :: rest) a w :=
  wpList_allocZ hgd _ ho dw_zero h
theorem wpList_load_dw {w : World} {ops : Array Oper} {rest : List Oper} {o : Oper} {a : Act} {Q : Exit → Act → World → Prop} (hgd : o.guard = none) (x : Operand) (ho : o.op = .load 49 x) {g : Nat} (hx : a.eval x = .pointer (some ⟨g, 0, none⟩))
    {t : TypeId} {b : Dw} (hB : Bk w g t (dwA b)) (h : wpList Tryz.prog ops Q rest (a.put o.dst (.agg (dwA b))) w) : wpList Tryz.prog ops Q (o :: rest) a w :=
  wpList_loadB hgd _ x ho hx hB dw_under rfl (dw_size' b) h
theorem wpList_store_dw {w : World} {ops : Array Oper} {rest : List Oper} {o : Oper} {a : Act} {Q : Exit → Act → World → Prop} (hgd : o.guard = none) (x y : Operand) (ho : o.op = .store 49 x y) {g : Nat} {b c : Dw} (hx : a.eval x = .pointer (some ⟨g, 0, none⟩)) (hy : a.eval y = .agg (dwA b))
    {t : TypeId} (hB : Bk w g t (dwA c)) (h : ∀ w', Bk w' g t (dwA b) → Stays g w w' → wpList Tryz.prog ops Q rest (a.put o.dst undef) w') : wpList Tryz.prog ops Q (o :: rest) a w :=
  wpList_storeB hgd _ x y ho hx hy hB (dw_size' b) (by rw [dwA_size, dwA_size]) (dwA_one b) h
theorem wpList_loadM_dw {w : World} {ops : Array Oper} {rest : List Oper} {o : Oper} {a : Act} {Q : Exit → Act → World → Prop} (hgd : o.guard = none) (x : Operand) (ho : o.op = .load 49 x) {g off : Nat} (hx : a.eval x = .pointer (some ⟨g, off, none⟩))
    {b : Dw} (hB : w.rangeAt g off (dwL b)) (h : wpList Tryz.prog ops Q rest (a.put o.dst (.agg (dwA b))) w) : wpList Tryz.prog ops Q (o :: rest) a w :=
  wpList_load_mid hgd _ x ho g off hx (dwL b) _ hB dw_under rfl (by rw [dwL_len]; exact dw_size) h
theorem ret_dw {fn : Func} {p : Tmp} (h : fn.results = #[.cell p 49]) {R : Ending → World → Prop} {a : Act} {w : World} {g : Nat} {t : TypeId} {b : Dw}
    (hp : a.tmps.getD p undef = .pointer (some ⟨g, 0, none⟩)) (hB : Bk w g t (dwA b)) (hd : a.defers = []) (hR : R (.returned (.agg (dwA b))) w) : bodyPost Tryz.prog fn R .ret a w :=
  bodyPost_ret_by (results_cell_row h a.tmps w g t (dwA b) (0, 0) _ hp hB dw_under rfl (dw_size' b)) hd hR
theorem dw_fields : (Tryz.prog.fieldsOf 49).toList.map (fun f => (f.name == "_", f.type, f.offset)) = [(false, 4, 0), (false, 4, 1), (false, 4, 2), (false, 4, 3), (false, 4, 4), (false, 3, 5), (false, 4, 6), (false, 3, 7), (false, 3, 8), (false, 3, 9)] := by kernel_rfl
theorem part_dw_own (w : World) (x : Dw) : (part 4 (dwA x) 0).run Tryz.prog w = .ok (.bool x.own) w := by
  simp [part, isAgg, run_underlying Tryz.underlying4, dwA_0]
theorem part_dw_scd (w : World) (x : Dw) : (part 4 (dwA x) 1).run Tryz.prog w = .ok (.bool x.scd) w := by
  simp [part, isAgg, run_underlying Tryz.underlying4, dwA_1]
theorem part_dw_dep (w : World) (x : Dw) : (part 4 (dwA x) 2).run Tryz.prog w = .ok (.bool x.dep) w := by
  simp [part, isAgg, run_underlying Tryz.underlying4, dwA_2]
theorem part_dw_hom (w : World) (x : Dw) : (part 4 (dwA x) 3).run Tryz.prog w = .ok (.bool x.hom) w := by
  simp [part, isAgg, run_underlying Tryz.underlying4, dwA_3]
theorem part_dw_lab (w : World) (x : Dw) : (part 4 (dwA x) 4).run Tryz.prog w = .ok (.bool x.lab) w := by
  simp [part, isAgg, run_underlying Tryz.underlying4, dwA_4]
theorem part_dw_prec (w : World) (x : Dw) : (part 3 (dwA x) 5).run Tryz.prog w = .ok (.int .i64 x.prec) w := by
  simp [part, isAgg, run_underlying Tryz.underlying3, dwA_5]
theorem part_dw_tun (w : World) (x : Dw) : (part 4 (dwA x) 6).run Tryz.prog w = .ok (.bool x.tun) w := by
  simp [part, isAgg, run_underlying Tryz.underlying4, dwA_6]
theorem part_dw_sco (w : World) (x : Dw) : (part 3 (dwA x) 7).run Tryz.prog w = .ok (.int .i64 x.sco) w := by
  simp [part, isAgg, run_underlying Tryz.underlying3, dwA_7]
theorem part_dw_fam (w : World) (x : Dw) : (part 3 (dwA x) 8).run Tryz.prog w = .ok (.int .i64 x.fam) w := by
  simp [part, isAgg, run_underlying Tryz.underlying3, dwA_8]
theorem part_dw_com (w : World) (x : Dw) : (part 3 (dwA x) 9).run Tryz.prog w = .ok (.int .i64 x.com) w := by
  simp [part, isAgg, run_underlying Tryz.underlying3, dwA_9]
theorem run_dw_eq (w : World) (d : Nat) (a b : Dw) : (Op.equalIn (d + 5) 49 (.agg (dwA a)) (.agg (dwA b))).run Tryz.prog w = .ok (decide (a = b)) w := by
  rw [run_equalIn_struct w (d + 4) _ _ _ dw_under Tryz.stoodInHeld49]
  rw [eqFs_run (EqFs.cons (part_dw_own w a) (part_dw_own w b) (run_equalIn_bool w (d + 3) 4 a.own b.own Tryz.underlying4) (EqFs.cons (part_dw_scd w a) (part_dw_scd w b) (run_equalIn_bool w (d + 3) 4 a.scd b.scd Tryz.underlying4) (EqFs.cons (part_dw_dep w a) (part_dw_dep w b) (run_equalIn_bool w (d + 3) 4 a.dep b.dep Tryz.underlying4) (EqFs.cons (part_dw_hom w a) (part_dw_hom w b) (run_equalIn_bool w (d + 3) 4 a.hom b.hom Tryz.underlying4) (EqFs.cons (part_dw_lab w a) (part_dw_lab w b) (run_equalIn_bool w (d + 3) 4 a.lab b.lab Tryz.underlying4) (EqFs.cons (part_dw_prec w a) (part_dw_prec w b) (run_equalIn_int w (d + 3) 3 .i64 .i64 a.prec b.prec Tryz.underlying3) (EqFs.cons (part_dw_tun w a) (part_dw_tun w b) (run_equalIn_bool w (d + 3) 4 a.tun b.tun Tryz.underlying4) (EqFs.cons (part_dw_sco w a) (part_dw_sco w b) (run_equalIn_int w (d + 3) 3 .i64 .i64 a.sco b.sco Tryz.underlying3) (EqFs.cons (part_dw_fam w a) (part_dw_fam w b) (run_equalIn_int w (d + 3) 3 .i64 .i64 a.fam b.fam Tryz.underlying3) (EqFs.cons (part_dw_com w a) (part_dw_com w b) (run_equalIn_int w (d + 3) 3 .i64 .i64 a.com b.com Tryz.underlying3) (EqFs.nil))))))))))) _ dw_fields]
  refine congrArg (fun c => Result.ok c w) ?_
  rw [Bool.eq_iff_iff]
  simp [← Dw.same_iff]
theorem dw_eql (w : World) (a b : Dw) : (binOp .eql 49 (.agg (dwA a)) (.agg (dwA b))).run Tryz.prog w = .ok (.bool (decide (a = b))) w := by
  rw [run_eql_struct, run_dw_eq w 9995 a b]; rfl
theorem wpList_eql_dw {w : World} {ops : Array Oper} {rest : List Oper} {o : Oper} {a : Act} {Q : Exit → Act → World → Prop} (hgd : o.guard = none) (x y : Operand) {t : TypeId} (ho : o.op = .binOp .eql 49 x y t) {b c : Dw} (hx : a.eval x = .agg (dwA b)) (hy : a.eval y = .agg (dwA c))
    (h : wpList Tryz.prog ops Q rest (a.put o.dst (.bool (decide (b = c)))) w) : wpList Tryz.prog ops Q (o :: rest) a w := by
  refine wpList_plain hgd fun _ hK => ?_
  unfold Oper.wp execOp
  simp only [ho, hx, hy, Sem.run_bind, run_eqGuard_agg w .eql 49 x y _ _ Tryz.eqGuardType49, Result.andThen_ok, dw_eql]
  exact hK _ _ h
theorem built_dw (p : Int) (t : Bool) (s f : Int) (h : (-9223372036854775808 ≤ p ∧ p ≤ 9223372036854775807) ∧ (-9223372036854775808 ≤ s ∧ s ≤ 9223372036854775807) ∧ (-9223372036854775808 ≤ f ∧ f ≤ 9223372036854775807) ∧ (-9223372036854775808 ≤ (0 : Int) ∧ (0 : Int) ≤ 9223372036854775807)) : Tryz.prog.built 49 [(5, .int .i64 p), (6, .bool t), (7, .int .i64 s), (8, .int .i64 f)] = some (dwA ⟨false, false, false, false, false, p, t, s, f, 0, h⟩) := by kernel_rfl
set_option maxRecDepth 100000 in
theorem dorder_any (a b : Bool) (w : World) : Calls Tryz.prog 24 #[.bool a, .bool b] w (InPost w (ordB a b)) := by
  cases a <;> cases b
  all_goals
    go_enter Tryz.func24, Tryz.ntmps24
    go_wp2
    go_ret
    exact ⟨rfl, Below.refl _ _⟩
/-- what tells one address from another. -/
def dtelL (a b : Dw) : List Int := [ordB a.own b.own, ordB a.scd b.scd, ordB b.dep a.dep, ordB a.hom b.hom, ordB a.lab b.lab, cmpI a.prec b.prec, ordB b.tun a.tun, cmpI b.sco a.sco, if a.fam = b.fam then cmpI a.com b.com else 0]
def dbet (a b : Dw) : Int × Int := (fst1 (dtelL a b), if fst1 (dtelL a b) = 0 then 10 else fstI (dtelL a b) 0)
theorem dtelL_neg (a b : Dw) : ∀ i, (dtelL b a).getD i 0 = - (dtelL a b).getD i 0 := by
  intro i
  match i with
  | 0 => exact ordB_neg _ _
  | 1 => exact ordB_neg _ _
  | 2 => exact ordB_neg _ _
  | 3 => exact ordB_neg _ _
  | 4 => exact ordB_neg _ _
  | 5 => exact cmpI_neg _ _
  | 6 => exact ordB_neg _ _
  | 7 => exact cmpI_neg _ _
  | 8 =>
    show (if b.fam = a.fam then cmpI b.com a.com else 0) = - (if a.fam = b.fam then cmpI a.com b.com else 0)
    by_cases h : a.fam = b.fam
    · rw [if_pos h, if_pos h.symm]; exact cmpI_neg _ _
    · rw [if_neg h, if_neg (fun k => h k.symm)]; rfl
  | n + 9 => simp [dtelL]
theorem dbet_neg (a b : Dw) : (dbet b a).1 = - (dbet a b).1 ∧ (dbet b a).2 = (dbet a b).2 := by
  obtain ⟨h1, h2⟩ := fst1_neg (dtelL a b) (dtelL b a) 0 rfl (dtelL_neg a b)
  refine ⟨h1, ?_⟩
  show (if fst1 (dtelL b a) = 0 then (10 : Int) else fstI (dtelL b a) 0) = if fst1 (dtelL a b) = 0 then 10 else fstI (dtelL a b) 0
  rw [h1, h2]
  by_cases h : fst1 (dtelL a b) = 0
  · rw [if_pos h, if_pos (by omega)]
  · rw [if_neg h, if_neg (by omega)]
theorem dbet_self (a : Dw) : dbet a a = (0, 10) := by
  have h1 := (dbet_neg a a).1
  have h0 : fst1 (dtelL a a) = 0 := by
    have : (dbet a a).1 = fst1 (dtelL a a) := rfl
    rw [this] at h1
    omega
  unfold dbet
  rw [if_pos h0, h0]
end Go.Proofs.YthlnndjkocnfcaaGreatDoor

/- Sorting by putting in, in plain words. No walk here. -/
namespace Go.Proofs.YthlnndjkocnfcaaGreatDoor

/-- whether the one ahead lets it pass. -/
def passB {α : Type} (m : α → α → Int) (x : α) (P : List α) (n : Nat) : Bool := match P[n]? with
  | some y => decide (0 < m x y)
  | none => false
/-- where one goes: behind the last one than which it is no better. -/
def goF {α : Type} (m : α → α → Int) (x : α) (P : List α) : Nat → Nat
  | 0 => 0
  | n + 1 => if passB m x P n = true then goF m x P n else n + 1
def insF {α : Type} (m : α → α → Int) (x : α) (P : List α) : List α := P.take (goF m x P P.length) ++ x :: P.drop (goF m x P P.length)
/-- the order of a list. -/
def ordF {α : Type} (m : α → α → Int) (l : List α) : List α := l.foldl (fun P x => insF m x P) []
section
variable {α : Type}
theorem goF_le (m : α → α → Int) (x : α) (P : List α) : ∀ n, goF m x P n ≤ n
  | 0 => Nat.le_refl _
  | n + 1 => by
    rw [goF]
    split
    · exact Nat.le_succ_of_le (goF_le m x P n)
    · exact Nat.le_refl _
theorem goF_pos (m : α → α → Int) (x : α) (P : List α) : ∀ n k, goF m x P n = k + 1 → passB m x P k = false
  | 0, k, h => by cases h
  | n + 1, k, h => by
    rw [goF] at h
    split at h
    · exact goF_pos m x P n k h
    · next hp =>
      have : n = k := by omega
      subst this
      exact Bool.eq_false_iff.2 hp
theorem goF_pass (m : α → α → Int) (x : α) (P : List α) : ∀ n k, goF m x P n ≤ k → k < n → passB m x P k = true
  | 0, k, _, h => by omega
  | n + 1, k, h, h2 => by
    rw [goF] at h
    split at h
    · next hp =>
      by_cases hk : k = n
      · rw [hk]; exact hp
      · exact goF_pass m x P n k h (by omega)
    · omega
theorem insF_perm (m : α → α → Int) (x : α) (P : List α) : (insF m x P).Perm (x :: P) := by
  unfold insF
  refine List.perm_middle.trans ?_
  rw [List.take_append_drop]
theorem ordF_perm (m : α → α → Int) (l : List α) : (ordF m l).Perm l := by
  have : ∀ (l P : List α), (l.foldl (fun P x => insF m x P) P).Perm (P ++ l) := by
    intro l
    induction l with
    | nil => intro P; rw [List.append_nil]; exact List.Perm.refl _
    | cons x l ih =>
      intro P
      rw [List.foldl_cons]
      refine (ih _).trans ?_
      exact ((insF_perm m x P).append_right l).trans List.perm_middle.symm
  exact this l []
theorem ordF_len (m : α → α → Int) (l : List α) : (ordF m l).length = l.length := (ordF_perm m l).length_eq
/-- none is better than the one right ahead of it. -/
def Steps (m : α → α → Int) (P : List α) : Prop := ∀ i x y, P[i]? = some x → P[i + 1]? = some y → m y x ≤ 0
theorem Steps.ins {m : α → α → Int} (hn : ∀ a b, m b a = - m a b) {P : List α} (h : Steps m P) (x : α) : Steps m (insF m x P) := by
  intro i a b ha hb
  unfold insF at ha hb
  have hg := goF_le m x P P.length
  have hp1 := goF_pos m x P P.length
  have hp2 := goF_pass m x P P.length
  generalize goF m x P P.length = g at *
  have hl : (P.take g).length = g := by rw [List.length_take]; omega
  have look : ∀ j, (P.take g ++ x :: P.drop g)[j]? = if j < g then P[j]? else if j = g then some x else P[j - 1]? := by
    intro j
    by_cases h1 : j < g
    · rw [if_pos h1, List.getElem?_append_left (by omega), List.getElem?_take_of_lt h1]
    · rw [if_neg h1, List.getElem?_append_right (by omega), hl]
      by_cases h2 : j = g
      · rw [if_pos h2, h2, Nat.sub_self]; rfl
      · rw [if_neg h2]
        obtain ⟨t, ht⟩ : ∃ t, j - g = t + 1 := ⟨j - g - 1, by omega⟩
        rw [ht, List.getElem?_cons_succ, List.getElem?_drop]
        congr 1
        omega
  rw [look] at ha hb
  by_cases h1 : i + 1 < g
  · rw [if_pos (by omega)] at ha
    rw [if_pos h1] at hb
    exact h i a b ha hb
  · rw [if_neg h1] at hb
    by_cases h2 : i + 1 = g
    · rw [if_pos h2] at hb
      rw [if_pos (by omega)] at ha
      have h3 := hp1 i (by omega)
      unfold passB at h3
      rw [ha] at h3
      injection hb with hb
      subst hb
      have : ¬ 0 < m x a := of_decide_eq_false h3
      omega
    · rw [if_neg h2] at hb
      rw [if_neg (by omega)] at ha
      by_cases h4 : i = g
      · rw [if_pos h4] at ha
        injection ha with ha
        subst ha
        have hlt : i < P.length := by
          rw [show i + 1 - 1 = i by omega] at hb
          obtain ⟨h5, _⟩ := List.getElem?_eq_some_iff.1 hb
          exact h5
        have h3 := hp2 i (by omega) hlt
        unfold passB at h3
        rw [show i + 1 - 1 = i by omega] at hb
        rw [hb] at h3
        have h5 : 0 < m x b := of_decide_eq_true h3
        have := hn x b
        omega
      · rw [if_neg h4] at ha
        refine h (i - 1) a b ha ?_
        rw [show i - 1 + 1 = i + 1 - 1 by omega]
        exact hb
theorem ordF_steps {m : α → α → Int} (hn : ∀ a b, m b a = - m a b) (l : List α) : Steps m (ordF m l) := by
  have : ∀ (l P : List α), Steps m P → Steps m (l.foldl (fun P x => insF m x P) P) := by
    intro l
    induction l with
    | nil => intro P h; exact h
    | cons x l ih => intro P h; rw [List.foldl_cons]; exact ih _ (h.ins hn x)
  exact this l [] (by intro i x y h; simp at h)
theorem ordF_stays {m : α → α → Int} (l : List α) (h : Steps m l) : ordF m l = l := by
  have : ∀ (l P : List α), Steps m (P ++ l) → l.foldl (fun P x => insF m x P) P = P ++ l := by
    intro l
    induction l with
    | nil => intro P h; rw [List.append_nil]; rfl
    | cons x l ih =>
      intro P h
      rw [List.foldl_cons]
      have hi : insF m x P = P ++ [x] := by
        have hg : goF m x P P.length = P.length := by
          cases hp : P.length with
          | zero => rfl
          | succ n =>
            rw [goF, if_neg]
            have hlt : n < P.length := by omega
            have h1 : (P ++ x :: l)[n]? = some P[n] := by rw [List.getElem?_append_left hlt, List.getElem?_eq_getElem hlt]
            have h2 : (P ++ x :: l)[n + 1]? = some x := by rw [List.getElem?_append_right (by omega), show n + 1 - P.length = 0 by omega]; rfl
            have h3 := h n _ _ h1 h2
            unfold passB
            rw [List.getElem?_eq_getElem hlt]
            intro k
            have : 0 < m x P[n] := of_decide_eq_true k
            omega
        unfold insF
        rw [hg, List.take_length, List.drop_length]
      rw [hi, ih]
      · simp
      · simpa using h
  have h2 := this l [] (by simpa using h)
  simpa [ordF] using h2
end
/-- addresses that no rule tells apart. -/
theorem dtel_thr {a b c : Dw} (h1 : a.fam = b.fam) (h2 : b.fam = c.fam) : Thr (fst1 (dtelL a b)) (fst1 (dtelL b c)) (fst1 (dtelL a c)) := by
  refine thr_fst _ _ _ rfl rfl fun i => ?_
  match i with
  | 0 => exact thr_b _ _ _
  | 1 => exact thr_b _ _ _
  | 2 => show Thr (ordB b.dep a.dep) (ordB c.dep b.dep) (ordB c.dep a.dep); cases a.dep <;> cases b.dep <;> cases c.dep <;> simp [Thr, ordB]
  | 3 => exact thr_b _ _ _
  | 4 => exact thr_b _ _ _
  | 5 => exact thr_i _ _ _
  | 6 => show Thr (ordB b.tun a.tun) (ordB c.tun b.tun) (ordB c.tun a.tun); cases a.tun <;> cases b.tun <;> cases c.tun <;> simp [Thr, ordB]
  | 7 =>
    have := thr_i a.sco b.sco c.sco
    have e1 := cmpI_neg a.sco b.sco
    have e2 := cmpI_neg b.sco c.sco
    have e3 := cmpI_neg a.sco c.sco
    show Thr (cmpI b.sco a.sco) (cmpI c.sco b.sco) (cmpI c.sco a.sco)
    rw [e1, e2, e3]
    unfold Thr at *
    omega
  | 8 =>
    show Thr (if a.fam = b.fam then _ else _) (if b.fam = c.fam then _ else _) (if a.fam = c.fam then _ else _)
    rw [if_pos h1, if_pos h2, if_pos (h1.trans h2)]
    exact thr_i _ _ _
  | n + 9 => simp [dtelL, Thr]
theorem dbet_alike {a b c : Dw} (h1 : (dbet a c).1 = 0) (h2 : (dbet b c).1 = 0) (f1 : a.fam = c.fam) (f2 : b.fam = c.fam) : (dbet a b).1 = 0 := by
  have h3 : fst1 (dtelL a c) = 0 := h1
  have h4 : fst1 (dtelL c b) = 0 := by have := (dbet_neg b c).1; have h5 : (dbet c b).1 = fst1 (dtelL c b) := rfl; omega
  have h5 := (dtel_thr f1 f2.symm).1 h3
  show fst1 (dtelL a b) = 0
  rw [h5, h4]
end Go.Proofs.YthlnndjkocnfcaaGreatDoor

/- Rows of structs of one's own: looked into, stored into; putting in by swaps, in plain words. -/
namespace Go.Proofs.YthlnndjkocnfcaaGreatDoor
open Go.RowKit

section
variable {α : Type} {f : α → List Value} {size base n c g off : Nat} {e : TypeId} {w w' : World} {v : Value} {R : List α}
/-- one's own row at a block's beginning. -/
theorem own_head (h : w.ownsRow base e size v R.length (R.flatMap f)) (hp : 0 < R.length) : ∃ g c off, v = .slice (some ⟨g, off, none⟩) R.length c ∧ off = 0 ∧ base ≤ g ∧ g < w.heap.size ∧ R.length ≤ c := by
  rcases h.2 with ⟨_, h0⟩ | ⟨g, c, cur, rfl, hb, hg, hc, _⟩
  · omega
  · exact ⟨g, c, 0, rfl, rfl, hb, (Array.getElem?_eq_some_iff.1 hg).1, hc⟩
theorem own_block (h0 : off = 0) (h : w.ownsRow base e size (.slice (some ⟨g, off, none⟩) n c) R.length (R.flatMap f)) : ∃ tl, Bk w g e (R.flatMap f ++ tl).toArray ∧ n = R.length ∧ base ≤ g ∧ n ≤ c ∧ c ≤ maxLen ∧ (R.flatMap f ++ tl).length = c * size := by
  subst h0
  rcases h.2 with ⟨h1, _⟩ | ⟨g', c', cur, hv, hb, hg, hc, hm, hs, ht⟩
  · cases h1
  · injection hv with hv1 hv2 hv3
    injection hv1 with hv1
    injection hv1 with hv1
    subst hv1 hv2 hv3
    refine ⟨cur.toList.drop (R.length * size), ?_, rfl, hb, hc, hm, ?_⟩
    · rw [← ht, List.take_append_drop]
      exact hg
    · rw [← ht, List.take_append_drop]
      simpa using hs
theorem own_range (hf : ∀ x, (f x).length = size) (h0 : off = 0) (h : w.ownsRow base e size (.slice (some ⟨g, off, none⟩) n c) R.length (R.flatMap f)) {k : Nat} (hk : k < R.length) : w.rangeAt g (off + k * size) (f R[k]) := by
  obtain ⟨tl, hB, _⟩ := own_block h0 h
  rw [h0, Nat.zero_add]
  exact RowB.range (f := f) hf ⟨tl, hB⟩ hk
theorem grown_of_stays {k : Nat} (h : Stays k w w') : w.grownBy w' (some k) := ⟨h.os, h.tape, h.output, Nat.le_of_eq h.size.symm, fun i _ hi => h.block i (fun k => hi (by rw [k]))⟩
theorem own_apart {k : Nat} {m : Nat} {xs : List Value} (h : w.ownsRow base e size (.slice (some ⟨g, off, none⟩) n c) m xs) (hs : Stays k w w') (hne : g ≠ k) : w'.ownsRow base e size (.slice (some ⟨g, off, none⟩) n c) m xs :=
  h.kept (grown_of_stays hs) (.inr (by simp [Value.ownBlock, hne]))
/-- a member is stored. -/
theorem own_put (hf : ∀ x, (f x).length = size) (h0 : off = 0) (h : w.ownsRow base e size (.slice (some ⟨g, off, none⟩) n c) R.length (R.flatMap f)) {k : Nat} (hk : k < R.length) (u : α) {cur : Array Value} (hcur : Bk w g e cur) (hB : Bk w' g e (splA cur (off + k * size) (f u))) :
    w'.ownsRow base e size (.slice (some ⟨g, off, none⟩) n c) R.length ((R.set k u).flatMap f) := by
  obtain ⟨tl, hT, hn, hb, hc, hm, hl⟩ := own_block h0 h
  subst h0
  have hcu : cur = (R.flatMap f ++ tl).toArray := by
    have : some (Obj.cells cur e (0, 0)) = some (Obj.cells (R.flatMap f ++ tl).toArray e (0, 0)) := hcur.symm.trans hT
    injection this with this
    injection this
  rw [Nat.zero_add, hcu, rows_spl f hf tl u R k hk] at hB
  have hl2 : ((R.set k u).flatMap f).length = R.length * size := by rw [rows_off f hf, List.length_set]
  have hl1 : (R.flatMap f).length = R.length * size := rows_off f hf R
  refine ⟨hl2, .inr ⟨g, c, _, by rw [hn], hb, hB, by omega, hm, ?_, ?_⟩⟩
  · rw [List.size_toArray, List.length_append, hl2]
    rw [List.length_append, hl1] at hl
    exact hl
  · show List.take (R.length * size) ((R.set k u).flatMap f ++ tl) = _
    rw [← hl2, List.take_left]
theorem wpList_storeO {P : Program} {ops : Array Oper} {rest : List Oper} {o : Oper} {a : Act} {Q : Exit → Act → World → Prop} (hf : ∀ x, (f x).length = size) (hgd : o.guard = none) (ty : TypeId) (x y : Operand) (ho : o.op = .store ty x y) {k : Nat} {u : α} (hx : a.eval x = .pointer (some ⟨g, off + k * size, none⟩)) (hy : a.eval y = .agg (f u).toArray)
    (h0 : off = 0) (hB : w.ownsRow base e size (.slice (some ⟨g, off, none⟩) n c) R.length (R.flatMap f)) (hk : k < R.length) (hi : (P.info? ty).map (·.size) = some size) (h1 : (f u).toArray.all (·.oneCell') = true)
    (h : ∀ w', w'.ownsRow base e size (.slice (some ⟨g, off, none⟩) n c) (R.set k u).length ((R.set k u).flatMap f) → Stays g w w' → wpList P ops Q rest (a.put o.dst undef) w') : wpList P ops Q (o :: rest) a w := by
  obtain ⟨tl, hT, _⟩ := own_block h0 hB
  have hl1 : (R.flatMap f).length = R.length * size := rows_off f hf R
  refine wpList_storeM hgd ty x y ho hx hy hT (by rw [List.size_toArray, hf]; exact hi) ?_ h1 fun w' hB' hS => h w' (by rw [List.length_set]; exact own_put hf h0 hB hk u hT (by simpa using hB')) hS
  rw [List.size_toArray, List.size_toArray, List.length_append, hl1, hf, h0]
  have := Nat.mul_le_mul_right size hk
  rw [Nat.succ_mul] at this
  omega
end

/-! ### putting in, by swaps -/
/-- P with x behind its first j, then Y. -/
def midS {α : Type} (P : List α) (x : α) (j : Nat) (Y : List α) : List α := P.take j ++ x :: (P.drop j ++ Y)
section
variable {α β : Type} {P Y : List α} {x : α} {j : Nat}
theorem midS_len : (midS P x j Y).length = P.length + 1 + Y.length := by
  unfold midS
  simp only [List.length_append, List.length_take, List.length_cons, List.length_drop]
  omega
theorem midS_at (h : j ≤ P.length) (hl : j < (midS P x j Y).length) : (midS P x j Y)[j] = x := by
  have : (midS P x j Y)[j]? = some x := by
    unfold midS
    rw [List.getElem?_append_right (by rw [List.length_take]; omega)]
    simp [Nat.min_eq_left h]
  exact (List.getElem?_eq_some_iff.1 this).2
theorem midS_below (h : j + 1 ≤ P.length) (hl : j < (midS P x (j + 1) Y).length) : (midS P x (j + 1) Y)[j] = P[j] := by
  have : (midS P x (j + 1) Y)[j]? = some P[j] := by
    unfold midS
    rw [List.getElem?_append_left (by rw [List.length_take]; omega), List.getElem?_take_of_lt (by omega), List.getElem?_eq_getElem]
  exact (List.getElem?_eq_some_iff.1 this).2
theorem midS_swap (h : j + 1 ≤ P.length) : ((midS P x (j + 1) Y).set (j + 1) P[j]).set j x = midS P x j Y := by
  have e : P.take (j + 1) = P.take j ++ [P[j]] := List.take_succ_eq_append_getElem h
  have l1 : (P.take j).length = j := by rw [List.length_take]; omega
  unfold midS
  rw [e, List.append_assoc, List.set_append_right _ _ (by omega), l1, show j + 1 - j = 1 by omega, List.set_append_right _ _ (by omega), l1, Nat.sub_self]
  simp only [List.cons_append, List.nil_append, List.set_cons_succ, List.set_cons_zero]
  rw [List.drop_eq_getElem_cons (show j < P.length by omega)]
  rfl
theorem midS_top : midS P x P.length Y = P ++ x :: Y := by
  unfold midS
  rw [List.take_length, List.drop_length, List.nil_append]
theorem midS_ins (m : α → α → Int) : midS P x (goF m x P P.length) Y = insF m x P ++ Y := by
  unfold midS insF
  rw [List.append_assoc]
  rfl
theorem midS_ins_map {β : Type} (W : α → β) (m : α → α → Int) (Z : List β) : midS (P.map W) (W x) (goF m x P P.length) Z = (insF m x P).map W ++ Z := by
  unfold midS insF
  rw [List.map_append, List.map_cons, List.map_take, List.map_drop, List.append_assoc]
  rfl
theorem goF_stop {m : α → α → Int} {n : Nat} (h : (passB m x P n) = false) : goF m x P (n + 1) = n + 1 := by
  rw [goF, if_neg (by rw [h]; decide)]
theorem goF_on {m : α → α → Int} {n : Nat} (h : (passB m x P n) = true) : goF m x P (n + 1) = goF m x P n := by
  rw [goF, if_pos h]
theorem passB_at {m : α → α → Int} {n : Nat} (h : n < P.length) : passB m x P n = decide (0 < m x P[n]) := by
  unfold passB
  rw [List.getElem?_eq_getElem h]
theorem ordF_snoc (m : α → α → Int) (l : List α) {k : Nat} (h : k < l.length) : ordF m (l.take (k + 1)) = insF m l[k] (ordF m (l.take k)) := by
  unfold ordF
  rw [List.take_succ_eq_append_getElem h, List.foldl_append]
  rfl
theorem ordF_take_len (m : α → α → Int) (l : List α) {k : Nat} (h : k ≤ l.length) : (ordF m (l.take k)).length = k := by
  rw [ordF_len, List.length_take]
  omega
end
end Go.Proofs.YthlnndjkocnfcaaGreatDoor

/- slices.Clone of addresses; make of what counts. -/
namespace Go.Proofs.YthlnndjkocnfcaaGreatDoor
open Go.RowKit
attribute [local go_sem] ba_get ext_take ext_drop ext_any ba_app

/-- addresses of one's own come back. -/
def AdsPost (w : World) (L : List Ad) (e : Ending) (w' : World) : Prop := ∃ v, e = .returned v ∧ w'.ownsRow w.heap.size 29 18 v L.length (L.flatMap adL) ∧ Below w.heap.size w w'
theorem wpList_lit0 {P : Program} {ops : Array Oper} {rest : List Oper} {o : Oper} {a : Act} {w : World} {Q : Exit → Act → World → Prop} (hg : o.guard = none) (t : TypeId) (ho : o.op = .buildSlice t 0 #[])
    {e : TypeId} {size bytes : Nat} (el : Elt P t e size bytes)
    (h : ∀ w', w'.ownsRow w.heap.size e size (.slice (some ⟨w.heap.size, 0, none⟩) 0 0) 0 [] → Below w.heap.size w w' → w'.heap.size = w.heap.size + 1 → wpList P ops Q rest (a.put o.dst (.slice (some ⟨w.heap.size, 0, none⟩) 0 0)) w') : wpList P ops Q (o :: rest) a w := by
  obtain ⟨i, z, hi, hz, hz1, hz2, hz3⟩ := el.info
  refine wpList_plain hg fun _ hK => ?_
  have hr : (Instr.buildSlice t 0 #[]).run P w = .ok (.slice (some ⟨w.heap.size, 0, none⟩) 0 0) (w.alloc (.cells #[] e)) := by
    simp [Instr.buildSlice, run_underlying el.under, sizeOf, typeInfo, hi, Instr.fill, newRow]
    rw [show Array.range 0 = #[] by first | rfl | decide | simp, Array.map_empty]
  unfold Oper.wp
  simp only [execOp, ho, List.map_toArray, List.map_nil, hr, Sem.run_bind, Result.andThen_ok]
  exact hK _ _ (h _ (World.ownsRow_made w #[] 0 (Nat.le_refl _) (by decide) (by simp)) ((Below.refl _ _).alloc (Nat.le_refl _) _) (by simp))
theorem ads_nil (w : World) (A : Option Addr) (n c : Nat) : (binOp .eql 35 (.slice A n c) (.slice none 0 0)).run Tryz.prog w = .ok (.bool A.isNone) w := by
  have he : (Op.equal 35 (.slice A n c) (.slice none 0 0)).run Tryz.prog w = .ok A.isNone w := by
    unfold Op.equal
    show (Op.equalIn (9999 + 1) 35 (.slice A n c) (.slice none 0 0)).run Tryz.prog w = _
    unfold Op.equalIn
    rw [Sem.run_bind, run_underlying elt_ads.under]
    cases A <;> rfl
  show (do pure (Value.bool (← Op.equal 35 (.slice A n c) (.slice none 0 0))) : Sem Value).run Tryz.prog w = _
  rw [Sem.run_bind, he]
  rfl
attribute [local go_sem] ads_nil
set_option maxRecDepth 100000 in
theorem rclone_any (v : Value) (l : List Ad) (w : World) (h : Sl w 18 v l.length (l.flatMap adL)) (hl : l.length ≤ 1000000) :
    Calls Tryz.prog 23 #[v] w (AdsPost w l) := by
  obtain ⟨A, c, rfl, hc⟩ := h.any
  have H := Lib.hid h
  cases A with
  | none =>
    have hn : l.length = 0 := by
      obtain ⟨_, A, c', hv, hcl, hA, _⟩ := h
      injection hv with h1
      have := hA h1.symm
      omega
    have hnil : l = [] := List.eq_nil_of_length_eq_zero hn
    subst hnil
    clear h
    go_enter Tryz.func23, Tryz.ntmps23
    go_wp2
    go_ret
    exact ⟨_, rfl, World.ownsRow_nil _ _ _ _, Below.refl _ _⟩
  | some p =>
    clear h
    generalize hn : l.length = n at *
    go_enter Tryz.func23, Tryz.ntmps23
    go_wp2_with (first
      | ((with_reducible show wpList _ _ _ (⟨some 5, _, _, _, _, _⟩ :: _) _ _); refine wpList_lit0 (o := ⟨some 5, _, _, _, _, _⟩) rfl _ rfl elt_ads ?_; intro w1 ho1 hb1 hs1)
      | (at_builtin; refine wpList_app rfl (.tmp 5) (.tmp 6) _ rfl elt_ads rfl ho1 rfl (H.out.below hb1) (fun u hu => by obtain ⟨x, _, hx⟩ := List.mem_flatMap.1 hu; exact adL_one x u hx) hb1.size (by omega) (by omega) ?_; intro v7 w7 ho7 hb7 hg7))
    go_ret
    refine ⟨_, rfl, ?_, hb1.trans hb7⟩
    rw [hn]
    simpa using ho7
theorem dw0_zero : (Tryz.prog.info? 49).map (fun i => (i.zero, i.size, i.bytes)) = some (some (.agg (dwA dw0)), 10, 48) := by kernel_rfl
theorem made_rows (z : List Value) : ∀ n : Nat, 0 < z.length → (madeCells z.toArray (n * z.length)).toList = (List.replicate n z).flatten := by
  intro n hz
  refine List.ext_getElem? fun j => ?_
  unfold madeCells
  rw [Array.toList_map, Array.toList_range, List.getElem?_map]
  induction n generalizing j with
  | zero => simp
  | succ n ih =>
    rw [List.replicate_succ, List.flatten_cons]
    by_cases hj : j < z.length
    · rw [List.getElem?_append_left hj, List.getElem?_range (by have := Nat.le_mul_of_pos_left z.length (show 0 < n + 1 by omega); omega)]
      simp [Nat.mod_eq_of_lt hj, hj]
    · rw [List.getElem?_append_right (by omega), ← ih (j - z.length)]
      by_cases hk : j < (n + 1) * z.length
      · have hk2 : j - z.length < n * z.length := by rw [Nat.succ_mul] at hk; omega
        rw [List.getElem?_range hk, List.getElem?_range hk2]
        simp only [Option.map_some, List.size_toArray]
        rw [show j % z.length = (j - z.length) % z.length by rw [← Nat.mod_eq_sub_mod (by omega)]]
      · have hk2 : ¬ j - z.length < n * z.length := by rw [Nat.succ_mul] at hk; omega
        rw [List.getElem?_eq_none (by simpa using hk), List.getElem?_eq_none (by simpa using hk2)]
theorem made_dw (n : Nat) : (madeCells (Value.agg (dwA dw0)).cells (n * 10)).toList = (List.replicate n dw0).flatMap dwL := by
  have h := made_rows (dwL dw0) n (by decide)
  rw [show (dwL dw0).length = 10 from rfl] at h
  have : (List.replicate n dw0).flatMap dwL = (List.replicate n (dwL dw0)).flatten := by rw [List.flatMap_def, List.map_replicate]
  rw [this]
  exact h
theorem wpList_makeDw {w : World} {ops : Array Oper} {rest : List Oper} {o : Oper} {a : Act} {Q : Exit → Act → World → Prop} (hg : o.guard = none) (l c : Operand) (hop : o.op = Op.makeSlice 63 l c) {kl kc : IntKind} {L C : Int} (n : Nat) (hl : a.eval l = .int kl L) (hc : a.eval c = .int kc C) (hL : L = (n : Int)) (hC : C = (n : Int)) (hn : n ≤ 1000000)
    (h : ∀ v' w', w'.ownsRow w.heap.size 49 10 v' (List.replicate n dw0).length ((List.replicate n dw0).flatMap dwL) → Below w.heap.size w w' → wpList Tryz.prog ops Q rest (a.put o.dst v') w') : wpList Tryz.prog ops Q (o :: rest) a w := by
  obtain ⟨i, hi, hz, hs, hb⟩ := info_parts dw0_zero
  refine wpList_make_full w hg l c _ hop w.heap.size _ i _ 10 elt_dw.under hi hz hs kl kc L C n hl hc hL hC (by rw [hb]; omega) (by unfold maxLen; omega) (Nat.le_refl _) fun w' ho hgr => h _ w' ?_ ((Below.refl _ _).grown hgr (Nat.le_refl _) (fun k hk => by cases hk))
  rw [List.length_replicate]
  rw [made_dw] at ho
  exact ho
end Go.Proofs.YthlnndjkocnfcaaGreatDoor

/- dest.better (printed by mk_dsc.py). -/
namespace Go.Proofs.YthlnndjkocnfcaaGreatDoor
open Go.RowKit
attribute [local go_sem] ba_get ext_take ext_drop ext_any ba_app

theorem i9_under : Tryz.prog.underlying 60 = some (.array 9 3) := by kernel_rfl
theorem i9_size : (Tryz.prog.info? 60).map (·.size) = some 9 := by kernel_rfl
theorem i9_zero : ZeroIs Tryz.prog 60 (giA [0, 0, 0, 0, 0, 0, 0, 0, 0]) := by unfold ZeroIs; kernel_rfl
theorem built_i9 (a b c d e f g h : Int) : Tryz.prog.built 60 [(0, .int .i64 a), (1, .int .i64 b), (2, .int .i64 c), (3, .int .i64 d), (4, .int .i64 e), (5, .int .i64 f), (6, .int .i64 g), (7, .int .i64 h), (8, .int .i64 0)] = some (giA [a, b, c, d, e, f, g, h, 0]) := by kernel_rfl
theorem run_idx9 {l : List Int} (h8 : l.length = 9) {k : Nat} (hk : k < l.length) (w : World) : (Instr.index 60 (.agg (giA l)) (.int .i64 (k : Int))).run Tryz.prog w = .ok (.int .i64 l[k]) w := by
  have hs : (sizeOf 3).run Tryz.prog w = .ok 1 w := size_run (by kernel_rfl) w
  have hi : (0 : Int) ≤ (k : Int) ∧ (k : Int) < ((9 : Nat) : Int) := by omega
  have ha : (isAgg 3).run Tryz.prog w = .ok false w := by simp [isAgg, run_underlying Tryz.underlying3]
  simp only [Instr.index, asIntOf, Sem.run_bind, Sem.run_pure, Result.andThen_ok, run_underlying i9_under, if_pos hi, hs, part, ha, Bool.false_eq_true, if_false, Int.toNat_natCast, Nat.mul_one, giA_at hk]
theorem wpList_idx9 {w : World} {ops : Array Oper} {rest : List Oper} {o : Oper} {a : Act} {Q : Exit → Act → World → Prop} (hgd : o.guard = none) (x y : Operand) (ho : o.op = .index 60 x y) {l : List Int} {k : Nat} (hx : a.eval x = .agg (giA l)) (hy : a.eval y = .int .i64 (k : Int)) (h8 : l.length = 9) (hk : k < l.length)
    (h : wpList Tryz.prog ops Q rest (a.put o.dst (.int .i64 l[k])) w) : wpList Tryz.prog ops Q (o :: rest) a w := by
  refine wpList_plain hgd fun _ hK => ?_
  unfold Oper.wp execOp
  simp only [ho, hx, hy, Sem.run_bind, run_idx9 h8 hk, Result.andThen_ok]
  exact hK _ _ h
def DbPost (w : World) (r : Int × Int) (e : Ending) (w' : World) : Prop := e = .returned (.tuple #[.int .i64 r.1, .int .i64 r.2]) ∧ Below w.heap.size w w'
set_option maxRecDepth 100000 in
set_option maxHeartbeats 4000000 in
theorem dbetter_same (a : Dw) (w : World) : Calls Tryz.prog 15 #[.agg (dwA a), .agg (dwA a)] w (DbPost w (0, 10)) := by
  go_enter Tryz.func15, Tryz.ntmps15
  go_wp2_with (first
    | ((with_reducible refine wpList_boxB (o := ⟨some 2, _, _, _, _, _⟩) rfl _ _ rfl rfl ?_); intro g2 w1 hg hB2 hb1 hs; clear hg hs)
    | ((with_reducible refine wpList_boxB (o := ⟨some 3, _, _, _, _, _⟩) rfl _ _ rfl rfl ?_); intro g3 w2 hg hB3 hb2 hs; have hB22 := hB2.bel hb2; have hb02 := bel_tr hb1 hb2; clear hg hs)
    | (with_reducible refine wpList_load_dw (o := ⟨some 9, _, _, _, _, _⟩) rfl _ rfl rfl hB22 ?_)
    | (with_reducible refine wpList_load_dw (o := ⟨some 10, _, _, _, _, _⟩) rfl _ rfl rfl hB3 ?_)
    | ((with_reducible show wpList _ _ _ (⟨some 11, _, _, _, _, _⟩ :: _) _ _); refine wpList_eql_dw (o := ⟨some 11, _, _, _, _, _⟩) rfl _ _ rfl rfl rfl ?_; rw [decide_eq_true (rfl : a = a)]))
  go_ret2
  exact ⟨rfl, hb02⟩
set_option maxRecDepth 100000 in
set_option maxHeartbeats 4000000 in
theorem dbetter_other (a b : Dw) (hab : a ≠ b) (w : World) : Calls Tryz.prog 15 #[.agg (dwA a), .agg (dwA b)] w (DbPost w (dbet a b)) := by
  obtain ⟨L, hL⟩ : ∃ L, L = dtelL a b := ⟨_, rfl⟩
  have HD : Hid (dbet a b = (fst1 L, if fst1 L = 0 then 10 else fstI L 0)) := Lib.hid (by rw [hL]; rfl)
  have Hab : Hid (decide (a = b) = false) := Lib.hid (decide_eq_false hab)
  clear hab
  have H0 : Hid (∀ w', Calls Tryz.prog 24 #[.bool a.own, .bool b.own] w' (InPost w' (ordB a.own b.own))) := Lib.hid (dorder_any a.own b.own)
  have H1 : Hid (∀ w', Calls Tryz.prog 24 #[.bool a.scd, .bool b.scd] w' (InPost w' (ordB a.scd b.scd))) := Lib.hid (dorder_any a.scd b.scd)
  have H2 : Hid (∀ w', Calls Tryz.prog 24 #[.bool b.dep, .bool a.dep] w' (InPost w' (ordB b.dep a.dep))) := Lib.hid (dorder_any b.dep a.dep)
  have H3 : Hid (∀ w', Calls Tryz.prog 24 #[.bool a.hom, .bool b.hom] w' (InPost w' (ordB a.hom b.hom))) := Lib.hid (dorder_any a.hom b.hom)
  have H4 : Hid (∀ w', Calls Tryz.prog 24 #[.bool a.lab, .bool b.lab] w' (InPost w' (ordB a.lab b.lab))) := Lib.hid (dorder_any a.lab b.lab)
  have H5 : Hid (∀ w', Calls Tryz.prog 25 #[.int .i64 a.prec, .int .i64 b.prec] w' (InPost w' (cmpI a.prec b.prec))) := Lib.hid (cmp_any a.prec b.prec)
  have H6 : Hid (∀ w', Calls Tryz.prog 24 #[.bool b.tun, .bool a.tun] w' (InPost w' (ordB b.tun a.tun))) := Lib.hid (dorder_any b.tun a.tun)
  have H7 : Hid (∀ w', Calls Tryz.prog 25 #[.int .i64 b.sco, .int .i64 a.sco] w' (InPost w' (cmpI b.sco a.sco))) := Lib.hid (cmp_any b.sco a.sco)
  have H9 : Hid (∀ w', Calls Tryz.prog 25 #[.int .i64 a.com, .int .i64 b.com] w' (InPost w' (cmpI a.com b.com))) := Lib.hid (cmp_any a.com b.com)
  generalize ho0 : ordB a.own b.own = o0 at *
  generalize ho1 : ordB a.scd b.scd = o1 at *
  generalize ho2 : ordB b.dep a.dep = o2 at *
  generalize ho3 : ordB a.hom b.hom = o3 at *
  generalize ho4 : ordB a.lab b.lab = o4 at *
  generalize ho5 : cmpI a.prec b.prec = o5 at *
  generalize ho6 : ordB b.tun a.tun = o6 at *
  generalize ho7 : cmpI b.sco a.sco = o7 at *
  generalize ho9 : cmpI a.com b.com = o9 at *
  have HE : Hid (L = [o0, o1, o2, o3, o4, o5, o6, o7, if a.fam = b.fam then o9 else 0]) := Lib.hid (by rw [hL]; unfold dtelL; rw [ho0, ho1, ho2, ho3, ho4, ho5, ho6, ho7, ho9])
  generalize dbet a b = D at *
  clear hL ho0 ho1 ho2 ho3 ho4 ho5 ho6 ho7 ho9
  go_enter Tryz.func15, Tryz.ntmps15
  go_wp2_with (first
    | ((with_reducible refine wpList_boxB (o := ⟨some 2, _, _, _, _, _⟩) rfl _ _ rfl rfl ?_); intro g2 w1 hg hB2 hb1 hs; clear hg hs)
    | ((with_reducible refine wpList_boxB (o := ⟨some 3, _, _, _, _, _⟩) rfl _ _ rfl rfl ?_); intro g3 w3 hg hB3 hb2 hs; have hB22 := hB2.bel hb2; have hb02 := bel_tr hb1 hb2; clear hg hs)
    | (with_reducible refine wpList_load_dw (o := ⟨some 9, _, _, _, _, _⟩) rfl _ rfl rfl hB22 ?_)
    | (with_reducible refine wpList_load_dw (o := ⟨some 10, _, _, _, _, _⟩) rfl _ rfl rfl hB3 ?_)
    | ((with_reducible show wpList _ _ _ (⟨some 11, _, _, _, _, _⟩ :: _) _ _); refine wpList_eql_dw (o := ⟨some 11, _, _, _, _, _⟩) rfl _ _ rfl rfl rfl ?_; rw [Hab.out]))
  have a0 : Hid (∀ w', Below w3.heap.size w3 w' → w'.cell? ⟨g2, 0, none⟩ = some (.bool a.own)) := Lib.hid (fun w' h => by have := (hB22.bel h).cell 0; rw [dwA_0] at this; exact this)
  have b0 : Hid (∀ w', Below w3.heap.size w3 w' → w'.cell? ⟨g3, 0, none⟩ = some (.bool b.own)) := Lib.hid (fun w' h => by have := (hB3.bel h).cell 0; rw [dwA_0] at this; exact this)
  have a1 : Hid (∀ w', Below w3.heap.size w3 w' → w'.cell? ⟨g2, 1, none⟩ = some (.bool a.scd)) := Lib.hid (fun w' h => by have := (hB22.bel h).cell 1; rw [dwA_1] at this; exact this)
  have b1 : Hid (∀ w', Below w3.heap.size w3 w' → w'.cell? ⟨g3, 1, none⟩ = some (.bool b.scd)) := Lib.hid (fun w' h => by have := (hB3.bel h).cell 1; rw [dwA_1] at this; exact this)
  have a2 : Hid (∀ w', Below w3.heap.size w3 w' → w'.cell? ⟨g2, 2, none⟩ = some (.bool a.dep)) := Lib.hid (fun w' h => by have := (hB22.bel h).cell 2; rw [dwA_2] at this; exact this)
  have b2 : Hid (∀ w', Below w3.heap.size w3 w' → w'.cell? ⟨g3, 2, none⟩ = some (.bool b.dep)) := Lib.hid (fun w' h => by have := (hB3.bel h).cell 2; rw [dwA_2] at this; exact this)
  have a3 : Hid (∀ w', Below w3.heap.size w3 w' → w'.cell? ⟨g2, 3, none⟩ = some (.bool a.hom)) := Lib.hid (fun w' h => by have := (hB22.bel h).cell 3; rw [dwA_3] at this; exact this)
  have b3 : Hid (∀ w', Below w3.heap.size w3 w' → w'.cell? ⟨g3, 3, none⟩ = some (.bool b.hom)) := Lib.hid (fun w' h => by have := (hB3.bel h).cell 3; rw [dwA_3] at this; exact this)
  have a4 : Hid (∀ w', Below w3.heap.size w3 w' → w'.cell? ⟨g2, 4, none⟩ = some (.bool a.lab)) := Lib.hid (fun w' h => by have := (hB22.bel h).cell 4; rw [dwA_4] at this; exact this)
  have b4 : Hid (∀ w', Below w3.heap.size w3 w' → w'.cell? ⟨g3, 4, none⟩ = some (.bool b.lab)) := Lib.hid (fun w' h => by have := (hB3.bel h).cell 4; rw [dwA_4] at this; exact this)
  have a5 : Hid (∀ w', Below w3.heap.size w3 w' → w'.cell? ⟨g2, 5, none⟩ = some (.int .i64 a.prec)) := Lib.hid (fun w' h => by have := (hB22.bel h).cell 5; rw [dwA_5] at this; exact this)
  have b5 : Hid (∀ w', Below w3.heap.size w3 w' → w'.cell? ⟨g3, 5, none⟩ = some (.int .i64 b.prec)) := Lib.hid (fun w' h => by have := (hB3.bel h).cell 5; rw [dwA_5] at this; exact this)
  have a6 : Hid (∀ w', Below w3.heap.size w3 w' → w'.cell? ⟨g2, 6, none⟩ = some (.bool a.tun)) := Lib.hid (fun w' h => by have := (hB22.bel h).cell 6; rw [dwA_6] at this; exact this)
  have b6 : Hid (∀ w', Below w3.heap.size w3 w' → w'.cell? ⟨g3, 6, none⟩ = some (.bool b.tun)) := Lib.hid (fun w' h => by have := (hB3.bel h).cell 6; rw [dwA_6] at this; exact this)
  have a7 : Hid (∀ w', Below w3.heap.size w3 w' → w'.cell? ⟨g2, 7, none⟩ = some (.int .i64 a.sco)) := Lib.hid (fun w' h => by have := (hB22.bel h).cell 7; rw [dwA_7] at this; exact this)
  have b7 : Hid (∀ w', Below w3.heap.size w3 w' → w'.cell? ⟨g3, 7, none⟩ = some (.int .i64 b.sco)) := Lib.hid (fun w' h => by have := (hB3.bel h).cell 7; rw [dwA_7] at this; exact this)
  have a8 : Hid (∀ w', Below w3.heap.size w3 w' → w'.cell? ⟨g2, 8, none⟩ = some (.int .i64 a.fam)) := Lib.hid (fun w' h => by have := (hB22.bel h).cell 8; rw [dwA_8] at this; exact this)
  have b8 : Hid (∀ w', Below w3.heap.size w3 w' → w'.cell? ⟨g3, 8, none⟩ = some (.int .i64 b.fam)) := Lib.hid (fun w' h => by have := (hB3.bel h).cell 8; rw [dwA_8] at this; exact this)
  have a9 : Hid (∀ w', Below w3.heap.size w3 w' → w'.cell? ⟨g2, 9, none⟩ = some (.int .i64 a.com)) := Lib.hid (fun w' h => by have := (hB22.bel h).cell 9; rw [dwA_9] at this; exact this)
  have b9 : Hid (∀ w', Below w3.heap.size w3 w' → w'.cell? ⟨g3, 9, none⟩ = some (.int .i64 b.com)) := Lib.hid (fun w' h => by have := (hB3.bel h).cell 9; rw [dwA_9] at this; exact this)
  have Hb := Lib.hid hb02
  have HB := Lib.hid (built_i9 o0 o1 o2 o3 o4 o5 o6 o7)
  clear hB2 hB22 hB3 hb1 hb2 hb02
  apply region_cut (R := fun g w' => Bk w' g 60 (giA [o0, o1, o2, o3, o4, o5, o6, o7, 0]) ∧ w3.heap.size ≤ g ∧ Below w3.heap.size w3 w')
  case h =>
    refine wp_region_held (S := fun w' => Below w3.heap.size w3 w') (by kernel_rfl) ?_
    refine wpAnyH_take (i := 0) (oi := ⟨some 12, Op.fieldAddr 49 (Operand.tmp 2) 0, _, _, _, none⟩) (v := Value.pointer (some ⟨g2, 0, none⟩)) rfl (by kernel_rfl) (by kernel_rfl) (by kernel_rfl) (fun _ _ _ h => nomatch h.1) (Or.inl ⟨by rfl, fun w' hS' => by go_simp⟩) (Below.refl _ _).drew ?_
    simp only [Act.put, List.setIfInBounds_toArray, List.set_cons_zero, List.set_cons_succ]
    refine wpAnyH_take (i := 1) (oi := ⟨some 13, Op.load 4 (Operand.tmp 12), _, _, _, none⟩) (v := Value.bool a.own) rfl (by kernel_rfl) (by kernel_rfl) (by kernel_rfl) (fun _ _ _ h => nomatch h.1) (yieldsIf_loadC (by rfl) _ _ rfl rfl a0.out Tryz.underlying4 rfl) (Below.refl _ _).drew ?_
    simp only [Act.put, List.setIfInBounds_toArray, List.set_cons_zero, List.set_cons_succ]
    refine wpAnyH_take (i := 2) (oi := ⟨some 14, Op.fieldAddr 49 (Operand.tmp 3) 0, _, _, _, none⟩) (v := Value.pointer (some ⟨g3, 0, none⟩)) rfl (by kernel_rfl) (by kernel_rfl) (by kernel_rfl) (fun _ _ _ h => nomatch h.1) (Or.inl ⟨by rfl, fun w' hS' => by go_simp⟩) (Below.refl _ _).drew ?_
    simp only [Act.put, List.setIfInBounds_toArray, List.set_cons_zero, List.set_cons_succ]
    refine wpAnyH_take (i := 3) (oi := ⟨some 15, Op.load 4 (Operand.tmp 14), _, _, _, none⟩) (v := Value.bool b.own) rfl (by kernel_rfl) (by kernel_rfl) (by kernel_rfl) (fun _ _ _ h => nomatch h.1) (yieldsIf_loadC (by rfl) _ _ rfl rfl b0.out Tryz.underlying4 rfl) (Below.refl _ _).drew ?_
    simp only [Act.put, List.setIfInBounds_toArray, List.set_cons_zero, List.set_cons_succ]
    refine wpAnyH_take (i := 5) (oi := ⟨some 17, Op.fieldAddr 49 (Operand.tmp 2) 1, _, _, _, none⟩) (v := Value.pointer (some ⟨g2, 1, none⟩)) rfl (by kernel_rfl) (by kernel_rfl) (by kernel_rfl) (fun _ _ _ h => nomatch h.1) (Or.inl ⟨by rfl, fun w' hS' => by go_simp⟩) (Below.refl _ _).drew ?_
    simp only [Act.put, List.setIfInBounds_toArray, List.set_cons_zero, List.set_cons_succ]
    refine wpAnyH_take (i := 6) (oi := ⟨some 18, Op.load 4 (Operand.tmp 17), _, _, _, none⟩) (v := Value.bool a.scd) rfl (by kernel_rfl) (by kernel_rfl) (by kernel_rfl) (fun _ _ _ h => nomatch h.1) (yieldsIf_loadC (by rfl) _ _ rfl rfl a1.out Tryz.underlying4 rfl) (Below.refl _ _).drew ?_
    simp only [Act.put, List.setIfInBounds_toArray, List.set_cons_zero, List.set_cons_succ]
    refine wpAnyH_take (i := 7) (oi := ⟨some 19, Op.fieldAddr 49 (Operand.tmp 3) 1, _, _, _, none⟩) (v := Value.pointer (some ⟨g3, 1, none⟩)) rfl (by kernel_rfl) (by kernel_rfl) (by kernel_rfl) (fun _ _ _ h => nomatch h.1) (Or.inl ⟨by rfl, fun w' hS' => by go_simp⟩) (Below.refl _ _).drew ?_
    simp only [Act.put, List.setIfInBounds_toArray, List.set_cons_zero, List.set_cons_succ]
    refine wpAnyH_take (i := 8) (oi := ⟨some 20, Op.load 4 (Operand.tmp 19), _, _, _, none⟩) (v := Value.bool b.scd) rfl (by kernel_rfl) (by kernel_rfl) (by kernel_rfl) (fun _ _ _ h => nomatch h.1) (yieldsIf_loadC (by rfl) _ _ rfl rfl b1.out Tryz.underlying4 rfl) (Below.refl _ _).drew ?_
    simp only [Act.put, List.setIfInBounds_toArray, List.set_cons_zero, List.set_cons_succ]
    refine wpAnyH_take (i := 10) (oi := ⟨some 22, Op.fieldAddr 49 (Operand.tmp 3) 2, _, _, _, none⟩) (v := Value.pointer (some ⟨g3, 2, none⟩)) rfl (by kernel_rfl) (by kernel_rfl) (by kernel_rfl) (fun _ _ _ h => nomatch h.1) (Or.inl ⟨by rfl, fun w' hS' => by go_simp⟩) (Below.refl _ _).drew ?_
    simp only [Act.put, List.setIfInBounds_toArray, List.set_cons_zero, List.set_cons_succ]
    refine wpAnyH_take (i := 11) (oi := ⟨some 23, Op.load 4 (Operand.tmp 22), _, _, _, none⟩) (v := Value.bool b.dep) rfl (by kernel_rfl) (by kernel_rfl) (by kernel_rfl) (fun _ _ _ h => nomatch h.1) (yieldsIf_loadC (by rfl) _ _ rfl rfl b2.out Tryz.underlying4 rfl) (Below.refl _ _).drew ?_
    simp only [Act.put, List.setIfInBounds_toArray, List.set_cons_zero, List.set_cons_succ]
    refine wpAnyH_take (i := 12) (oi := ⟨some 24, Op.fieldAddr 49 (Operand.tmp 2) 2, _, _, _, none⟩) (v := Value.pointer (some ⟨g2, 2, none⟩)) rfl (by kernel_rfl) (by kernel_rfl) (by kernel_rfl) (fun _ _ _ h => nomatch h.1) (Or.inl ⟨by rfl, fun w' hS' => by go_simp⟩) (Below.refl _ _).drew ?_
    simp only [Act.put, List.setIfInBounds_toArray, List.set_cons_zero, List.set_cons_succ]
    refine wpAnyH_take (i := 13) (oi := ⟨some 25, Op.load 4 (Operand.tmp 24), _, _, _, none⟩) (v := Value.bool a.dep) rfl (by kernel_rfl) (by kernel_rfl) (by kernel_rfl) (fun _ _ _ h => nomatch h.1) (yieldsIf_loadC (by rfl) _ _ rfl rfl a2.out Tryz.underlying4 rfl) (Below.refl _ _).drew ?_
    simp only [Act.put, List.setIfInBounds_toArray, List.set_cons_zero, List.set_cons_succ]
    refine wpAnyH_take (i := 15) (oi := ⟨some 27, Op.fieldAddr 49 (Operand.tmp 2) 3, _, _, _, none⟩) (v := Value.pointer (some ⟨g2, 3, none⟩)) rfl (by kernel_rfl) (by kernel_rfl) (by kernel_rfl) (fun _ _ _ h => nomatch h.1) (Or.inl ⟨by rfl, fun w' hS' => by go_simp⟩) (Below.refl _ _).drew ?_
    simp only [Act.put, List.setIfInBounds_toArray, List.set_cons_zero, List.set_cons_succ]
    refine wpAnyH_take (i := 16) (oi := ⟨some 28, Op.load 4 (Operand.tmp 27), _, _, _, none⟩) (v := Value.bool a.hom) rfl (by kernel_rfl) (by kernel_rfl) (by kernel_rfl) (fun _ _ _ h => nomatch h.1) (yieldsIf_loadC (by rfl) _ _ rfl rfl a3.out Tryz.underlying4 rfl) (Below.refl _ _).drew ?_
    simp only [Act.put, List.setIfInBounds_toArray, List.set_cons_zero, List.set_cons_succ]
    refine wpAnyH_take (i := 17) (oi := ⟨some 29, Op.fieldAddr 49 (Operand.tmp 3) 3, _, _, _, none⟩) (v := Value.pointer (some ⟨g3, 3, none⟩)) rfl (by kernel_rfl) (by kernel_rfl) (by kernel_rfl) (fun _ _ _ h => nomatch h.1) (Or.inl ⟨by rfl, fun w' hS' => by go_simp⟩) (Below.refl _ _).drew ?_
    simp only [Act.put, List.setIfInBounds_toArray, List.set_cons_zero, List.set_cons_succ]
    refine wpAnyH_take (i := 18) (oi := ⟨some 30, Op.load 4 (Operand.tmp 29), _, _, _, none⟩) (v := Value.bool b.hom) rfl (by kernel_rfl) (by kernel_rfl) (by kernel_rfl) (fun _ _ _ h => nomatch h.1) (yieldsIf_loadC (by rfl) _ _ rfl rfl b3.out Tryz.underlying4 rfl) (Below.refl _ _).drew ?_
    simp only [Act.put, List.setIfInBounds_toArray, List.set_cons_zero, List.set_cons_succ]
    refine wpAnyH_take (i := 20) (oi := ⟨some 32, Op.fieldAddr 49 (Operand.tmp 2) 4, _, _, _, none⟩) (v := Value.pointer (some ⟨g2, 4, none⟩)) rfl (by kernel_rfl) (by kernel_rfl) (by kernel_rfl) (fun _ _ _ h => nomatch h.1) (Or.inl ⟨by rfl, fun w' hS' => by go_simp⟩) (Below.refl _ _).drew ?_
    simp only [Act.put, List.setIfInBounds_toArray, List.set_cons_zero, List.set_cons_succ]
    refine wpAnyH_take (i := 21) (oi := ⟨some 33, Op.load 4 (Operand.tmp 32), _, _, _, none⟩) (v := Value.bool a.lab) rfl (by kernel_rfl) (by kernel_rfl) (by kernel_rfl) (fun _ _ _ h => nomatch h.1) (yieldsIf_loadC (by rfl) _ _ rfl rfl a4.out Tryz.underlying4 rfl) (Below.refl _ _).drew ?_
    simp only [Act.put, List.setIfInBounds_toArray, List.set_cons_zero, List.set_cons_succ]
    refine wpAnyH_take (i := 22) (oi := ⟨some 34, Op.fieldAddr 49 (Operand.tmp 3) 4, _, _, _, none⟩) (v := Value.pointer (some ⟨g3, 4, none⟩)) rfl (by kernel_rfl) (by kernel_rfl) (by kernel_rfl) (fun _ _ _ h => nomatch h.1) (Or.inl ⟨by rfl, fun w' hS' => by go_simp⟩) (Below.refl _ _).drew ?_
    simp only [Act.put, List.setIfInBounds_toArray, List.set_cons_zero, List.set_cons_succ]
    refine wpAnyH_take (i := 23) (oi := ⟨some 35, Op.load 4 (Operand.tmp 34), _, _, _, none⟩) (v := Value.bool b.lab) rfl (by kernel_rfl) (by kernel_rfl) (by kernel_rfl) (fun _ _ _ h => nomatch h.1) (yieldsIf_loadC (by rfl) _ _ rfl rfl b4.out Tryz.underlying4 rfl) (Below.refl _ _).drew ?_
    simp only [Act.put, List.setIfInBounds_toArray, List.set_cons_zero, List.set_cons_succ]
    refine wpAnyH_take (i := 25) (oi := ⟨some 37, Op.fieldAddr 49 (Operand.tmp 2) 5, _, _, _, none⟩) (v := Value.pointer (some ⟨g2, 5, none⟩)) rfl (by kernel_rfl) (by kernel_rfl) (by kernel_rfl) (fun _ _ _ h => nomatch h.1) (Or.inl ⟨by rfl, fun w' hS' => by go_simp⟩) (Below.refl _ _).drew ?_
    simp only [Act.put, List.setIfInBounds_toArray, List.set_cons_zero, List.set_cons_succ]
    refine wpAnyH_take (i := 26) (oi := ⟨some 38, Op.load 3 (Operand.tmp 37), _, _, _, none⟩) (v := Value.int .i64 a.prec) rfl (by kernel_rfl) (by kernel_rfl) (by kernel_rfl) (fun _ _ _ h => nomatch h.1) (yieldsIf_loadC (by rfl) _ _ rfl rfl a5.out Tryz.underlying3 rfl) (Below.refl _ _).drew ?_
    simp only [Act.put, List.setIfInBounds_toArray, List.set_cons_zero, List.set_cons_succ]
    refine wpAnyH_take (i := 27) (oi := ⟨some 39, Op.fieldAddr 49 (Operand.tmp 3) 5, _, _, _, none⟩) (v := Value.pointer (some ⟨g3, 5, none⟩)) rfl (by kernel_rfl) (by kernel_rfl) (by kernel_rfl) (fun _ _ _ h => nomatch h.1) (Or.inl ⟨by rfl, fun w' hS' => by go_simp⟩) (Below.refl _ _).drew ?_
    simp only [Act.put, List.setIfInBounds_toArray, List.set_cons_zero, List.set_cons_succ]
    refine wpAnyH_take (i := 28) (oi := ⟨some 40, Op.load 3 (Operand.tmp 39), _, _, _, none⟩) (v := Value.int .i64 b.prec) rfl (by kernel_rfl) (by kernel_rfl) (by kernel_rfl) (fun _ _ _ h => nomatch h.1) (yieldsIf_loadC (by rfl) _ _ rfl rfl b5.out Tryz.underlying3 rfl) (Below.refl _ _).drew ?_
    simp only [Act.put, List.setIfInBounds_toArray, List.set_cons_zero, List.set_cons_succ]
    refine wpAnyH_take (i := 30) (oi := ⟨some 42, Op.fieldAddr 49 (Operand.tmp 3) 6, _, _, _, none⟩) (v := Value.pointer (some ⟨g3, 6, none⟩)) rfl (by kernel_rfl) (by kernel_rfl) (by kernel_rfl) (fun _ _ _ h => nomatch h.1) (Or.inl ⟨by rfl, fun w' hS' => by go_simp⟩) (Below.refl _ _).drew ?_
    simp only [Act.put, List.setIfInBounds_toArray, List.set_cons_zero, List.set_cons_succ]
    refine wpAnyH_take (i := 31) (oi := ⟨some 43, Op.load 4 (Operand.tmp 42), _, _, _, none⟩) (v := Value.bool b.tun) rfl (by kernel_rfl) (by kernel_rfl) (by kernel_rfl) (fun _ _ _ h => nomatch h.1) (yieldsIf_loadC (by rfl) _ _ rfl rfl b6.out Tryz.underlying4 rfl) (Below.refl _ _).drew ?_
    simp only [Act.put, List.setIfInBounds_toArray, List.set_cons_zero, List.set_cons_succ]
    refine wpAnyH_take (i := 32) (oi := ⟨some 44, Op.fieldAddr 49 (Operand.tmp 2) 6, _, _, _, none⟩) (v := Value.pointer (some ⟨g2, 6, none⟩)) rfl (by kernel_rfl) (by kernel_rfl) (by kernel_rfl) (fun _ _ _ h => nomatch h.1) (Or.inl ⟨by rfl, fun w' hS' => by go_simp⟩) (Below.refl _ _).drew ?_
    simp only [Act.put, List.setIfInBounds_toArray, List.set_cons_zero, List.set_cons_succ]
    refine wpAnyH_take (i := 33) (oi := ⟨some 45, Op.load 4 (Operand.tmp 44), _, _, _, none⟩) (v := Value.bool a.tun) rfl (by kernel_rfl) (by kernel_rfl) (by kernel_rfl) (fun _ _ _ h => nomatch h.1) (yieldsIf_loadC (by rfl) _ _ rfl rfl a6.out Tryz.underlying4 rfl) (Below.refl _ _).drew ?_
    simp only [Act.put, List.setIfInBounds_toArray, List.set_cons_zero, List.set_cons_succ]
    refine wpAnyH_take (i := 35) (oi := ⟨some 47, Op.fieldAddr 49 (Operand.tmp 3) 7, _, _, _, none⟩) (v := Value.pointer (some ⟨g3, 7, none⟩)) rfl (by kernel_rfl) (by kernel_rfl) (by kernel_rfl) (fun _ _ _ h => nomatch h.1) (Or.inl ⟨by rfl, fun w' hS' => by go_simp⟩) (Below.refl _ _).drew ?_
    simp only [Act.put, List.setIfInBounds_toArray, List.set_cons_zero, List.set_cons_succ]
    refine wpAnyH_take (i := 36) (oi := ⟨some 48, Op.load 3 (Operand.tmp 47), _, _, _, none⟩) (v := Value.int .i64 b.sco) rfl (by kernel_rfl) (by kernel_rfl) (by kernel_rfl) (fun _ _ _ h => nomatch h.1) (yieldsIf_loadC (by rfl) _ _ rfl rfl b7.out Tryz.underlying3 rfl) (Below.refl _ _).drew ?_
    simp only [Act.put, List.setIfInBounds_toArray, List.set_cons_zero, List.set_cons_succ]
    refine wpAnyH_take (i := 37) (oi := ⟨some 49, Op.fieldAddr 49 (Operand.tmp 2) 7, _, _, _, none⟩) (v := Value.pointer (some ⟨g2, 7, none⟩)) rfl (by kernel_rfl) (by kernel_rfl) (by kernel_rfl) (fun _ _ _ h => nomatch h.1) (Or.inl ⟨by rfl, fun w' hS' => by go_simp⟩) (Below.refl _ _).drew ?_
    simp only [Act.put, List.setIfInBounds_toArray, List.set_cons_zero, List.set_cons_succ]
    refine wpAnyH_take (i := 38) (oi := ⟨some 50, Op.load 3 (Operand.tmp 49), _, _, _, none⟩) (v := Value.int .i64 a.sco) rfl (by kernel_rfl) (by kernel_rfl) (by kernel_rfl) (fun _ _ _ h => nomatch h.1) (yieldsIf_loadC (by rfl) _ _ rfl rfl a7.out Tryz.underlying3 rfl) (Below.refl _ _).drew ?_
    simp only [Act.put, List.setIfInBounds_toArray, List.set_cons_zero, List.set_cons_succ]
    refine wpAnyH_all (rs := [4, 41]) (by kernel_rfl) (by decide) ?_
    intro i hi
    simp only [List.mem_cons, List.not_mem_nil, or_false] at hi
    rcases hi with rfl | rfl
    · skip
      refine wpOp_callM (o := ⟨some 16, Op.call { callee := Callee.value (Operand.func 24), args := #[Operand.tmp 13, Operand.tmp 15], argTypes := #[4, 4] }, _, _, _, none⟩) rfl (by rfl) (by go_simp) (H0.out _) ?_
      rintro e x1 ⟨rfl, hy1⟩
      have hx1 := bel_drew hy1
      refine ⟨_, rfl, ?_⟩
      show _ ∧ _
      refine ⟨hx1, ?_⟩
      simp only [Act.put, List.setIfInBounds_toArray, List.set_cons_zero, List.set_cons_succ]
      refine wpAnyH_all (rs := [9, 41]) (by kernel_rfl) (by decide) ?_
      intro i hi
      simp only [List.mem_cons, List.not_mem_nil, or_false] at hi
      rcases hi with rfl | rfl
      · skip
        refine wpOp_callM (o := ⟨some 21, Op.call { callee := Callee.value (Operand.func 24), args := #[Operand.tmp 18, Operand.tmp 20], argTypes := #[4, 4] }, _, _, _, none⟩) rfl (by rfl) (by go_simp) (H1.out _) ?_
        rintro e x2 ⟨rfl, hy2⟩
        have hx2 := bel_tr hx1 hy2
        refine ⟨_, rfl, ?_⟩
        show _ ∧ _
        refine ⟨hx2, ?_⟩
        simp only [Act.put, List.setIfInBounds_toArray, List.set_cons_zero, List.set_cons_succ]
        refine wpAnyH_all (rs := [14, 41]) (by kernel_rfl) (by decide) ?_
        intro i hi
        simp only [List.mem_cons, List.not_mem_nil, or_false] at hi
        rcases hi with rfl | rfl
        · skip
          refine wpOp_callM (o := ⟨some 26, Op.call { callee := Callee.value (Operand.func 24), args := #[Operand.tmp 23, Operand.tmp 25], argTypes := #[4, 4] }, _, _, _, none⟩) rfl (by rfl) (by go_simp) (H2.out _) ?_
          rintro e x3 ⟨rfl, hy3⟩
          have hx3 := bel_tr hx2 hy3
          refine ⟨_, rfl, ?_⟩
          show _ ∧ _
          refine ⟨hx3, ?_⟩
          simp only [Act.put, List.setIfInBounds_toArray, List.set_cons_zero, List.set_cons_succ]
          refine wpAnyH_all (rs := [19, 41]) (by kernel_rfl) (by decide) ?_
          intro i hi
          simp only [List.mem_cons, List.not_mem_nil, or_false] at hi
          rcases hi with rfl | rfl
          · skip
            refine wpOp_callM (o := ⟨some 31, Op.call { callee := Callee.value (Operand.func 24), args := #[Operand.tmp 28, Operand.tmp 30], argTypes := #[4, 4] }, _, _, _, none⟩) rfl (by rfl) (by go_simp) (H3.out _) ?_
            rintro e x4 ⟨rfl, hy4⟩
            have hx4 := bel_tr hx3 hy4
            refine ⟨_, rfl, ?_⟩
            show _ ∧ _
            refine ⟨hx4, ?_⟩
            simp only [Act.put, List.setIfInBounds_toArray, List.set_cons_zero, List.set_cons_succ]
            refine wpAnyH_all (rs := [24, 41]) (by kernel_rfl) (by decide) ?_
            intro i hi
            simp only [List.mem_cons, List.not_mem_nil, or_false] at hi
            rcases hi with rfl | rfl
            · skip
              refine wpOp_callM (o := ⟨some 36, Op.call { callee := Callee.value (Operand.func 24), args := #[Operand.tmp 33, Operand.tmp 35], argTypes := #[4, 4] }, _, _, _, none⟩) rfl (by rfl) (by go_simp) (H4.out _) ?_
              rintro e x5 ⟨rfl, hy5⟩
              have hx5 := bel_tr hx4 hy5
              refine ⟨_, rfl, ?_⟩
              show _ ∧ _
              refine ⟨hx5, ?_⟩
              simp only [Act.put, List.setIfInBounds_toArray, List.set_cons_zero, List.set_cons_succ]
              refine wpAnyH_all (rs := [29, 41]) (by kernel_rfl) (by decide) ?_
              intro i hi
              simp only [List.mem_cons, List.not_mem_nil, or_false] at hi
              rcases hi with rfl | rfl
              · skip
                refine wpOp_callM (o := ⟨some 41, Op.call { callee := Callee.value (Operand.func 25), args := #[Operand.tmp 38, Operand.tmp 40], argTypes := #[3, 3] }, _, _, _, none⟩) rfl (by rfl) (by go_simp) (H5.out _) ?_
                rintro e x6 ⟨rfl, hy6⟩
                have hx6 := bel_tr hx5 hy6
                refine ⟨_, rfl, ?_⟩
                show _ ∧ _
                refine ⟨hx6, ?_⟩
                simp only [Act.put, List.setIfInBounds_toArray, List.set_cons_zero, List.set_cons_succ]
                refine wpAnyH_all (rs := [34, 41]) (by kernel_rfl) (by decide) ?_
                intro i hi
                simp only [List.mem_cons, List.not_mem_nil, or_false] at hi
                rcases hi with rfl | rfl
                · skip
                  refine wpOp_callM (o := ⟨some 46, Op.call { callee := Callee.value (Operand.func 24), args := #[Operand.tmp 43, Operand.tmp 45], argTypes := #[4, 4] }, _, _, _, none⟩) rfl (by rfl) (by go_simp) (H6.out _) ?_
                  rintro e x7 ⟨rfl, hy7⟩
                  have hx7 := bel_tr hx6 hy7
                  refine ⟨_, rfl, ?_⟩
                  show _ ∧ _
                  refine ⟨hx7, ?_⟩
                  simp only [Act.put, List.setIfInBounds_toArray, List.set_cons_zero, List.set_cons_succ]
                  refine wpAnyH_all (rs := [39, 41]) (by kernel_rfl) (by decide) ?_
                  intro i hi
                  simp only [List.mem_cons, List.not_mem_nil, or_false] at hi
                  rcases hi with rfl | rfl
                  · skip
                    refine wpOp_callM (o := ⟨some 51, Op.call { callee := Callee.value (Operand.func 25), args := #[Operand.tmp 48, Operand.tmp 50], argTypes := #[3, 3] }, _, _, _, none⟩) rfl (by rfl) (by go_simp) (H7.out _) ?_
                    rintro e x8 ⟨rfl, hy8⟩
                    have hx8 := bel_tr hx7 hy8
                    refine ⟨_, rfl, ?_⟩
                    show _ ∧ _
                    refine ⟨hx8, ?_⟩
                    simp only [Act.put, List.setIfInBounds_toArray, List.set_cons_zero, List.set_cons_succ]
                    refine wpAnyH_take (i := 40) (oi := ⟨some 52, Op.build 60 #[(0 , Operand.tmp 16), (1 , Operand.tmp 21), (2 , Operand.tmp 26), (3 , Operand.tmp 31), (4 , Operand.tmp 36), (5 , Operand.tmp 41), (6 , Operand.tmp 46), (7 , Operand.tmp 51), (8 , Operand.const (Value.int IntKind.i64 0))], _, _, _, none⟩) (v := Value.agg (giA [o0, o1, o2, o3, o4, o5, o6, o7, 0])) rfl (by kernel_rfl) (by kernel_rfl) (by kernel_rfl) (fun _ _ _ h => nomatch h.1) (yieldsIf_buildL (by rfl) 60 _ rfl HB.out rfl) hx8 ?_
                    simp only [Act.put, List.setIfInBounds_toArray, List.set_cons_zero, List.set_cons_succ]
                    refine wpAnyH_all (rs := [41]) (by kernel_rfl) (by decide) ?_
                    intro i hi
                    obtain rfl := List.mem_singleton.1 hi
                    refine wpOp_of_list (o := ⟨some 6, Op.alloc 60, _, _, _, none⟩) rfl ?_
                    refine wpList_allocZ rfl _ rfl i9_zero ?_
                    intro g6 x9 hgg6 hBg6 hy9 hs
                    have hlg6 : w3.heap.size ≤ g6 := Nat.le_trans (hx8 : Below w3.heap.size w3 _).size (Nat.le_of_eq hgg6.symm)
                    clear hgg6 hs
                    have hx9 := bel_tr hx8 hy9
                    show _ ∧ _
                    refine ⟨hx9, ?_⟩
                    simp only [Act.put, List.setIfInBounds_toArray, List.set_cons_zero, List.set_cons_succ]
                    refine wpAnyH_all (rs := [42]) (by kernel_rfl) (by decide) ?_
                    intro i hi
                    obtain rfl := List.mem_singleton.1 hi
                    refine wpOp_of_list (o := ⟨none, Op.store 60 (Operand.tmp 6) (Operand.tmp 52), _, _, _, none⟩) rfl ?_
                    refine wpList_storeB rfl _ _ _ rfl rfl rfl hBg6 i9_size rfl (giA_one _) ?_
                    intro x10 hBz hSz
                    have hx10 := (hx9 : Below w3.heap.size w3 _).trans (hSz.below hlg6)
                    show _ ∧ _
                    refine ⟨hx10, ?_⟩
                    simp only [Act.put]
                    refine wpAnyH_done (by kernel_rfl) ?_ _
                    exact ⟨rfl, g6, rfl, hBz, hlg6, hx10⟩
                  · skip
                    refine wpOp_of_list (o := ⟨some 6, Op.alloc 60, _, _, _, none⟩) rfl ?_
                    refine wpList_allocZ rfl _ rfl i9_zero ?_
                    intro g6 x8 hgg6 hBg6 hy8 hs
                    have hlg6 : w3.heap.size ≤ g6 := Nat.le_trans (hx7 : Below w3.heap.size w3 _).size (Nat.le_of_eq hgg6.symm)
                    clear hgg6 hs
                    have hx8 := bel_tr hx7 hy8
                    show _ ∧ _
                    refine ⟨hx8, ?_⟩
                    simp only [Act.put, List.setIfInBounds_toArray, List.set_cons_zero, List.set_cons_succ]
                    refine wpAnyH_all (rs := [39]) (by kernel_rfl) (by decide) ?_
                    intro i hi
                    obtain rfl := List.mem_singleton.1 hi
                    refine wpOp_callM (o := ⟨some 51, Op.call { callee := Callee.value (Operand.func 25), args := #[Operand.tmp 48, Operand.tmp 50], argTypes := #[3, 3] }, _, _, _, none⟩) rfl (by rfl) (by go_simp) (H7.out _) ?_
                    rintro e x9 ⟨rfl, hy9⟩
                    have hx9 := bel_tr hx8 hy9
                    have hBg6 := hBg6.bel hy9
                    refine ⟨_, rfl, ?_⟩
                    show _ ∧ _
                    refine ⟨hx9, ?_⟩
                    simp only [Act.put, List.setIfInBounds_toArray, List.set_cons_zero, List.set_cons_succ]
                    refine wpAnyH_take (i := 40) (oi := ⟨some 52, Op.build 60 #[(0 , Operand.tmp 16), (1 , Operand.tmp 21), (2 , Operand.tmp 26), (3 , Operand.tmp 31), (4 , Operand.tmp 36), (5 , Operand.tmp 41), (6 , Operand.tmp 46), (7 , Operand.tmp 51), (8 , Operand.const (Value.int IntKind.i64 0))], _, _, _, none⟩) (v := Value.agg (giA [o0, o1, o2, o3, o4, o5, o6, o7, 0])) rfl (by kernel_rfl) (by kernel_rfl) (by kernel_rfl) (fun _ _ _ h => nomatch h.1) (yieldsIf_buildL (by rfl) 60 _ rfl HB.out rfl) hx9 ?_
                    simp only [Act.put, List.setIfInBounds_toArray, List.set_cons_zero, List.set_cons_succ]
                    refine wpAnyH_all (rs := [42]) (by kernel_rfl) (by decide) ?_
                    intro i hi
                    obtain rfl := List.mem_singleton.1 hi
                    refine wpOp_of_list (o := ⟨none, Op.store 60 (Operand.tmp 6) (Operand.tmp 52), _, _, _, none⟩) rfl ?_
                    refine wpList_storeB rfl _ _ _ rfl rfl rfl hBg6 i9_size rfl (giA_one _) ?_
                    intro x10 hBz hSz
                    have hx10 := (hx9 : Below w3.heap.size w3 _).trans (hSz.below hlg6)
                    show _ ∧ _
                    refine ⟨hx10, ?_⟩
                    simp only [Act.put]
                    refine wpAnyH_done (by kernel_rfl) ?_ _
                    exact ⟨rfl, g6, rfl, hBz, hlg6, hx10⟩
                · skip
                  refine wpOp_of_list (o := ⟨some 6, Op.alloc 60, _, _, _, none⟩) rfl ?_
                  refine wpList_allocZ rfl _ rfl i9_zero ?_
                  intro g6 x7 hgg6 hBg6 hy7 hs
                  have hlg6 : w3.heap.size ≤ g6 := Nat.le_trans (hx6 : Below w3.heap.size w3 _).size (Nat.le_of_eq hgg6.symm)
                  clear hgg6 hs
                  have hx7 := bel_tr hx6 hy7
                  show _ ∧ _
                  refine ⟨hx7, ?_⟩
                  simp only [Act.put, List.setIfInBounds_toArray, List.set_cons_zero, List.set_cons_succ]
                  refine wpAnyH_all (rs := [34]) (by kernel_rfl) (by decide) ?_
                  intro i hi
                  obtain rfl := List.mem_singleton.1 hi
                  refine wpOp_callM (o := ⟨some 46, Op.call { callee := Callee.value (Operand.func 24), args := #[Operand.tmp 43, Operand.tmp 45], argTypes := #[4, 4] }, _, _, _, none⟩) rfl (by rfl) (by go_simp) (H6.out _) ?_
                  rintro e x8 ⟨rfl, hy8⟩
                  have hx8 := bel_tr hx7 hy8
                  have hBg6 := hBg6.bel hy8
                  refine ⟨_, rfl, ?_⟩
                  show _ ∧ _
                  refine ⟨hx8, ?_⟩
                  simp only [Act.put, List.setIfInBounds_toArray, List.set_cons_zero, List.set_cons_succ]
                  refine wpAnyH_all (rs := [39]) (by kernel_rfl) (by decide) ?_
                  intro i hi
                  obtain rfl := List.mem_singleton.1 hi
                  refine wpOp_callM (o := ⟨some 51, Op.call { callee := Callee.value (Operand.func 25), args := #[Operand.tmp 48, Operand.tmp 50], argTypes := #[3, 3] }, _, _, _, none⟩) rfl (by rfl) (by go_simp) (H7.out _) ?_
                  rintro e x9 ⟨rfl, hy9⟩
                  have hx9 := bel_tr hx8 hy9
                  have hBg6 := hBg6.bel hy9
                  refine ⟨_, rfl, ?_⟩
                  show _ ∧ _
                  refine ⟨hx9, ?_⟩
                  simp only [Act.put, List.setIfInBounds_toArray, List.set_cons_zero, List.set_cons_succ]
                  refine wpAnyH_take (i := 40) (oi := ⟨some 52, Op.build 60 #[(0 , Operand.tmp 16), (1 , Operand.tmp 21), (2 , Operand.tmp 26), (3 , Operand.tmp 31), (4 , Operand.tmp 36), (5 , Operand.tmp 41), (6 , Operand.tmp 46), (7 , Operand.tmp 51), (8 , Operand.const (Value.int IntKind.i64 0))], _, _, _, none⟩) (v := Value.agg (giA [o0, o1, o2, o3, o4, o5, o6, o7, 0])) rfl (by kernel_rfl) (by kernel_rfl) (by kernel_rfl) (fun _ _ _ h => nomatch h.1) (yieldsIf_buildL (by rfl) 60 _ rfl HB.out rfl) hx9 ?_
                  simp only [Act.put, List.setIfInBounds_toArray, List.set_cons_zero, List.set_cons_succ]
                  refine wpAnyH_all (rs := [42]) (by kernel_rfl) (by decide) ?_
                  intro i hi
                  obtain rfl := List.mem_singleton.1 hi
                  refine wpOp_of_list (o := ⟨none, Op.store 60 (Operand.tmp 6) (Operand.tmp 52), _, _, _, none⟩) rfl ?_
                  refine wpList_storeB rfl _ _ _ rfl rfl rfl hBg6 i9_size rfl (giA_one _) ?_
                  intro x10 hBz hSz
                  have hx10 := (hx9 : Below w3.heap.size w3 _).trans (hSz.below hlg6)
                  show _ ∧ _
                  refine ⟨hx10, ?_⟩
                  simp only [Act.put]
                  refine wpAnyH_done (by kernel_rfl) ?_ _
                  exact ⟨rfl, g6, rfl, hBz, hlg6, hx10⟩
              · skip
                refine wpOp_of_list (o := ⟨some 6, Op.alloc 60, _, _, _, none⟩) rfl ?_
                refine wpList_allocZ rfl _ rfl i9_zero ?_
                intro g6 x6 hgg6 hBg6 hy6 hs
                have hlg6 : w3.heap.size ≤ g6 := Nat.le_trans (hx5 : Below w3.heap.size w3 _).size (Nat.le_of_eq hgg6.symm)
                clear hgg6 hs
                have hx6 := bel_tr hx5 hy6
                show _ ∧ _
                refine ⟨hx6, ?_⟩
                simp only [Act.put, List.setIfInBounds_toArray, List.set_cons_zero, List.set_cons_succ]
                refine wpAnyH_all (rs := [29]) (by kernel_rfl) (by decide) ?_
                intro i hi
                obtain rfl := List.mem_singleton.1 hi
                refine wpOp_callM (o := ⟨some 41, Op.call { callee := Callee.value (Operand.func 25), args := #[Operand.tmp 38, Operand.tmp 40], argTypes := #[3, 3] }, _, _, _, none⟩) rfl (by rfl) (by go_simp) (H5.out _) ?_
                rintro e x7 ⟨rfl, hy7⟩
                have hx7 := bel_tr hx6 hy7
                have hBg6 := hBg6.bel hy7
                refine ⟨_, rfl, ?_⟩
                show _ ∧ _
                refine ⟨hx7, ?_⟩
                simp only [Act.put, List.setIfInBounds_toArray, List.set_cons_zero, List.set_cons_succ]
                refine wpAnyH_all (rs := [34]) (by kernel_rfl) (by decide) ?_
                intro i hi
                obtain rfl := List.mem_singleton.1 hi
                refine wpOp_callM (o := ⟨some 46, Op.call { callee := Callee.value (Operand.func 24), args := #[Operand.tmp 43, Operand.tmp 45], argTypes := #[4, 4] }, _, _, _, none⟩) rfl (by rfl) (by go_simp) (H6.out _) ?_
                rintro e x8 ⟨rfl, hy8⟩
                have hx8 := bel_tr hx7 hy8
                have hBg6 := hBg6.bel hy8
                refine ⟨_, rfl, ?_⟩
                show _ ∧ _
                refine ⟨hx8, ?_⟩
                simp only [Act.put, List.setIfInBounds_toArray, List.set_cons_zero, List.set_cons_succ]
                refine wpAnyH_all (rs := [39]) (by kernel_rfl) (by decide) ?_
                intro i hi
                obtain rfl := List.mem_singleton.1 hi
                refine wpOp_callM (o := ⟨some 51, Op.call { callee := Callee.value (Operand.func 25), args := #[Operand.tmp 48, Operand.tmp 50], argTypes := #[3, 3] }, _, _, _, none⟩) rfl (by rfl) (by go_simp) (H7.out _) ?_
                rintro e x9 ⟨rfl, hy9⟩
                have hx9 := bel_tr hx8 hy9
                have hBg6 := hBg6.bel hy9
                refine ⟨_, rfl, ?_⟩
                show _ ∧ _
                refine ⟨hx9, ?_⟩
                simp only [Act.put, List.setIfInBounds_toArray, List.set_cons_zero, List.set_cons_succ]
                refine wpAnyH_take (i := 40) (oi := ⟨some 52, Op.build 60 #[(0 , Operand.tmp 16), (1 , Operand.tmp 21), (2 , Operand.tmp 26), (3 , Operand.tmp 31), (4 , Operand.tmp 36), (5 , Operand.tmp 41), (6 , Operand.tmp 46), (7 , Operand.tmp 51), (8 , Operand.const (Value.int IntKind.i64 0))], _, _, _, none⟩) (v := Value.agg (giA [o0, o1, o2, o3, o4, o5, o6, o7, 0])) rfl (by kernel_rfl) (by kernel_rfl) (by kernel_rfl) (fun _ _ _ h => nomatch h.1) (yieldsIf_buildL (by rfl) 60 _ rfl HB.out rfl) hx9 ?_
                simp only [Act.put, List.setIfInBounds_toArray, List.set_cons_zero, List.set_cons_succ]
                refine wpAnyH_all (rs := [42]) (by kernel_rfl) (by decide) ?_
                intro i hi
                obtain rfl := List.mem_singleton.1 hi
                refine wpOp_of_list (o := ⟨none, Op.store 60 (Operand.tmp 6) (Operand.tmp 52), _, _, _, none⟩) rfl ?_
                refine wpList_storeB rfl _ _ _ rfl rfl rfl hBg6 i9_size rfl (giA_one _) ?_
                intro x10 hBz hSz
                have hx10 := (hx9 : Below w3.heap.size w3 _).trans (hSz.below hlg6)
                show _ ∧ _
                refine ⟨hx10, ?_⟩
                simp only [Act.put]
                refine wpAnyH_done (by kernel_rfl) ?_ _
                exact ⟨rfl, g6, rfl, hBz, hlg6, hx10⟩
            · skip
              refine wpOp_of_list (o := ⟨some 6, Op.alloc 60, _, _, _, none⟩) rfl ?_
              refine wpList_allocZ rfl _ rfl i9_zero ?_
              intro g6 x5 hgg6 hBg6 hy5 hs
              have hlg6 : w3.heap.size ≤ g6 := Nat.le_trans (hx4 : Below w3.heap.size w3 _).size (Nat.le_of_eq hgg6.symm)
              clear hgg6 hs
              have hx5 := bel_tr hx4 hy5
              show _ ∧ _
              refine ⟨hx5, ?_⟩
              simp only [Act.put, List.setIfInBounds_toArray, List.set_cons_zero, List.set_cons_succ]
              refine wpAnyH_all (rs := [24]) (by kernel_rfl) (by decide) ?_
              intro i hi
              obtain rfl := List.mem_singleton.1 hi
              refine wpOp_callM (o := ⟨some 36, Op.call { callee := Callee.value (Operand.func 24), args := #[Operand.tmp 33, Operand.tmp 35], argTypes := #[4, 4] }, _, _, _, none⟩) rfl (by rfl) (by go_simp) (H4.out _) ?_
              rintro e x6 ⟨rfl, hy6⟩
              have hx6 := bel_tr hx5 hy6
              have hBg6 := hBg6.bel hy6
              refine ⟨_, rfl, ?_⟩
              show _ ∧ _
              refine ⟨hx6, ?_⟩
              simp only [Act.put, List.setIfInBounds_toArray, List.set_cons_zero, List.set_cons_succ]
              refine wpAnyH_all (rs := [29]) (by kernel_rfl) (by decide) ?_
              intro i hi
              obtain rfl := List.mem_singleton.1 hi
              refine wpOp_callM (o := ⟨some 41, Op.call { callee := Callee.value (Operand.func 25), args := #[Operand.tmp 38, Operand.tmp 40], argTypes := #[3, 3] }, _, _, _, none⟩) rfl (by rfl) (by go_simp) (H5.out _) ?_
              rintro e x7 ⟨rfl, hy7⟩
              have hx7 := bel_tr hx6 hy7
              have hBg6 := hBg6.bel hy7
              refine ⟨_, rfl, ?_⟩
              show _ ∧ _
              refine ⟨hx7, ?_⟩
              simp only [Act.put, List.setIfInBounds_toArray, List.set_cons_zero, List.set_cons_succ]
              refine wpAnyH_all (rs := [34]) (by kernel_rfl) (by decide) ?_
              intro i hi
              obtain rfl := List.mem_singleton.1 hi
              refine wpOp_callM (o := ⟨some 46, Op.call { callee := Callee.value (Operand.func 24), args := #[Operand.tmp 43, Operand.tmp 45], argTypes := #[4, 4] }, _, _, _, none⟩) rfl (by rfl) (by go_simp) (H6.out _) ?_
              rintro e x8 ⟨rfl, hy8⟩
              have hx8 := bel_tr hx7 hy8
              have hBg6 := hBg6.bel hy8
              refine ⟨_, rfl, ?_⟩
              show _ ∧ _
              refine ⟨hx8, ?_⟩
              simp only [Act.put, List.setIfInBounds_toArray, List.set_cons_zero, List.set_cons_succ]
              refine wpAnyH_all (rs := [39]) (by kernel_rfl) (by decide) ?_
              intro i hi
              obtain rfl := List.mem_singleton.1 hi
              refine wpOp_callM (o := ⟨some 51, Op.call { callee := Callee.value (Operand.func 25), args := #[Operand.tmp 48, Operand.tmp 50], argTypes := #[3, 3] }, _, _, _, none⟩) rfl (by rfl) (by go_simp) (H7.out _) ?_
              rintro e x9 ⟨rfl, hy9⟩
              have hx9 := bel_tr hx8 hy9
              have hBg6 := hBg6.bel hy9
              refine ⟨_, rfl, ?_⟩
              show _ ∧ _
              refine ⟨hx9, ?_⟩
              simp only [Act.put, List.setIfInBounds_toArray, List.set_cons_zero, List.set_cons_succ]
              refine wpAnyH_take (i := 40) (oi := ⟨some 52, Op.build 60 #[(0 , Operand.tmp 16), (1 , Operand.tmp 21), (2 , Operand.tmp 26), (3 , Operand.tmp 31), (4 , Operand.tmp 36), (5 , Operand.tmp 41), (6 , Operand.tmp 46), (7 , Operand.tmp 51), (8 , Operand.const (Value.int IntKind.i64 0))], _, _, _, none⟩) (v := Value.agg (giA [o0, o1, o2, o3, o4, o5, o6, o7, 0])) rfl (by kernel_rfl) (by kernel_rfl) (by kernel_rfl) (fun _ _ _ h => nomatch h.1) (yieldsIf_buildL (by rfl) 60 _ rfl HB.out rfl) hx9 ?_
              simp only [Act.put, List.setIfInBounds_toArray, List.set_cons_zero, List.set_cons_succ]
              refine wpAnyH_all (rs := [42]) (by kernel_rfl) (by decide) ?_
              intro i hi
              obtain rfl := List.mem_singleton.1 hi
              refine wpOp_of_list (o := ⟨none, Op.store 60 (Operand.tmp 6) (Operand.tmp 52), _, _, _, none⟩) rfl ?_
              refine wpList_storeB rfl _ _ _ rfl rfl rfl hBg6 i9_size rfl (giA_one _) ?_
              intro x10 hBz hSz
              have hx10 := (hx9 : Below w3.heap.size w3 _).trans (hSz.below hlg6)
              show _ ∧ _
              refine ⟨hx10, ?_⟩
              simp only [Act.put]
              refine wpAnyH_done (by kernel_rfl) ?_ _
              exact ⟨rfl, g6, rfl, hBz, hlg6, hx10⟩
          · skip
            refine wpOp_of_list (o := ⟨some 6, Op.alloc 60, _, _, _, none⟩) rfl ?_
            refine wpList_allocZ rfl _ rfl i9_zero ?_
            intro g6 x4 hgg6 hBg6 hy4 hs
            have hlg6 : w3.heap.size ≤ g6 := Nat.le_trans (hx3 : Below w3.heap.size w3 _).size (Nat.le_of_eq hgg6.symm)
            clear hgg6 hs
            have hx4 := bel_tr hx3 hy4
            show _ ∧ _
            refine ⟨hx4, ?_⟩
            simp only [Act.put, List.setIfInBounds_toArray, List.set_cons_zero, List.set_cons_succ]
            refine wpAnyH_all (rs := [19]) (by kernel_rfl) (by decide) ?_
            intro i hi
            obtain rfl := List.mem_singleton.1 hi
            refine wpOp_callM (o := ⟨some 31, Op.call { callee := Callee.value (Operand.func 24), args := #[Operand.tmp 28, Operand.tmp 30], argTypes := #[4, 4] }, _, _, _, none⟩) rfl (by rfl) (by go_simp) (H3.out _) ?_
            rintro e x5 ⟨rfl, hy5⟩
            have hx5 := bel_tr hx4 hy5
            have hBg6 := hBg6.bel hy5
            refine ⟨_, rfl, ?_⟩
            show _ ∧ _
            refine ⟨hx5, ?_⟩
            simp only [Act.put, List.setIfInBounds_toArray, List.set_cons_zero, List.set_cons_succ]
            refine wpAnyH_all (rs := [24]) (by kernel_rfl) (by decide) ?_
            intro i hi
            obtain rfl := List.mem_singleton.1 hi
            refine wpOp_callM (o := ⟨some 36, Op.call { callee := Callee.value (Operand.func 24), args := #[Operand.tmp 33, Operand.tmp 35], argTypes := #[4, 4] }, _, _, _, none⟩) rfl (by rfl) (by go_simp) (H4.out _) ?_
            rintro e x6 ⟨rfl, hy6⟩
            have hx6 := bel_tr hx5 hy6
            have hBg6 := hBg6.bel hy6
            refine ⟨_, rfl, ?_⟩
            show _ ∧ _
            refine ⟨hx6, ?_⟩
            simp only [Act.put, List.setIfInBounds_toArray, List.set_cons_zero, List.set_cons_succ]
            refine wpAnyH_all (rs := [29]) (by kernel_rfl) (by decide) ?_
            intro i hi
            obtain rfl := List.mem_singleton.1 hi
            refine wpOp_callM (o := ⟨some 41, Op.call { callee := Callee.value (Operand.func 25), args := #[Operand.tmp 38, Operand.tmp 40], argTypes := #[3, 3] }, _, _, _, none⟩) rfl (by rfl) (by go_simp) (H5.out _) ?_
            rintro e x7 ⟨rfl, hy7⟩
            have hx7 := bel_tr hx6 hy7
            have hBg6 := hBg6.bel hy7
            refine ⟨_, rfl, ?_⟩
            show _ ∧ _
            refine ⟨hx7, ?_⟩
            simp only [Act.put, List.setIfInBounds_toArray, List.set_cons_zero, List.set_cons_succ]
            refine wpAnyH_all (rs := [34]) (by kernel_rfl) (by decide) ?_
            intro i hi
            obtain rfl := List.mem_singleton.1 hi
            refine wpOp_callM (o := ⟨some 46, Op.call { callee := Callee.value (Operand.func 24), args := #[Operand.tmp 43, Operand.tmp 45], argTypes := #[4, 4] }, _, _, _, none⟩) rfl (by rfl) (by go_simp) (H6.out _) ?_
            rintro e x8 ⟨rfl, hy8⟩
            have hx8 := bel_tr hx7 hy8
            have hBg6 := hBg6.bel hy8
            refine ⟨_, rfl, ?_⟩
            show _ ∧ _
            refine ⟨hx8, ?_⟩
            simp only [Act.put, List.setIfInBounds_toArray, List.set_cons_zero, List.set_cons_succ]
            refine wpAnyH_all (rs := [39]) (by kernel_rfl) (by decide) ?_
            intro i hi
            obtain rfl := List.mem_singleton.1 hi
            refine wpOp_callM (o := ⟨some 51, Op.call { callee := Callee.value (Operand.func 25), args := #[Operand.tmp 48, Operand.tmp 50], argTypes := #[3, 3] }, _, _, _, none⟩) rfl (by rfl) (by go_simp) (H7.out _) ?_
            rintro e x9 ⟨rfl, hy9⟩
            have hx9 := bel_tr hx8 hy9
            have hBg6 := hBg6.bel hy9
            refine ⟨_, rfl, ?_⟩
            show _ ∧ _
            refine ⟨hx9, ?_⟩
            simp only [Act.put, List.setIfInBounds_toArray, List.set_cons_zero, List.set_cons_succ]
            refine wpAnyH_take (i := 40) (oi := ⟨some 52, Op.build 60 #[(0 , Operand.tmp 16), (1 , Operand.tmp 21), (2 , Operand.tmp 26), (3 , Operand.tmp 31), (4 , Operand.tmp 36), (5 , Operand.tmp 41), (6 , Operand.tmp 46), (7 , Operand.tmp 51), (8 , Operand.const (Value.int IntKind.i64 0))], _, _, _, none⟩) (v := Value.agg (giA [o0, o1, o2, o3, o4, o5, o6, o7, 0])) rfl (by kernel_rfl) (by kernel_rfl) (by kernel_rfl) (fun _ _ _ h => nomatch h.1) (yieldsIf_buildL (by rfl) 60 _ rfl HB.out rfl) hx9 ?_
            simp only [Act.put, List.setIfInBounds_toArray, List.set_cons_zero, List.set_cons_succ]
            refine wpAnyH_all (rs := [42]) (by kernel_rfl) (by decide) ?_
            intro i hi
            obtain rfl := List.mem_singleton.1 hi
            refine wpOp_of_list (o := ⟨none, Op.store 60 (Operand.tmp 6) (Operand.tmp 52), _, _, _, none⟩) rfl ?_
            refine wpList_storeB rfl _ _ _ rfl rfl rfl hBg6 i9_size rfl (giA_one _) ?_
            intro x10 hBz hSz
            have hx10 := (hx9 : Below w3.heap.size w3 _).trans (hSz.below hlg6)
            show _ ∧ _
            refine ⟨hx10, ?_⟩
            simp only [Act.put]
            refine wpAnyH_done (by kernel_rfl) ?_ _
            exact ⟨rfl, g6, rfl, hBz, hlg6, hx10⟩
        · skip
          refine wpOp_of_list (o := ⟨some 6, Op.alloc 60, _, _, _, none⟩) rfl ?_
          refine wpList_allocZ rfl _ rfl i9_zero ?_
          intro g6 x3 hgg6 hBg6 hy3 hs
          have hlg6 : w3.heap.size ≤ g6 := Nat.le_trans (hx2 : Below w3.heap.size w3 _).size (Nat.le_of_eq hgg6.symm)
          clear hgg6 hs
          have hx3 := bel_tr hx2 hy3
          show _ ∧ _
          refine ⟨hx3, ?_⟩
          simp only [Act.put, List.setIfInBounds_toArray, List.set_cons_zero, List.set_cons_succ]
          refine wpAnyH_all (rs := [14]) (by kernel_rfl) (by decide) ?_
          intro i hi
          obtain rfl := List.mem_singleton.1 hi
          refine wpOp_callM (o := ⟨some 26, Op.call { callee := Callee.value (Operand.func 24), args := #[Operand.tmp 23, Operand.tmp 25], argTypes := #[4, 4] }, _, _, _, none⟩) rfl (by rfl) (by go_simp) (H2.out _) ?_
          rintro e x4 ⟨rfl, hy4⟩
          have hx4 := bel_tr hx3 hy4
          have hBg6 := hBg6.bel hy4
          refine ⟨_, rfl, ?_⟩
          show _ ∧ _
          refine ⟨hx4, ?_⟩
          simp only [Act.put, List.setIfInBounds_toArray, List.set_cons_zero, List.set_cons_succ]
          refine wpAnyH_all (rs := [19]) (by kernel_rfl) (by decide) ?_
          intro i hi
          obtain rfl := List.mem_singleton.1 hi
          refine wpOp_callM (o := ⟨some 31, Op.call { callee := Callee.value (Operand.func 24), args := #[Operand.tmp 28, Operand.tmp 30], argTypes := #[4, 4] }, _, _, _, none⟩) rfl (by rfl) (by go_simp) (H3.out _) ?_
          rintro e x5 ⟨rfl, hy5⟩
          have hx5 := bel_tr hx4 hy5
          have hBg6 := hBg6.bel hy5
          refine ⟨_, rfl, ?_⟩
          show _ ∧ _
          refine ⟨hx5, ?_⟩
          simp only [Act.put, List.setIfInBounds_toArray, List.set_cons_zero, List.set_cons_succ]
          refine wpAnyH_all (rs := [24]) (by kernel_rfl) (by decide) ?_
          intro i hi
          obtain rfl := List.mem_singleton.1 hi
          refine wpOp_callM (o := ⟨some 36, Op.call { callee := Callee.value (Operand.func 24), args := #[Operand.tmp 33, Operand.tmp 35], argTypes := #[4, 4] }, _, _, _, none⟩) rfl (by rfl) (by go_simp) (H4.out _) ?_
          rintro e x6 ⟨rfl, hy6⟩
          have hx6 := bel_tr hx5 hy6
          have hBg6 := hBg6.bel hy6
          refine ⟨_, rfl, ?_⟩
          show _ ∧ _
          refine ⟨hx6, ?_⟩
          simp only [Act.put, List.setIfInBounds_toArray, List.set_cons_zero, List.set_cons_succ]
          refine wpAnyH_all (rs := [29]) (by kernel_rfl) (by decide) ?_
          intro i hi
          obtain rfl := List.mem_singleton.1 hi
          refine wpOp_callM (o := ⟨some 41, Op.call { callee := Callee.value (Operand.func 25), args := #[Operand.tmp 38, Operand.tmp 40], argTypes := #[3, 3] }, _, _, _, none⟩) rfl (by rfl) (by go_simp) (H5.out _) ?_
          rintro e x7 ⟨rfl, hy7⟩
          have hx7 := bel_tr hx6 hy7
          have hBg6 := hBg6.bel hy7
          refine ⟨_, rfl, ?_⟩
          show _ ∧ _
          refine ⟨hx7, ?_⟩
          simp only [Act.put, List.setIfInBounds_toArray, List.set_cons_zero, List.set_cons_succ]
          refine wpAnyH_all (rs := [34]) (by kernel_rfl) (by decide) ?_
          intro i hi
          obtain rfl := List.mem_singleton.1 hi
          refine wpOp_callM (o := ⟨some 46, Op.call { callee := Callee.value (Operand.func 24), args := #[Operand.tmp 43, Operand.tmp 45], argTypes := #[4, 4] }, _, _, _, none⟩) rfl (by rfl) (by go_simp) (H6.out _) ?_
          rintro e x8 ⟨rfl, hy8⟩
          have hx8 := bel_tr hx7 hy8
          have hBg6 := hBg6.bel hy8
          refine ⟨_, rfl, ?_⟩
          show _ ∧ _
          refine ⟨hx8, ?_⟩
          simp only [Act.put, List.setIfInBounds_toArray, List.set_cons_zero, List.set_cons_succ]
          refine wpAnyH_all (rs := [39]) (by kernel_rfl) (by decide) ?_
          intro i hi
          obtain rfl := List.mem_singleton.1 hi
          refine wpOp_callM (o := ⟨some 51, Op.call { callee := Callee.value (Operand.func 25), args := #[Operand.tmp 48, Operand.tmp 50], argTypes := #[3, 3] }, _, _, _, none⟩) rfl (by rfl) (by go_simp) (H7.out _) ?_
          rintro e x9 ⟨rfl, hy9⟩
          have hx9 := bel_tr hx8 hy9
          have hBg6 := hBg6.bel hy9
          refine ⟨_, rfl, ?_⟩
          show _ ∧ _
          refine ⟨hx9, ?_⟩
          simp only [Act.put, List.setIfInBounds_toArray, List.set_cons_zero, List.set_cons_succ]
          refine wpAnyH_take (i := 40) (oi := ⟨some 52, Op.build 60 #[(0 , Operand.tmp 16), (1 , Operand.tmp 21), (2 , Operand.tmp 26), (3 , Operand.tmp 31), (4 , Operand.tmp 36), (5 , Operand.tmp 41), (6 , Operand.tmp 46), (7 , Operand.tmp 51), (8 , Operand.const (Value.int IntKind.i64 0))], _, _, _, none⟩) (v := Value.agg (giA [o0, o1, o2, o3, o4, o5, o6, o7, 0])) rfl (by kernel_rfl) (by kernel_rfl) (by kernel_rfl) (fun _ _ _ h => nomatch h.1) (yieldsIf_buildL (by rfl) 60 _ rfl HB.out rfl) hx9 ?_
          simp only [Act.put, List.setIfInBounds_toArray, List.set_cons_zero, List.set_cons_succ]
          refine wpAnyH_all (rs := [42]) (by kernel_rfl) (by decide) ?_
          intro i hi
          obtain rfl := List.mem_singleton.1 hi
          refine wpOp_of_list (o := ⟨none, Op.store 60 (Operand.tmp 6) (Operand.tmp 52), _, _, _, none⟩) rfl ?_
          refine wpList_storeB rfl _ _ _ rfl rfl rfl hBg6 i9_size rfl (giA_one _) ?_
          intro x10 hBz hSz
          have hx10 := (hx9 : Below w3.heap.size w3 _).trans (hSz.below hlg6)
          show _ ∧ _
          refine ⟨hx10, ?_⟩
          simp only [Act.put]
          refine wpAnyH_done (by kernel_rfl) ?_ _
          exact ⟨rfl, g6, rfl, hBz, hlg6, hx10⟩
      · skip
        refine wpOp_of_list (o := ⟨some 6, Op.alloc 60, _, _, _, none⟩) rfl ?_
        refine wpList_allocZ rfl _ rfl i9_zero ?_
        intro g6 x2 hgg6 hBg6 hy2 hs
        have hlg6 : w3.heap.size ≤ g6 := Nat.le_trans (hx1 : Below w3.heap.size w3 _).size (Nat.le_of_eq hgg6.symm)
        clear hgg6 hs
        have hx2 := bel_tr hx1 hy2
        show _ ∧ _
        refine ⟨hx2, ?_⟩
        simp only [Act.put, List.setIfInBounds_toArray, List.set_cons_zero, List.set_cons_succ]
        refine wpAnyH_all (rs := [9]) (by kernel_rfl) (by decide) ?_
        intro i hi
        obtain rfl := List.mem_singleton.1 hi
        refine wpOp_callM (o := ⟨some 21, Op.call { callee := Callee.value (Operand.func 24), args := #[Operand.tmp 18, Operand.tmp 20], argTypes := #[4, 4] }, _, _, _, none⟩) rfl (by rfl) (by go_simp) (H1.out _) ?_
        rintro e x3 ⟨rfl, hy3⟩
        have hx3 := bel_tr hx2 hy3
        have hBg6 := hBg6.bel hy3
        refine ⟨_, rfl, ?_⟩
        show _ ∧ _
        refine ⟨hx3, ?_⟩
        simp only [Act.put, List.setIfInBounds_toArray, List.set_cons_zero, List.set_cons_succ]
        refine wpAnyH_all (rs := [14]) (by kernel_rfl) (by decide) ?_
        intro i hi
        obtain rfl := List.mem_singleton.1 hi
        refine wpOp_callM (o := ⟨some 26, Op.call { callee := Callee.value (Operand.func 24), args := #[Operand.tmp 23, Operand.tmp 25], argTypes := #[4, 4] }, _, _, _, none⟩) rfl (by rfl) (by go_simp) (H2.out _) ?_
        rintro e x4 ⟨rfl, hy4⟩
        have hx4 := bel_tr hx3 hy4
        have hBg6 := hBg6.bel hy4
        refine ⟨_, rfl, ?_⟩
        show _ ∧ _
        refine ⟨hx4, ?_⟩
        simp only [Act.put, List.setIfInBounds_toArray, List.set_cons_zero, List.set_cons_succ]
        refine wpAnyH_all (rs := [19]) (by kernel_rfl) (by decide) ?_
        intro i hi
        obtain rfl := List.mem_singleton.1 hi
        refine wpOp_callM (o := ⟨some 31, Op.call { callee := Callee.value (Operand.func 24), args := #[Operand.tmp 28, Operand.tmp 30], argTypes := #[4, 4] }, _, _, _, none⟩) rfl (by rfl) (by go_simp) (H3.out _) ?_
        rintro e x5 ⟨rfl, hy5⟩
        have hx5 := bel_tr hx4 hy5
        have hBg6 := hBg6.bel hy5
        refine ⟨_, rfl, ?_⟩
        show _ ∧ _
        refine ⟨hx5, ?_⟩
        simp only [Act.put, List.setIfInBounds_toArray, List.set_cons_zero, List.set_cons_succ]
        refine wpAnyH_all (rs := [24]) (by kernel_rfl) (by decide) ?_
        intro i hi
        obtain rfl := List.mem_singleton.1 hi
        refine wpOp_callM (o := ⟨some 36, Op.call { callee := Callee.value (Operand.func 24), args := #[Operand.tmp 33, Operand.tmp 35], argTypes := #[4, 4] }, _, _, _, none⟩) rfl (by rfl) (by go_simp) (H4.out _) ?_
        rintro e x6 ⟨rfl, hy6⟩
        have hx6 := bel_tr hx5 hy6
        have hBg6 := hBg6.bel hy6
        refine ⟨_, rfl, ?_⟩
        show _ ∧ _
        refine ⟨hx6, ?_⟩
        simp only [Act.put, List.setIfInBounds_toArray, List.set_cons_zero, List.set_cons_succ]
        refine wpAnyH_all (rs := [29]) (by kernel_rfl) (by decide) ?_
        intro i hi
        obtain rfl := List.mem_singleton.1 hi
        refine wpOp_callM (o := ⟨some 41, Op.call { callee := Callee.value (Operand.func 25), args := #[Operand.tmp 38, Operand.tmp 40], argTypes := #[3, 3] }, _, _, _, none⟩) rfl (by rfl) (by go_simp) (H5.out _) ?_
        rintro e x7 ⟨rfl, hy7⟩
        have hx7 := bel_tr hx6 hy7
        have hBg6 := hBg6.bel hy7
        refine ⟨_, rfl, ?_⟩
        show _ ∧ _
        refine ⟨hx7, ?_⟩
        simp only [Act.put, List.setIfInBounds_toArray, List.set_cons_zero, List.set_cons_succ]
        refine wpAnyH_all (rs := [34]) (by kernel_rfl) (by decide) ?_
        intro i hi
        obtain rfl := List.mem_singleton.1 hi
        refine wpOp_callM (o := ⟨some 46, Op.call { callee := Callee.value (Operand.func 24), args := #[Operand.tmp 43, Operand.tmp 45], argTypes := #[4, 4] }, _, _, _, none⟩) rfl (by rfl) (by go_simp) (H6.out _) ?_
        rintro e x8 ⟨rfl, hy8⟩
        have hx8 := bel_tr hx7 hy8
        have hBg6 := hBg6.bel hy8
        refine ⟨_, rfl, ?_⟩
        show _ ∧ _
        refine ⟨hx8, ?_⟩
        simp only [Act.put, List.setIfInBounds_toArray, List.set_cons_zero, List.set_cons_succ]
        refine wpAnyH_all (rs := [39]) (by kernel_rfl) (by decide) ?_
        intro i hi
        obtain rfl := List.mem_singleton.1 hi
        refine wpOp_callM (o := ⟨some 51, Op.call { callee := Callee.value (Operand.func 25), args := #[Operand.tmp 48, Operand.tmp 50], argTypes := #[3, 3] }, _, _, _, none⟩) rfl (by rfl) (by go_simp) (H7.out _) ?_
        rintro e x9 ⟨rfl, hy9⟩
        have hx9 := bel_tr hx8 hy9
        have hBg6 := hBg6.bel hy9
        refine ⟨_, rfl, ?_⟩
        show _ ∧ _
        refine ⟨hx9, ?_⟩
        simp only [Act.put, List.setIfInBounds_toArray, List.set_cons_zero, List.set_cons_succ]
        refine wpAnyH_take (i := 40) (oi := ⟨some 52, Op.build 60 #[(0 , Operand.tmp 16), (1 , Operand.tmp 21), (2 , Operand.tmp 26), (3 , Operand.tmp 31), (4 , Operand.tmp 36), (5 , Operand.tmp 41), (6 , Operand.tmp 46), (7 , Operand.tmp 51), (8 , Operand.const (Value.int IntKind.i64 0))], _, _, _, none⟩) (v := Value.agg (giA [o0, o1, o2, o3, o4, o5, o6, o7, 0])) rfl (by kernel_rfl) (by kernel_rfl) (by kernel_rfl) (fun _ _ _ h => nomatch h.1) (yieldsIf_buildL (by rfl) 60 _ rfl HB.out rfl) hx9 ?_
        simp only [Act.put, List.setIfInBounds_toArray, List.set_cons_zero, List.set_cons_succ]
        refine wpAnyH_all (rs := [42]) (by kernel_rfl) (by decide) ?_
        intro i hi
        obtain rfl := List.mem_singleton.1 hi
        refine wpOp_of_list (o := ⟨none, Op.store 60 (Operand.tmp 6) (Operand.tmp 52), _, _, _, none⟩) rfl ?_
        refine wpList_storeB rfl _ _ _ rfl rfl rfl hBg6 i9_size rfl (giA_one _) ?_
        intro x10 hBz hSz
        have hx10 := (hx9 : Below w3.heap.size w3 _).trans (hSz.below hlg6)
        show _ ∧ _
        refine ⟨hx10, ?_⟩
        simp only [Act.put]
        refine wpAnyH_done (by kernel_rfl) ?_ _
        exact ⟨rfl, g6, rfl, hBz, hlg6, hx10⟩
    · skip
      refine wpOp_of_list (o := ⟨some 6, Op.alloc 60, _, _, _, none⟩) rfl ?_
      refine wpList_allocZ rfl _ rfl i9_zero ?_
      intro g6 x1 hgg6 hBg6 hy1 hs
      have hlg6 : w3.heap.size ≤ g6 := Nat.le_trans ((Below.refl _ _).drew : Below w3.heap.size w3 _).size (Nat.le_of_eq hgg6.symm)
      clear hgg6 hs
      have hx1 := bel_drew hy1
      show _ ∧ _
      refine ⟨hx1, ?_⟩
      simp only [Act.put, List.setIfInBounds_toArray, List.set_cons_zero, List.set_cons_succ]
      refine wpAnyH_all (rs := [4]) (by kernel_rfl) (by decide) ?_
      intro i hi
      obtain rfl := List.mem_singleton.1 hi
      refine wpOp_callM (o := ⟨some 16, Op.call { callee := Callee.value (Operand.func 24), args := #[Operand.tmp 13, Operand.tmp 15], argTypes := #[4, 4] }, _, _, _, none⟩) rfl (by rfl) (by go_simp) (H0.out _) ?_
      rintro e x2 ⟨rfl, hy2⟩
      have hx2 := bel_tr hx1 hy2
      have hBg6 := hBg6.bel hy2
      refine ⟨_, rfl, ?_⟩
      show _ ∧ _
      refine ⟨hx2, ?_⟩
      simp only [Act.put, List.setIfInBounds_toArray, List.set_cons_zero, List.set_cons_succ]
      refine wpAnyH_all (rs := [9]) (by kernel_rfl) (by decide) ?_
      intro i hi
      obtain rfl := List.mem_singleton.1 hi
      refine wpOp_callM (o := ⟨some 21, Op.call { callee := Callee.value (Operand.func 24), args := #[Operand.tmp 18, Operand.tmp 20], argTypes := #[4, 4] }, _, _, _, none⟩) rfl (by rfl) (by go_simp) (H1.out _) ?_
      rintro e x3 ⟨rfl, hy3⟩
      have hx3 := bel_tr hx2 hy3
      have hBg6 := hBg6.bel hy3
      refine ⟨_, rfl, ?_⟩
      show _ ∧ _
      refine ⟨hx3, ?_⟩
      simp only [Act.put, List.setIfInBounds_toArray, List.set_cons_zero, List.set_cons_succ]
      refine wpAnyH_all (rs := [14]) (by kernel_rfl) (by decide) ?_
      intro i hi
      obtain rfl := List.mem_singleton.1 hi
      refine wpOp_callM (o := ⟨some 26, Op.call { callee := Callee.value (Operand.func 24), args := #[Operand.tmp 23, Operand.tmp 25], argTypes := #[4, 4] }, _, _, _, none⟩) rfl (by rfl) (by go_simp) (H2.out _) ?_
      rintro e x4 ⟨rfl, hy4⟩
      have hx4 := bel_tr hx3 hy4
      have hBg6 := hBg6.bel hy4
      refine ⟨_, rfl, ?_⟩
      show _ ∧ _
      refine ⟨hx4, ?_⟩
      simp only [Act.put, List.setIfInBounds_toArray, List.set_cons_zero, List.set_cons_succ]
      refine wpAnyH_all (rs := [19]) (by kernel_rfl) (by decide) ?_
      intro i hi
      obtain rfl := List.mem_singleton.1 hi
      refine wpOp_callM (o := ⟨some 31, Op.call { callee := Callee.value (Operand.func 24), args := #[Operand.tmp 28, Operand.tmp 30], argTypes := #[4, 4] }, _, _, _, none⟩) rfl (by rfl) (by go_simp) (H3.out _) ?_
      rintro e x5 ⟨rfl, hy5⟩
      have hx5 := bel_tr hx4 hy5
      have hBg6 := hBg6.bel hy5
      refine ⟨_, rfl, ?_⟩
      show _ ∧ _
      refine ⟨hx5, ?_⟩
      simp only [Act.put, List.setIfInBounds_toArray, List.set_cons_zero, List.set_cons_succ]
      refine wpAnyH_all (rs := [24]) (by kernel_rfl) (by decide) ?_
      intro i hi
      obtain rfl := List.mem_singleton.1 hi
      refine wpOp_callM (o := ⟨some 36, Op.call { callee := Callee.value (Operand.func 24), args := #[Operand.tmp 33, Operand.tmp 35], argTypes := #[4, 4] }, _, _, _, none⟩) rfl (by rfl) (by go_simp) (H4.out _) ?_
      rintro e x6 ⟨rfl, hy6⟩
      have hx6 := bel_tr hx5 hy6
      have hBg6 := hBg6.bel hy6
      refine ⟨_, rfl, ?_⟩
      show _ ∧ _
      refine ⟨hx6, ?_⟩
      simp only [Act.put, List.setIfInBounds_toArray, List.set_cons_zero, List.set_cons_succ]
      refine wpAnyH_all (rs := [29]) (by kernel_rfl) (by decide) ?_
      intro i hi
      obtain rfl := List.mem_singleton.1 hi
      refine wpOp_callM (o := ⟨some 41, Op.call { callee := Callee.value (Operand.func 25), args := #[Operand.tmp 38, Operand.tmp 40], argTypes := #[3, 3] }, _, _, _, none⟩) rfl (by rfl) (by go_simp) (H5.out _) ?_
      rintro e x7 ⟨rfl, hy7⟩
      have hx7 := bel_tr hx6 hy7
      have hBg6 := hBg6.bel hy7
      refine ⟨_, rfl, ?_⟩
      show _ ∧ _
      refine ⟨hx7, ?_⟩
      simp only [Act.put, List.setIfInBounds_toArray, List.set_cons_zero, List.set_cons_succ]
      refine wpAnyH_all (rs := [34]) (by kernel_rfl) (by decide) ?_
      intro i hi
      obtain rfl := List.mem_singleton.1 hi
      refine wpOp_callM (o := ⟨some 46, Op.call { callee := Callee.value (Operand.func 24), args := #[Operand.tmp 43, Operand.tmp 45], argTypes := #[4, 4] }, _, _, _, none⟩) rfl (by rfl) (by go_simp) (H6.out _) ?_
      rintro e x8 ⟨rfl, hy8⟩
      have hx8 := bel_tr hx7 hy8
      have hBg6 := hBg6.bel hy8
      refine ⟨_, rfl, ?_⟩
      show _ ∧ _
      refine ⟨hx8, ?_⟩
      simp only [Act.put, List.setIfInBounds_toArray, List.set_cons_zero, List.set_cons_succ]
      refine wpAnyH_all (rs := [39]) (by kernel_rfl) (by decide) ?_
      intro i hi
      obtain rfl := List.mem_singleton.1 hi
      refine wpOp_callM (o := ⟨some 51, Op.call { callee := Callee.value (Operand.func 25), args := #[Operand.tmp 48, Operand.tmp 50], argTypes := #[3, 3] }, _, _, _, none⟩) rfl (by rfl) (by go_simp) (H7.out _) ?_
      rintro e x9 ⟨rfl, hy9⟩
      have hx9 := bel_tr hx8 hy9
      have hBg6 := hBg6.bel hy9
      refine ⟨_, rfl, ?_⟩
      show _ ∧ _
      refine ⟨hx9, ?_⟩
      simp only [Act.put, List.setIfInBounds_toArray, List.set_cons_zero, List.set_cons_succ]
      refine wpAnyH_take (i := 40) (oi := ⟨some 52, Op.build 60 #[(0 , Operand.tmp 16), (1 , Operand.tmp 21), (2 , Operand.tmp 26), (3 , Operand.tmp 31), (4 , Operand.tmp 36), (5 , Operand.tmp 41), (6 , Operand.tmp 46), (7 , Operand.tmp 51), (8 , Operand.const (Value.int IntKind.i64 0))], _, _, _, none⟩) (v := Value.agg (giA [o0, o1, o2, o3, o4, o5, o6, o7, 0])) rfl (by kernel_rfl) (by kernel_rfl) (by kernel_rfl) (fun _ _ _ h => nomatch h.1) (yieldsIf_buildL (by rfl) 60 _ rfl HB.out rfl) hx9 ?_
      simp only [Act.put, List.setIfInBounds_toArray, List.set_cons_zero, List.set_cons_succ]
      refine wpAnyH_all (rs := [42]) (by kernel_rfl) (by decide) ?_
      intro i hi
      obtain rfl := List.mem_singleton.1 hi
      refine wpOp_of_list (o := ⟨none, Op.store 60 (Operand.tmp 6) (Operand.tmp 52), _, _, _, none⟩) rfl ?_
      refine wpList_storeB rfl _ _ _ rfl rfl rfl hBg6 i9_size rfl (giA_one _) ?_
      intro x10 hBz hSz
      have hx10 := (hx9 : Below w3.heap.size w3 _).trans (hSz.below hlg6)
      show _ ∧ _
      refine ⟨hx10, ?_⟩
      simp only [Act.put]
      refine wpAnyH_done (by kernel_rfl) ?_ _
      exact ⟨rfl, g6, rfl, hBz, hlg6, hx10⟩
  case k =>
    rintro g6 w6 ⟨hB6, hlg6, hb6⟩
    have ca := a8.out _ hb6
    have cb := b8.out _ hb6
    have ca9 := a9.out _ hb6
    have cb9 := b9.out _ hb6
    have hwg : w.heap.size ≤ g6 := Nat.le_trans Hb.out.size hlg6
    clear a0 a1 a2 a3 a4 a5 a6 a7 a8 a9 b0 b1 b2 b3 b4 b5 b6 b7 b8 b9 H0 H1 H2 H3 H4 H5 H6 H7 HB
    by_cases hfam : a.fam = b.fam
    · have i0 : (a.fam == b.fam) = true := by simpa using hfam
      have HE2 : Hid (L = [o0, o1, o2, o3, o4, o5, o6, o7, o9]) := Lib.hid (by rw [HE.out, if_pos hfam])
      clear HE hfam
      go_wp2_with (first
        | (go_at_call 25; refine (H9.out _).mono ?_; rintro e w7 ⟨rfl, hb7⟩; have hB67 := hB6.bel hb7; have c8 : w7.cell? ⟨g6, 8, none⟩ = some (.int .i64 0) := hB67.cell 8; have f8 := hB67.free 8; refine hold ?_))
      refine Lib.hid ?_
      have hXL : Bk (w7.setCell ⟨g6, 8, none⟩ (.int .i64 o9)) g6 60 (giA L) := by rw [HE2.out]; exact hB67.set_ 8 (.int .i64 o9)
      have hbz := (bel_tr Hb.out (bel_tr hb6 hb7)).setCell (p := ⟨g6, 8, none⟩) hwg (.int .i64 o9)
      clear hB6 hB67 hb6 hb7 ca cb ca9 cb9
      have HLn : Hid (L.length = 9) := Lib.hid (by rw [HE2.out]; rfl)
      have HLz : Hid ((Tryz.prog.info? 60).map (·.size) = some (giA L).size) := Lib.hid (by rw [giA_size, HLn.out]; exact i9_size)
      have HXL := Lib.hid hXL
      have Hbz := Lib.hid hbz
      clear hXL hbz
      go_wp2_with (first
        | ((with_reducible show wpList _ _ _ (⟨some 64, _, _, _, _, _⟩ :: _) _ _); refine wpList_loadB (o := ⟨some 64, _, _, _, _, _⟩) rfl _ _ rfl rfl HXL.out i9_under rfl HLz.out ?_))
      go_loopw [65] (fun i wr => ∃ k : Nat, k ≤ 9 ∧ i = .int .i64 k ∧ fst1 L = fst1 (L.drop k) ∧ fstI L 0 = fstI (L.drop k) k ∧ wr = w7.setCell ⟨g6, 8, none⟩ (.int .i64 o9)) (fun i _ => 9 - (intOf i).toNat)
      case atStart => exact ⟨0, by omega, rfl, rfl, rfl, rfl⟩
      case round =>
        obtain ⟨k, hk, rfl, h1, h2, hwr⟩ := hrel
        have Hbr : Hid (Below w.heap.size w wr) := Lib.hid (by rw [hwr]; exact Hbz.out)
        have Hwr := Lib.hid hwr
        clear hwr
        by_cases hlt : k < 9
        · have hkL : k < L.length := by rw [HLn.out]; exact hlt
          obtain ⟨x, hd, HX⟩ : ∃ x : Int, L.drop k = x :: L.drop (k + 1) ∧ Hid (∀ {o : Oper} {ops : Array Oper} {rest : List Oper} {a : Act} {Q : Exit → Act → World → Prop} (hgd : o.guard = none) (x1 y1 : Operand) (ho : o.op = .index 60 x1 y1) (hx : a.eval x1 = .agg (giA L)) (hy : a.eval y1 = .int .i64 (k : Int)) (h : wpList Tryz.prog ops Q rest (a.put o.dst (.int .i64 x)) wr), wpList Tryz.prog ops Q (o :: rest) a wr) :=
            ⟨L[k], List.drop_eq_getElem_cons hkL, Lib.hid (fun hgd x y ho hx hy h => wpList_idx9 hgd x y ho hx hy HLn.out hkL h)⟩
          rw [hd] at h1 h2
          have j0 : (k : Int) < 9 := by omega
          by_cases hx : x = 0
          · rw [fst1_cons _ _ hx] at h1
            rw [fstI_cons _ _ _ hx] at h2
            have G1 := Lib.hid h1
            have G2 := Lib.hid h2
            have i1 : (x != 0) = false := by simp [hx]
            clear h1 h2 hd hx hkL
            go_wp2_with (first
              | ((with_reducible show wpList _ _ _ (⟨some 68, _, _, _, _, _⟩ :: _) _ _); refine HX.out (o := ⟨some 68, _, _, _, _, _⟩) rfl _ _ rfl rfl rfl ?_))
            go_roundw
            case rel => exact ⟨k + 1, by omega, by go_num, G1.out, G2.out, Hwr.out⟩
            case measure => simp [intOf]; omega
          · rw [fst1_hit _ _ hx] at h1
            rw [fstI_hit _ _ _ hx] at h2
            have G : Hid (D = (x, (k : Int) + 1)) := Lib.hid (by rw [HD.out, h1, h2, if_neg hx])
            have i1 : (x != 0) = true := by simpa using hx
            clear h1 h2 hd hx hkL
            go_wp2_with (first
              | ((with_reducible show wpList _ _ _ (⟨some 68, _, _, _, _, _⟩ :: _) _ _); refine HX.out (o := ⟨some 68, _, _, _, _, _⟩) rfl _ _ rfl rfl rfl ?_))
            go_ret2
            exact ⟨by rw [G.out]; rfl, Hbr.out⟩
        · have hk9 : k = 9 := by omega
          subst hk9
          have hd : L.drop 9 = [] := List.drop_eq_nil_of_le (by rw [HLn.out]; omega)
          rw [hd] at h1 h2
          have G : Hid (D = (0, 10)) := Lib.hid (by rw [HD.out, h1]; rfl)
          clear h1 h2 hd
          go_wp2_with (fail)
          go_ret2
          exact ⟨by rw [G.out]; rfl, Hbr.out⟩
    · have i0 : (a.fam == b.fam) = false := by simpa using hfam
      have HE2 : Hid (L = [o0, o1, o2, o3, o4, o5, o6, o7, 0]) := Lib.hid (by rw [HE.out, if_neg hfam])
      clear HE hfam
      have hXL : Bk w6 g6 60 (giA L) := by rw [HE2.out]; exact hB6
      have hbz := bel_tr Hb.out hb6
      clear hB6 hb6
      have HLn : Hid (L.length = 9) := Lib.hid (by rw [HE2.out]; rfl)
      have HLz : Hid ((Tryz.prog.info? 60).map (·.size) = some (giA L).size) := Lib.hid (by rw [giA_size, HLn.out]; exact i9_size)
      have HXL := Lib.hid hXL
      have Hbz := Lib.hid hbz
      clear hXL hbz
      go_wp2_with (first
        | ((with_reducible show wpList _ _ _ (⟨some 64, _, _, _, _, _⟩ :: _) _ _); refine wpList_loadB (o := ⟨some 64, _, _, _, _, _⟩) rfl _ _ rfl rfl HXL.out i9_under rfl HLz.out ?_))
      go_loopw [65] (fun i wr => ∃ k : Nat, k ≤ 9 ∧ i = .int .i64 k ∧ fst1 L = fst1 (L.drop k) ∧ fstI L 0 = fstI (L.drop k) k ∧ wr = w6) (fun i _ => 9 - (intOf i).toNat)
      case atStart => exact ⟨0, by omega, rfl, rfl, rfl, rfl⟩
      case round =>
        obtain ⟨k, hk, rfl, h1, h2, hwr⟩ := hrel
        have Hbr : Hid (Below w.heap.size w wr) := Lib.hid (by rw [hwr]; exact Hbz.out)
        have Hwr := Lib.hid hwr
        clear hwr
        by_cases hlt : k < 9
        · have hkL : k < L.length := by rw [HLn.out]; exact hlt
          obtain ⟨x, hd, HX⟩ : ∃ x : Int, L.drop k = x :: L.drop (k + 1) ∧ Hid (∀ {o : Oper} {ops : Array Oper} {rest : List Oper} {a : Act} {Q : Exit → Act → World → Prop} (hgd : o.guard = none) (x1 y1 : Operand) (ho : o.op = .index 60 x1 y1) (hx : a.eval x1 = .agg (giA L)) (hy : a.eval y1 = .int .i64 (k : Int)) (h : wpList Tryz.prog ops Q rest (a.put o.dst (.int .i64 x)) wr), wpList Tryz.prog ops Q (o :: rest) a wr) :=
            ⟨L[k], List.drop_eq_getElem_cons hkL, Lib.hid (fun hgd x y ho hx hy h => wpList_idx9 hgd x y ho hx hy HLn.out hkL h)⟩
          rw [hd] at h1 h2
          have j0 : (k : Int) < 9 := by omega
          by_cases hx : x = 0
          · rw [fst1_cons _ _ hx] at h1
            rw [fstI_cons _ _ _ hx] at h2
            have G1 := Lib.hid h1
            have G2 := Lib.hid h2
            have i1 : (x != 0) = false := by simp [hx]
            clear h1 h2 hd hx hkL
            go_wp2_with (first
              | ((with_reducible show wpList _ _ _ (⟨some 68, _, _, _, _, _⟩ :: _) _ _); refine HX.out (o := ⟨some 68, _, _, _, _, _⟩) rfl _ _ rfl rfl rfl ?_))
            go_roundw
            case rel => exact ⟨k + 1, by omega, by go_num, G1.out, G2.out, Hwr.out⟩
            case measure => simp [intOf]; omega
          · rw [fst1_hit _ _ hx] at h1
            rw [fstI_hit _ _ _ hx] at h2
            have G : Hid (D = (x, (k : Int) + 1)) := Lib.hid (by rw [HD.out, h1, h2, if_neg hx])
            have i1 : (x != 0) = true := by simpa using hx
            clear h1 h2 hd hx hkL
            go_wp2_with (first
              | ((with_reducible show wpList _ _ _ (⟨some 68, _, _, _, _, _⟩ :: _) _ _); refine HX.out (o := ⟨some 68, _, _, _, _, _⟩) rfl _ _ rfl rfl rfl ?_))
            go_ret2
            exact ⟨by rw [G.out]; rfl, Hbr.out⟩
        · have hk9 : k = 9 := by omega
          subst hk9
          have hd : L.drop 9 = [] := List.drop_eq_nil_of_le (by rw [HLn.out]; omega)
          rw [hd] at h1 h2
          have G : Hid (D = (0, 10)) := Lib.hid (by rw [HD.out, h1]; rfl)
          clear h1 h2 hd
          go_wp2_with (fail)
          go_ret2
          exact ⟨by rw [G.out]; rfl, Hbr.out⟩
theorem dbetter_any (a b : Dw) (w : World) : Calls Tryz.prog 15 #[.agg (dwA a), .agg (dwA b)] w (DbPost w (dbet a b)) := by
  by_cases h : a = b
  · subst h
    rw [dbet_self]
    exact dbetter_same a w
  · exact dbetter_other a b h w
end Go.Proofs.YthlnndjkocnfcaaGreatDoor

/- dest.worthOf (printed by mk_dsd.py). -/
namespace Go.Proofs.YthlnndjkocnfcaaGreatDoor
open Go.RowKit
attribute [local go_sem] ba_get ext_take ext_drop ext_any ba_app

theorem dw_ok (N : Nt) (a : Ad) : (-9223372036854775808 ≤ (ofP a (polN N.P)).prec ∧ (ofP a (polN N.P)).prec ≤ 9223372036854775807) ∧ (-9223372036854775808 ≤ scoA a ∧ scoA a ≤ 9223372036854775807) ∧ (-9223372036854775808 ≤ a.fam ∧ a.fam ≤ 9223372036854775807) ∧ (-9223372036854775808 ≤ (0 : Int) ∧ (0 : Int) ≤ 9223372036854775807) :=
  ⟨(ofP a (polN N.P)).ok.1, by have := scoA_ok a; omega, a.ok.2.1, by omega⟩
/-- what counts of an address without an own one. -/
def dwB (N : Nt) (a : Ad) : Dw := ⟨false, false, false, false, false, (ofP a (polN N.P)).prec, (wayP a (rtN N.R)).1.tun, scoA a, a.fam, 0, dw_ok N a⟩
theorem dwi_ok (N : Nt) (a : Ad) (x : Ifc) : (-9223372036854775808 ≤ (ofP a (polN N.P)).prec ∧ (ofP a (polN N.P)).prec ≤ 9223372036854775807) ∧ (-9223372036854775808 ≤ scoA a ∧ scoA a ≤ 9223372036854775807) ∧ (-9223372036854775808 ≤ a.fam ∧ a.fam ≤ 9223372036854775807) ∧ (-9223372036854775808 ≤ min (comA a x.ad : Int) x.bits ∧ min (comA a x.ad : Int) x.bits ≤ 9223372036854775807) :=
  ⟨(ofP a (polN N.P)).ok.1, by have := scoA_ok a; omega, a.ok.2.1, by have := comA_ok a x.ad; have := x.ok.2; omega⟩
/-- what counts of an address with an own one. -/
def dwI (N : Nt) (a : Ad) (x : Ifc) : Dw := ⟨true, scoA x.ad == scoA a, x.dep, x.hom, (ofP x.ad (polN N.P)).lab == (ofP a (polN N.P)).lab, (ofP a (polN N.P)).prec, (wayP a (rtN N.R)).1.tun, scoA a, a.fam, min (comA a x.ad : Int) x.bits, dwi_ok N a x⟩
def dwN (N : Nt) (a : Ad) : Dw := if (pickN N a).2 = true then dwI N a (pickN N a).1 else dwB N a
def DwPost (w : World) (x : Dw) (e : Ending) (w' : World) : Prop := e = .returned (.agg (dwA x)) ∧ Below w.heap.size w w'
structure DwRel (w : World) (g2 g3 g4 g5 g8 : Nat) (vi vr vp : Value) (N : Nt) (a : Ad) (P : Pol) (wr : World) : Prop where
  b2 : Bk wr g2 26 #[vi, vr, vp]
  b3 : Bk wr g3 29 (adA a)
  b4 : Bk wr g4 49 (dwA dw0)
  b5 : Bk wr g5 56 (polA P)
  b8 : Bk wr g8 49 (dwA (dwB N a))
  b : Below w.heap.size w wr
theorem DwRel.bel {w wr w' : World} {g2 g3 g4 g5 g8 : Nat} {vi vr vp : Value} {N : Nt} {a : Ad} {P : Pol} (h : DwRel w g2 g3 g4 g5 g8 vi vr vp N a P wr) (k : Below wr.heap.size wr w') : DwRel w g2 g3 g4 g5 g8 vi vr vp N a P w' := ⟨h.b2.bel k, h.b3.bel k, h.b4.bel k, h.b5.bel k, h.b8.bel k, bel_tr h.b k⟩
structure DwS (w : World) (g2 g3 g4 g5 g8 g9 : Nat) (vi vr vp : Value) (a : Ad) (P : Pol) (x : Ifc) (D : Array Value) (wr : World) : Prop where
  b2 : Bk wr g2 26 #[vi, vr, vp]
  b3 : Bk wr g3 29 (adA a)
  b4 : Bk wr g4 49 (dwA dw0)
  b5 : Bk wr g5 56 (polA P)
  b8 : Bk wr g8 49 D
  b9 : Bk wr g9 42 (ifcA x)
  b : Below w.heap.size w wr
theorem DwS.bel {w wr w' : World} {g2 g3 g4 g5 g8 g9 : Nat} {vi vr vp : Value} {a : Ad} {P : Pol} {x : Ifc} {D : Array Value} (h : DwS w g2 g3 g4 g5 g8 g9 vi vr vp a P x D wr) (k : Below wr.heap.size wr w') : DwS w g2 g3 g4 g5 g8 g9 vi vr vp a P x D w' := ⟨h.b2.bel k, h.b3.bel k, h.b4.bel k, h.b5.bel k, h.b8.bel k, h.b9.bel k, bel_tr h.b k⟩
theorem DwS.put {w wr : World} {g2 g3 g4 g5 g8 g9 : Nat} {vi vr vp : Value} {a : Ad} {P : Pol} {x : Ifc} {D : Array Value} (h : DwS w g2 g3 g4 g5 g8 g9 vi vr vp a P x D wr) (hn : g2 ≠ g8 ∧ g3 ≠ g8 ∧ g4 ≠ g8 ∧ g5 ≠ g8 ∧ g9 ≠ g8 ∧ w.heap.size ≤ g8) (i : Nat) (v : Value) : DwS w g2 g3 g4 g5 g8 g9 vi vr vp a P x (D.setIfInBounds i v) (wr.setCell ⟨g8, i, none⟩ v) :=
  ⟨h.b2.far (p := ⟨g8, i, none⟩) hn.1 v, h.b3.far (p := ⟨g8, i, none⟩) hn.2.1 v, h.b4.far (p := ⟨g8, i, none⟩) hn.2.2.1 v, h.b5.far (p := ⟨g8, i, none⟩) hn.2.2.2.1 v, h.b8.set_ i v, h.b9.far (p := ⟨g8, i, none⟩) hn.2.2.2.2.1 v, h.b.setCell (p := ⟨g8, i, none⟩) hn.2.2.2.2.2 v⟩
set_option maxRecDepth 100000 in
set_option maxHeartbeats 4000000 in
theorem dworth_any (vi vr vp : Value) (N : Nt) (a : Ad) (w : World) (hN : NetRaw w vi vr vp N) (hE : EnvS w) (hlI : N.I.length ≤ 1000000) (hlR : N.R.length ≤ 1000000) (hlP : N.P.length ≤ 1000000) :
    Calls Tryz.prog 16 #[.agg #[vi, vr, vp], .agg (adA a)] w (DwPost w (dwN N a)) := by
  have HN := Lib.hid hN
  have HE := Lib.hid hE
  have Hns := Lib.hid (show (Tryz.prog.info? 26).map (·.size) = some (#[vi, vr, vp] : Array Value).size from net_size)
  have HW : Hid (∀ w', NetRaw w' vi vr vp N → Calls Tryz.prog 27 #[.agg #[vi, vr, vp], .agg (adA a)] w' (WayPost w' (wayP a (rtN N.R)))) := Lib.hid (fun w' h' => way_any vi vr vp N a w' h' hlR)
  have HP : Hid (∀ x w', NetRaw w' vi vr vp N → EnvS w' → Calls Tryz.prog 26 #[.agg #[vi, vr, vp], .agg (adA x)] w' (PolPost w' (ofP x (polN N.P)))) := Lib.hid (fun x w' h' k => polof_any vi vr vp N x w' h' k.t k.m hlP)
  have HS : Hid (∀ x w', EnvS w' → Calls Tryz.prog 28 #[.agg (adA x)] w' (InPost w' (scoA x))) := Lib.hid (fun x w' k => scope_any x w' k.a)
  have HK : Hid (∀ w', NetRaw w' vi vr vp N → EnvS w' → Calls Tryz.prog 29 #[.agg #[vi, vr, vp], .agg (adA a)] w' (PickPost w' (pickN N a))) := Lib.hid (fun w' h k => pickS_any vi vr vp N a w' h k hlI hlR hlP)
  have H1 : Hid (Tryz.prog.built 49 [(5, .int .i64 (ofP a (polN N.P)).prec), (6, .bool (wayP a (rtN N.R)).1.tun), (7, .int .i64 (scoA a)), (8, .int .i64 a.fam)] = some (dwA (dwB N a))) := Lib.hid (built_dw _ _ _ _ (dw_ok N a))
  have Hf : Hid (dwN N a = if (pickN N a).2 = true then dwI N a (pickN N a).1 else dwB N a) := Lib.hid rfl
  have HI : Hid (∀ x, dwA (dwI N a x) = #[.bool true, .bool (scoA x.ad == scoA a), .bool x.dep, .bool x.hom, .bool ((ofP x.ad (polN N.P)).lab == (ofP a (polN N.P)).lab), .int .i64 (ofP a (polN N.P)).prec, .bool (wayP a (rtN N.R)).1.tun, .int .i64 (scoA a), .int .i64 a.fam, .int .i64 (min (comA a x.ad : Int) x.bits)]) := Lib.hid (fun x => rfl)
  clear hN hE hlI hlR hlP
  have Hsa := Lib.hid (HS.out a)
  have HPa := Lib.hid (HP.out a)
  generalize hP : ofP a (polN N.P) = P at *
  generalize hwv : wayP a (rtN N.R) = wv at *
  obtain ⟨r, wb⟩ := wv
  generalize hsc : scoA a = sc at *
  go_enter Tryz.func16, Tryz.ntmps16
  go_wp2_with (first
    | ((with_reducible refine wpList_boxB (o := ⟨some 2, _, _, _, _, _⟩) rfl _ _ rfl rfl ?_); intro g2 w1 hg hB2 hb1 hs; have hg2 : w.heap.size ≤ g2 := Nat.le_of_eq hg.symm; clear hg hs)
    | ((with_reducible refine wpList_boxB (o := ⟨some 3, _, _, _, _, _⟩) rfl _ _ rfl rfl ?_); intro g3 w2 hg hB3 hb2 hs; have hB22 := hB2.bel hb2; have hb02 := bel_tr hb1 hb2; clear hg hs)
    | ((with_reducible refine wpList_alloc_dw (o := ⟨some 4, _, _, _, _, _⟩) rfl rfl ?_); intro g4 w3 hg hB4 hb3 hs; have hw4 : w.heap.size ≤ g4 := Nat.le_trans hb02.size (Nat.le_of_eq hg.symm); have hB23 := hB22.bel hb3; have hB33 := hB3.bel hb3; have hb03 := bel_tr hb02 hb3; clear hg hs)
    | (with_reducible refine wpList_loadB (o := ⟨some 11, _, _, _, _, _⟩) rfl _ _ rfl rfl hB23 net_under rfl Hns.out ?_)
    | (with_reducible refine wpList_loadAd (o := ⟨some 12, _, _, _, _, _⟩) rfl _ rfl rfl hB33 ?_)
    | (go_at_call 26; refine (HPa.out _ (HN.out.below hb03) (HE.out.below hb03)).mono ?_; rintro e w4 ⟨rfl, hb4⟩; have hB24 := hB23.bel hb4; have hB34 := hB33.bel hb4; have hB44 := hB4.bel hb4; have hb04 := bel_tr hb03 hb4)
    | ((with_reducible refine wpList_allocPol (o := ⟨some 5, _, _, _, _, _⟩) rfl rfl ?_); intro g5 w5 hg hB5 hb5 hs; have hg5 : w4.heap.size ≤ g5 := Nat.le_of_eq hg.symm; clear hg hs)
    | ((with_reducible refine wpList_storePol (o := ⟨none, _, _, _, _, _⟩) rfl (.tmp 5) _ rfl rfl rfl hB5 ?_); intro w6 hB56 hS6
       have hbx : Below w4.heap.size w4 w6 := hb5.trans (hS6.below hg5)
       have X2 := Lib.hid (hB24.bel hbx)
       have X3 := Lib.hid (hB34.bel hbx)
       have X4 := Lib.hid (hB44.bel hbx)
       have X5 := Lib.hid hB56
       have Xb := Lib.hid (bel_tr hb04 hbx)
       clear hB2 hB22 hB23 hB24 hB3 hB33 hB34 hB4 hB44 hB5 hB56 hS6 hb1 hb2 hb3 hb4 hb5 hb02 hb03 hb04 hbx
       refine hold ?_))
  refine Lib.hid ?_
  go_wp2_with (first
    | (with_reducible refine wpList_loadB (o := ⟨some 15, _, _, _, _, _⟩) rfl _ _ rfl rfl X2.out net_under rfl Hns.out ?_)
    | (with_reducible refine wpList_loadAd (o := ⟨some 16, _, _, _, _, _⟩) rfl _ rfl rfl X3.out ?_)
    | (go_at_call 27; refine (HW.out _ (HN.out.below Xb.out)).mono ?_; rintro e w7 ⟨rfl, hb7⟩)
    | ((with_reducible refine wpList_alloc_rt (o := ⟨some 6, _, _, _, _, _⟩) rfl rfl ?_); intro g6 w8 hg hB6 hb8 hs; have hg6 : w7.heap.size ≤ g6 := Nat.le_of_eq hg.symm; clear hg hs)
    | ((with_reducible refine wpList_store_rt (o := ⟨none, _, _, _, _, _⟩) rfl (.tmp 6) _ rfl rfl rfl hB6 ?_); intro w9 hB69 hS9
       have hbx := bel_tr hb7 (hb8.trans (hS9.below hg6))
       have Y2 := Lib.hid (X2.out.bel hbx)
       have Y3 := Lib.hid (X3.out.bel hbx)
       have Y4 := Lib.hid (X4.out.bel hbx)
       have Y5 := Lib.hid (X5.out.bel hbx)
       have Y6 := Lib.hid hB69
       have Yb := Lib.hid (bel_tr Xb.out hbx)
       clear X2 X3 X4 X5 Xb hB6 hB69 hS9 hb7 hb8 hbx
       refine hold ?_))
  refine Lib.hid ?_
  go_wp2_with (fail)
  have L3 : Hid (∀ w', Below w9.heap.size w9 w' → w'.rangeAt g3 0 (adL a)) := Lib.hid (fun w' h => (Y3.out.bel h).rangeAd)
  have C0 : Hid (∀ w', Below w9.heap.size w9 w' → w'.cell? ⟨g3, 0, none⟩ = some (.int .i64 a.fam)) := Lib.hid (fun w' h => by have := (Y3.out.bel h).cell 0; rw [adA_0] at this; exact this)
  have C19 : Hid (∀ w', Below w9.heap.size w9 w' → w'.cell? ⟨g5, 19, none⟩ = some (.int .i64 P.prec)) := Lib.hid (fun w' h => by have := (Y5.out.bel h).cell 19; rw [polA_19] at this; exact this)
  have C20 : Hid (∀ w', Below w9.heap.size w9 w' → w'.cell? ⟨g6, 20, none⟩ = some (.bool r.tun)) := Lib.hid (fun w' h => by have := (Y6.out.bel h).cell 20; rw [rtA_20] at this; exact this)
  apply region_cut (R := fun g w' => Bk w' g 49 (dwA (dwB N a)) ∧ w9.heap.size ≤ g ∧ Below w9.heap.size w9 w')
  case h =>
    refine wp_region_held (S := fun w' => Below w9.heap.size w9 w') (by kernel_rfl) ?_
    refine wpAnyH_take (i := 0) (oi := ⟨some 20, Op.fieldAddr 56 (Operand.tmp 5) 1, _, _, _, none⟩) (v := Value.pointer (some ⟨g5, 19, none⟩)) rfl (by kernel_rfl) (by kernel_rfl) (by kernel_rfl) (fun _ _ _ h => nomatch h.1) (Or.inl ⟨by rfl, fun w' hS' => by go_simp⟩) (Below.refl _ _).drew ?_
    simp only [Act.put, List.setIfInBounds_toArray, List.set_cons_zero, List.set_cons_succ]
    refine wpAnyH_take (i := 1) (oi := ⟨some 21, Op.load 3 (Operand.tmp 20), _, _, _, none⟩) (v := Value.int .i64 P.prec) rfl (by kernel_rfl) (by kernel_rfl) (by kernel_rfl) (fun _ _ _ h => nomatch h.1) (yieldsIf_loadC (by rfl) _ _ rfl rfl C19.out Tryz.underlying3 rfl) (Below.refl _ _).drew ?_
    simp only [Act.put, List.setIfInBounds_toArray, List.set_cons_zero, List.set_cons_succ]
    refine wpAnyH_take (i := 2) (oi := ⟨some 22, Op.fieldAddr 46 (Operand.tmp 6) 2, _, _, _, none⟩) (v := Value.pointer (some ⟨g6, 20, none⟩)) rfl (by kernel_rfl) (by kernel_rfl) (by kernel_rfl) (fun _ _ _ h => nomatch h.1) (Or.inl ⟨by rfl, fun w' hS' => by go_simp⟩) (Below.refl _ _).drew ?_
    simp only [Act.put, List.setIfInBounds_toArray, List.set_cons_zero, List.set_cons_succ]
    refine wpAnyH_take (i := 3) (oi := ⟨some 23, Op.load 4 (Operand.tmp 22), _, _, _, none⟩) (v := Value.bool r.tun) rfl (by kernel_rfl) (by kernel_rfl) (by kernel_rfl) (fun _ _ _ h => nomatch h.1) (yieldsIf_loadC (by rfl) _ _ rfl rfl C20.out Tryz.underlying4 rfl) (Below.refl _ _).drew ?_
    simp only [Act.put, List.setIfInBounds_toArray, List.set_cons_zero, List.set_cons_succ]
    refine wpAnyH_take (i := 4) (oi := ⟨some 24, Op.load 29 (Operand.tmp 3), _, _, _, none⟩) (v := Value.agg (adA a)) rfl (by kernel_rfl) (by kernel_rfl) (by kernel_rfl) (fun _ _ _ h => nomatch h.1) (yieldsIf_loadAd (by rfl) _ rfl rfl L3.out) (Below.refl _ _).drew ?_
    simp only [Act.put, List.setIfInBounds_toArray, List.set_cons_zero, List.set_cons_succ]
    refine wpAnyH_take (i := 6) (oi := ⟨some 26, Op.fieldAddr 29 (Operand.tmp 3) 0, _, _, _, none⟩) (v := Value.pointer (some ⟨g3, 0, none⟩)) rfl (by kernel_rfl) (by kernel_rfl) (by kernel_rfl) (fun _ _ _ h => nomatch h.1) (Or.inl ⟨by rfl, fun w' hS' => by go_simp⟩) (Below.refl _ _).drew ?_
    simp only [Act.put, List.setIfInBounds_toArray, List.set_cons_zero, List.set_cons_succ]
    refine wpAnyH_take (i := 7) (oi := ⟨some 27, Op.load 3 (Operand.tmp 26), _, _, _, none⟩) (v := Value.int .i64 a.fam) rfl (by kernel_rfl) (by kernel_rfl) (by kernel_rfl) (fun _ _ _ h => nomatch h.1) (yieldsIf_loadC (by rfl) _ _ rfl rfl C0.out Tryz.underlying3 rfl) (Below.refl _ _).drew ?_
    simp only [Act.put, List.setIfInBounds_toArray, List.set_cons_zero, List.set_cons_succ]
    refine wpAnyH_all (rs := [5, 9]) (by kernel_rfl) (by decide) ?_
    intro i hi
    simp only [List.mem_cons, List.not_mem_nil, or_false] at hi
    rcases hi with rfl | rfl
    · skip
      refine wpOp_callM (o := ⟨some 25, Op.call { callee := Callee.value (Operand.func 28), args := #[Operand.tmp 24], argTypes := #[29] }, _, _, _, none⟩) rfl (by rfl) (by go_simp) (Hsa.out _ (HE.out.below (bel_tr Yb.out ((Below.refl _ _).drew)))) ?_
      rintro e x1 ⟨rfl, hy1⟩
      have hx1 := bel_drew hy1
      refine ⟨_, rfl, ?_⟩
      show _ ∧ _
      refine ⟨hx1, ?_⟩
      simp only [Act.put, List.setIfInBounds_toArray, List.set_cons_zero, List.set_cons_succ]
      refine wpAnyH_take (i := 8) (oi := ⟨some 28, Op.build 49 #[(5 , Operand.tmp 21), (6 , Operand.tmp 23), (7 , Operand.tmp 25), (8 , Operand.tmp 27)], _, _, _, none⟩) (v := Value.agg (dwA (dwB N a))) rfl (by kernel_rfl) (by kernel_rfl) (by kernel_rfl) (fun _ _ _ h => nomatch h.1) (yieldsIf_buildL (by rfl) 49 _ rfl H1.out rfl) hx1 ?_
      simp only [Act.put, List.setIfInBounds_toArray, List.set_cons_zero, List.set_cons_succ]
      refine wpAnyH_all (rs := [9]) (by kernel_rfl) (by decide) ?_
      intro i hi
      obtain rfl := List.mem_singleton.1 hi
      refine wpOp_of_list (o := ⟨some 8, Op.alloc 49, _, _, _, none⟩) rfl ?_
      refine wpList_allocZ rfl _ rfl dw_zero ?_
      intro g8 x2 hgg8 hBg8 hy2 hs
      have hlg8 : w9.heap.size ≤ g8 := Nat.le_trans (hx1 : Below w9.heap.size w9 _).size (Nat.le_of_eq hgg8.symm)
      clear hgg8 hs
      have hx2 := bel_tr hx1 hy2
      show _ ∧ _
      refine ⟨hx2, ?_⟩
      simp only [Act.put, List.setIfInBounds_toArray, List.set_cons_zero, List.set_cons_succ]
      refine wpAnyH_all (rs := [10]) (by kernel_rfl) (by decide) ?_
      intro i hi
      obtain rfl := List.mem_singleton.1 hi
      refine wpOp_of_list (o := ⟨none, Op.store 49 (Operand.tmp 8) (Operand.tmp 28), _, _, _, none⟩) rfl ?_
      refine wpList_store_dw rfl _ _ rfl rfl rfl hBg8 ?_
      intro x3 hBz hSz
      have hx3 := (hx2 : Below w9.heap.size w9 _).trans (hSz.below hlg8)
      show _ ∧ _
      refine ⟨hx3, ?_⟩
      simp only [Act.put]
      refine wpAnyH_done (by kernel_rfl) ?_ _
      exact ⟨rfl, g8, rfl, hBz, hlg8, hx3⟩
    · skip
      refine wpOp_of_list (o := ⟨some 8, Op.alloc 49, _, _, _, none⟩) rfl ?_
      refine wpList_allocZ rfl _ rfl dw_zero ?_
      intro g8 x1 hgg8 hBg8 hy1 hs
      have hlg8 : w9.heap.size ≤ g8 := Nat.le_trans ((Below.refl _ _).drew : Below w9.heap.size w9 _).size (Nat.le_of_eq hgg8.symm)
      clear hgg8 hs
      have hx1 := bel_drew hy1
      show _ ∧ _
      refine ⟨hx1, ?_⟩
      simp only [Act.put, List.setIfInBounds_toArray, List.set_cons_zero, List.set_cons_succ]
      refine wpAnyH_all (rs := [5]) (by kernel_rfl) (by decide) ?_
      intro i hi
      obtain rfl := List.mem_singleton.1 hi
      refine wpOp_callM (o := ⟨some 25, Op.call { callee := Callee.value (Operand.func 28), args := #[Operand.tmp 24], argTypes := #[29] }, _, _, _, none⟩) rfl (by rfl) (by go_simp) (Hsa.out _ (HE.out.below (bel_tr Yb.out (hx1)))) ?_
      rintro e x2 ⟨rfl, hy2⟩
      have hx2 := bel_tr hx1 hy2
      have hBg8 := hBg8.bel hy2
      refine ⟨_, rfl, ?_⟩
      show _ ∧ _
      refine ⟨hx2, ?_⟩
      simp only [Act.put, List.setIfInBounds_toArray, List.set_cons_zero, List.set_cons_succ]
      refine wpAnyH_take (i := 8) (oi := ⟨some 28, Op.build 49 #[(5 , Operand.tmp 21), (6 , Operand.tmp 23), (7 , Operand.tmp 25), (8 , Operand.tmp 27)], _, _, _, none⟩) (v := Value.agg (dwA (dwB N a))) rfl (by kernel_rfl) (by kernel_rfl) (by kernel_rfl) (fun _ _ _ h => nomatch h.1) (yieldsIf_buildL (by rfl) 49 _ rfl H1.out rfl) hx2 ?_
      simp only [Act.put, List.setIfInBounds_toArray, List.set_cons_zero, List.set_cons_succ]
      refine wpAnyH_all (rs := [10]) (by kernel_rfl) (by decide) ?_
      intro i hi
      obtain rfl := List.mem_singleton.1 hi
      refine wpOp_of_list (o := ⟨none, Op.store 49 (Operand.tmp 8) (Operand.tmp 28), _, _, _, none⟩) rfl ?_
      refine wpList_store_dw rfl _ _ rfl rfl rfl hBg8 ?_
      intro x3 hBz hSz
      have hx3 := (hx2 : Below w9.heap.size w9 _).trans (hSz.below hlg8)
      show _ ∧ _
      refine ⟨hx3, ?_⟩
      simp only [Act.put]
      refine wpAnyH_done (by kernel_rfl) ?_ _
      exact ⟨rfl, g8, rfl, hBz, hlg8, hx3⟩
  case k =>
    rintro g8 wa ⟨hB8, hlg8, hba⟩
    have HR : Hid (DwRel w g2 g3 g4 g5 g8 vi vr vp N a P wa) := Lib.hid ⟨Y2.out.bel hba, Y3.out.bel hba, Y4.out.bel hba, Y5.out.bel hba, hB8, bel_tr Yb.out hba⟩
    have hlt : Hid (g2 < g8 ∧ g3 < g8 ∧ g4 < g8 ∧ g5 < g8 ∧ w.heap.size ≤ g8) := Lib.hid ⟨Nat.lt_of_lt_of_le Y2.out.lt hlg8, Nat.lt_of_lt_of_le Y3.out.lt hlg8, Nat.lt_of_lt_of_le Y4.out.lt hlg8, Nat.lt_of_lt_of_le Y5.out.lt hlg8, Nat.le_trans Yb.out.size hlg8⟩
    clear L3 C0 C19 C20 Y2 Y3 Y4 Y5 Y6 Yb hB8 hba
    have HD : Hid (dwN N a = if (pickN N a).2 = true then dwI N a (pickN N a).1 else dwB N a) := Lib.hid Hf.out
    clear Hf
    generalize hpk : pickN N a = pk at *
    obtain ⟨x, pb⟩ := pk
    clear hpk
    cases pb with
    | false =>
      have Hf : Hid (dwN N a = dwB N a) := Lib.hid (by rw [HD.out]; rfl)
      clear HD
      go_wp2_with (first
        | (with_reducible refine wpList_loadB (o := ⟨some 30, _, _, _, _, _⟩) rfl _ _ rfl rfl HR.out.b2 net_under rfl Hns.out ?_)
        | (with_reducible refine wpList_loadAd (o := ⟨some 31, _, _, _, _, _⟩) rfl _ rfl rfl HR.out.b3 ?_)
        | (go_at_call 29; refine (HK.out _ (HN.out.below HR.out.b) (HE.out.below HR.out.b)).mono ?_; rintro e wb' ⟨rfl, hbb⟩; have HR2 := Lib.hid (HR.out.bel hbb); clear HR hbb)
        | ((with_reducible refine wpList_alloc_ifc (o := ⟨some 9, _, _, _, _, _⟩) rfl rfl ?_); intro g9 wc hg hB9 hbc hs; have hg9 : wb'.heap.size ≤ g9 := Nat.le_of_eq hg.symm; clear hg hs)
        | ((with_reducible refine wpList_store_ifc (o := ⟨none, _, _, _, _, _⟩) rfl (.tmp 9) _ rfl rfl rfl hB9 ?_); intro wd hB9d hSd; have HR3 := Lib.hid (HR2.out.bel (hbc.trans (hSd.below hg9))); clear HR2 hB9 hB9d hSd hbc; refine hold ?_))
      refine Lib.hid ?_
      go_wp2_with (first
        | (with_reducible refine wpList_load_dw (o := ⟨some 37, _, _, _, _, _⟩) rfl _ rfl rfl HR3.out.b8 ?_)
        | ((with_reducible refine wpList_store_dw (o := ⟨none, _, _, _, _, _⟩) rfl (.tmp 4) _ rfl rfl rfl HR3.out.b4 ?_); intro wz hB4z hSz))
      exact ret_dw Tryz.results16 rfl hB4z rfl ⟨by rw [Hf.out], HR3.out.b.trans (hSz.below hw4)⟩
    | true =>
      have Hf : Hid (dwN N a = dwI N a x) := Lib.hid (by rw [HD.out]; rfl)
      clear HD
      go_wp2_with (first
        | (with_reducible refine wpList_loadB (o := ⟨some 30, _, _, _, _, _⟩) rfl _ _ rfl rfl HR.out.b2 net_under rfl Hns.out ?_)
        | (with_reducible refine wpList_loadAd (o := ⟨some 31, _, _, _, _, _⟩) rfl _ rfl rfl HR.out.b3 ?_)
        | (go_at_call 29; refine (HK.out _ (HN.out.below HR.out.b) (HE.out.below HR.out.b)).mono ?_; rintro e wb' ⟨rfl, hbb⟩; have HR2 := Lib.hid (HR.out.bel hbb); clear HR hbb)
        | ((with_reducible refine wpList_alloc_ifc (o := ⟨some 9, _, _, _, _, _⟩) rfl rfl ?_); intro g9 wc hg hB9 hbc hs; have hg9 : wb'.heap.size ≤ g9 := Nat.le_of_eq hg.symm; clear hg hs)
        | ((with_reducible refine wpList_store_ifc (o := ⟨none, _, _, _, _, _⟩) rfl (.tmp 9) _ rfl rfl rfl hB9 ?_); intro wd hB9d hSd
           have h89 : g8 < g9 := Nat.lt_of_lt_of_le HR2.out.b8.lt hg9
           have HR3 := Lib.hid (HR2.out.bel (hbc.trans (hSd.below hg9)))
           have Z9 := Lib.hid hB9d
           have c0 : wd.cell? ⟨g8, 0, none⟩ = some (.bool false) := HR3.out.b8.cell 0
           have f0 := HR3.out.b8.free 0
           clear HR2 hB9 hB9d hSd hbc
           refine hold ?_))
      refine Lib.hid ?_
      go_wp2_with (fail)
      have hn : g2 ≠ g8 ∧ g3 ≠ g8 ∧ g4 ≠ g8 ∧ g5 ≠ g8 ∧ g9 ≠ g8 ∧ w.heap.size ≤ g8 := by have := hlt.out; omega
      have S0 : DwS w g2 g3 g4 g5 g8 g9 vi vr vp a P x (dwA (dwB N a)) wd := ⟨HR3.out.b2, HR3.out.b3, HR3.out.b4, HR3.out.b5, HR3.out.b8, Z9.out, HR3.out.b⟩
      have S1 := S0.put hn 0 (.bool true)
      obtain ⟨wy, hwy⟩ : ∃ wy, wy = wd.setCell ⟨g8, 0, none⟩ (.bool true) := ⟨_, rfl⟩
      rw [← hwy] at S1 ⊢
      have Hn := Lib.hid hn
      clear S0 hwy c0 f0 HR3 Z9 hn
      have c7 : wy.cell? ⟨g8, 7, none⟩ = some (.int .i64 sc) := by have := S1.b8.cell 7; rw [this]; show some (Value.int .i64 (scoA a)) = _; rw [hsc]
      have x7 := fun y : BelT wy => y.cell c7
      have L9 := Lib.hid S1.b9.rangehd_ifc
      have T1 := Lib.hid S1
      have Hsx := Lib.hid (HS.out x.ad)
      generalize hsx : scoA x.ad = sx at *
      clear S1 c7
      refine wp_region_bel_tail 7 (by kernel_rfl) (by kernel_rfl) ?_
      simp only [List.take_succ_cons, List.take_zero, List.drop_succ_cons, List.drop_zero]
      repeat (first
        | go_big_quiet_skip
        | (go_big_quiet_want; first
            | (refine quiet_loadAd _ rfl rfl L9.out (by simp only [Act.put, List.setIfInBounds_toArray, List.set_cons_succ, List.set_cons_zero]; exact rfl) ?_; go_big_quiet_on)
            | (go_big_quiet_op; first | go_big_quiet_on | go_big_quiet_call ((go_at_call 28; with_reducible refine bel_call (Hsx.out _ (HE.out.below (bel_tr T1.out.b (BelT.bel _)))))))))
      refine wpQuiet_nil ?_
      rintro _ ⟨y, rfl⟩
      have U0 := T1.out.bel y.bel
      have U1 := U0.put Hn.out 1 (.bool (sx == sc))
      have U2 := U1.put Hn.out 2 (.bool x.dep)
      have U3 := U2.put Hn.out 3 (.bool x.hom)
      have c1 : y.at_.cell? ⟨g8, 1, none⟩ = some (.bool false) := U0.b8.cell 1
      have f1 := U0.b8.free 1
      have k20 := U1.b9.cell 20
      rw [ifcA_20] at k20
      have c2 : (y.at_.setCell ⟨g8, 1, none⟩ (.bool (sx == sc))).cell? ⟨g8, 2, none⟩ = some (.bool false) := U1.b8.cell 2
      have f2 := U1.b8.free 2
      have k21 := U2.b9.cell 21
      rw [ifcA_21] at k21
      have c3 : ((y.at_.setCell ⟨g8, 1, none⟩ (.bool (sx == sc))).setCell ⟨g8, 2, none⟩ (.bool x.dep)).cell? ⟨g8, 3, none⟩ = some (.bool false) := U2.b8.cell 3
      have f3 := U2.b8.free 3
      have T3 := Lib.hid U3
      clear U0 U1 U2 U3 x7 L9 T1
      go_wp2_with (fail)
      have U3 := T3.out
      obtain ⟨wz, hwz⟩ : ∃ wz, wz = ((y.at_.setCell ⟨g8, 1, none⟩ (.bool (sx == sc))).setCell ⟨g8, 2, none⟩ (.bool x.dep)).setCell ⟨g8, 3, none⟩ (.bool x.hom) := ⟨_, rfl⟩
      rw [← hwz] at U3 ⊢
      clear hwz T3 c1 f1 k20 c2 f2 k21 c3 f3
      have k5 : wz.cell? ⟨g5, 20, none⟩ = some (.int .i64 P.lab) := by have := U3.b5.cell 20; rw [polA_20] at this; exact this
      have x5 := fun y : BelT wz => y.cell k5
      have L9 := Lib.hid U3.b9.rangehd_ifc
      have LN := Lib.hid U3.b2.rangeNet
      have T3 := Lib.hid U3
      have HPx := Lib.hid (HP.out x.ad)
      generalize hPx : ofP x.ad (polN N.P) = Px at *
      clear U3 k5
      refine wp_region_bel_tail 9 (by kernel_rfl) (by kernel_rfl) ?_
      simp only [List.take_succ_cons, List.take_zero, List.drop_succ_cons, List.drop_zero]
      repeat (first
        | go_big_quiet_skip
        | (go_big_quiet_want; first
            | (refine quiet_loadAd _ rfl rfl L9.out (by simp only [Act.put, List.setIfInBounds_toArray, List.set_cons_succ, List.set_cons_zero]; exact rfl) ?_; go_big_quiet_on)
            | (refine quiet_loadK (o := ⟨some 52, _, _, _, _, _⟩) 26 _ rfl rfl (cs := #[vi, vr, vp]) rfl LN.out net_under rfl net_size (by simp only [Act.put, List.setIfInBounds_toArray, List.set_cons_succ, List.set_cons_zero]; exact rfl) ?_; go_big_quiet_on)
            | (refine quiet_fieldOne (o := ⟨some 56, _, _, _, _, _⟩) _ _ 2 rfl rfl pol_under (ty := 3) (off := 20) (by kernel_rfl) Tryz.underlying3 rfl (polA_20 _) (by simp only [Act.put, List.setIfInBounds_toArray, List.set_cons_succ, List.set_cons_zero]; exact rfl) ?_; go_big_quiet_on)
            | (go_big_quiet_op; first | go_big_quiet_on | go_big_quiet_call ((go_at_call 26; with_reducible refine bel_call (HPx.out _ (HN.out.below (bel_tr T3.out.b (BelT.bel _))) (HE.out.below (bel_tr T3.out.b (BelT.bel _)))))))))
      refine wpQuiet_nil ?_
      rintro _ ⟨z, rfl⟩
      have V0 := T3.out.bel z.bel
      have V1 := V0.put Hn.out 4 (.bool (Px.lab == P.lab))
      have c4 : z.at_.cell? ⟨g8, 4, none⟩ = some (.bool false) := V0.b8.cell 4
      have f4 := V0.b8.free 4
      have T4 := Lib.hid V1
      clear V0 V1 x5 L9 LN T3
      go_wp2_with (fail)
      have V1 := T4.out
      obtain ⟨wq, hwq⟩ : ∃ wq, wq = z.at_.setCell ⟨g8, 4, none⟩ (.bool (Px.lab == P.lab)) := ⟨_, rfl⟩
      rw [← hwq] at V1 ⊢
      clear hwq T4 c4 f4
      have k9 : wq.cell? ⟨g9, 19, none⟩ = some (.int .i64 x.bits) := by have := V1.b9.cell 19; rw [ifcA_19] at this; exact this
      have x9 := fun y : BelT wq => y.cell k9
      have L9 := Lib.hid V1.b9.rangehd_ifc
      have L3 := Lib.hid V1.b3.rangeAd
      have T4 := Lib.hid V1
      have HC : Hid (∀ w', Calls Tryz.prog 30 #[.agg (adA a), .agg (adA x.ad)] w' (InPost w' (comA a x.ad : Int))) := Lib.hid (fun w' => common_any a x.ad w')
      generalize hcm : ((comA a x.ad : Nat) : Int) = cm at *
      clear V1 k9
      refine wp_region_bel_tail 8 (by kernel_rfl) (by kernel_rfl) ?_
      simp only [List.take_succ_cons, List.take_zero, List.drop_succ_cons, List.drop_zero]
      repeat (first
        | go_big_quiet_skip
        | (go_big_quiet_want; first
            | (refine quiet_loadAd (o := ⟨some 61, _, _, _, _, _⟩) _ rfl rfl L3.out (by simp only [Act.put, List.setIfInBounds_toArray, List.set_cons_succ, List.set_cons_zero]; exact rfl) ?_; go_big_quiet_on)
            | (refine quiet_loadAd (o := ⟨some 63, _, _, _, _, _⟩) _ rfl rfl L9.out (by simp only [Act.put, List.setIfInBounds_toArray, List.set_cons_succ, List.set_cons_zero]; exact rfl) ?_; go_big_quiet_on)
            | (go_big_quiet_op; first | go_big_quiet_on | go_big_quiet_call ((go_at_call 30; with_reducible refine bel_call (HC.out _))))))
      refine wpQuiet_nil ?_
      rintro _ ⟨u, rfl⟩
      have Q0 := T4.out.bel u.bel
      have Q1 := Q0.put Hn.out 9 (.int .i64 (min cm x.bits))
      have c9 : u.at_.cell? ⟨g8, 9, none⟩ = some (.int .i64 0) := Q0.b8.cell 9
      have f9 := Q0.b8.free 9
      have hEq : (((((((dwA (dwB N a)).setIfInBounds 0 (.bool true)).setIfInBounds 1 (.bool (sx == sc))).setIfInBounds 2 (.bool x.dep)).setIfInBounds 3 (.bool x.hom)).setIfInBounds 4 (.bool (Px.lab == P.lab))).setIfInBounds 9 (.int .i64 (min cm x.bits))) = dwA (dwI N a x) := by
        have hB : dwA (dwB N a) = #[.bool false, .bool false, .bool false, .bool false, .bool false, .int .i64 P.prec, .bool r.tun, .int .i64 sc, .int .i64 a.fam, .int .i64 0] := by
          show #[Value.bool false, .bool false, .bool false, .bool false, .bool false, .int .i64 (ofP a (polN N.P)).prec, .bool (wayP a (rtN N.R)).1.tun, .int .i64 (scoA a), .int .i64 a.fam, .int .i64 0] = _
          rw [hP, hwv, hsc]
        have hI := HI.out x
        rw [hsx, hPx, hcm] at hI
        rw [hI, hB]
        rfl
      rw [hEq] at Q1
      have T5 := Lib.hid Q1
      clear Q0 Q1 x9 L9 L3 T4 hEq
      go_wp2_with (first
        | ((with_reducible show wpList _ _ _ (⟨some 69, _, _, _, _, _⟩ :: _) _ _); refine wpList_load_dw (o := ⟨some 69, _, _, _, _, _⟩) rfl _ rfl rfl T5.out.b8 ?_)
        | ((with_reducible refine wpList_store_dw (o := ⟨none, .store 49 (.tmp 4) _, _, _, _, _⟩) rfl (.tmp 4) _ rfl rfl rfl T5.out.b4 ?_); intro wz' hB4z hSz))
      exact ret_dw Tryz.results16 rfl hB4z rfl ⟨by rw [Hf.out], T5.out.b.trans (hSz.below hw4)⟩
end Go.Proofs.YthlnndjkocnfcaaGreatDoor

/- dest.Better. -/
namespace Go.Proofs.YthlnndjkocnfcaaGreatDoor
open Go.RowKit
attribute [local go_sem] ba_get ext_take ext_drop ext_any ba_app

set_option maxRecDepth 100000 in
set_option maxHeartbeats 4000000 in
theorem dBetter_any (vi vr vp : Value) (N : Nt) (a b : Ad) (w : World) (hN : NetRaw w vi vr vp N) (hE : EnvS w) (hlI : N.I.length ≤ 1000000) (hlR : N.R.length ≤ 1000000) (hlP : N.P.length ≤ 1000000) :
    Calls Tryz.prog 8 #[.agg #[vi, vr, vp], .agg (adA a), .agg (adA b)] w (DbPost w (dbet (dwN N a) (dwN N b))) := by
  have HN := Lib.hid hN
  have HE := Lib.hid hE
  have HWa : Hid (∀ w', NetRaw w' vi vr vp N → EnvS w' → Calls Tryz.prog 16 #[.agg #[vi, vr, vp], .agg (adA a)] w' (DwPost w' (dwN N a))) := Lib.hid (fun w' h k => dworth_any vi vr vp N a w' h k hlI hlR hlP)
  have HWb : Hid (∀ w', NetRaw w' vi vr vp N → EnvS w' → Calls Tryz.prog 16 #[.agg #[vi, vr, vp], .agg (adA b)] w' (DwPost w' (dwN N b))) := Lib.hid (fun w' h k => dworth_any vi vr vp N b w' h k hlI hlR hlP)
  have HB : Hid (∀ w', Calls Tryz.prog 15 #[.agg (dwA (dwN N a)), .agg (dwA (dwN N b))] w' (DbPost w' (dbet (dwN N a) (dwN N b)))) := Lib.hid (fun w' => dbetter_any _ _ w')
  clear hN hE hlI hlR hlP
  generalize dbet (dwN N a) (dwN N b) = D at *
  generalize dwN N a = Wa at *
  generalize dwN N b = Wb at *
  go_enter Tryz.func8, Tryz.ntmps8
  go_wp2_with (first
    | ((with_reducible refine wpList_boxB (o := ⟨some 3, _, _, _, _, _⟩) rfl _ _ rfl rfl ?_); intro g3 w1 hg hB3 hb1 hs; clear hg hs)
    | ((with_reducible refine wpList_boxB (o := ⟨some 4, _, _, _, _, _⟩) rfl _ _ rfl rfl ?_); intro g4 w2 hg hB4 hb2 hs; have hB32 := hB3.bel hb2; have hb02 := bel_tr hb1 hb2; clear hg hs)
    | ((with_reducible refine wpList_boxB (o := ⟨some 5, _, _, _, _, _⟩) rfl _ _ rfl rfl ?_); intro g5 w3 hg hB5 hb3 hs; have hB33 := hB32.bel hb3; have hB43 := hB4.bel hb3; have hb03 := bel_tr hb02 hb3; clear hg hs))
  have R3 := Lib.hid hB33.rangeNet
  have R4 := Lib.hid hB43.rangeAd
  have R5 := Lib.hid hB5.rangeAd
  have Hb := Lib.hid hb03
  clear hB3 hB32 hB33 hB4 hB43 hB5 hb1 hb2 hb3 hb02 hb03
  refine wp_region_bel (by kernel_rfl) (by kernel_rfl) ?_
  repeat (first
    | go_big_quiet_skip
    | (go_big_quiet_want; first
        | (refine quiet_loadK (o := ⟨some 8, _, _, _, _, _⟩) 26 _ rfl rfl (cs := #[vi, vr, vp]) rfl R3.out net_under rfl net_size (by simp only [Act.put, List.setIfInBounds_toArray, List.set_cons_succ, List.set_cons_zero]; exact rfl) ?_; go_big_quiet_on)
        | (refine quiet_loadK (o := ⟨some 11, _, _, _, _, _⟩) 26 _ rfl rfl (cs := #[vi, vr, vp]) rfl R3.out net_under rfl net_size (by simp only [Act.put, List.setIfInBounds_toArray, List.set_cons_succ, List.set_cons_zero]; exact rfl) ?_; go_big_quiet_on)
        | (refine quiet_loadAd (o := ⟨some 9, _, _, _, _, _⟩) _ rfl rfl R4.out (by simp only [Act.put, List.setIfInBounds_toArray, List.set_cons_succ, List.set_cons_zero]; exact rfl) ?_; go_big_quiet_on)
        | (refine quiet_loadAd (o := ⟨some 12, _, _, _, _, _⟩) _ rfl rfl R5.out (by simp only [Act.put, List.setIfInBounds_toArray, List.set_cons_succ, List.set_cons_zero]; exact rfl) ?_; go_big_quiet_on)
        | (go_big_quiet_op; first | go_big_quiet_on | go_big_quiet_call ((go_at_call 16; (first | (with_reducible refine bel_call (HWa.out _ (HN.out.below (bel_tr Hb.out (BelT.bel _))) (HE.out.below (bel_tr Hb.out (BelT.bel _))))) | (with_reducible refine bel_call (HWb.out _ (HN.out.below (bel_tr Hb.out (BelT.bel _))) (HE.out.below (bel_tr Hb.out (BelT.bel _)))))))) | go_big_quiet_call ((go_at_call 15; with_reducible refine bel_call (HB.out _))))))
  refine wpQuiet_nil ?_
  rintro _ ⟨y, rfl⟩
  have hby := bel_tr Hb.out y.bel
  go_wp2
  go_ret2
  exact ⟨rfl, hby⟩
end Go.Proofs.YthlnndjkocnfcaaGreatDoor
