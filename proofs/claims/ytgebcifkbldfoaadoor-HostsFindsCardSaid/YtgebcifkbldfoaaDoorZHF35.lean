/- Contracts and plain lemmas of our own, merged. -/
import Derived.Test.YtgebcifkbldfoaaDoorZHF33
import Derived.Carry
import Derived.Deep.DeepCutAuto
/- hosts.Find: the walk. -/
namespace Go.Proofs.YtgebcifkbldfoaaDoor
open Go.RowKit
attribute [local go_sem] ba_get ext_take ext_drop ext_any ba_app

/-- the map holds just these. -/
def Seen (w : World) (g n : Nat) (F : List Ad) : Prop := ∃ D : DataW Unit, w.ownsMap Tryd.prog 34 (plainElem Tryd.prog 3) g n D ∧ ∀ a, D.atKey (adK a) (.lit (.int .i64 0)) = .lit (.int .i64 (if a ∈ F then 1 else 0))
theorem Seen.kept {w w' : World} {g n : Nat} {F : List Ad} {row : Option Nat} (h : Seen w g n F) (hg : w.grownBy w' row) (hne : some g ≠ row) : Seen w' g n F := by
  obtain ⟨D, h1, h2⟩ := h
  exact ⟨D, h1.kept hg hne, h2⟩
theorem Seen.map {w : World} {g n : Nat} {F : List Ad} (h : Seen w g n F) : ∃ o : Obj, w.heap[g]? = some o ∧ o.isCells = false := by
  obtain ⟨D, ⟨es, c, h1, _⟩, _⟩ := h
  exact ⟨_, h1, rfl⟩
theorem Seen.ne_cells {w : World} {g n : Nat} {F : List Ad} (h : Seen w g n F) {b size m : Nat} {e : TypeId} {v : Value} {xs : List Value} (ho : w.ownsRow b e size v m xs) : some g ≠ v.ownBlock := by
  intro hgo
  obtain ⟨o, h1, h2⟩ := h.map
  rcases ho.2 with ⟨rfl, _⟩ | ⟨g', cap, cur, rfl, hb', hg', _⟩
  · cases hgo
  · have hgg : g = g' := by simpa [Value.ownBlock] using hgo
    subst hgg
    rw [h1] at hg'
    cases hg'
    cases h2
theorem Seen.harm {w : World} {g n : Nat} {F : List Ad} (h : Seen w g n F) {T : List TypeId} {b : Nat} (hb : b ≤ g) : Harm T b w (some g) := Harm.loop (B := b) (Nat.le_refl _) (fun r e => by cases e; exact ⟨hb, h.map⟩)
/-- behind k of the hosts. -/
structure FdRel (w : World) (H : List Ho) (n : NmL) (fam : Int) (g10 : Nat) (k : Nat) (fv ov : Value) (F : List Ad) (O : NmL) (wr : World) : Prop where
  is : ((H.take k).map hoP).foldl (fdStep n fam) ([], []) = (F, O)
  own : wr.ownsRow w.heap.size 34 18 fv F.length (F.flatMap adL)
  nm : SlB 0 9 wr 1 ov O.length (O.map stv)
  map : ∃ m, m ≤ k ∧ Seen wr g10 m F
  b : Below w.heap.size w wr
theorem FdRel.skip {w wr w' : World} {H : List Ho} {n : NmL} {fam : Int} {g10 k : Nat} {fv ov : Value} {F : List Ad} {O : NmL} (h : FdRel w H n fam g10 k fv ov F O wr) (hb : Below wr.heap.size wr w') (hk : k < H.length) (hn : fdStep n fam (F, O) (hoP H[k]) = (F, O)) : FdRel w H n fam g10 (k + 1) fv ov F O w' := by
  obtain ⟨m, hm, hs⟩ := h.map
  exact ⟨by rw [fold_next n fam hk, h.is, hn], own_below h.own hb, h.nm.bel hb, ⟨m, by omega, hs.kept (gr_none hb) (by simp)⟩, h.b.trans (hb.mono h.b.size)⟩
def FindPost (w : World) (o : List Ad × NmL) (e : Ending) (w' : World) : Prop := ∃ va vn, e = .returned (.tuple #[va, vn]) ∧ Sl w' 18 va o.1.length (o.1.flatMap adL) ∧ Sl w' 1 vn o.2.length (o.2.map stv) ∧ Below w.heap.size w w'
set_option maxRecDepth 100000 in
set_option maxHeartbeats 4000000 in
theorem hfind_any (H : List Ho) (n : NmL) (fam : Int) (v nv : Value) (w : World) (ha : HosAt w v H) (hn : Sl w 1 nv n.length (n.map stv)) (hl : H.length ≤ 1000000) (hsh : ∀ h ∈ H, ∀ q ∈ h.L, ShN q.2) :
    Calls Tryd.prog 30 #[v, nv, .int .i64 fam] w (FindPost w (findP (H.map hoP) n fam)) := by
  obtain ⟨A0, c0, rfl, _⟩ := ha.sl.any
  obtain ⟨na, nc, rfl, _⟩ := hn.any
  have Ha := Lib.hid ha
  have Hn := Lib.hid hn
  have Hsh := Lib.hid hsh
  clear ha hn hsh
  have hmm := @run_makeMap Tryd.prog
  go_enter Tryd.func30, Tryd.ntmps30
  go_wp2
  have R0 : FdRel w H n fam w.heap.size 0 (.slice none 0 0) (.slice none 0 0) [] [] (w.alloc (.map #[] 0)) := by
    refine ⟨rfl, by simpa using World.ownsRow_nil (w.alloc (.map #[] 0)) w.heap.size 34 18, ⟨Sl.nil _ _, fun g off c hv hp => (by cases hp)⟩, ⟨0, Nat.le_refl _, .map [], World.ownsMap_made w _ _ _, fun a => ?_⟩, (Below.refl _ _).alloc (Nat.le_refl _) _⟩
    rfl
  go_loopw [8, 9, 12, 16] (fun fv ov _ iv wr => ∃ (k : Nat) (F : List Ad) (O : NmL), k ≤ H.length ∧ iv = .int .i64 k ∧ FdRel w H n fam w.heap.size k fv ov F O wr) (fun _ _ _ iv _ => H.length - (intOf iv).toNat)
  case atStart => exact ⟨0, [], [], Nat.zero_le _, rfl, R0⟩
  case round =>
    obtain ⟨k, F, O, hk, rfl, rel⟩ := hrel
    obtain ⟨wo, rfl⟩ : ∃ wo, wo = wr := ⟨_, rfl⟩
    obtain ⟨fa, fc, rfl⟩ := own_any rel.own
    obtain ⟨oa, oc, rfl, _⟩ := rel.nm.sl.any
    have hFl : F.length ≤ k := by have h := fd_len (H := H) n fam k; rw [rel.is] at h; exact h
    have Rel := Lib.hid rel
    clear rel R0
    by_cases hlt : k < H.length
    · have j0 : (k : Int) < (H.length : Int) := by omega
      have hk0 : (0 : Int) ≤ (k : Int) := by omega
      obtain ⟨b, off, c, hv, hc, hbl, hcell⟩ := Ha.out.sl.pos (by omega)
      injection hv with hv1 _ hv2
      subst hv1 hv2
      have hR := range_bel Rel.out.b hbl (range_of hoL_len hcell hlt)
      have hok := (Ha.out.ok _ (List.getElem_mem hlt)).bel Rel.out.b
      have hs := Hsh.out _ (List.getElem_mem hlt)
      have Hsk := Lib.hid (fun (w' : World) (hb : Below wo.heap.size wo w') hn => Rel.out.skip hb hlt hn)
      have Hnx := Lib.hid (fold_next n fam hlt)
      generalize H[k] = h at *
      obtain ⟨hda, hA, hcp, L⟩ := h
      have Hok := Lib.hid hok
      have Hs := Lib.hid hs
      clear hcell hok hs
      go_upto_region 7 with (first
        | ((with_reducible show wpList _ _ _ (⟨some 19, _, _, _, _, _⟩ :: _) _ _); refine wpList_loadM_ho (o := ⟨some 19, _, _, _, _, _⟩) rfl _ rfl rfl hR ?_)
        | ((with_reducible show wpList _ _ _ (⟨some 12, _, _, _, _, _⟩ :: _) _ _); refine wpList_alloc_ho (o := ⟨some 12, _, _, _, _, _⟩) rfl rfl ?_; intro g12 w2 hg hB2 hb2 hs2; have Hg12 := Lib.hid hg; clear hs2 hg)
        | ((with_reducible refine wpList_store_ho (o := ⟨none, _, _, _, _, _⟩) rfl (.tmp 12) _ rfl rfl rfl hB2 ?_); intro w3 hB3 hS3))
      have hb3 : Below wo.heap.size wo w3 := hb2.trans (hS3.below (by have := Hg12.out; omega))
      have HB3 := Lib.hid hB3
      have Hb3 := Lib.hid hb3
      clear hb2 hb3 hS3 hB2 hR
      try simp only [Act.put, List.setIfInBounds_toArray, List.set_cons_zero, List.set_cons_succ]
      go_cut [34] (fun s wx => s = .bool ((fam != 0 && hda.fam != fam) || !hasN (L.map (·.2)) n) ∧ Below w3.heap.size w3 wx)
      case first =>
        have c0 : w3.cell? ⟨g12, 0, none⟩ = some (.int .i64 hda.fam) := by
          rw [HB3.out.cell 0]; unfold hoA; rw [List.getElem?_toArray, hoL_hd _ (by omega)]; exact adL_0 _
        have HX := Lib.hid (hhas_any ⟨hda, hA, hcp, L⟩ n _ w3 (Hok.out.bel Hb3.out) (Hn.out.below (Rel.out.b.trans (Hb3.out.mono Rel.out.b.size))) Hs.out)
        dsimp only at HX
        cases i1 : fam != 0 with
        | false =>
          have I1 := Lib.hid i1
          cases h3 : hasN (L.map (·.2)) n
          all_goals
            have H3 := Lib.hid h3
            rw [h3] at HX
            clear h3
            go_wp2_with (first
              | ((with_reducible show wpList _ _ _ (⟨some 30, _, _, _, _, _⟩ :: _) _ _); refine wpList_guarded (o := ⟨some 30, _, _, _, _, _⟩) rfl ?_; refine wpList_load_ho (o := ⟨some 30, _, _, _, _, _⟩) rfl _ rfl rfl HB3.out ?_)
              | (go_at_call 64; refine HX.out.mono ?_; rintro e w4 ⟨rfl, hb4⟩; have Hb4 := Lib.hid hb4; clear hb4))
            go_meet
            exact ⟨by rw [I1.out, H3.out]; rfl, Hb4.out⟩
        | true =>
          have I1 := Lib.hid i1
          cases i2 : hda.fam != fam with
          | true =>
            have I2 := Lib.hid i2
            clear HX
            go_wp2
            go_meet
            exact ⟨by rw [I1.out, I2.out]; rfl, Below.refl _ _⟩
          | false =>
            have I2 := Lib.hid i2
            cases h3 : hasN (L.map (·.2)) n
            all_goals
              have H3 := Lib.hid h3
              rw [h3] at HX
              clear h3
              go_wp2_with (first
                | ((with_reducible show wpList _ _ _ (⟨some 30, _, _, _, _, _⟩ :: _) _ _); refine wpList_guarded (o := ⟨some 30, _, _, _, _, _⟩) rfl ?_; refine wpList_load_ho (o := ⟨some 30, _, _, _, _, _⟩) rfl _ rfl rfl HB3.out ?_)
                | (go_at_call 64; refine HX.out.mono ?_; rintro e w4 ⟨rfl, hb4⟩; have Hb4 := Lib.hid hb4; clear hb4))
              go_meet
              exact ⟨by rw [I1.out, I2.out, H3.out]; rfl, Hb4.out⟩
      case rest =>
        obtain ⟨rfl, hbx⟩ := hcut
        have Hbx := Lib.hid (Hb3.out.trans (hbx.mono Hb3.out.size))
        have HBx := Lib.hid (HB3.out.bel hbx)
        clear hbx
        cases hfl : ((fam != 0 && hda.fam != fam) || !hasN (L.map (·.2)) n) with
        | true =>
          have Hst : Hid (fdStep n fam (F, O) (hoP ⟨hda, hA, hcp, L⟩) = (F, O)) := Lib.hid (if_pos hfl)
          clear hfl
          go_wp2
          go_roundw
          case rel => exact ⟨k + 1, F, O, by omega, by go_num, Hsk.out _ Hbx.out Hst.out⟩
          case measure => (simp [intOf]) <;> omega
        | false =>
          have hne : L ≠ [] := by
            have h1 : hasN (L.map (·.2)) n = true := by
              have := (Bool.or_eq_false_iff.1 hfl).2
              simpa using this
            intro e
            exact hasN_ne h1 (by rw [e]; rfl)
          obtain ⟨O', hO'⟩ : ∃ O', O' = if F = [] then (L.map (·.2)).headD [] else O := ⟨_, rfl⟩
          have Hst : Hid (fdStep n fam (F, O) (hoP ⟨hda, hA, hcp, L⟩) = (if hda ∈ F then F else F ++ [hda], O')) := Lib.hid (by rw [hO']; exact if_neg (by rw [Bool.not_eq_true]; exact hfl))
          have HO := Lib.hid hO'
          clear hfl hO'
          go_upto_if 37 with (fail)
          go_cut [9] (fun s9 wx => SlB 0 9 wx 1 s9 O'.length (O'.map stv) ∧ Below wc.heap.size wc wx)
          case first =>
            by_cases hF : F = []
            · obtain ⟨q, L', rfl⟩ : ∃ q L', L = q :: L' := by cases L with | nil => exact absurd rfl hne | cons q L' => exact ⟨q, L', rfl⟩
              have HOq : Hid (O' = q.2) := Lib.hid (by rw [HO.out, if_pos hF]; rfl)
              have hok := Hok.out.bel Hbx.out
              obtain ⟨b2, off2, c2, hv, hc2, hbl2, hcell2⟩ := hok.sl.pos (by show 0 < (q :: L').length; simp)
              dsimp only [Ho.v] at hv
              injection hv with hv1 _ hv2
              subst hv1 hv2
              have e0 : wc.cell? ⟨b2, off2, none⟩ = some q.1 := by
                have := hcell2 0 q.1 rfl
                rwa [Nat.add_zero] at this
              have hnq := hok.nm q (by simp)
              have hsq := Hs.out q (by simp)
              have c18 : wc.cell? ⟨g12, 18, none⟩ = some (.slice (some ⟨b2, off2, none⟩) (L'.length + 1) hcp) := by
                rw [HBx.out.cell 18]; unfold hoA; rw [List.getElem?_toArray]; exact hoL_18 _
              have f0 : ((F.length : Int) == 0) = true := by rw [hF]; rfl
              have l0 : (0 : Int) < (L'.length : Int) + 1 := by omega
              obtain ⟨qv, qn⟩ := q
              obtain ⟨qa, qc, hqv, _⟩ := hnq.sl.any
              dsimp only at hqv e0 hsq HOq
              subst hqv
              have HX := Lib.hid (nclone_any _ qn wc hnq.sl hsq.1)
              dsimp only at HX
              clear hF hok hcell2 hnq hsq hne
              go_wp2_with (first
                | (go_at_call 65; refine HX.out.mono ?_; rintro e w5 ⟨v5, rfl, ho5, hb5⟩; have Hb5 := Lib.hid hb5; have Ho5 := Lib.hid ho5; clear hb5 ho5))
              go_meet
              rw [HOq.out]
              exact ⟨SlB.own Ho5.out, Hb5.out⟩
            · have HOq : Hid (O' = O) := Lib.hid (by rw [HO.out, if_neg hF])
              have f0 : ((F.length : Int) == 0) = false := by
                rw [beq_eq_false_iff_ne]
                have := List.length_pos_iff.2 hF
                omega
              clear hF
              go_wp2
              go_meet
              rw [HOq.out]
              exact ⟨Rel.out.nm.bel Hbx.out, Below.refl _ _⟩
          case rest =>
            obtain ⟨hnm9, hb9⟩ := hcut
            have Hnm := Lib.hid hnm9
            have Hb9 := Lib.hid (Hbx.out.trans (hb9.mono Hbx.out.size))
            have hB9 := HBx.out.bel hb9
            have hR9 := hoL_ad (hB9.range_ho)
            obtain ⟨m, hm, hsn⟩ := Rel.out.map
            have hsn9 := hsn.kept (gr_none Hb9.out) (by simp)
            have Hsn := Lib.hid hsn9
            have hgl : w.heap.size < g12 := by
              obtain ⟨o, h1, _⟩ := hsn.map
              have := heap_lt h1
              have := Hg12.out
              omega
            obtain ⟨D, hown, hD⟩ := hsn9
            have HD := Lib.hid hD
            clear hnm9 hb9 hsn hD
            by_cases hmF : hda ∈ F
            · have HmF := Lib.hid hmF
              clear hmF
              go_wp2_with (first
                | ((with_reducible show wpList _ _ _ (⟨some 45, _, _, _, _, _⟩ :: _) _ _); refine wpList_loadAdM (o := ⟨some 45, _, _, _, _, _⟩) rfl _ rfl rfl hR9 ?_)
                | (at_lookup; refine wpList_lookup_own_int _ rfl (.tmp 43) (.tmp 45) _ rfl 34 3 .i64 ad_keyed mapAd_under Tryd.underlying3 (zero_int _) _ m D rfl hown _ (adK hda) rfl (adK_of hda) ?_; intro c hat hwc; have hc1 := (HD.out hda).symm.trans hat; rw [if_pos HmF.out] at hc1; obtain rfl : c = 1 := (by injection hc1 with hc1; injection hc1 with _ hc1; exact hc1.symm); clear hat hwc hc1))
              go_roundw
              case rel =>
                refine ⟨k + 1, F, O', by omega, by go_num, by rw [Hnx.out, Rel.out.is, Hst.out, if_pos HmF.out], own_below Rel.out.own Hb9.out, Hnm.out, ⟨m, by omega, Hsn.out⟩, Rel.out.b.trans (Hb9.out.mono Rel.out.b.size)⟩
              case measure => (simp [intOf]) <;> omega
            · have HmF := Lib.hid hmF
              clear hmF
              go_wp2_with (first
                | ((with_reducible show wpList _ _ _ (⟨some 45, _, _, _, _, _⟩ :: _) _ _); refine wpList_loadAdM (o := ⟨some 45, _, _, _, _, _⟩) rfl _ rfl rfl hR9 ?_)
                | (at_lookup; refine wpList_lookup_own_int _ rfl (.tmp 43) (.tmp 45) _ rfl 34 3 .i64 ad_keyed mapAd_under Tryd.underlying3 (zero_int _) _ m D rfl hown _ (adK hda) rfl (adK_of hda) ?_; intro c hat hwc; have hc1 := (HD.out hda).symm.trans hat; rw [if_neg HmF.out] at hc1; obtain rfl : c = 0 := (by injection hc1 with hc1; injection hc1 with _ hc1; exact hc1.symm); clear hat hwc hc1)
                | ((with_reducible show wpList _ _ _ (⟨some 50, _, _, _, _, _⟩ :: _) _ _); refine wpList_loadAdM (o := ⟨some 50, _, _, _, _, _⟩) rfl _ rfl rfl hR9 ?_)
                | (refine wpList_mapUpdate_own _ rfl (.tmp 48) (.tmp 50) _ _ rfl 34 3 ad_keyed mapAd_under (plainElem Tryd.prog 3) _ m D rfl hown (by unfold maxLen; omega) _ _ (adK hda) rfl rfl (adK_of hda) (.lit (.int .i64 1)) [] (plainElem_int Tryd.underlying3 (by decide)) ?_; intro w6 hown6 hg6; have HO6 := Lib.hid hown6; have hB6 := hB9.grown hg6 (by intro e; injection e with e; omega); have hR6 := hoL_ad (hB6.range_ho); have HG6 := Lib.hid hg6; refine holdL ?_))
              refine Lib.hid ?_
              have hh : ∀ T b, b ≤ w.heap.size → Harm T b _ (some w.heap.size) := fun T b hb => Hsn.out.harm hb
              have own6 := row_kept (own_below Rel.out.own Hb9.out) HG6.out (hh _ _ (Nat.le_refl _))
              have nm6 := Hnm.out.kept HG6.out (hh _ _ (Nat.zero_le _))
              have bel6 := Below.kept (Rel.out.b.trans (Hb9.out.mono Rel.out.b.size)) (Nat.le_trans Rel.out.b.size Hb9.out.size) HG6.out (hh [] _ (Nat.le_refl _))
              have sn6 : Seen w6 w.heap.size (m + 1) (F ++ [hda]) := by
                refine ⟨_, HO6.out, fun a => ?_⟩
                by_cases he : a = hda
                · subst he
                  rw [Maps.atKey_put_same hown.isMap (ad_keyed.key (adK_of a)), if_pos (by simp)]
                · rw [Maps.atKey_put_other (fun h => he (adK_inj h)), HD.out a]
                  simp [he]
              have Nm6 := Lib.hid nm6
              have Sn6 := Lib.hid sn6
              have szw := bel6.size
              clear hown hB9 hR9 nm6 sn6
              go_wp2_with (first
                | ((with_reducible show wpList _ _ _ (⟨some 53, _, _, _, _, _⟩ :: _) _ _); refine wpList_loadAdM (o := ⟨some 53, _, _, _, _, _⟩) rfl _ rfl rfl hR6 ?_)
                | ((with_reducible show wpList _ _ _ (⟨some 54, _, _, _, _, _⟩ :: _) _ _); refine wpList_lit (o := ⟨some 54, _, _, _, _, _⟩) rfl _ _ rfl elt_ads [.agg (adA hda)] rfl (by decide) (by decide) (fun v hv => by rw [List.mem_singleton.1 hv]; exact adA_size _) rfl ?_; intro w7 hB7 hx7 hb7 hs7; clear hx7 hs7; have hB7 := bk_list (l := adL hda) hB7 rfl; have own7 := own_below own6 hb7)
                | (at_builtin; refine wpList_app rfl (.tmp 51) (.tmp 54) _ rfl elt_ads rfl own7 rfl (hB7.sl (size := 18) (n := 1) (adL_len _) 1 (Nat.le_refl _)) (adL_one _) (Nat.le_trans szw hb7.size) (by omega) (by omega) ?_; intro v8 w8 ho8 hb8 hg8))
              have nm8 := (Nm6.out.bel hb7).grown (own_base own7 (Nat.zero_le _)) (by decide) hg8
              have sn8 := (Sn6.out.kept (gr_none hb7) (by simp)).kept hg8 ((Sn6.out.kept (gr_none hb7) (by simp)).ne_cells own7)
              have bel8 := (bel6.trans (hb7.mono szw)).trans hb8
              go_roundw
              case rel =>
                refine ⟨k + 1, F ++ [hda], O', by omega, by go_num, by rw [Hnx.out, Rel.out.is, Hst.out, if_neg HmF.out], by rw [List.length_append, List.flatMap_append]; simpa using ho8, nm8, ⟨m + 1, by omega, sn8⟩, bel8⟩
              case measure => (simp [intOf]) <;> omega
    · have hkH : k = H.length := by omega
      subst hkH
      have j0 : ¬ (H.length : Int) < (H.length : Int) := by omega
      have Hfin : Hid (findP (H.map hoP) n fam = (F, O)) := Lib.hid (by have h := Rel.out.is; rw [List.take_length] at h; exact h)
      go_wp2
      go_ret2
      rw [Hfin.out]
      exact ⟨_, _, rfl, Sl.own Rel.out.own, Rel.out.nm.sl, Rel.out.b⟩
end Go.Proofs.YtgebcifkbldfoaaDoor

/- The reference's Find (18): the walk. -/
namespace Go.Proofs.YtgebcifkbldfoaaDoor
open Go.RowKit
attribute [local go_sem] ba_get ext_take ext_drop ext_any ba_app

/-- behind k of the hosts, by the reference. -/
structure RfdRel (w : World) (H : List Ho) (n : NmL) (fam : Int) (k : Nat) (fv ov : Value) (F : List Ad) (O : NmL) (wr : World) : Prop where
  is : ((H.take k).map hoP).foldl (fdStep n fam) ([], []) = (F, O)
  own : wr.ownsRow w.heap.size 34 18 fv F.length (F.flatMap adL)
  nm : SlB w.heap.size 9 wr 1 ov O.length (O.map stv)
  b : Below w.heap.size w wr
theorem RfdRel.skip {w wr w' : World} {H : List Ho} {n : NmL} {fam : Int} {k : Nat} {fv ov : Value} {F : List Ad} {O : NmL} (h : RfdRel w H n fam k fv ov F O wr) (hb : Below wr.heap.size wr w') (hk : k < H.length) (hn : fdStep n fam (F, O) (hoP H[k]) = (F, O)) : RfdRel w H n fam (k + 1) fv ov F O w' :=
  ⟨by rw [fold_next n fam hk, h.is, hn], own_below h.own hb, h.nm.bel hb, h.b.trans (hb.mono h.b.size)⟩
set_option maxRecDepth 100000 in
set_option maxHeartbeats 4000000 in
theorem rfind_any (H : List Ho) (n : NmL) (fam : Int) (v nv : Value) (w : World) (ha : HosAt w v H) (hn : Sl w 1 nv n.length (n.map stv)) (hl : H.length ≤ 1000000) (hsh : ∀ h ∈ H, ∀ q ∈ h.L, ShN q.2) (hnn : ShN n) :
    Calls Tryd.prog 31 #[v, nv, .int .i64 fam] w (FindPost w (findP (H.map hoP) n fam)) := by
  obtain ⟨A0, c0, rfl, _⟩ := ha.sl.any
  obtain ⟨na, nc, rfl, _⟩ := hn.any
  have Ha := Lib.hid ha
  have Hn := Lib.hid hn
  have Hsh := Lib.hid hsh
  have Hnn := Lib.hid hnn
  clear ha hn hsh hnn
  go_enter Tryd.func31, Tryd.ntmps31
  go_wp2
  have R0 : RfdRel w H n fam 0 (.slice none 0 0) (.slice none 0 0) [] [] w := ⟨rfl, by simpa using World.ownsRow_nil w w.heap.size 34 18, ⟨Sl.nil _ _, fun g off c hv hp => (by cases hp)⟩, Below.refl _ _⟩
  go_loopw [8, 9, 10, 11] (fun fv ov iv _ wr => ∃ (k : Nat) (F : List Ad) (O : NmL), k ≤ H.length ∧ iv = .int .i64 k ∧ RfdRel w H n fam k fv ov F O wr) (fun _ _ iv _ _ => H.length - (intOf iv).toNat)
  case atStart => exact ⟨0, [], [], Nat.zero_le _, rfl, R0⟩
  case round =>
    obtain ⟨k, F, O, hk, rfl, rel⟩ := hrel
    obtain ⟨wo, rfl⟩ : ∃ wo, wo = wr := ⟨_, rfl⟩
    obtain ⟨fa, fc, rfl⟩ := own_any rel.own
    obtain ⟨oa, oc, rfl, _⟩ := rel.nm.sl.any
    have hFl : F.length ≤ k := by have h := fd_len (H := H) n fam k; rw [rel.is] at h; exact h
    have Rel := Lib.hid rel
    clear rel R0
    by_cases hlt : k < H.length
    · have j0 : (k : Int) < (H.length : Int) := by omega
      have hk0 : (0 : Int) ≤ (k : Int) := by omega
      obtain ⟨b, off, c, hv, hc, hbl, hcell⟩ := Ha.out.sl.pos (by omega)
      injection hv with hv1 _ hv2
      subst hv1 hv2
      have hR0 := range_of hoL_len hcell hlt
      have hokw := Ha.out.ok _ (List.getElem_mem hlt)
      have hs := Hsh.out _ (List.getElem_mem hlt)
      have Hsk := Lib.hid (fun (w' : World) (hb : Below wo.heap.size wo w') hn => Rel.out.skip hb hlt hn)
      have Hnx := Lib.hid (fold_next n fam hlt)
      generalize H[k] = h at *
      obtain ⟨hda, hA, hcp, L⟩ := h
      have Hokw := Lib.hid hokw
      have Hs := Lib.hid hs
      have HR : Hid (∀ w', Below wo.heap.size wo w' → w'.rangeAt b (off + k * 19) (hoL ⟨hda, hA, hcp, L⟩)) := Lib.hid (fun w' hb => range_bel (Rel.out.b.trans (hb.mono Rel.out.b.size)) hbl hR0)
      have hR := HR.out wo (Below.refl _ _)
      have hRa := hoL_ad hR
      clear hcell hokw hs hR0 hR
      go_upto_region 7 with (first
        | ((with_reducible show wpList _ _ _ (⟨some 22, _, _, _, _, _⟩ :: _) _ _); refine wpList_loadAdM (o := ⟨some 22, _, _, _, _, _⟩) rfl _ rfl rfl hRa ?_)
        | ((with_reducible show wpList _ _ _ (⟨some 11, _, _, _, _, _⟩ :: _) _ _); refine wpList_allocAd (o := ⟨some 11, _, _, _, _, _⟩) rfl rfl ?_; intro g11 w2 hg hB2 hb2 hs2; have Hg := Lib.hid hg; clear hs2 hg)
        | ((with_reducible refine wpList_storeAd (o := ⟨none, _, _, _, _, _⟩) rfl (.tmp 11) _ rfl rfl rfl hB2 ?_); intro w3 hB3 hS3))
      have hb3 : Below wo.heap.size wo w3 := hb2.trans (hS3.below (by have := Hg.out; omega))
      have HB3 := Lib.hid hB3
      have Hb3 := Lib.hid hb3
      clear hb2 hb3 hS3 hB2 hRa
      try simp only [Act.put, List.setIfInBounds_toArray, List.set_cons_zero, List.set_cons_succ]
      go_cut [39] (fun s wx => s = .bool (!hasN (L.map (·.2)) n || (fam != 0 && hda.fam != fam)) ∧ Below w3.heap.size w3 wx)
      case first =>
        have hR3 := HR.out w3 Hb3.out
        have hbw := Rel.out.b.trans (Hb3.out.mono Rel.out.b.size)
        have HX := Lib.hid (rnamed_any ⟨hda, hA, hcp, L⟩ n _ w3 (Hokw.out.bel hbw) (Hn.out.below hbw) Hs.out Hnn.out)
        dsimp only at HX
        cases h3 : hasN (L.map (·.2)) n with
        | false =>
          have H3 := Lib.hid h3
          rw [h3] at HX
          clear h3 hB3
          go_wp2_with (first
            | ((with_reducible show wpList _ _ _ (⟨some 26, _, _, _, _, _⟩ :: _) _ _); refine wpList_loadM_ho (o := ⟨some 26, _, _, _, _, _⟩) rfl _ rfl rfl hR3 ?_)
            | (go_at_call 66; refine HX.out.mono ?_; rintro e w4 ⟨rfl, hb4⟩; have Hb4 := Lib.hid hb4; clear hb4))
          go_meet
          exact ⟨by rw [H3.out]; rfl, Hb4.out⟩
        | true =>
          have H3 := Lib.hid h3
          rw [h3] at HX
          clear h3 hB3
          cases i1 : fam != 0 with
          | false =>
            have I1 := Lib.hid i1
            go_wp2_with (first
              | ((with_reducible show wpList _ _ _ (⟨some 26, _, _, _, _, _⟩ :: _) _ _); refine wpList_loadM_ho (o := ⟨some 26, _, _, _, _, _⟩) rfl _ rfl rfl hR3 ?_)
              | (go_at_call 66; refine HX.out.mono ?_; rintro e w4 ⟨rfl, hb4⟩; have Hb4 := Lib.hid hb4; clear hb4))
            go_meet
            exact ⟨by rw [H3.out, I1.out]; rfl, Hb4.out⟩
          | true =>
            have I1 := Lib.hid i1
            cases i2 : hda.fam != fam
            all_goals
              have I2 := Lib.hid i2
              go_wp2_with (first
                | ((with_reducible show wpList _ _ _ (⟨some 26, _, _, _, _, _⟩ :: _) _ _); refine wpList_loadM_ho (o := ⟨some 26, _, _, _, _, _⟩) rfl _ rfl rfl hR3 ?_)
                | (go_at_call 66; refine HX.out.mono ?_; rintro e w4 ⟨rfl, hb4⟩; have hB4 := HB3.out.bel hb4; have c0 : w4.cell? ⟨g11, 0, none⟩ = some (.int .i64 hda.fam) := (hB4.cell 0).trans (adA_0 _); have Hb4 := Lib.hid hb4; clear hb4 hB4))
              go_meet
              exact ⟨by rw [H3.out, I1.out, I2.out]; rfl, Hb4.out⟩
      case rest =>
        obtain ⟨rfl, hbx⟩ := hcut
        have Hbx := Lib.hid (Hb3.out.trans (hbx.mono Hb3.out.size))
        have HBx := Lib.hid (HB3.out.bel hbx)
        clear hbx hB3
        cases hfl : (!hasN (L.map (·.2)) n || (fam != 0 && hda.fam != fam)) with
        | true =>
          have Hst : Hid (fdStep n fam (F, O) (hoP ⟨hda, hA, hcp, L⟩) = (F, O)) := Lib.hid (if_pos ((Bool.or_comm _ _).trans hfl))
          clear hfl
          go_wp2
          go_roundw
          case rel => exact ⟨k + 1, F, O, by omega, by go_num, Hsk.out _ Hbx.out Hst.out⟩
          case measure => (simp [intOf]) <;> omega
        | false =>
          have hne : L ≠ [] := by
            have h1 : hasN (L.map (·.2)) n = true := by
              have := (Bool.or_eq_false_iff.1 hfl).1
              simpa using this
            intro e
            exact hasN_ne h1 (by rw [e]; rfl)
          obtain ⟨O', hO'⟩ : ∃ O', O' = if F = [] then (L.map (·.2)).headD [] else O := ⟨_, rfl⟩
          have Hst : Hid (fdStep n fam (F, O) (hoP ⟨hda, hA, hcp, L⟩) = (if hda ∈ F then F else F ++ [hda], O')) := Lib.hid (by rw [hO']; exact if_neg (by rw [Bool.not_eq_true]; exact (Bool.or_comm _ _).trans hfl))
          have HO := Lib.hid hO'
          clear hfl hO'
          go_upto_if 42 with (fail)
          go_cut [9] (fun s9 wx => SlB w.heap.size 9 wx 1 s9 O'.length (O'.map stv) ∧ wx = wc)
          case first =>
            by_cases hF : F = []
            · obtain ⟨q, L', rfl⟩ : ∃ q L', L = q :: L' := by cases L with | nil => exact absurd rfl hne | cons q L' => exact ⟨q, L', rfl⟩
              have HOq : Hid (O' = q.2) := Lib.hid (by rw [HO.out, if_pos hF]; rfl)
              have hbw := Rel.out.b.trans (Hbx.out.mono Rel.out.b.size)
              have hok := Hokw.out.bel hbw
              obtain ⟨b2, off2, c2, hv, hc2, hbl2, hcell2⟩ := hok.sl.pos (by show 0 < (q :: L').length; simp)
              dsimp only [Ho.v] at hv
              injection hv with hv1 _ hv2
              subst hv1 hv2
              have e0 : wc.cell? ⟨b2, off2, none⟩ = some q.1 := by
                have := hcell2 0 q.1 rfl
                rwa [Nat.add_zero] at this
              have hnq := Hokw.out.nm q (by simp)
              have c18 : wc.cell? ⟨b, off + k * 19 + 18, none⟩ = some (.slice (some ⟨b2, off2, none⟩) (L'.length + 1) hcp) := hoL_nm (HR.out wc Hbx.out)
              have f0 : ((F.length : Int) == 0) = true := by rw [hF]; rfl
              have l0 : (0 : Int) < (L'.length : Int) + 1 := by omega
              obtain ⟨qv, qn⟩ := q
              obtain ⟨qa, qc, hqv, _⟩ := hnq.sl.any
              dsimp only at hqv e0 HOq
              subst hqv
              have Hq : Hid (SlB w.heap.size 9 wc 1 (.slice qa qn.length qc) qn.length (qn.map stv)) := Lib.hid ((SlB.old hnq.sl (Nat.le_refl _)).bel hbw)
              clear hF hok hcell2 hnq hne hbw
              go_wp2
              go_meet
              rw [HOq.out]
              exact ⟨Hq.out, rfl⟩
            · have HOq : Hid (O' = O) := Lib.hid (by rw [HO.out, if_neg hF])
              have f0 : ((F.length : Int) == 0) = false := by
                rw [beq_eq_false_iff_ne]
                have := List.length_pos_iff.2 hF
                omega
              clear hF
              go_wp2
              go_meet
              rw [HOq.out]
              exact ⟨Rel.out.nm.bel Hbx.out, rfl⟩
          case rest =>
            obtain ⟨hnm9, rfl⟩ := hcut
            have Hnm := Lib.hid hnm9
            have hB9 := HBx.out
            have hX := rhas_any F hda _ wc ((Sl.own Rel.out.own).below Hbx.out) (by omega)
            have HX := Lib.hid hX
            clear hnm9 hX
            by_cases hmF : hda ∈ F
            · have HmF := Lib.hid hmF
              rw [decide_eq_true hmF] at HX
              clear hmF
              go_wp2_with (first
                | ((with_reducible show wpList _ _ _ (⟨some 51, _, _, _, _, _⟩ :: _) _ _); refine wpList_loadAd (o := ⟨some 51, _, _, _, _, _⟩) rfl _ rfl rfl hB9 ?_)
                | (go_at_call 67; refine HX.out.mono ?_; rintro e w4 ⟨rfl, hb4⟩; have Hb4 := Lib.hid (Hbx.out.trans (hb4.mono Hbx.out.size)); have Hnm4 := Lib.hid (Hnm.out.bel hb4); clear hb4))
              go_roundw
              case rel =>
                exact ⟨k + 1, F, O', by omega, by go_num, by rw [Hnx.out, Rel.out.is, Hst.out, if_pos HmF.out], own_below Rel.out.own Hb4.out, Hnm4.out, Rel.out.b.trans (Hb4.out.mono Rel.out.b.size)⟩
              case measure => (simp [intOf]) <;> omega
            · have HmF := Lib.hid hmF
              rw [decide_eq_false hmF] at HX
              clear hmF
              go_wp2_with (first
                | ((with_reducible show wpList _ _ _ (⟨some 51, _, _, _, _, _⟩ :: _) _ _); refine wpList_loadAd (o := ⟨some 51, _, _, _, _, _⟩) rfl _ rfl rfl hB9 ?_)
                | (go_at_call 67; refine HX.out.mono ?_; rintro e w4 ⟨rfl, hb4⟩; have hB4 := hB9.bel hb4; have Hb4 := Lib.hid (Hbx.out.trans (hb4.mono Hbx.out.size)); have Hnm4 := Lib.hid (Hnm.out.bel hb4); have own4 := own_below Rel.out.own Hb4.out; clear hb4)
                | ((with_reducible show wpList _ _ _ (⟨some 55, _, _, _, _, _⟩ :: _) _ _); refine wpList_loadAd (o := ⟨some 55, _, _, _, _, _⟩) rfl _ rfl rfl hB4 ?_)
                | ((with_reducible show wpList _ _ _ (⟨some 56, _, _, _, _, _⟩ :: _) _ _); refine wpList_lit (o := ⟨some 56, _, _, _, _, _⟩) rfl _ _ rfl elt_ads [.agg (adA hda)] rfl (by decide) (by decide) (fun v hv => by rw [List.mem_singleton.1 hv]; exact adA_size _) rfl ?_; intro w7 hB7 hx7 hb7 hs7; clear hx7 hs7; have hB7 := bk_list (l := adL hda) hB7 rfl; have own7 := own_below own4 hb7)
                | (at_builtin; refine wpList_app rfl (.tmp 54) (.tmp 56) _ rfl elt_ads rfl own7 rfl (hB7.sl (size := 18) (n := 1) (adL_len _) 1 (Nat.le_refl _)) (adL_one _) (Nat.le_trans (Nat.le_trans Rel.out.b.size Hb4.out.size) hb7.size) (by omega) (by omega) ?_; intro v8 w8 ho8 hb8 hg8))
              have nm8 := (Hnm4.out.bel hb7).grown own7 (by decide) hg8
              have bel8 := ((Rel.out.b.trans (Hb4.out.mono Rel.out.b.size)).trans (hb7.mono (Nat.le_trans Rel.out.b.size Hb4.out.size))).trans hb8
              go_roundw
              case rel =>
                exact ⟨k + 1, F ++ [hda], O', by omega, by go_num, by rw [Hnx.out, Rel.out.is, Hst.out, if_neg HmF.out], by rw [List.length_append, List.flatMap_append]; simpa using ho8, nm8, bel8⟩
              case measure => (simp [intOf]) <;> omega
    · have hkH : k = H.length := by omega
      subst hkH
      have j0 : ¬ (H.length : Int) < (H.length : Int) := by omega
      have Hfin : Hid (findP (H.map hoP) n fam = (F, O)) := Lib.hid (by have h := Rel.out.is; rw [List.take_length] at h; exact h)
      go_wp2
      go_ret2
      rw [Hfin.out]
      exact ⟨_, _, rfl, Sl.own Rel.out.own, Rel.out.nm.sl, Rel.out.b⟩
end Go.Proofs.YtgebcifkbldfoaaDoor
