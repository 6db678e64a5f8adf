/- Contracts and plain lemmas of our own, merged. -/
import Derived.Test.YtgebcifkbldfoaaDoorZHP31
import Derived.Test.YtgebcifkbldfoaaDoorZHP32
import Derived.Test.YtgebcifkbldfoaaDoorZHP33
import Derived.Deep.OwnRows
/- The law's own test of hosts (18). -/
namespace Go.Proofs.YtgebcifkbldfoaaDoor
open Go.RowKit
attribute [local go_sem] ba_get ext_take ext_drop ext_any ba_app

def w18s : List UInt8 := [49, 57, 50, 46, 48, 46, 50, 46, 49, 32, 97, 46, 98, 32, 97, 32, 35, 32, 120]
def w18a : Ad := adOf 192 0 2 1
theorem w18_parse : hosP w18s = [(w18a, [[[97], [98]], [[97]]])] := by decide +kernel
theorem w18_find : findP [(w18a, [[[97], [98]], [[97]]])] [[65]] 4 = ([w18a], [[97], [98]]) := by decide +kernel
theorem w18_b3 : w18a.b 3 = 1 := by decide +kernel
theorem w18_sh {H : List Ho} (h : H.map hoP = [(w18a, [[[97], [98]], [[97]]])]) : ∀ x ∈ H, ∀ q ∈ x.L, ShN q.2 := by
  intro x hx q hq
  have h1 : hoP x ∈ H.map hoP := List.mem_map.2 ⟨x, hx, rfl⟩
  rw [h, List.mem_singleton] at h1
  have h2 : x.L.map (·.2) = [[[97], [98]], [[97]]] := congrArg (·.2) h1
  have h3 : q.2 ∈ x.L.map (·.2) := List.mem_map.2 ⟨q, hq, rfl⟩
  rw [h2] at h3
  simp only [List.mem_cons, List.not_mem_nil, or_false] at h3
  rcases h3 with h3 | h3 <;> rw [h3] <;> exact ⟨by simp, by simp⟩
set_option maxRecDepth 100000 in
set_option maxHeartbeats 4000000 in
theorem works18_any (w : World) (ht : Tab w) (hm : MaxI w) : Calls Tryd.prog 23 #[] w (Good w) := by
  have HP := Lib.hid (hparse_any w18s w ht hm (by decide))
  rw [w18_parse] at HP
  clear ht hm
  go_enter Tryd.func23, Tryd.ntmps23
  go_wp2_with (first
    | (go_at_call 26; refine HP.out.mono ?_; rintro e w1 ⟨v1, H, rfl, hH, hHS, hb1, -⟩; obtain ⟨h, rfl⟩ : ∃ h, H = [h] := List.length_eq_one_iff.1 (by have h := congrArg List.length hHS; rwa [List.length_map] at h); obtain ⟨A1, c1, rfl⟩ := own_any hH.own; have HH := Lib.hid hH; have HS := Lib.hid hHS; have Hb1 := Lib.hid hb1; clear hH hHS hb1; refine holdL ?_))
  refine Lib.hid ?_
  have HF : Hid (∀ (nv : Value) (w' : World), Below w1.heap.size w1 w' → Sl w' 1 nv 1 [stv [65]] → Calls Tryd.prog 30 #[.slice A1 1 c1, nv, .int .i64 4] w' (FindPost w' ([w18a], [[97], [98]]))) := Lib.hid (fun nv w' hb hn => by
    have h1 := hfind_any [h] [[65]] 4 (.slice A1 1 c1) nv w' (HH.out.at_.bel hb) hn (by simp) (w18_sh HS.out)
    rw [HS.out, w18_find] at h1
    exact h1)
  go_wp2_with (first
    | ((with_reducible show wpList _ _ _ (⟨some 7, _, _, _, _, _⟩ :: _) _ _); refine wpList_lit (o := ⟨some 7, _, _, _, _, _⟩) rfl _ _ rfl elt_name [stv [65]] rfl (by decide) (by decide) (fun v hv => by rw [List.mem_singleton.1 hv]; rfl) rfl ?_; intro w2 hB2 hx2 hb2 hs2; have hsl2 := Sl.own hx2; have Hb2 := Lib.hid hb2; clear hB2 hx2 hs2 hb2)
    | (go_at_call 30; refine (HF.out _ _ Hb2.out hsl2).mono ?_; rintro e w3 ⟨va, vn, rfl, hsa, hsn, hb3⟩; obtain ⟨b3, o3, c3, rfl, hc3, hl3, hcell3⟩ := hsa.pos (by decide); obtain ⟨An, cn, rfl, _⟩ := hsn.any; have hby : w3.cell? ⟨b3, o3 + 1 + 3, none⟩ = some (.int .u8 1) := (by have h := hcell3 4 _ (adL_ip w18a (i := 3) (by omega)); rw [w18_b3] at h; exact h); have HN := Lib.hid hsn; have Hb3 := Lib.hid (bel_tr Hb2.out hb3); clear hsa hsn hb3 hcell3 hsl2; refine holdL ?_))
  refine Lib.hid ?_
  go_wp2_with (first
    | ((with_reducible show wpList _ _ _ (⟨some 29, _, _, _, _, _⟩ :: _) _ _); refine wpList_guarded (o := ⟨some 29, _, _, _, _, _⟩) rfl ?_; refine wpList_lit (o := ⟨some 29, _, _, _, _, _⟩) rfl _ _ rfl elt_strs [stv [97], stv [98]] rfl (by decide) (by decide) (fun v hv => by simp at hv; rcases hv with rfl | rfl <;> rfl) rfl ?_; intro w4 hB4 hx4 hb4 hs4; have hsl4 := Sl.own hx4; have Hb4 := Lib.hid hb4; clear hB4 hx4 hs4 hb4)
    | (go_at_call 33; refine (exact_any [[97], [98]] [[97], [98]] _ _ _ (HN.out.below Hb4.out) hsl4 (by simp)).mono ?_; rintro e w5 ⟨rfl, hb5⟩; have Hb5 := Lib.hid hb5; clear hb5))
  go_ret
  exact ⟨rfl, (Hb1.out.trans (Hb3.out.mono Hb1.out.size)).trans ((bel_tr Hb4.out Hb5.out).mono (Nat.le_trans Hb1.out.size Hb3.out.size))⟩
end Go.Proofs.YtgebcifkbldfoaaDoor

/- HostsJoins: the walk. -/
namespace Go.Proofs.YtgebcifkbldfoaaDoor
open Go.RowKit
attribute [local go_sem] ba_get ext_take ext_drop ext_any ba_app

theorem fm_idx {α β γ : Type} (h : α → Option γ) (f : β → Option γ) : ∀ (L : List α) (g : Nat → α → β), (∀ i x, f (g i x) = h x) → (L.mapIdx g).filterMap f = L.filterMap h
  | [], _, _ => rfl
  | x :: L, g, hg => by
    rw [List.mapIdx_cons, List.filterMap_cons, List.filterMap_cons, hg, fm_idx h f L _ (fun i x => hg (i + 1) x)]
theorem hosP_lin (s : List UInt8) : hosP s = (linL s).filterMap (fun x => hostP (lnF true x)) := by
  unfold hosP alL alN numL
  rw [List.filterMap_filter, List.filterMap_map]
  refine fm_idx _ _ _ _ fun i x => ?_
  dsimp only [Function.comp]
  unfold alP
  by_cases h : lnF true x = []
  · simp [h, hostP]
  · simp [h]
theorem spB_two (d : UInt8) (b : List UInt8) : ∀ (a cur : List UInt8), spB d cur (a ++ d :: b) = spB d cur a ++ spB d [] b
  | [], cur => by
    have h : spB d cur (d :: b) = cur :: spB d [] b := by rw [spB]; exact if_pos rfl
    exact h
  | c :: a, cur => by
    rw [List.cons_append, spB, spB]
    split
    · rw [spB_two d b a []]; rfl
    · exact spB_two d b a _
theorem hosP_two (a b : List UInt8) : hosP (a ++ 10 :: b) = hosP a ++ hosP b := by
  rw [hosP_lin, hosP_lin, hosP_lin, ← List.filterMap_append]
  unfold linL
  rw [spB_two]
theorem hosP_len (s : List UInt8) : (hosP s).length ≤ s.length + 1 := Nat.le_trans (List.length_filterMap_le _ _) (alL_len true s)
end Go.Proofs.YtgebcifkbldfoaaDoor

/- HostsParses: the walk. -/
namespace Go.Proofs.YtgebcifkbldfoaaDoor
open Go.RowKit
attribute [local go_sem] ba_get ext_take ext_drop ext_any ba_app

/-- hosts that lie below a world and later ones. -/
def HosC (w : World) (v : Value) (S : List (Ad × List NmL)) : Prop := ∃ H, HosAt w v H ∧ H.map hoP = S ∧ H.length ≤ 10000
theorem HosC.bel {w w' : World} {v : Value} {S : List (Ad × List NmL)} (h : HosC w v S) (hb : Below w.heap.size w w') : HosC w' v S := by
  obtain ⟨H, h1, h2, h3⟩ := h
  exact ⟨H, h1.bel hb, h2, h3⟩
theorem HosPost.c {w w' : World} {s : List UInt8} {e : Ending} (hl : s.length ≤ 9000) (h : HosPost w (hosP s) e w') : ∃ A c, e = .returned (.slice A (hosP s).length c) ∧ HosC w' (.slice A (hosP s).length c) (hosP s) ∧ Below w.heap.size w w' := by
  obtain ⟨v, H, rfl, h1, h2, h3, -⟩ := h
  obtain ⟨A, c, rfl⟩ := own_any h1.own
  have hl2 : H.length = (hosP s).length := by rw [← h2, List.length_map]
  have h5 := hosP_len s
  rw [hl2] at h1 ⊢
  exact ⟨A, c, rfl, ⟨H, h1.at_, h2, by omega⟩, h3⟩
theorem same_c {w : World} {S : List (Ad × List NmL)} {va vb : Value} (ha : HosC w va S) (hb : HosC w vb S) : Calls Tryd.prog 25 #[va, vb] w fun e w' => e = .returned (.bool true) ∧ Below w.heap.size w w' := by
  obtain ⟨H, h1, h2, h3⟩ := ha
  obtain ⟨G, g1, g2, g3⟩ := hb
  refine (hsame_any H G va vb w h1 g1 (by omega) (by omega)).mono fun e w' ⟨he, hb⟩ => ⟨?_, hb⟩
  rw [he, decide_eq_true (h2.trans g2.symm)]
set_option maxRecDepth 100000 in
set_option maxHeartbeats 4000000 in
theorem hostsParses_walk (w : World) (ht : Tab w) (hm : MaxI w) (s : List UInt8) (hs : s.length ≤ 140737488351232) (o : List UInt8) (ho : o.length ≤ 140737488351232) : Calls Tryd.prog 5 #[.string ⟨s.toArray⟩, .string ⟨o.toArray⟩] w (Good w) := by
  have Ht := Lib.hid ht
  have Hm := Lib.hid hm
  have HW := Lib.hid (works18_any w ht hm)
  clear ht hm
  by_cases hl : 4000 < s.length + o.length
  · have i1 : decide ((4000 : Int) < (s.length : Int) + (o.length : Int)) = true := decide_eq_true (by omega)
    have wr1 : IntKind.i64.wrap ((s.length : Int) + (o.length : Int)) = (s.length : Int) + (o.length : Int) := IntWalk.i64_in _ (by omega)
    go_enter Tryd.func5, Tryd.ntmps5
    go_wp2_with (first
      | (go_at_call 23; refine HW.out.mono ?_; rintro e w1 ⟨rfl, hb1⟩; have Hb1 := Lib.hid hb1; have HW2 := Lib.hid (works18_any w1 (Ht.out.below hb1) (Hm.out.below hb1)); clear hb1 HW)
      | (go_at_call 23; refine HW2.out.mono ?_; rintro e w2 ⟨rfl, hb2⟩; have Hb2 := Lib.hid (bel_tr Hb1.out hb2); clear hb2))
    go_ret
    exact ⟨rfl, Hb2.out⟩
  · have i1 : decide ((4000 : Int) < (s.length : Int) + (o.length : Int)) = false := decide_eq_false (by omega)
    have wr1 : IntKind.i64.wrap ((s.length : Int) + (o.length : Int)) = (s.length : Int) + (o.length : Int) := IntWalk.i64_in _ (by omega)
    have hP := Lib.hid (fun (x : List UInt8) (hx : x.length ≤ 4001) (w' : World) (hb : Below w.heap.size w w') => (hparse_any x w' (Ht.out.below hb) (Hm.out.below hb) (by omega)).mono fun e w' h => HosPost.c (by omega) h)
    have hR := Lib.hid (fun (x : List UInt8) (hx : x.length ≤ 4001) (w' : World) => (rhparse_any x w' (by omega)).mono fun e w' h => HosPost.c (by omega) h)
    have hlens : s.length ≤ 4001 ∧ o.length ≤ 4001 := ⟨by omega, by omega⟩
    have hcat : (o ++ 10 :: s).length ≤ 4001 ∧ (s ++ 10 :: o).length ≤ 4001 := by
      rw [List.length_append, List.length_append, List.length_cons, List.length_cons]
      exact ⟨by omega, by omega⟩
    have Hlens := Lib.hid hlens
    have Hcat := Lib.hid hcat
    clear hlens hcat
    go_enter Tryd.func5, Tryd.ntmps5
    go_wp2_with (first
      | (go_at_call 23; refine HW.out.mono ?_; rintro e w1 ⟨rfl, hb1⟩; have Hb1 := Lib.hid hb1; clear hb1 HW)
      | (go_at_call 24; refine (hR.out s Hlens.out.1 _).mono ?_; rintro e w2 ⟨A2, c2, rfl, hC2, hb2⟩; have HC2 := Lib.hid hC2; have Hb2 := Lib.hid (bel_tr Hb1.out hb2); clear hC2 hb2)
      | (go_at_call 26; refine (hP.out s Hlens.out.1 _ Hb2.out).mono ?_; rintro e w3 ⟨A3, c3, rfl, hC3, hb3⟩; have HC3 := Lib.hid hC3; have Hb3 := Lib.hid hb3; clear hC3 hb3)
      | (go_at_call 25; refine (same_c HC3.out (HC2.out.bel Hb3.out)).mono ?_; rintro e w4 ⟨rfl, hb4⟩; have Hb4 := Lib.hid (bel_tr Hb3.out hb4); clear hb4))
    have HC4 := Lib.hid (HC2.out.bel Hb4.out)
    have Hbw := Lib.hid (bel_tr Hb2.out Hb4.out)
    clear HC3 HC2 Hb3 Hb4 Hb2 Hb1
    go_loopw [6] (fun i wr => ∃ k : Nat, k ≤ o.length ∧ i = .int .i64 k ∧ wr = w4) (fun i _ => o.length - (intOf i).toNat)
    case atStart => exact ⟨0, Nat.zero_le _, rfl, rfl⟩
    case round =>
      obtain ⟨k, hk, rfl, rfl⟩ := hrel
      by_cases hlt : k < o.length
      · have hltI : (k : Int) < (o.length : Int) := by omega
        by_cases h10 : o[k] = 10
        · have i2 : (((o[k].toNat : Nat) : Int) == 10) = true := by rw [h10]; rfl
          clear h10
          go_wp2
          go_ret
          exact ⟨rfl, Hbw.out⟩
        · have i2 : (((o[k].toNat : Nat) : Int) == 10) = false := by
            rw [beq_eq_false_iff_ne]
            intro h
            exact h10 (UInt8.toNat.inj (by have : (10 : UInt8).toNat = 10 := rfl; omega))
          clear h10
          go_wp2
          go_roundw
          case rel => exact ⟨k + 1, by omega, by go_num, trivial⟩
          case measure => (simp [intOf]) <;> omega
      · have hltI : ¬ (k : Int) < (o.length : Int) := by omega
        clear hlt hk
        have HX5 := Lib.hid (rlnf_any true o wr (by omega))
        have HX6 : Hid (∀ w', Calls Tryd.prog 24 #[.string ⟨o.toArray⟩] w' fun e w'' => ∃ A c, e = .returned (.slice A (hosP o).length c) ∧ Below w'.heap.size w' w'') := Lib.hid (fun w' => (hR.out o Hlens.out.2 w').mono fun e w'' ⟨A, c, h1, _, h3⟩ => ⟨A, c, h1, h3⟩)
        obtain ⟨F, hF⟩ : ∃ F, F = lnF true o := ⟨_, rfl⟩
        rw [← hF] at HX5
        clear hF
        by_cases hP0 : hosP o = []
        · have HP0 := Lib.hid hP0
          rw [hP0] at HX6
          clear hP0
          by_cases hB : F = [] ∧ 1000 < o.length
          · obtain ⟨hF0, hol⟩ := hB
            have f1 : decide ((1000 : Int) < (o.length : Int)) = true := decide_eq_true (by omega)
            subst hF0
            clear hP hR
            go_wp2_with (first
              | (go_at_call 27; refine HX5.out.mono ?_; rintro e w5 ⟨v5, rfl, ho5, hb5⟩; obtain ⟨A5, c5, rfl⟩ := own_any ho5; have Hb5 := Lib.hid hb5; clear ho5 hb5)
              | (go_at_call 24; refine (HX6.out _).mono ?_; rintro e w6 ⟨A6, c6, rfl, hb6⟩; have Hb6 := Lib.hid (bel_tr Hb5.out hb6); clear hb6))
            go_ret
            exact ⟨rfl, Hbw.out.trans (Hb6.out.mono Hbw.out.size)⟩
          · cases hF0 : F.isEmpty
            · have f0 : ((F.length : Int) == 0) = false := by
                rw [beq_eq_false_iff_ne]
                intro h
                have : F = [] := List.eq_nil_of_length_eq_zero (by omega)
                rw [this] at hF0
                cases hF0
              clear hB hF0
              have HE1 : Hid (hosP (o ++ 10 :: s) = hosP s) := Lib.hid (by rw [hosP_two, HP0.out, List.nil_append])
              have HE2 : Hid (hosP (s ++ 10 :: o) = hosP s) := Lib.hid (by rw [hosP_two, HP0.out, List.append_nil])
              have HPa : Hid (∀ w', Below w.heap.size w w' → Calls Tryd.prog 26 #[.string ⟨(o ++ 10 :: s).toArray⟩] w' fun e w'' => ∃ A c, e = .returned (.slice A (hosP s).length c) ∧ HosC w'' (.slice A (hosP s).length c) (hosP s) ∧ Below w'.heap.size w' w'') := Lib.hid (fun w' hb' => by
                have h := hP.out (o ++ 10 :: s) Hcat.out.1 w' hb'
                rw [HE1.out] at h
                exact h)
              have HPb : Hid (∀ w', Below w.heap.size w w' → Calls Tryd.prog 26 #[.string ⟨(s ++ 10 :: o).toArray⟩] w' fun e w'' => ∃ A c, e = .returned (.slice A (hosP s).length c) ∧ HosC w'' (.slice A (hosP s).length c) (hosP s) ∧ Below w'.heap.size w' w'') := Lib.hid (fun w' hb' => by
                have h := hP.out (s ++ 10 :: o) Hcat.out.2 w' hb'
                rw [HE2.out] at h
                exact h)
              clear hP hR HE1 HE2
              go_wp2_with (first
                | (go_at_call 27; refine HX5.out.mono ?_; rintro e w5 ⟨v5, rfl, ho5, hb5⟩; obtain ⟨A5, c5, rfl⟩ := own_any ho5; have Hb5 := Lib.hid hb5; clear ho5 hb5)
                | (go_at_call 24; refine (HX6.out _).mono ?_; rintro e w6 ⟨A6, c6, rfl, hb6⟩; have Hb6 := Lib.hid (bel_tr Hb5.out hb6); clear hb6)
                | (go_at_call 26; (with_reducible refine (HPa.out _ (Hbw.out.trans (Hb6.out.mono Hbw.out.size))).mono ?_); rintro e w7 ⟨A7, c7, rfl, hC7, hb7⟩; have HC7 := Lib.hid hC7; have Hb7 := Lib.hid (bel_tr Hb6.out hb7); clear hC7 hb7)
                | (go_at_call 25; refine (same_c HC7.out (HC4.out.bel Hb7.out)).mono ?_; rintro e w8 ⟨rfl, hb8⟩; have Hb8 := Lib.hid (bel_tr Hb7.out hb8); clear hb8 HC7; refine holdL ?_))
              refine Lib.hid ?_
              go_wp2_with (first
                | (go_at_call 26; (with_reducible refine (HPb.out _ (Hbw.out.trans (Hb8.out.mono Hbw.out.size))).mono ?_); rintro e w9 ⟨A9, c9, rfl, hC9, hb9⟩; have HC9 := Lib.hid hC9; have Hb9 := Lib.hid (bel_tr Hb8.out hb9); clear hC9 hb9)
                | (go_at_call 25; refine (same_c HC9.out (HC4.out.bel Hb9.out)).mono ?_; rintro e w10 ⟨rfl, hb10⟩; have Hb10 := Lib.hid (bel_tr Hb9.out hb10); clear hb10))
              go_ret
              exact ⟨rfl, Hbw.out.trans (Hb10.out.mono Hbw.out.size)⟩
            · have hF1 : F = [] := List.isEmpty_iff.1 hF0
              have f1 : decide ((1000 : Int) < (o.length : Int)) = false := decide_eq_false (fun h => hB ⟨hF1, by omega⟩)
              subst hF1
              clear hB hF0
              have HE1 : Hid (hosP (o ++ 10 :: s) = hosP s) := Lib.hid (by rw [hosP_two, HP0.out, List.nil_append])
              have HE2 : Hid (hosP (s ++ 10 :: o) = hosP s) := Lib.hid (by rw [hosP_two, HP0.out, List.append_nil])
              have HPa : Hid (∀ w', Below w.heap.size w w' → Calls Tryd.prog 26 #[.string ⟨(o ++ 10 :: s).toArray⟩] w' fun e w'' => ∃ A c, e = .returned (.slice A (hosP s).length c) ∧ HosC w'' (.slice A (hosP s).length c) (hosP s) ∧ Below w'.heap.size w' w'') := Lib.hid (fun w' hb' => by
                have h := hP.out (o ++ 10 :: s) Hcat.out.1 w' hb'
                rw [HE1.out] at h
                exact h)
              have HPb : Hid (∀ w', Below w.heap.size w w' → Calls Tryd.prog 26 #[.string ⟨(s ++ 10 :: o).toArray⟩] w' fun e w'' => ∃ A c, e = .returned (.slice A (hosP s).length c) ∧ HosC w'' (.slice A (hosP s).length c) (hosP s) ∧ Below w'.heap.size w' w'') := Lib.hid (fun w' hb' => by
                have h := hP.out (s ++ 10 :: o) Hcat.out.2 w' hb'
                rw [HE2.out] at h
                exact h)
              clear hP hR HE1 HE2
              go_wp2_with (first
                | (go_at_call 27; refine HX5.out.mono ?_; rintro e w5 ⟨v5, rfl, ho5, hb5⟩; obtain ⟨A5, c5, rfl⟩ := own_any ho5; have Hb5 := Lib.hid hb5; clear ho5 hb5)
                | (go_at_call 24; refine (HX6.out _).mono ?_; rintro e w6 ⟨A6, c6, rfl, hb6⟩; have Hb6 := Lib.hid (bel_tr Hb5.out hb6); clear hb6)
                | (go_at_call 26; (with_reducible refine (HPa.out _ (Hbw.out.trans (Hb6.out.mono Hbw.out.size))).mono ?_); rintro e w7 ⟨A7, c7, rfl, hC7, hb7⟩; have HC7 := Lib.hid hC7; have Hb7 := Lib.hid (bel_tr Hb6.out hb7); clear hC7 hb7)
                | (go_at_call 25; refine (same_c HC7.out (HC4.out.bel Hb7.out)).mono ?_; rintro e w8 ⟨rfl, hb8⟩; have Hb8 := Lib.hid (bel_tr Hb7.out hb8); clear hb8 HC7; refine holdL ?_))
              refine Lib.hid ?_
              go_wp2_with (first
                | (go_at_call 26; (with_reducible refine (HPb.out _ (Hbw.out.trans (Hb8.out.mono Hbw.out.size))).mono ?_); rintro e w9 ⟨A9, c9, rfl, hC9, hb9⟩; have HC9 := Lib.hid hC9; have Hb9 := Lib.hid (bel_tr Hb8.out hb9); clear hC9 hb9)
                | (go_at_call 25; refine (same_c HC9.out (HC4.out.bel Hb9.out)).mono ?_; rintro e w10 ⟨rfl, hb10⟩; have Hb10 := Lib.hid (bel_tr Hb9.out hb10); clear hb10))
              go_ret
              exact ⟨rfl, Hbw.out.trans (Hb10.out.mono Hbw.out.size)⟩
        · obtain ⟨n6, hn6⟩ : ∃ n, n = (hosP o).length := ⟨_, rfl⟩
          rw [← hn6] at HX6
          have p0 : (0 : Int) < (n6 : Int) := by have := List.length_pos_iff.2 hP0; omega
          clear hP hR hP0 hn6
          go_wp2_with (first
            | (go_at_call 27; refine HX5.out.mono ?_; rintro e w5 ⟨v5, rfl, ho5, hb5⟩; obtain ⟨A5, c5, rfl⟩ := own_any ho5; have Hb5 := Lib.hid hb5; clear ho5 hb5)
            | (go_at_call 24; refine (HX6.out _).mono ?_; rintro e w6 ⟨A6, c6, rfl, hb6⟩; have Hb6 := Lib.hid (bel_tr Hb5.out hb6); clear hb6))
          go_ret
          exact ⟨rfl, Hbw.out.trans (Hb6.out.mono Hbw.out.size)⟩
end Go.Proofs.YtgebcifkbldfoaaDoor
