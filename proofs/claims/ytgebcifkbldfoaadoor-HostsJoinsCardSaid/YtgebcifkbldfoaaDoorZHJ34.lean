/- Contracts and plain lemmas of our own, merged. -/
import Derived.Test.YtgebcifkbldfoaaDoorZHJ31
import Derived.Test.YtgebcifkbldfoaaDoorZHJ32
import Derived.Test.YtgebcifkbldfoaaDoorZHJ33
import Derived.Deep.OwnRows
/- The law's own test of hosts (18). -/
namespace Go.Proofs.YtgebcifkbldfoaaDoor
open Go.RowKit
attribute [local go_sem] ba_get ext_take ext_drop ext_any ba_app

def w18s : List UInt8 := [49, 57, 50, 46, 48, 46, 50, 46, 49, 32, 97, 46, 98, 32, 97, 32, 35, 32, 120]
def w18a : Ad := adOf 192 0 2 1
theorem w18_parse : hosP w18s = [(w18a, [[[97], [98]], [[97]]])] := by decide +kernel
theorem w18_find : findP [(w18a, [[[97], [98]], [[97]]])] [[65]] 4 = ([w18a], [[97], [98]]) := by decide +kernel
theorem w18_b3 : w18a.b 3 = 1 := by decide +kernel
theorem w18_sh {H : List Ho} (h : H.map hoP = [(w18a, [[[97], [98]], [[97]]])]) : ∀ x ∈ H, ∀ q ∈ x.L, ShN q.2 := by
  intro x hx q hq
  have h1 : hoP x ∈ H.map hoP := List.mem_map.2 ⟨x, hx, rfl⟩
  rw [h, List.mem_singleton] at h1
  have h2 : x.L.map (·.2) = [[[97], [98]], [[97]]] := congrArg (·.2) h1
  have h3 : q.2 ∈ x.L.map (·.2) := List.mem_map.2 ⟨q, hq, rfl⟩
  rw [h2] at h3
  simp only [List.mem_cons, List.not_mem_nil, or_false] at h3
  rcases h3 with h3 | h3 <;> rw [h3] <;> exact ⟨by simp, by simp⟩
set_option maxRecDepth 100000 in
set_option maxHeartbeats 4000000 in
theorem works18_any (w : World) (ht : Tab w) (hm : MaxI w) : Calls Tryd.prog 23 #[] w (Good w) := by
  have HP := Lib.hid (hparse_any w18s w ht hm (by decide))
  rw [w18_parse] at HP
  clear ht hm
  go_enter Tryd.func23, Tryd.ntmps23
  go_wp2_with (first
    | (go_at_call 26; refine HP.out.mono ?_; rintro e w1 ⟨v1, H, rfl, hH, hHS, hb1, -⟩; obtain ⟨h, rfl⟩ : ∃ h, H = [h] := List.length_eq_one_iff.1 (by have h := congrArg List.length hHS; rwa [List.length_map] at h); obtain ⟨A1, c1, rfl⟩ := own_any hH.own; have HH := Lib.hid hH; have HS := Lib.hid hHS; have Hb1 := Lib.hid hb1; clear hH hHS hb1; refine holdL ?_))
  refine Lib.hid ?_
  have HF : Hid (∀ (nv : Value) (w' : World), Below w1.heap.size w1 w' → Sl w' 1 nv 1 [stv [65]] → Calls Tryd.prog 30 #[.slice A1 1 c1, nv, .int .i64 4] w' (FindPost w' ([w18a], [[97], [98]]))) := Lib.hid (fun nv w' hb hn => by
    have h1 := hfind_any [h] [[65]] 4 (.slice A1 1 c1) nv w' (HH.out.at_.bel hb) hn (by simp) (w18_sh HS.out)
    rw [HS.out, w18_find] at h1
    exact h1)
  go_wp2_with (first
    | ((with_reducible show wpList _ _ _ (⟨some 7, _, _, _, _, _⟩ :: _) _ _); refine wpList_lit (o := ⟨some 7, _, _, _, _, _⟩) rfl _ _ rfl elt_name [stv [65]] rfl (by decide) (by decide) (fun v hv => by rw [List.mem_singleton.1 hv]; rfl) rfl ?_; intro w2 hB2 hx2 hb2 hs2; have hsl2 := Sl.own hx2; have Hb2 := Lib.hid hb2; clear hB2 hx2 hs2 hb2)
    | (go_at_call 30; refine (HF.out _ _ Hb2.out hsl2).mono ?_; rintro e w3 ⟨va, vn, rfl, hsa, hsn, hb3⟩; obtain ⟨b3, o3, c3, rfl, hc3, hl3, hcell3⟩ := hsa.pos (by decide); obtain ⟨An, cn, rfl, _⟩ := hsn.any; have hby : w3.cell? ⟨b3, o3 + 1 + 3, none⟩ = some (.int .u8 1) := (by have h := hcell3 4 _ (adL_ip w18a (i := 3) (by omega)); rw [w18_b3] at h; exact h); have HN := Lib.hid hsn; have Hb3 := Lib.hid (bel_tr Hb2.out hb3); clear hsa hsn hb3 hcell3 hsl2; refine holdL ?_))
  refine Lib.hid ?_
  go_wp2_with (first
    | ((with_reducible show wpList _ _ _ (⟨some 29, _, _, _, _, _⟩ :: _) _ _); refine wpList_guarded (o := ⟨some 29, _, _, _, _, _⟩) rfl ?_; refine wpList_lit (o := ⟨some 29, _, _, _, _, _⟩) rfl _ _ rfl elt_strs [stv [97], stv [98]] rfl (by decide) (by decide) (fun v hv => by simp at hv; rcases hv with rfl | rfl <;> rfl) rfl ?_; intro w4 hB4 hx4 hb4 hs4; have hsl4 := Sl.own hx4; have Hb4 := Lib.hid hb4; clear hB4 hx4 hs4 hb4)
    | (go_at_call 33; refine (exact_any [[97], [98]] [[97], [98]] _ _ _ (HN.out.below Hb4.out) hsl4 (by simp)).mono ?_; rintro e w5 ⟨rfl, hb5⟩; have Hb5 := Lib.hid hb5; clear hb5))
  go_ret
  exact ⟨rfl, (Hb1.out.trans (Hb3.out.mono Hb1.out.size)).trans ((bel_tr Hb4.out Hb5.out).mono (Nat.le_trans Hb1.out.size Hb3.out.size))⟩
end Go.Proofs.YtgebcifkbldfoaaDoor

/- HostsJoins: the walk. -/
namespace Go.Proofs.YtgebcifkbldfoaaDoor
open Go.RowKit
attribute [local go_sem] ba_get ext_take ext_drop ext_any ba_app

theorem fm_idx {α β γ : Type} (h : α → Option γ) (f : β → Option γ) : ∀ (L : List α) (g : Nat → α → β), (∀ i x, f (g i x) = h x) → (L.mapIdx g).filterMap f = L.filterMap h
  | [], _, _ => rfl
  | x :: L, g, hg => by
    rw [List.mapIdx_cons, List.filterMap_cons, List.filterMap_cons, hg, fm_idx h f L _ (fun i x => hg (i + 1) x)]
theorem hosP_lin (s : List UInt8) : hosP s = (linL s).filterMap (fun x => hostP (lnF true x)) := by
  unfold hosP alL alN numL
  rw [List.filterMap_filter, List.filterMap_map]
  refine fm_idx _ _ _ _ fun i x => ?_
  dsimp only [Function.comp]
  unfold alP
  by_cases h : lnF true x = []
  · simp [h, hostP]
  · simp [h]
theorem spB_two (d : UInt8) (b : List UInt8) : ∀ (a cur : List UInt8), spB d cur (a ++ d :: b) = spB d cur a ++ spB d [] b
  | [], cur => by
    have h : spB d cur (d :: b) = cur :: spB d [] b := by rw [spB]; exact if_pos rfl
    exact h
  | c :: a, cur => by
    rw [List.cons_append, spB, spB]
    split
    · rw [spB_two d b a []]; rfl
    · exact spB_two d b a _
theorem hosP_two (a b : List UInt8) : hosP (a ++ 10 :: b) = hosP a ++ hosP b := by
  rw [hosP_lin, hosP_lin, hosP_lin, ← List.filterMap_append]
  unfold linL
  rw [spB_two]
theorem hosP_len (s : List UInt8) : (hosP s).length ≤ s.length + 1 := Nat.le_trans (List.length_filterMap_le _ _) (alL_len true s)
set_option maxRecDepth 100000 in
set_option maxHeartbeats 4000000 in
theorem hostsJoins_walk (w : World) (ht : Tab w) (hm : MaxI w) (a : List UInt8) (ha : a.length ≤ 140737488351232) (b : List UInt8) (hb : b.length ≤ 140737488351232) : Calls Tryd.prog 6 #[.string ⟨a.toArray⟩, .string ⟨b.toArray⟩] w (Good w) := by
  have Ht := Lib.hid ht
  have Hm := Lib.hid hm
  have HW := Lib.hid (works18_any w ht hm)
  clear ht hm
  by_cases hl : 4000 < a.length + b.length
  · have i1 : decide ((4000 : Int) < (a.length : Int) + (b.length : Int)) = true := decide_eq_true (by omega)
    have wr1 : IntKind.i64.wrap ((a.length : Int) + (b.length : Int)) = (a.length : Int) + (b.length : Int) := IntWalk.i64_in _ (by omega)
    go_enter Tryd.func6, Tryd.ntmps6
    go_wp2_with (first
      | (go_at_call 23; refine HW.out.mono ?_; rintro e w1 ⟨rfl, hb1⟩; have Hb1 := Lib.hid hb1; have HW2 := Lib.hid (works18_any w1 (Ht.out.below hb1) (Hm.out.below hb1)); clear hb1 HW)
      | (go_at_call 23; refine HW2.out.mono ?_; rintro e w2 ⟨rfl, hb2⟩; have Hb2 := Lib.hid (bel_tr Hb1.out hb2); clear hb2))
    go_ret
    exact ⟨rfl, Hb2.out⟩
  · have i1 : decide ((4000 : Int) < (a.length : Int) + (b.length : Int)) = false := decide_eq_false (by omega)
    have wr1 : IntKind.i64.wrap ((a.length : Int) + (b.length : Int)) = (a.length : Int) + (b.length : Int) := IntWalk.i64_in _ (by omega)
    go_enter Tryd.func6, Tryd.ntmps6
    go_wp2_with (first
      | (go_at_call 23; refine HW.out.mono ?_; rintro e w1 ⟨rfl, hb1⟩; have Hb1 := Lib.hid hb1; clear hb1 HW))
    have hPa := Lib.hid (fun (w' : World) (hb : Below w.heap.size w w') => hparse_any a w' (Ht.out.below hb) (Hm.out.below hb) (by omega))
    have hPb := Lib.hid (fun (w' : World) (hb : Below w.heap.size w w') => hparse_any b w' (Ht.out.below hb) (Hm.out.below hb) (by omega))
    go_wp2_with (first
      | (go_at_call 26; refine (hPa.out _ Hb1.out).mono ?_; rintro e w2 ⟨v2, H1, rfl, hH1, hS1, hb2, hz1⟩; obtain ⟨A2, c2, rfl⟩ := own_any hH1.own; have hl1 : H1.length ≤ 4001 := (by have h := congrArg List.length hS1; rw [List.length_map] at h; have := hosP_len a; omega); have HH1 := Lib.hid hH1; have HS1 := Lib.hid hS1; have Hb2 := Lib.hid (bel_tr Hb1.out hb2); have Hz1 := Lib.hid hz1; clear hH1 hS1 hb2 hz1; refine holdL ?_))
    refine Lib.hid ?_
    have own2 := World.ownsRow_nil w2 w2.heap.size 106 19
    go_wp2_with (first
      | (at_builtin; refine wpList_app rfl (.tmp 17) (.tmp 19) _ rfl elt_hos (base := w2.heap.size) rfl own2 rfl (Sl.own HH1.out.own) (flat_one hoL_one H1) (Nat.le_refl _) (by omega) (by omega) ?_; intro v3 w3 ho3 hb3 hg3; rw [Nat.zero_add, List.nil_append] at ho3; obtain ⟨A3, c3, rfl⟩ := own_any ho3; have Ho3 := Lib.hid ho3; have Hb3 := Lib.hid hb3; clear ho3 hb3 hg3 own2)
      | (go_at_call 26; refine (hPb.out _ (Hb2.out.trans (Hb3.out.mono Hb2.out.size))).mono ?_; rintro e w4 ⟨v4, H2, rfl, hH2, hS2, hb4, hz2⟩; obtain ⟨A4, c4, rfl⟩ := own_any hH2.own; have hl2 : H2.length ≤ 4001 := (by have h := congrArg List.length hS2; rw [List.length_map] at h; have := hosP_len b; omega); have HH2 := Lib.hid hH2; have HS2 := Lib.hid hS2; have Hb4 := Lib.hid hb4; have Hz2 := Lib.hid hz2; clear hH2 hS2 hb4 hz2; refine holdL ?_))
    refine Lib.hid ?_
    have own4 := own_below Ho3.out Hb4.out
    have hsz4 : w2.heap.size ≤ w4.heap.size := Nat.le_trans Hb3.out.size Hb4.out.size
    go_wp2_with (first
      | (at_builtin; refine wpList_app rfl (.tmp 21) (.tmp 23) _ rfl elt_hos (base := w2.heap.size) rfl own4 rfl (Sl.own HH2.out.own) (flat_one hoL_one H2) hsz4 (by omega) (by omega) ?_; intro v5 w5 ho5 hb5 hg5; obtain ⟨A5, c5, rfl⟩ := own_any ho5; have Ho5 := Lib.hid ho5; have Hb5 := Lib.hid hb5; have Hg5 := Lib.hid hg5; clear ho5 hb5 hg5; refine holdL ?_))
    refine Lib.hid ?_
    have o40 := own_base own4 (Nat.zero_le _)
    have HzA : Hid (∀ h ∈ H1 ++ H2, HoB 0 w5 h) := Lib.hid (fun h hh => by
      rcases List.mem_append.1 hh with hh | hh
      · exact (((Hz1.out h hh).bel Hb3.out).bel Hb4.out).grown o40 Hg5.out
      · exact (Hz2.out h hh).grown o40 Hg5.out)
    have hbw5 : Below w.heap.size w w5 := ((Hb2.out.trans (Hb3.out.mono Hb2.out.size)).trans (Hb4.out.mono (Nat.le_trans Hb2.out.size Hb3.out.size))).trans (Hb5.out.mono Hb2.out.size)
    have Hbw5 := Lib.hid hbw5
    clear hPa hPb own4 o40 hbw5
    have HAt : Hid (∀ w', Below w5.heap.size w5 w' → HosAt w' (.slice A5 (H1.length + H2.length) c5) (H1 ++ H2)) := Lib.hid (fun w' hb' => ⟨by
      have h := (Sl.own Ho5.out).below hb'
      rw [List.length_append, List.flatMap_append]
      exact h, fun h hh => ((HzA.out h hh).bel hb').ok⟩)
    go_wp2_with (first
      | (go_at_call 26; refine (hparse_any (a ++ 10 :: b) _ (Ht.out.below Hbw5.out) (Hm.out.below Hbw5.out) (by rw [List.length_append, List.length_cons]; omega)).mono ?_; rintro e w6 ⟨v6, H6, rfl, hH6, hS6, hb6, -⟩; obtain ⟨A6, c6, rfl⟩ := own_any hH6.own; have hl6 : H6.length ≤ 4002 := (by have h := congrArg List.length hS6; rw [List.length_map] at h; have := hosP_len (a ++ 10 :: b); rw [List.length_append, List.length_cons] at this; omega); have HH6 := Lib.hid hH6; have HS6 := Lib.hid hS6; have Hb6 := Lib.hid hb6; clear hH6 hS6 hb6)
      | (go_at_call 25; refine (hsame_any H6 (H1 ++ H2) _ _ _ HH6.out.at_ (HAt.out _ Hb6.out) (by omega) (by rw [List.length_append]; omega)).mono ?_; rintro e w7 ⟨rfl, hb7⟩; have Hb7 := Lib.hid (bel_tr Hb6.out hb7); clear hb7))
    go_ret
    refine ⟨retb ?_, Hbw5.out.trans (Hb7.out.mono Hbw5.out.size)⟩
    rw [decide_eq_true_iff, HS6.out, hosP_two, HS1.out, HS2.out]
end Go.Proofs.YtgebcifkbldfoaaDoor
