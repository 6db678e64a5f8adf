/- Contracts and plain lemmas of our own, merged. -/
import Derived.Test.YtgebcifkbldfoaaDoorZHF24
import Derived.Test.YtgebcifkbldfoaaDoorZHF27
import Derived.Test.YtgebcifkbldfoaaDoorZHF5
/- hosts.host: what the fields of one line say. -/
namespace Go.Proofs.YtgebcifkbldfoaaDoor
open Go.RowKit
attribute [local go_sem] ba_get ext_take ext_drop ext_any ba_app

theorem oneN_err {x : List UInt8} {c : Int} (h : prs x = .inl c) : oneN x = none := by unfold oneN; rw [h]
theorem oneN_nil {x : List UInt8} {d : Bool} (h : prs x = .inr ([], d)) : oneN x = none := by unfold oneN; rw [h]; exact if_pos rfl
theorem oneN_ok {x : List UInt8} {n : NmL} {d : Bool} (h : prs x = .inr (n, d)) (hn : n ≠ []) : oneN x = some n := by unfold oneN; rw [h]; exact if_neg hn
theorem namesP_none {F : List (List UInt8)} {k : Nat} (h : k < F.length) (hn : oneN F[k] = none) : namesP F = none := by
  unfold namesP
  rw [if_neg]
  intro ha
  have := List.all_eq_true.1 ha F[k] (List.getElem_mem h)
  rw [hn] at this
  cases this
theorem namesP_all {F : List (List UInt8)} (h : F.all (fun x => (oneN x).isSome) = true) : namesP F = some (F.filterMap oneN) := if_pos h
theorem own_neBk {w : World} {base size n g : Nat} {e t : TypeId} {v : Value} {xs : List Value} {cs : Array Value} (h : w.ownsRow base e size v n xs) (hB : Bk w g t cs) (ht : t ≠ e) : some g ≠ v.ownBlock := by
  intro hgo
  rcases h.2 with ⟨rfl, _⟩ | ⟨g', cap, cur, rfl, hb', hg', _⟩
  · cases hgo
  · have hgg : g = g' := by simpa [Value.ownBlock] using hgo
    subst hgg
    rw [show w.heap[g]? = _ from hB] at hg'
    injection hg' with h2
    injection h2 with _ h2 _
    exact ht h2
theorem NmB.any {w : World} {q : Value × NmL} (h : NmB 0 w q) (b : Nat) : NmB b w q := ⟨⟨h.sl.sl, fun g off c hv hn => (h.sl.far g off c hv hn).elim (fun h => absurd h (Nat.not_lt_zero _)) .inr⟩, h.few, h.len⟩
theorem HoB.any {w : World} {h : Ho} (x : HoB 0 w h) (b : Nat) : HoB b w h := ⟨⟨x.sl.sl, fun g off c hv hn => (x.sl.far g off c hv hn).elim (fun h => absurd h (Nat.not_lt_zero _)) .inr⟩, fun q hq => (x.nm q hq).any b, x.few⟩
/-- the store of a host in the call's own result. -/
structure HoRel (w : World) (g2 g4 : Nat) (a : Ad) (F : List (List UInt8)) (k : Nat) (v : Value) (wr : World) : Prop where
  b2 : Bk wr g2 106 (hoA ho0)
  b4 : Bk wr g4 34 (adA a)
  all : (F.take k).all (fun x => (oneN x).isSome) = true
  nms : ∃ N, NmsOwn w.heap.size wr v ((F.take k).filterMap oneN) N ∧ ∀ q ∈ N, NmB 0 wr q
  b : Below w.heap.size w wr
set_option maxRecDepth 100000 in
set_option maxHeartbeats 4000000 in
theorem hostF_short (v : Value) (F : List (List UInt8)) (w : World) (hs : Sl w 1 v F.length (F.map stv)) (hl : F.length < 2) :
    Calls Tryd.prog 63 #[v] w (HostPost w (hostP F)) := by
  have hP : hostP F = none := by
    match F, hl with
    | [], _ => rfl
    | [_], _ => rfl
  rw [hP]
  obtain ⟨A, c, rfl, hc⟩ := hs.any
  have i1 : (F.length : Int) < 2 := by omega
  clear hs hP
  go_enter Tryd.func63, Tryd.ntmps63
  go_wp2_with (first
    | ((with_reducible refine wpList_alloc_ho (o := ⟨some 2, _, _, _, _, _⟩) rfl rfl ?_); intro g2 w1 hg hB2 hb1 hs; have hg2 : w.heap.size ≤ g2 := Nat.le_of_eq hg.symm; clear hg hs)
    | ((with_reducible show wpList _ _ _ (⟨some 15, _, _, _, _, _⟩ :: _) _ _); refine wpList_buildL (o := ⟨some 15, _, _, _, _, _⟩) rfl _ [] rfl built_ho0 rfl ?_)
    | ((with_reducible refine wpList_store_ho (o := ⟨none, _, _, _, _, _⟩) rfl (.tmp 2) _ rfl rfl rfl hB2 ?_); intro w2 hB3 hS))
  exact ret_hoB Tryd.results63 rfl rfl hB3 rfl ⟨hb1.trans (hS.below hg2), rfl⟩
theorem prs_bad {x : List UInt8} {c : Int} (h : prs x = .inl c) (w : World) (hl : x.length ≤ 1000000) : Calls Tryd.prog 97 #[.string ⟨x.toArray⟩] w fun e w' => ∃ A k, e = .returned (.tuple #[.slice A 0 k, .bool false, .int .i64 c]) ∧ Below w.heap.size w w' :=
  (parse_own x w hl).mono fun e w' ⟨v, he, ho, hb⟩ => by
    rw [h] at he ho
    obtain ⟨A, k, rfl⟩ := own_any ho
    exact ⟨A, k, he, hb⟩
theorem prs_good {x : List UInt8} {n : NmL} {d : Bool} (h : prs x = .inr (n, d)) (w : World) (hl : x.length ≤ 1000000) : Calls Tryd.prog 97 #[.string ⟨x.toArray⟩] w fun e w' => ∃ A k, e = .returned (.tuple #[.slice A n.length k, .bool d, .int .i64 0]) ∧ w'.ownsRow w.heap.size 9 1 (.slice A n.length k) n.length (n.map stv) ∧ Below w.heap.size w w' :=
  (parse_own x w hl).mono fun e w' ⟨v, he, ho, hb⟩ => by
    rw [h] at he ho
    obtain ⟨A, k, rfl⟩ := own_any ho
    exact ⟨A, k, he, ho, hb⟩
theorem all_nextH {F : List (List UInt8)} {k : Nat} {n : NmL} (h : k < F.length) (ha : (F.take k).all (fun x => (oneN x).isSome) = true) (hn : oneN F[k] = some n) : (F.take (k + 1)).all (fun x => (oneN x).isSome) = true ∧ (F.take (k + 1)).filterMap oneN = (F.take k).filterMap oneN ++ [n] := by
  rw [List.take_succ_eq_append_getElem h, List.all_append, ha, List.filterMap_append]
  constructor
  · simp [hn]
  · rw [List.filterMap_cons_some hn, List.filterMap_nil]
set_option maxRecDepth 100000 in
set_option maxHeartbeats 4000000 in
theorem hostF_long (v : Value) (F : List (List UInt8)) (m : Nat) (w : World) (ht : Tab w) (hm : MaxI w) (hs : Sl w 1 v F.length (F.map stv)) (hl : F.length = m + 1) (h1 : 1 ≤ m) (h2 : m ≤ 100000) (hb : ∀ x ∈ F, x.length ≤ 1000000) :
    Calls Tryd.prog 63 #[v] w (HostPost w (hostP F)) := by
  obtain ⟨f, R, rfl⟩ : ∃ f R, F = f :: R := by cases F with | nil => cases hl | cons f R => exact ⟨f, R, rfl⟩
  obtain rfl : R.length = m := by simpa using hl
  have hP : hostP (f :: R) = match adrP f with | .inr a => (namesP R).map fun N => (a, N) | .inl _ => none := by
    cases R with
    | nil => simp at h1
    | cons g r => rfl
  obtain ⟨b, off, c, rfl, hc, hbl, hcell⟩ := hs.pos (by simp)
  have hf0 : w.cell? ⟨b, off, none⟩ = some (.string ⟨f.toArray⟩) := by
    have := hcell 0 (stv f) rfl
    rwa [Nat.add_zero] at this
  have hfR : ∀ j x, R[j]? = some x → w.cell? ⟨b, off + 1 + j, none⟩ = some (stv x) := fun j x hx => by
    have := hcell (j + 1) (stv x) (by rw [List.getElem?_map, List.getElem?_cons_succ, hx]; rfl)
    rwa [show off + (j + 1) = off + 1 + j by omega] at this
  have hfl : f.length ≤ 1000000 := hb f (by simp)
  have hRl : ∀ x ∈ R, x.length ≤ 1000000 := fun x hx => hb x (by simp [hx])
  have HfR := Lib.hid hfR
  have HRl := Lib.hid hRl
  have HP := Lib.hid hP
  have Ht := Lib.hid ht
  have Hm := Lib.hid hm
  have Hbl := Lib.hid hbl
  rw [List.length_cons] at hc ⊢
  clear hs hcell hfR hRl hP hl hb ht hm hbl
  have i1 : ¬ ((R.length : Int) + 1 < 2) := by omega
  cases hx : adrP f with
  | inl e0 =>
    have HPN : Hid (hostP (f :: R) = none) := Lib.hid (by rw [HP.out, hx])
    rw [HPN.out]
    have he0 : (e0 != 0) = true := by rcases adrP_err hx with rfl | rfl <;> rfl
    have HA : Hid (∀ w', Tab w' → MaxI w' → Calls Tryd.prog 96 #[.string ⟨f.toArray⟩] w' fun e w'' => e = .returned (.tuple #[.agg (adA ad0), .int .i64 e0]) ∧ Below w'.heap.size w' w'') := Lib.hid (fun w' h k => (aparse_any f w' h k (by omega)).mono fun e w'' ⟨he, hb⟩ => by rw [hx] at he; exact ⟨he, hb⟩)
    clear HP HPN hx HfR HRl
    go_enter Tryd.func63, Tryd.ntmps63
    go_wp2_with (first
      | ((with_reducible refine wpList_alloc_ho (o := ⟨some 2, _, _, _, _, _⟩) rfl rfl ?_); intro g2 w1 hg hB2 hb1 hs; have hg2 : w.heap.size ≤ g2 := Nat.le_of_eq hg.symm; have hf1 := (hb1.cell (p := ⟨b, off, none⟩) Hbl.out).trans hf0; clear hg hs)
      | (go_at_call 96; refine (HA.out _ (Ht.out.below hb1) (Hm.out.below hb1)).mono ?_; rintro e w2 ⟨rfl, hb2⟩; have B2 := Lib.hid (hB2.bel hb2); have Hb2 := Lib.hid (bel_tr hb1 hb2); clear hB2 hb1 hb2 hf1; refine holdL ?_))
    refine Lib.hid ?_
    go_wp2_with (first
      | ((with_reducible refine wpList_allocAd (o := ⟨some 4, _, _, _, _, _⟩) rfl rfl ?_); intro g4 w3 hg hB4 hb3 hs; clear hs)
      | ((with_reducible refine wpList_storeAd (o := ⟨none, _, _, _, _, _⟩) rfl (.tmp 4) _ rfl rfl rfl hB4 ?_); intro w4 hB44 hS4; have B24 := (B2.out.bel hb3).stays hS4 (by have := B2.out.lt; omega); have hb4 := (Hb2.out.trans (hb3.mono Hb2.out.size)).trans (hS4.below (by have := Hb2.out.size; omega)))
      | ((with_reducible show wpList _ _ _ (⟨some 25, _, _, _, _, _⟩ :: _) _ _); refine wpList_buildL (o := ⟨some 25, _, _, _, _, _⟩) rfl _ [] rfl built_ho0 rfl ?_)
      | ((with_reducible refine wpList_store_ho (o := ⟨none, _, _, _, _, _⟩) rfl (.tmp 2) _ rfl rfl rfl B24 ?_); intro w5 hB3 hS))
    exact ret_hoB Tryd.results63 rfl rfl hB3 rfl ⟨hb4.trans (hS.below hg2), rfl⟩
  | inr a =>
    have HPN : Hid (hostP (f :: R) = (namesP R).map fun N => (a, N)) := Lib.hid (by rw [HP.out, hx])
    rw [HPN.out]
    have HA : Hid (∀ w', Tab w' → MaxI w' → Calls Tryd.prog 96 #[.string ⟨f.toArray⟩] w' fun e w'' => e = .returned (.tuple #[.agg (adA a), .int .i64 0]) ∧ Below w'.heap.size w' w'') := Lib.hid (fun w' h k => (aparse_any f w' h k (by omega)).mono fun e w'' ⟨he, hb⟩ => by rw [hx] at he; exact ⟨he, hb⟩)
    have wr1 : IntKind.i64.wrap (R.length : Int) = (R.length : Int) := IntWalk.i64_in _ (by omega)
    have sb1 : (R.length : Int) + 1 - 1 = (R.length : Int) := by omega
    clear HP HPN hx
    go_enter Tryd.func63, Tryd.ntmps63
    go_wp2_with (first
      | ((with_reducible refine wpList_alloc_ho (o := ⟨some 2, _, _, _, _, _⟩) rfl rfl ?_); intro g2 w1 hg hB2 hb1 hs; have hg2 : w.heap.size ≤ g2 := Nat.le_of_eq hg.symm; have hf1 := (hb1.cell (p := ⟨b, off, none⟩) Hbl.out).trans hf0; clear hg hs)
      | (go_at_call 96; refine (HA.out _ (Ht.out.below hb1) (Hm.out.below hb1)).mono ?_; rintro e w2 ⟨rfl, hb2⟩; have B2 := Lib.hid (hB2.bel hb2); have Hb2 := Lib.hid (bel_tr hb1 hb2); clear hB2 hb1 hb2 hf1; refine holdL ?_))
    refine Lib.hid ?_
    go_wp2_with (first
      | ((with_reducible refine wpList_allocAd (o := ⟨some 4, _, _, _, _, _⟩) rfl rfl ?_); intro g4 w3 hg hB4 hb3 hs; have Hg4 := Lib.hid hg; clear hs hg)
      | ((with_reducible refine wpList_storeAd (o := ⟨none, _, _, _, _, _⟩) rfl (.tmp 4) _ rfl rfl rfl hB4 ?_); intro w4 hB44 hS4; have B24 := (B2.out.bel hb3).stays hS4 (by have := B2.out.lt; have := Hg4.out; omega); have hb4 := (Hb2.out.trans (hb3.mono Hb2.out.size)).trans (hS4.below (by have := Hb2.out.size; have := Hg4.out; omega)))
      | ((with_reducible show wpList _ _ _ (⟨some 29, _, _, _, _, _⟩ :: _) _ _); refine wpList_mk0 (o := ⟨some 29, _, _, _, _, _⟩) rfl _ _ _ rfl elt_nms (base := w4.heap.size) (R.length) rfl rfl rfl (by omega) (by omega) (Nat.le_refl _) ?_; intro w5 ho5 hb5))
    have R0 : HoRel w g2 g4 a R 0 (.slice (some ⟨w4.heap.size, 0, none⟩) 0 R.length) w5 := by
      refine ⟨B24.bel hb5, hB44.bel hb5, rfl, ⟨[], ⟨?_, fun _ h => (by cases h), rfl⟩, fun _ h => (by cases h)⟩, hb4.trans (hb5.mono hb4.size)⟩
      simpa using own_base ho5 hb4.size
    have Hgs : Hid (w.heap.size ≤ g2 ∧ w.heap.size ≤ g4) := Lib.hid ⟨hg2, by have := Hb2.out.size; have := Hg4.out; omega⟩
    clear hB4 hb3 hS4 hB44 B24 hb4 ho5 hb5 Hg4 B2 Hb2 hg2
    go_loopw [6, 33] (fun nv iv wr => ∃ k : Nat, k ≤ R.length ∧ iv = .int .i64 k ∧ HoRel w g2 g4 a R k nv wr) (fun _ iv _ => R.length - (intOf iv).toNat)
    case atStart => exact ⟨0, by omega, rfl, R0⟩
    case round =>
      obtain ⟨k, hk, rfl, rel⟩ := hrel
      obtain ⟨wo, rfl⟩ : ∃ wo, wo = wr := ⟨_, rfl⟩
      clear R0
      have Rel := Lib.hid rel
      obtain ⟨N, hN, hN0⟩ := rel.nms
      have HN0 := Lib.hid hN0
      clear hN0
      obtain ⟨ao, co, rfl⟩ := own_any hN.own
      have HN := Lib.hid hN
      clear rel hN
      by_cases hlt : k < R.length
      · have j0 : (k : Int) < (R.length : Int) := by omega
        have hk0 : (0 : Int) ≤ (k : Int) := by omega
        have hfx : wo.cell? ⟨b, off + 1 + k, none⟩ = some (.string ⟨R[k].toArray⟩) := (Rel.out.b.cell (p := ⟨b, off + 1 + k, none⟩) Hbl.out).trans (HfR.out k _ (List.getElem?_eq_getElem hlt))
        have hxl := HRl.out R[k] (List.getElem_mem hlt)
        cases hpx : prs R[k] with
        | inl c0 =>
          have hc0 : (c0 != 0) = true := by
            rw [bne_iff_ne]
            intro h
            subst h
            exact prs_ne hpx
          have HNn : Hid (namesP R = none) := Lib.hid (namesP_none hlt (oneN_err hpx))
          have HX : Hid (∀ w', Calls Tryd.prog 97 #[.string ⟨R[k].toArray⟩] w' fun e w'' => ∃ A q, e = .returned (.tuple #[.slice A 0 q, .bool false, .int .i64 c0]) ∧ Below w'.heap.size w' w'') := Lib.hid (fun w' => prs_bad hpx w' hxl)
          clear hpx hxl HN
          generalize R[k] = x at *
          go_wp2_with (first
            | (go_at_call 97; refine (HX.out _).mono ?_; rintro e w6 ⟨A9, q9, rfl, hb6⟩; have B26 := Rel.out.b2.bel hb6; have Hb6 := Lib.hid (bel_tr Rel.out.b hb6); clear hb6 hfx)
            | ((with_reducible show wpList _ _ _ (⟨some 50, _, _, _, _, _⟩ :: _) _ _); refine wpList_buildL (o := ⟨some 50, _, _, _, _, _⟩) rfl _ [] rfl built_ho0 rfl ?_)
            | ((with_reducible refine wpList_store_ho (o := ⟨none, _, _, _, _, _⟩) rfl (.tmp 2) _ rfl rfl rfl B26 ?_); intro w7 hB3 hS))
          rw [HNn.out]
          exact ret_hoB Tryd.results63 rfl rfl hB3 rfl ⟨Hb6.out.trans (hS.below Hgs.out.1), rfl⟩
        | inr nd =>
          obtain ⟨n, d⟩ := nd
          have HX : Hid (∀ w', Calls Tryd.prog 97 #[.string ⟨R[k].toArray⟩] w' fun e w'' => ∃ A q, e = .returned (.tuple #[.slice A n.length q, .bool d, .int .i64 0]) ∧ w''.ownsRow w'.heap.size 9 1 (.slice A n.length q) n.length (n.map stv) ∧ Below w'.heap.size w' w'') := Lib.hid (fun w' => prs_good hpx w' hxl)
          by_cases hn : n = []
          · subst hn
            have HNn : Hid (namesP R = none) := Lib.hid (namesP_none hlt (oneN_nil hpx))
            clear hpx hxl HN
            generalize R[k] = x at *
            go_wp2_with (first
              | (go_at_call 97; refine (HX.out _).mono ?_; rintro e w6 ⟨A9, q9, rfl, ho9, hb6⟩; have B26 := Rel.out.b2.bel hb6; have Hb6 := Lib.hid (bel_tr Rel.out.b hb6); clear hb6 hfx ho9)
              | ((with_reducible show wpList _ _ _ (⟨some 50, _, _, _, _, _⟩ :: _) _ _); refine wpList_buildL (o := ⟨some 50, _, _, _, _, _⟩) rfl _ [] rfl built_ho0 rfl ?_)
              | ((with_reducible refine wpList_store_ho (o := ⟨none, _, _, _, _, _⟩) rfl (.tmp 2) _ rfl rfl rfl B26 ?_); intro w7 hB3 hS))
            rw [HNn.out]
            exact ret_hoB Tryd.results63 rfl rfl hB3 rfl ⟨Hb6.out.trans (hS.below Hgs.out.1), rfl⟩
          · have hck := (prs_ok hpx).1
            have hnl : n.length ≤ 1000000 := Nat.le_trans (chk_few hck) (by omega)
            have hnb := chk_len hck
            have Hall := Lib.hid (all_nextH hlt Rel.out.all (oneN_ok hpx hn))
            have n0 : ((n.length : Int) == 0) = false := by
              rw [beq_eq_false_iff_ne]
              have := List.length_pos_iff.2 hn
              omega
            have Hnl := Lib.hid hnl
            have Hnb := Lib.hid hnb
            have hNk : N.length ≤ R.length := by
              have h := congrArg List.length HN.out.is
              rw [List.length_map] at h
              have h2 := List.length_filterMap_le oneN (R.take k)
              have h3 := List.length_take_le k R
              omega
            clear hpx hxl hck hnl hnb hn
            generalize R[k] = x at *
            go_wp2_with (first
              | (go_at_call 97; refine (HX.out _).mono ?_; rintro e w6 ⟨A9, q9, rfl, ho9, hb6⟩; have HO9 := Lib.hid ho9; have Hb6 := Lib.hid hb6; clear hb6 hfx ho9; refine holdL ?_))
            refine Lib.hid ?_
            have hN6 := HN.out.bel Hb6.out
            go_wp2_with (first
              | ((with_reducible show wpList _ _ _ (⟨some 53, _, _, _, _, _⟩ :: _) _ _); refine wpList_lit (o := ⟨some 53, _, _, _, _, _⟩) rfl _ _ rfl elt_nms [.slice A9 n.length q9] rfl (by decide) (by decide) (fun v hv => by rw [List.mem_singleton.1 hv]; rfl) rfl ?_; intro w53 hB53 hx53 hb53 hs53; clear hs53 hB53; have hN7 := hN6.bel hb53)
              | (at_builtin; refine wpList_app rfl (.tmp 51) (.tmp 53) _ rfl elt_nms rfl hN7.own rfl (Sl.own hx53) (fun u hu => by rw [List.mem_singleton.1 hu]; rfl) (Nat.le_trans Rel.out.b.size (Nat.le_trans Hb6.out.size hb53.size)) (by omega) (by omega) ?_; intro v54 w54 o54 b54 g54))
            have hb65 : Below wo.heap.size wo w53 := bel_tr Hb6.out hb53
            have hg2 : some g2 ≠ (Value.slice ao N.length co).ownBlock := own_neBk hN7.own (Rel.out.b2.bel hb65) (by decide)
            have hg4 : some g4 ≠ (Value.slice ao N.length co).ownBlock := own_neBk hN7.own (Rel.out.b4.bel hb65) (by decide)
            have o70 := own_base hN7.own (Nat.zero_le _)
            go_roundw
            case rel =>
              refine ⟨k + 1, by omega, by go_num, (Rel.out.b2.bel hb65).grown g54 hg2, (Rel.out.b4.bel hb65).grown g54 hg4, Hall.out.1, ⟨N ++ [(Value.slice A9 n.length q9, n)], ?_, fun q hq => ?_⟩, (Rel.out.b.trans (hb65.mono Rel.out.b.size)).trans b54⟩
              · rw [Hall.out.2]
                refine hN7.add o54 (fun q hq => (hN7.ok q hq).grown hN7.own g54) ?_
                exact (⟨(SlB.own HO9.out).bel hb53, by have h := Hnl.out; show n.length ≤ _; omega, Hnb.out⟩ : NmB w.heap.size w53 (Value.slice A9 n.length q9, n)).grown hN7.own g54
              · rcases List.mem_append.1 hq with hq | hq
                · exact (((HN0.out q hq).bel Hb6.out).bel hb53).grown o70 g54
                · rw [List.mem_singleton.1 hq]
                  exact (⟨(SlB.own HO9.out).bel hb53, by have h := Hnl.out; show n.length ≤ _; omega, Hnb.out⟩ : NmB 0 w53 (Value.slice A9 n.length q9, n)).grown o70 g54
            case measure => (simp [intOf]) <;> omega
      · have hkn : k = R.length := by omega
        subst hkn
        have hfin : (R.take R.length).all (fun x => (oneN x).isSome) = true := Rel.out.all
        rw [List.take_length] at hfin
        have HNn : Hid (namesP R = some (R.filterMap oneN)) := Lib.hid (namesP_all hfin)
        have j0 : ¬ (R.length : Int) < (R.length : Int) := by omega
        clear hfin
        go_wp2_with (first
          | (with_reducible refine wpList_loadAd (o := ⟨some 56, _, _, _, _, _⟩) rfl _ rfl rfl Rel.out.b4 ?_)
          | ((with_reducible show wpList _ _ _ (⟨some 58, _, _, _, _, _⟩ :: _) _ _); refine wpList_buildL (o := ⟨some 58, _, _, _, _, _⟩) rfl _ [(0, .tmp 56), (1, .tmp 57)] rfl (built_ho a ao co N) rfl ?_)
          | ((with_reducible refine wpList_store_ho (o := ⟨none, _, _, _, _, _⟩) rfl (.tmp 2) _ rfl rfl rfl Rel.out.b2 ?_); intro w7 hB3 hS))
        rw [HNn.out]
        refine ret_hoB Tryd.results63 rfl rfl hB3 rfl ⟨Rel.out.b.trans (hS.below Hgs.out.1), _, rfl, fun b' => ?_, ?_⟩
        · have hNk : N.length ≤ R.length := by
            have h := congrArg List.length HN.out.is
            rw [List.length_map] at h
            have h2 := List.length_filterMap_le oneN (R.take R.length)
            have h3 := List.length_take_le R.length R
            omega
          have h0 : HoB 0 wo ⟨a, ao, co, N⟩ := ⟨SlB.own HN.out.own, HN0.out, by show N.length ≤ 1000000; omega⟩
          exact (h0.stays hS (Nat.zero_le _) Rel.out.b2 (by decide) (by decide)).any b'
        · have h := HN.out.is
          rw [List.take_length] at h
          show (a, N.map (·.2)) = _
          rw [h]
end Go.Proofs.YtgebcifkbldfoaaDoor
