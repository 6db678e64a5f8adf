/- Contracts and plain lemmas of our own, merged. -/
import Derived.Test.YtgebcifkbldfoaaDoorZHF11
import Derived.Test.YtgebcifkbldfoaaDoorZHF26
import Derived.Test.YtgebcifkbldfoaaDoorZHF32
import Derived.Test.YtgebcifkbldfoaaDoorZHF33
import Derived.Test.YtgebcifkbldfoaaDoorZHF35
import Derived.Deep.OwnRows
/- hosts.Names and the reference's Names (18). -/
namespace Go.Proofs.YtgebcifkbldfoaaDoor
open Go.RowKit
attribute [local go_sem] ba_get ext_take ext_drop ext_any ba_app

theorem made_one (z : Value) (n : Nat) : madeCells #[z] n = (List.replicate n z).toArray := by
  apply Array.ext'
  unfold madeCells
  rw [Array.toList_map, Array.toList_range]
  refine List.ext_getElem (by simp) fun i h1 h2 => ?_
  simp [Nat.mod_one]
/-- 'make([]T, n)' of members of one cell. -/
theorem wpList_make1 {P : Program} {w : World} {ops : Array Oper} {rest : List Oper} {o : Oper} {a : Act} {Q : Exit → Act → World → Prop} (hg : o.guard = none) (l c : Operand) (t : TypeId) (hop : o.op = Op.makeSlice t l c) {e : TypeId} {z : Value} {bytes : Nat}
    (ht : P.underlying t = some (.slice e)) (hinfo : (P.info? e).map (fun i => (i.zero, i.size, i.bytes)) = some (some z, 1, bytes)) (hz1 : z.cells = #[z]) {kl kc : IntKind} (n : Nat) (hl : a.eval l = .int kl (n : Int)) (hc : a.eval c = .int kc (n : Int)) (hb : bytes * n ≤ 281474976710656) (hn : n ≤ 1000000000)
    (h : ∀ w', Bk w' w.heap.size e (List.replicate n z).toArray → Below w.heap.size w w' → w'.heap.size = w.heap.size + 1 → wpList P ops Q rest (a.put o.dst (.slice (some ⟨w.heap.size, 0, none⟩) n n)) w') : wpList P ops Q (o :: rest) a w := by
  refine wpList_plain hg fun _ hK => ?_
  unfold Oper.wp
  simp only [execOp, hop, hl, hc, run_make_row' t e z bytes ht hinfo hz1 kl kc n hb (by omega) w, Sem.run_bind, Result.andThen_ok]
  refine hK _ _ (h _ ?_ ((Below.refl _ _).alloc (Nat.le_refl _) _) (by simp))
  rw [made_one]
  exact Bk.new _ _ _
theorem nm_info : (Tryd.prog.info? 51).map (fun i => (i.zero, i.size, i.bytes)) = some (some (.slice none 0 0), 1, 24) := by kernel_rfl
/-- the names of an address. -/
def namesOf (S : List (Ad × List NmL)) (a : Ad) : List NmL := ((S.find? (fun h => decide (h.1 = a))).map (·.2)).getD []
theorem namesOf_at {H : List Ho} {a : Ad} {k : Nat} (hk : k < H.length) (hn : ∀ h ∈ H.take k, h.ad ≠ a) (he : H[k].ad = a) : namesOf (H.map hoP) a = H[k].L.map (·.2) := by
  unfold namesOf
  have e : H.map hoP = (H.take k).map hoP ++ hoP H[k] :: (H.drop (k + 1)).map hoP := by
    rw [← List.map_cons, ← List.map_append, ← List.drop_eq_getElem_cons hk, List.take_append_drop]
  rw [e, List.find?_append, List.find?_eq_none.2 (fun x hx => by
    obtain ⟨h, hh, rfl⟩ := List.mem_map.1 hx
    exact fun hd => hn h hh (of_decide_eq_true hd)), List.find?_cons_of_pos (p := fun h : Ad × List NmL => decide (h.1 = a)) (show decide (H[k].ad = a) = true from decide_eq_true he)]
  rfl
theorem namesOf_no {H : List Ho} {a : Ad} (hn : ∀ h ∈ H, h.ad ≠ a) : namesOf (H.map hoP) a = [] := by
  unfold namesOf
  rw [List.find?_eq_none.2 (fun x hx => by
    obtain ⟨h, hh, rfl⟩ := List.mem_map.1 hx
    exact fun hd => hn h hh (of_decide_eq_true hd))]
  rfl
theorem ad_no_step {H : List Ho} {a : Ad} {k : Nat} (hk : k < H.length) (hn : ∀ h ∈ H.take k, h.ad ≠ a) (he : H[k].ad ≠ a) : ∀ h ∈ H.take (k + 1), h.ad ≠ a := by
  intro h hh
  rw [List.take_succ_eq_append_getElem hk] at hh
  rcases List.mem_append.1 hh with hh | hh
  · exact hn h hh
  · rw [List.mem_singleton.1 hh]; exact he
def NmsPost (w : World) (C : List NmL) (e : Ending) (w' : World) : Prop := ∃ v N, e = .returned v ∧ NmsAt w' v C N ∧ N.length ≤ 1000000 ∧ Below w.heap.size w w'
set_option maxRecDepth 100000 in
set_option maxHeartbeats 4000000 in
theorem rhnames_any (H : List Ho) (a : Ad) (v : Value) (w : World) (ha : HosAt w v H) (hl : H.length ≤ 1000000) :
    Calls Tryd.prog 36 #[v, .agg (adA a)] w (NmsPost w (namesOf (H.map hoP) a)) := by
  obtain ⟨A, c, rfl, _⟩ := ha.sl.any
  have Ha := Lib.hid ha
  clear ha
  go_enter Tryd.func36, Tryd.ntmps36
  go_wp2_with (first
    | ((with_reducible show wpList _ _ _ (⟨some 3, _, _, _, _, _⟩ :: _) _ _); refine wpList_boxB (o := ⟨some 3, _, _, _, _, _⟩) rfl _ _ rfl rfl ?_; intro g3 w1 hg hB3 hb1 hs; clear hg hs))
  have Hb1 := Lib.hid hb1
  have HB3 := Lib.hid hB3
  have hBl := hB3.lt
  clear hB3 hb1
  go_loopw [5] (fun i wr => ∃ k : Nat, k ≤ H.length ∧ i = .int .i64 k ∧ (∀ h ∈ H.take k, h.ad ≠ a) ∧ Below w1.heap.size w1 wr) (fun i _ => H.length - (intOf i).toNat)
  case atStart => exact ⟨0, Nat.zero_le _, rfl, (fun h hh => by cases hh), Below.refl _ _⟩
  case round =>
    obtain ⟨k, hk, rfl, hno, hb1r⟩ := hrel
    have hbel : Below w.heap.size w wr := Hb1.out.trans (hb1r.mono Hb1.out.size)
    have hB := (HB3.out.bel hb1r).rangeAd
    have Hb1r := Lib.hid hb1r
    have Hno := Lib.hid hno
    clear hno hb1r
    by_cases hlt : k < H.length
    · have hltI : (k : Int) < (H.length : Int) := by omega
      have Hlt := Lib.hid hlt
      have hk0 : (0 : Int) ≤ (k : Int) := by omega
      obtain ⟨b, off, c', hv, hc, hbl, hcell⟩ := Ha.out.sl.pos (by omega)
      have hR0 := range_bel hbel hbl (range_of hoL_len hcell hlt)
      injection hv with hv1 _ hv2
      subst hv1 hv2
      have Hok := Lib.hid (Ha.out.ok _ (List.getElem_mem hlt))
      have Hst := Lib.hid (ad_no_step hlt Hno.out)
      have Hat := Lib.hid (namesOf_at hlt Hno.out)
      generalize H[k] = q at *
      obtain ⟨qa, qA, qc, qL⟩ := q
      have hR := hoL_ad hR0
      have HR0 := Lib.hid hR0
      clear hcell hR0
      cases hd : decide (qa = a)
      all_goals
        have Hd := Lib.hid hd
        clear hd
        go_wp2
        refine wp_region_bel (by kernel_rfl) (by kernel_rfl) ?_
        repeat (first
          | go_big_quiet_skip
          | (go_big_quiet_want; first
              | ((with_reducible show (⟨some 16, _, _, _, _, _⟩ : Oper).quiet _ _ _ _); refine quiet_loadAd (o := ⟨some 16, _, _, _, _, _⟩) _ rfl rfl hR (by simp only [Act.put, List.setIfInBounds_toArray, List.set_cons_succ, List.set_cons_zero]; exact rfl) ?_; go_big_quiet_on)
              | ((with_reducible show (⟨some 17, _, _, _, _, _⟩ : Oper).quiet _ _ _ _); refine quiet_loadAd (o := ⟨some 17, _, _, _, _, _⟩) _ rfl rfl hB (by simp only [Act.put, List.setIfInBounds_toArray, List.set_cons_succ, List.set_cons_zero]; exact rfl) ?_; go_big_quiet_on)
              | ((with_reducible show (⟨some 18, _, _, _, _, _⟩ : Oper).quiet _ _ _ _); refine quiet_eqlAd (o := ⟨some 18, _, _, _, _, _⟩) _ _ rfl rfl rfl Hd.out (by simp only [Act.put, List.setIfInBounds_toArray, List.set_cons_succ, List.set_cons_zero]; exact rfl) ?_; go_big_quiet_on)
              | (go_big_quiet_op; go_big_quiet_on)))
        refine wpQuiet_nil ?_
        rintro _ ⟨x, rfl⟩
        have Hx := Lib.hid (Hb1r.out.trans (x.bel.mono Hb1r.out.size))
        have Hx2 := Lib.hid (hbel.trans (x.bel.mono hbel.size))
        have e18 : x.at_.cell? ⟨b, off + k * 19 + 18, none⟩ = some (.slice qA qL.length qc) := hoL_nm (range_bel x.bel (by have := hbel.size; omega) HR0.out)
        go_wp2
      · go_roundw
        case rel => exact ⟨k + 1, by have := Hlt.out; omega, by go_num, Hst.out (by simpa using Hd.out), Hx.out⟩
        case measure => have := Hlt.out; (simp [intOf]) <;> omega
      · go_ret
        have he : qa = a := by simpa using Hd.out
        rw [Hat.out he]
        exact ⟨_, qL, rfl, ⟨(Hok.out.bel Hx2.out).sl, (Hok.out.bel Hx2.out).nm, rfl⟩, Hok.out.few, Hx2.out⟩
    · have hltI : ¬ (k : Int) < (H.length : Int) := by omega
      have hf : Hid (namesOf (H.map hoP) a = []) := Lib.hid (by have h1 := Hno.out; rw [List.take_of_length_le (by omega)] at h1; exact namesOf_no h1)
      go_wp2
      go_ret
      rw [hf.out]
      exact ⟨_, [], rfl, ⟨Sl.nil _ _, fun _ h => (by cases h), rfl⟩, Nat.zero_le _, hbel⟩
/-- the names so far, as cells. -/
def ncl (N : List (Value × NmL)) (m : Nat) : List Value := N.map (·.1) ++ List.replicate m (.slice none 0 0)
theorem ncl_at (N : List (Value × NmL)) (m : Nat) : (ncl N (m + 1)).toArray[N.length]? = some (.slice none 0 0) := by
  unfold ncl
  rw [List.getElem?_toArray, List.getElem?_append_right (by simp), List.length_map, Nat.sub_self]
  simp
theorem ncl_set (N : List (Value × NmL)) (m : Nat) (q : Value × NmL) : (ncl N (m + 1)).toArray.setIfInBounds N.length q.1 = (ncl (N ++ [q]) m).toArray := by
  unfold ncl
  rw [List.setIfInBounds_toArray, List.set_append_right _ _ (by simp), List.length_map, Nat.sub_self, List.replicate_succ, List.set_cons_zero, List.map_append]
  simp
theorem ncl_all (N : List (Value × NmL)) : ncl N 0 = N.flatMap nmF := by
  unfold ncl
  rw [List.replicate_zero, List.append_nil]
  induction N with
  | nil => rfl
  | cons q N ih => rw [List.map_cons, List.flatMap_cons, ih]; rfl
theorem nm_next {L : List (Value × NmL)} {j : Nat} {q : Value × NmL} (h : L[j]? = some q) : (L.take (j + 1)).map (·.2) = (L.take j).map (·.2) ++ [q.2] := by
  rw [List.take_add_one, h, List.map_append]
  rfl
/-- behind j of the names. -/
structure HnRel (w : World) (L : List (Value × NmL)) (g j : Nat) (N : List (Value × NmL)) (wr : World) : Prop where
  bk : Bk wr g 51 (ncl N (L.length - j)).toArray
  ok : ∀ q ∈ N, NmB 0 wr q
  is : N.map (·.2) = (L.take j).map (·.2)
  len : N.length = j
  b : Below w.heap.size w wr
set_option maxRecDepth 100000 in
set_option maxHeartbeats 4000000 in
theorem hnames_any (H : List Ho) (a : Ad) (v : Value) (w : World) (ha : HosAt w v H) (hl : H.length ≤ 1000000) (hsh : ∀ h ∈ H, ∀ q ∈ h.L, ShN q.2) :
    Calls Tryd.prog 35 #[v, .agg (adA a)] w (NmsPost w (namesOf (H.map hoP) a)) := by
  obtain ⟨A, c, rfl, _⟩ := ha.sl.any
  have Ha := Lib.hid ha
  have Hsh := Lib.hid hsh
  clear ha hsh
  go_enter Tryd.func35, Tryd.ntmps35
  go_wp2_with (first
    | ((with_reducible show wpList _ _ _ (⟨some 3, _, _, _, _, _⟩ :: _) _ _); refine wpList_boxB (o := ⟨some 3, _, _, _, _, _⟩) rfl _ _ rfl rfl ?_; intro g3 w1 hg hB3 hb1 hs; clear hg hs))
  have Hb1 := Lib.hid hb1
  have HB3 := Lib.hid hB3
  have hBl := hB3.lt
  clear hB3 hb1
  go_loopw [6, 12] (fun _ i wr => ∃ k : Nat, k ≤ H.length ∧ i = .int .i64 k ∧ (∀ h ∈ H.take k, h.ad ≠ a) ∧ Below w1.heap.size w1 wr) (fun _ i _ => H.length - (intOf i).toNat)
  case atStart => exact ⟨0, Nat.zero_le _, rfl, (fun h hh => by cases hh), Below.refl _ _⟩
  case round =>
    obtain ⟨k, hk, rfl, hno, hb1r⟩ := hrel
    obtain ⟨wo, rfl⟩ : ∃ wo, wo = wr := ⟨_, rfl⟩
    have hbel : Below w.heap.size w wo := Hb1.out.trans (hb1r.mono Hb1.out.size)
    have Hb1r := Lib.hid hb1r
    have Hno := Lib.hid hno
    clear hno hb1r
    by_cases hlt : k < H.length
    · have hltI : (k : Int) < (H.length : Int) := by omega
      have Hlt := Lib.hid hlt
      have hk0 : (0 : Int) ≤ (k : Int) := by omega
      obtain ⟨b, off, c', hv, hc, hbl, hcell⟩ := Ha.out.sl.pos (by omega)
      have hR0 := range_bel hbel hbl (range_of hoL_len hcell hlt)
      injection hv with hv1 _ hv2
      subst hv1 hv2
      have Hok := Lib.hid (Ha.out.ok _ (List.getElem_mem hlt))
      have Hs := Lib.hid (Hsh.out _ (List.getElem_mem hlt))
      have Hst := Lib.hid (ad_no_step hlt Hno.out)
      have Hat := Lib.hid (namesOf_at hlt Hno.out)
      generalize H[k] = q at *
      obtain ⟨qa, qA, qc, qL⟩ := q
      have hqf : qL.length ≤ 1000000 := Hok.out.few
      have Hsl : Hid (Sl w 1 (.slice qA qL.length qc) qL.length (qL.flatMap nmF)) := Lib.hid Hok.out.sl
      have Hnm : Hid (∀ q ∈ qL, NmOk w q) := Lib.hid Hok.out.nm
      have Hbel := Lib.hid hbel
      clear hcell hbel
      cases hd : decide (qa = a)
      · have Hd : Hid ((!decide (qa = a)) = true) := Lib.hid (by rw [hd]; rfl)
        have Hn : Hid (qa ≠ a) := Lib.hid (by simpa using hd)
        clear hd
        go_wp2_with (first
          | ((with_reducible show wpList _ _ _ (⟨some 15, _, _, _, _, _⟩ :: _) _ _); refine wpList_loadM_ho (o := ⟨some 15, _, _, _, _, _⟩) rfl _ rfl rfl hR0 ?_)
          | ((with_reducible show wpList _ _ _ (⟨some 6, _, _, _, _, _⟩ :: _) _ _); refine wpList_alloc_ho (o := ⟨some 6, _, _, _, _, _⟩) rfl rfl ?_; intro g6 w2 hg hB2 hb2 hs2; have Hg6 := Lib.hid hg; clear hs2 hg)
          | ((with_reducible refine wpList_store_ho (o := ⟨none, _, _, _, _, _⟩) rfl (.tmp 6) _ rfl rfl rfl hB2 ?_); intro w3 hB3 hS3; have hb3 : Below wo.heap.size wo w3 := hb2.trans (hS3.below (by have := Hg6.out; omega)); have Hb3 := Lib.hid hb3; have hR6 := hoL_ad hB3.range_ho; have hR3 := (HB3.out.bel (Hb1r.out.trans (hb3.mono Hb1r.out.size))); clear hb2 hb3 hS3 hB2)
          | ((with_reducible show wpList _ _ _ (⟨some 17, _, _, _, _, _⟩ :: _) _ _); refine wpList_loadAdM (o := ⟨some 17, _, _, _, _, _⟩) rfl _ rfl rfl hR6 ?_)
          | ((with_reducible show wpList _ _ _ (⟨some 18, _, _, _, _, _⟩ :: _) _ _); refine wpList_loadAd (o := ⟨some 18, _, _, _, _, _⟩) rfl _ rfl rfl hR3 ?_)
          | ((with_reducible show wpList _ _ _ (⟨some 19, _, _, _, _, _⟩ :: _) _ _); refine wpList_neqAd (o := ⟨some 19, _, _, _, _, _⟩) rfl _ _ rfl rfl rfl ?_; rw [Hd.out]))
        go_roundw
        case rel => exact ⟨k + 1, by have := Hlt.out; omega, by go_num, Hst.out Hn.out, Hb1r.out.trans (Hb3.out.mono Hb1r.out.size)⟩
        case measure => have := Hlt.out; (simp [intOf]) <;> omega
      · have Hd : Hid ((!decide (qa = a)) = false) := Lib.hid (by rw [hd]; rfl)
        have Hn : Hid (qa = a) := Lib.hid (by simpa using hd)
        clear hd
        go_wp2_with (first
          | ((with_reducible show wpList _ _ _ (⟨some 15, _, _, _, _, _⟩ :: _) _ _); refine wpList_loadM_ho (o := ⟨some 15, _, _, _, _, _⟩) rfl _ rfl rfl hR0 ?_)
          | ((with_reducible show wpList _ _ _ (⟨some 6, _, _, _, _, _⟩ :: _) _ _); refine wpList_alloc_ho (o := ⟨some 6, _, _, _, _, _⟩) rfl rfl ?_; intro g6 w2 hg hB2 hb2 hs2; have Hg6 := Lib.hid hg; clear hs2 hg)
          | ((with_reducible refine wpList_store_ho (o := ⟨none, _, _, _, _, _⟩) rfl (.tmp 6) _ rfl rfl rfl hB2 ?_); intro w3 hB3 hS3; have hb3 : Below wo.heap.size wo w3 := hb2.trans (hS3.below (by have := Hg6.out; omega)); have Hb3 := Lib.hid hb3; have hR6 := hoL_ad hB3.range_ho; have hR3 := (HB3.out.bel (Hb1r.out.trans (hb3.mono Hb1r.out.size))); have c18 : w3.cell? ⟨g6, 18, none⟩ = some (.slice qA qL.length qc) := (by rw [hB3.cell 18]; unfold hoA; rw [List.getElem?_toArray]; exact hoL_18 _); have H18 := Lib.hid c18; clear hb2 hb3 hS3 hB2 hR0)
          | ((with_reducible show wpList _ _ _ (⟨some 17, _, _, _, _, _⟩ :: _) _ _); refine wpList_loadAdM (o := ⟨some 17, _, _, _, _, _⟩) rfl _ rfl rfl hR6 ?_)
          | ((with_reducible show wpList _ _ _ (⟨some 18, _, _, _, _, _⟩ :: _) _ _); refine wpList_loadAd (o := ⟨some 18, _, _, _, _, _⟩) rfl _ rfl rfl hR3 ?_)
          | ((with_reducible show wpList _ _ _ (⟨some 19, _, _, _, _, _⟩ :: _) _ _); refine wpList_neqAd (o := ⟨some 19, _, _, _, _, _⟩) rfl _ _ rfl rfl rfl ?_; rw [Hd.out])
          | ((with_reducible show wpList _ _ _ (⟨some 23, _, _, _, _, _⟩ :: _) _ _); refine wpList_make1 (o := ⟨some 23, _, _, _, _, _⟩) rfl _ _ _ rfl elt_nms.under nm_info rfl qL.length rfl rfl (by omega) (by omega) ?_; intro w4 hB4 hb4 hs4; have c18 := (hb4.cell (p := ⟨g6, 18, none⟩) hB3.lt).trans H18.out))
        have h34 : Below w.heap.size w w4 := (Hbel.out.trans (Hb3.out.mono Hbel.out.size)).trans (hb4.mono (Nat.le_trans Hbel.out.size Hb3.out.size))
        have R0 : HnRel w qL w3.heap.size 0 [] w4 := ⟨hB4, fun _ h => (by cases h), rfl, rfl, h34⟩
        have hgw : w.heap.size ≤ w3.heap.size := Nat.le_trans Hbel.out.size Hb3.out.size
        clear hB4 hb4 hs4 hB3 hR6 hR3 h34 c18
        go_loopw [8, 9, 27] (fun _ _ jv wr => ∃ (j : Nat) (N : List (Value × NmL)), j ≤ qL.length ∧ jv = .int .i64 j ∧ HnRel w qL w3.heap.size j N wr) (fun _ _ jv _ => qL.length - (intOf jv).toNat)
        case atStart => exact ⟨0, [], Nat.zero_le _, rfl, R0⟩
        case round =>
          clear R0
          obtain ⟨j, N, hj, rfl, R⟩ := hrel
          have hjl := R.len
          subst hjl
          have HR := Lib.hid R
          clear R
          by_cases hjt : N.length < qL.length
          · have hjI : (N.length : Int) < (qL.length : Int) := by omega
            have Hjt := Lib.hid hjt
            have hj0 : (0 : Int) ≤ (N.length : Int) := by omega
            obtain ⟨b2, off2, c2, hv, hc2, hbl2, hcell2⟩ := Hsl.out.pos (by omega)
            injection hv with hv1 _ hv2
            subst hv1 hv2
            obtain ⟨q, hq⟩ : ∃ q, qL[N.length]? = some q := ⟨_, List.getElem?_eq_getElem hjt⟩
            have e1 : wr.cell? ⟨b2, off2 + N.length, none⟩ = some q.1 := (HR.out.b.cell (p := ⟨b2, off2 + N.length, none⟩) hbl2).trans (hcell2 N.length q.1 (by rw [nm_flat, hq]; rfl))
            have hnm := (Hnm.out _ (List.mem_of_getElem? hq)).bel HR.out.b
            have hs2 := Hs.out _ (List.mem_of_getElem? hq)
            have Hnx2 := Lib.hid (nm_next hq)
            obtain ⟨qv, qn⟩ := q
            obtain ⟨qa2, qc2, hqv, _⟩ := hnm.sl.any
            dsimp only at hqv e1 hs2
            subst hqv
            have HX := Lib.hid (nclone_any _ qn wr hnm.sl hs2.1)
            dsimp only at HX
            have Hs2 := Lib.hid hs2
            obtain ⟨m, hm⟩ : ∃ m, qL.length - N.length = m + 1 := ⟨qL.length - N.length - 1, by omega⟩
            have Hm := Lib.hid hm
            have hbk := HR.out.bk
            rw [hm] at hbk
            have Hbk := Lib.hid hbk
            clear hcell2 hnm hs2 hq hm hbk
            go_wp2_with (first
              | (go_at_call 65; refine HX.out.mono ?_; rintro e w5 ⟨v5, rfl, ho5, hb5⟩; obtain ⟨A5, c5, rfl⟩ := own_any ho5; have hB5 := Hbk.out.bel hb5; have c5n := (hB5.cell N.length).trans (ncl_at N m); have f5n := hB5.free N.length; have HB5 := Lib.hid hB5; have Hb5 := Lib.hid hb5; have Ho5 := Lib.hid ho5; clear hb5 ho5 hB5))
            have hS := Stays.cell w5 w3.heap.size N.length (.slice A5 qn.length c5)
            go_roundw
            case rel =>
              refine ⟨N.length + 1, N ++ [(.slice A5 qn.length c5, qn)], by have := Hjt.out; omega, by go_num, ?_, fun q hq => ?_, ?_, by rw [List.length_append, List.length_singleton], (HR.out.b.trans (Hb5.out.mono HR.out.b.size)).trans (hS.below hgw)⟩
              · have h := HB5.out.set_ N.length (.slice A5 qn.length c5)
                rw [ncl_set N m (.slice A5 qn.length c5, qn)] at h
                rw [show qL.length - (N.length + 1) = m by have := Hm.out; omega]
                exact h
              · rcases List.mem_append.1 hq with hq | hq
                · exact ((HR.out.ok q hq).bel Hb5.out).kept hS.grown (Harm.type (Nat.zero_le _) HB5.out (by decide))
                · rw [List.mem_singleton.1 hq]
                  exact (⟨SlB.own Ho5.out, by have := Hs2.out.1; show qn.length ≤ _; omega, fun l hl => by have := Hs2.out.2 l hl; omega⟩ : NmB 0 w5 (.slice A5 qn.length c5, qn)).kept hS.grown (Harm.type (Nat.zero_le _) HB5.out (by decide))
              · rw [Hnx2.out, List.map_append, HR.out.is]
                rfl
            case measure => have := Hjt.out; (simp [intOf]) <;> omega
          · have hjq : N.length = qL.length := by omega
            have hjI : ¬ (N.length : Int) < (qL.length : Int) := by omega
            have Hjq := Lib.hid hjq
            clear hjq
            go_wp2
            go_ret
            have hbk := HR.out.bk
            rw [show qL.length - N.length = 0 by have := Hjq.out; omega, ncl_all] at hbk
            have his := HR.out.is
            rw [List.take_of_length_le (by have := Hjq.out; omega)] at his
            rw [Hat.out Hn.out]
            refine ⟨_, N, rfl, ⟨?_, fun q hq => (HR.out.ok q hq).ok, his⟩, by have := Hjq.out; omega, HR.out.b⟩
            have hsl := Bk.sl (size := 1) (n := N.length) hbk (by rw [← ncl_all]; unfold ncl; simp) N.length (Nat.le_refl _)
            rw [← Hjq.out]
            exact hsl
    · have hltI : ¬ (k : Int) < (H.length : Int) := by omega
      have hf : Hid (namesOf (H.map hoP) a = []) := Lib.hid (by have h1 := Hno.out; rw [List.take_of_length_le (by omega)] at h1; exact namesOf_no h1)
      go_wp2
      go_ret
      rw [hf.out]
      exact ⟨_, [], rfl, ⟨Sl.nil _ _, fun _ h => (by cases h), rfl⟩, Nat.zero_le _, hbel⟩
end Go.Proofs.YtgebcifkbldfoaaDoor

/- The law's own test of hosts (18). -/
namespace Go.Proofs.YtgebcifkbldfoaaDoor
open Go.RowKit
attribute [local go_sem] ba_get ext_take ext_drop ext_any ba_app

def w18s : List UInt8 := [49, 57, 50, 46, 48, 46, 50, 46, 49, 32, 97, 46, 98, 32, 97, 32, 35, 32, 120]
def w18a : Ad := adOf 192 0 2 1
theorem w18_parse : hosP w18s = [(w18a, [[[97], [98]], [[97]]])] := by decide +kernel
theorem w18_find : findP [(w18a, [[[97], [98]], [[97]]])] [[65]] 4 = ([w18a], [[97], [98]]) := by decide +kernel
theorem w18_b3 : w18a.b 3 = 1 := by decide +kernel
theorem w18_sh {H : List Ho} (h : H.map hoP = [(w18a, [[[97], [98]], [[97]]])]) : ∀ x ∈ H, ∀ q ∈ x.L, ShN q.2 := by
  intro x hx q hq
  have h1 : hoP x ∈ H.map hoP := List.mem_map.2 ⟨x, hx, rfl⟩
  rw [h, List.mem_singleton] at h1
  have h2 : x.L.map (·.2) = [[[97], [98]], [[97]]] := congrArg (·.2) h1
  have h3 : q.2 ∈ x.L.map (·.2) := List.mem_map.2 ⟨q, hq, rfl⟩
  rw [h2] at h3
  simp only [List.mem_cons, List.not_mem_nil, or_false] at h3
  rcases h3 with h3 | h3 <;> rw [h3] <;> exact ⟨by simp, by simp⟩
set_option maxRecDepth 100000 in
set_option maxHeartbeats 4000000 in
theorem works18_any (w : World) (ht : Tab w) (hm : MaxI w) : Calls Tryd.prog 23 #[] w (Good w) := by
  have HP := Lib.hid (hparse_any w18s w ht hm (by decide))
  rw [w18_parse] at HP
  clear ht hm
  go_enter Tryd.func23, Tryd.ntmps23
  go_wp2_with (first
    | (go_at_call 26; refine HP.out.mono ?_; rintro e w1 ⟨v1, H, rfl, hH, hHS, hb1, -⟩; obtain ⟨h, rfl⟩ : ∃ h, H = [h] := List.length_eq_one_iff.1 (by have h := congrArg List.length hHS; rwa [List.length_map] at h); obtain ⟨A1, c1, rfl⟩ := own_any hH.own; have HH := Lib.hid hH; have HS := Lib.hid hHS; have Hb1 := Lib.hid hb1; clear hH hHS hb1; refine holdL ?_))
  refine Lib.hid ?_
  have HF : Hid (∀ (nv : Value) (w' : World), Below w1.heap.size w1 w' → Sl w' 1 nv 1 [stv [65]] → Calls Tryd.prog 30 #[.slice A1 1 c1, nv, .int .i64 4] w' (FindPost w' ([w18a], [[97], [98]]))) := Lib.hid (fun nv w' hb hn => by
    have h1 := hfind_any [h] [[65]] 4 (.slice A1 1 c1) nv w' (HH.out.at_.bel hb) hn (by simp) (w18_sh HS.out)
    rw [HS.out, w18_find] at h1
    exact h1)
  go_wp2_with (first
    | ((with_reducible show wpList _ _ _ (⟨some 7, _, _, _, _, _⟩ :: _) _ _); refine wpList_lit (o := ⟨some 7, _, _, _, _, _⟩) rfl _ _ rfl elt_name [stv [65]] rfl (by decide) (by decide) (fun v hv => by rw [List.mem_singleton.1 hv]; rfl) rfl ?_; intro w2 hB2 hx2 hb2 hs2; have hsl2 := Sl.own hx2; have Hb2 := Lib.hid hb2; clear hB2 hx2 hs2 hb2)
    | (go_at_call 30; refine (HF.out _ _ Hb2.out hsl2).mono ?_; rintro e w3 ⟨va, vn, rfl, hsa, hsn, hb3⟩; obtain ⟨b3, o3, c3, rfl, hc3, hl3, hcell3⟩ := hsa.pos (by decide); obtain ⟨An, cn, rfl, _⟩ := hsn.any; have hby : w3.cell? ⟨b3, o3 + 1 + 3, none⟩ = some (.int .u8 1) := (by have h := hcell3 4 _ (adL_ip w18a (i := 3) (by omega)); rw [w18_b3] at h; exact h); have HN := Lib.hid hsn; have Hb3 := Lib.hid (bel_tr Hb2.out hb3); clear hsa hsn hb3 hcell3 hsl2; refine holdL ?_))
  refine Lib.hid ?_
  go_wp2_with (first
    | ((with_reducible show wpList _ _ _ (⟨some 29, _, _, _, _, _⟩ :: _) _ _); refine wpList_guarded (o := ⟨some 29, _, _, _, _, _⟩) rfl ?_; refine wpList_lit (o := ⟨some 29, _, _, _, _, _⟩) rfl _ _ rfl elt_strs [stv [97], stv [98]] rfl (by decide) (by decide) (fun v hv => by simp at hv; rcases hv with rfl | rfl <;> rfl) rfl ?_; intro w4 hB4 hx4 hb4 hs4; have hsl4 := Sl.own hx4; have Hb4 := Lib.hid hb4; clear hB4 hx4 hs4 hb4)
    | (go_at_call 33; refine (exact_any [[97], [98]] [[97], [98]] _ _ _ (HN.out.below Hb4.out) hsl4 (by simp)).mono ?_; rintro e w5 ⟨rfl, hb5⟩; have Hb5 := Lib.hid hb5; clear hb5))
  go_ret
  exact ⟨rfl, (Hb1.out.trans (Hb3.out.mono Hb1.out.size)).trans ((bel_tr Hb4.out Hb5.out).mono (Nat.le_trans Hb1.out.size Hb3.out.size))⟩
end Go.Proofs.YtgebcifkbldfoaaDoor

/- HostsFinds: the walk. -/
namespace Go.Proofs.YtgebcifkbldfoaaDoor
open Go.RowKit
attribute [local go_sem] ba_get ext_take ext_drop ext_any ba_app

theorem fp_len (H : List Ho) (n : NmL) (fam : Int) : (findP (H.map hoP) n fam).1.length ≤ H.length := by
  have h := fd_len (H := H) n fam H.length
  rw [List.take_length] at h
  exact h
theorem fp_name {H : List Ho} (n : NmL) (fam : Int) (hsh : ∀ h ∈ H, ∀ q ∈ h.L, ShN q.2) : (findP (H.map hoP) n fam).2.length ≤ 1000000 := by
  have key : ∀ k, (((H.take k).map hoP).foldl (fdStep n fam) ([], [])).2.length ≤ 1000000 := by
    intro k
    induction k with
    | zero => simp
    | succ k ih =>
      by_cases h : k < H.length
      · rw [fold_next n fam h]
        generalize ((H.take k).map hoP).foldl (fdStep n fam) ([], []) = acc at *
        unfold fdStep
        split
        · exact ih
        · dsimp only
          split
          · show ((H[k].L.map (·.2)).headD []).length ≤ 1000000
            cases hL : H[k].L with
            | nil => simp
            | cons q L => exact (hsh _ (List.getElem_mem h) q (by rw [hL]; simp)).1
          · exact ih
      · rw [List.take_of_length_le (by omega)] at ih ⊢
        exact ih
  have h := key H.length
  rw [List.take_length] at h
  exact h
theorem sameAds_t {L : List Ad} {va vb : Value} {w : World} (ha : Sl w 18 va L.length (L.flatMap adL)) (hb : Sl w 18 vb L.length (L.flatMap adL)) (hl : L.length ≤ 1000000) : Calls Tryd.prog 32 #[va, vb] w fun e w' => e = .returned (.bool true) ∧ Below w.heap.size w w' :=
  (sameAds_any L L va vb w ha hb hl hl).mono fun e w' ⟨he, hb⟩ => ⟨by rw [he, decide_eq_true rfl], hb⟩
theorem exact_t {A : NmL} {va vb : Value} {w : World} (ha : Sl w 1 va A.length (A.map stv)) (hb : Sl w 1 vb A.length (A.map stv)) (hl : A.length ≤ 1000000) : Calls Tryd.prog 33 #[va, vb] w fun e w' => e = .returned (.bool true) ∧ Below w.heap.size w w' :=
  (exact_any A A va vb w ha hb (by omega)).mono fun e w' ⟨he, hb⟩ => ⟨by rw [he, decide_eq_true rfl], hb⟩
theorem sameNms_t {C : List NmL} {M N : List (Value × NmL)} {va vb : Value} {w : World} (ha : NmsAt w va C M) (hb : NmsAt w vb C N) (hm : M.length ≤ 1000000) (hn : N.length ≤ 1000000) : Calls Tryd.prog 34 #[va, vb] w fun e w' => e = .returned (.bool true) ∧ Below w.heap.size w w' :=
  (sameNms_any M N va vb w ha.sl hb.sl ha.ok hb.ok hm hn).mono fun e w' ⟨he, hbe⟩ => ⟨by rw [he, decide_eq_true (ha.is.trans hb.is.symm)], hbe⟩
set_option maxRecDepth 100000 in
set_option maxHeartbeats 4000000 in
theorem hostsFinds_walk (w : World) (ht : Tab w) (hm : MaxI w) (H : List Ho) (v : Value) (hH : HosArg w v H) (n : NmL) (nv : Value) (hn : Sl w 1 nv n.length (n.map stv)) (hnl : n.length ≤ maxLen) (hnn : ∀ l ∈ n, l.length ≤ 140737488351232) (x : Ad) :
    Calls Tryd.prog 7 #[v, nv, .agg (adA x)] w (Good w) := by
  have Ht := Lib.hid ht
  have Hm := Lib.hid hm
  have HW := Lib.hid (fun (w' : World) (hb : Below w.heap.size w w') => works18_any w' (ht.below hb) (hm.below hb))
  have HA := Lib.hid hH
  have HN := Lib.hid hn
  have Hnn := Lib.hid hnn
  have Hnl := Lib.hid hnl
  have HAb : Hid (∀ w', Below w.heap.size w w' → HosArg w' v H) := Lib.hid (fun w' hb => ⟨hH.sl.below hb, hH.len, fun h hh => ⟨(hH.ok h hh).sl.below hb, (hH.ok h hh).len, fun q hq => ((hH.ok h hh).nm q hq).bel hb⟩⟩)
  obtain ⟨A0, c0, rfl, _⟩ := hH.sl.any
  obtain ⟨na, nc, rfl, _⟩ := hn.any
  clear ht hm hH hn hnl hnn
  have HF := Lib.hid (fun (w' : World) (hb : Below w.heap.size w w') => few18_any H _ w' (HAb.out w' hb))
  have HG := Lib.hid (fun (w' : World) (hb : Below w.heap.size w w') => few_any n _ w' (HN.out.below hb) Hnl.out Hnn.out)
  cases h1 : fewHs H with
  | false =>
    rw [h1] at HF
    clear h1
    go_enter Tryd.func7, Tryd.ntmps7
    go_wp2_with (first
      | ((with_reducible show wpList _ _ _ (⟨some 5, _, _, _, _, _⟩ :: _) _ _); refine wpList_boxB (o := ⟨some 5, _, _, _, _, _⟩) rfl _ _ rfl rfl ?_; intro g5 w1 hg hB5 hb1 hs; have Hb1 := Lib.hid hb1; clear hg hs hb1 hB5)
      | (go_at_call 23; (with_reducible refine (HW.out w1 Hb1.out).mono ?_); rintro e w2 ⟨rfl, hb2⟩; have Hb2 := Lib.hid (bel_tr Hb1.out hb2); clear hb2)
      | (go_at_call 28; refine (HF.out _ Hb2.out).mono ?_; rintro e w3 ⟨rfl, rfl⟩; refine holdL ?_))
    refine Lib.hid ?_
    go_wp2_with (first
      | (go_at_call 23; refine (HW.out _ Hb2.out).mono ?_; rintro e w4 ⟨rfl, hb4⟩; have Hb4 := Lib.hid (bel_tr Hb2.out hb4); clear hb4))
    go_ret
    exact ⟨rfl, Hb4.out⟩
  | true =>
    rw [h1] at HF
    obtain ⟨hat, hl40, hsh⟩ := fewHs_at HA.out h1
    have Hat := Lib.hid hat
    have Hsh := Lib.hid hsh
    clear h1 hat hsh
    cases h2 : fewB n with
    | false =>
      rw [h2] at HG
      clear h2
      go_enter Tryd.func7, Tryd.ntmps7
      go_wp2_with (first
        | ((with_reducible show wpList _ _ _ (⟨some 5, _, _, _, _, _⟩ :: _) _ _); refine wpList_boxB (o := ⟨some 5, _, _, _, _, _⟩) rfl _ _ rfl rfl ?_; intro g5 w1 hg hB5 hb1 hs; have Hb1 := Lib.hid hb1; clear hg hs hb1 hB5)
        | (go_at_call 23; (with_reducible refine (HW.out w1 Hb1.out).mono ?_); rintro e w2 ⟨rfl, hb2⟩; have Hb2 := Lib.hid (bel_tr Hb1.out hb2); clear hb2)
        | (go_at_call 28; refine (HF.out _ Hb2.out).mono ?_; rintro e w3 ⟨rfl, rfl⟩)
        | (go_at_call 29; refine (HG.out _ Hb2.out).mono ?_; rintro e w3 ⟨rfl, rfl⟩; refine holdL ?_))
      refine Lib.hid ?_
      go_wp2_with (first
        | (go_at_call 23; refine (HW.out _ Hb2.out).mono ?_; rintro e w4 ⟨rfl, hb4⟩; have Hb4 := Lib.hid (bel_tr Hb2.out hb4); clear hb4))
      go_ret
      exact ⟨rfl, Hb4.out⟩
    | true =>
      rw [h2] at HG
      have hnb := few_bds h2
      have HnS : Hid (ShN n) := Lib.hid ⟨by omega, fun l hl => by have := hnb.2.2 l hl; omega⟩
      clear h2 hnb Hnn Hnl
      have HFa := Lib.hid (fun (fam : Int) (w' : World) (hb : Below w.heap.size w w') => hfind_any H n fam _ _ w' (Hat.out.bel hb) (HN.out.below hb) (by omega) Hsh.out)
      have HFb := Lib.hid (fun (fam : Int) (w' : World) (hb : Below w.heap.size w w') => rfind_any H n fam _ _ w' (Hat.out.bel hb) (HN.out.below hb) (by omega) Hsh.out HnS.out)
      obtain ⟨F, hF⟩ : ∃ F, F = findP (H.map hoP) n x.fam := ⟨_, rfl⟩
      obtain ⟨G, hG⟩ : ∃ G, G = findP (H.map hoP) n 0 := ⟨_, rfl⟩
      have HFa1 := Lib.hid (HFa.out x.fam)
      have HFb1 := Lib.hid (HFb.out x.fam)
      have HFa2 := Lib.hid (HFa.out 0)
      have HFb2 := Lib.hid (HFb.out 0)
      rw [← hF] at HFa1 HFb1
      rw [← hG] at HFa2 HFb2
      have hFl : F.1.length ≤ 40 := by rw [hF]; have := fp_len H n x.fam; omega
      have hGl : G.1.length ≤ 40 := by rw [hG]; have := fp_len H n 0; omega
      have hFn : F.2.length ≤ 1000000 := by rw [hF]; exact fp_name n x.fam Hsh.out
      have hGn : G.2.length ≤ 1000000 := by rw [hG]; exact fp_name n 0 Hsh.out
      clear hF hG HFa HFb
      go_enter Tryd.func7, Tryd.ntmps7
      go_wp2_with (first
        | ((with_reducible show wpList _ _ _ (⟨some 5, _, _, _, _, _⟩ :: _) _ _); refine wpList_boxB (o := ⟨some 5, _, _, _, _, _⟩) rfl _ _ rfl rfl ?_; intro g5 w1 hg hB5 hb1 hs; have Hb1 := Lib.hid hb1; have HB5 := Lib.hid hB5; clear hg hs hb1 hB5)
        | (go_at_call 23; (with_reducible refine (HW.out w1 Hb1.out).mono ?_); rintro e w2 ⟨rfl, hb2⟩; have Hb2 := Lib.hid (bel_tr Hb1.out hb2); have HB2 := Lib.hid (HB5.out.bel hb2); have c2 : w2.cell? ⟨g5, 0, none⟩ = some (.int .i64 x.fam) := (HB2.out.cell 0).trans (adA_0 x); clear hb2)
        | (go_at_call 28; refine (HF.out _ Hb2.out).mono ?_; rintro e w3 ⟨rfl, rfl⟩)
        | (go_at_call 29; refine (HG.out _ Hb2.out).mono ?_; rintro e w3 ⟨rfl, rfl⟩)
        | (go_at_call 30; (with_reducible refine (HFa1.out _ Hb2.out).mono ?_); rintro e w4 ⟨va1, vn1, rfl, hsa1, hsn1, hb4⟩; obtain ⟨aa1, ac1, rfl, _⟩ := hsa1.any; obtain ⟨an1, ak1, rfl, _⟩ := hsn1.any; have Hsa1 := Lib.hid hsa1; have Hsn1 := Lib.hid hsn1; have Hb4 := Lib.hid hb4; have c4 : w4.cell? ⟨g5, 0, none⟩ = some (.int .i64 x.fam) := ((HB2.out.bel hb4).cell 0).trans (adA_0 x); clear hsa1 hsn1 hb4 c2; refine holdL ?_))
      refine Lib.hid ?_
      have Hb24 := Lib.hid (bel_tr Hb2.out Hb4.out)
      go_wp2_with (first
        | (go_at_call 31; (with_reducible refine (HFb1.out _ Hb24.out).mono ?_); rintro e w5 ⟨va2, vn2, rfl, hsa2, hsn2, hb5⟩; obtain ⟨aa2, ac2, rfl, _⟩ := hsa2.any; obtain ⟨an2, ak2, rfl, _⟩ := hsn2.any; have Hsa2 := Lib.hid hsa2; have Hsn2 := Lib.hid hsn2; have Hb5 := Lib.hid hb5; have Hb25 := Lib.hid (bel_tr Hb24.out hb5); clear hsa2 hsn2 hb5 c4)
        | (go_at_call 30; (with_reducible refine (HFa2.out _ Hb25.out).mono ?_); rintro e w6 ⟨va3, vn3, rfl, hsa3, hsn3, hb6⟩; obtain ⟨aa3, ac3, rfl, _⟩ := hsa3.any; obtain ⟨an3, ak3, rfl, _⟩ := hsn3.any; have Hsa3 := Lib.hid hsa3; have Hsn3 := Lib.hid hsn3; have Hb6 := Lib.hid hb6; have Hb26 := Lib.hid (bel_tr Hb25.out hb6); clear hsa3 hsn3 hb6; refine holdL ?_))
      refine Lib.hid ?_
      go_upto_region 7 with (first
        | (go_at_call 31; (with_reducible refine (HFb2.out _ Hb26.out).mono ?_); rintro e w7 ⟨va4, vn4, rfl, hsa4, hsn4, hb7⟩; obtain ⟨aa4, ac4, rfl, _⟩ := hsa4.any; obtain ⟨an4, ak4, rfl, _⟩ := hsn4.any; have Hsa4 := Lib.hid hsa4; have Hsn4 := Lib.hid hsn4; have Hb7 := Lib.hid hb7; have Hb27 := Lib.hid (bel_tr Hb26.out hb7); clear hsa4 hsn4 hb7))
      try simp only [Act.put, List.setIfInBounds_toArray, List.set_cons_zero, List.set_cons_succ]
      have SA1 := Lib.hid (((Hsa1.out.below Hb5.out).below Hb6.out).below Hb7.out)
      have SN1 := Lib.hid (((Hsn1.out.below Hb5.out).below Hb6.out).below Hb7.out)
      have SA2 := Lib.hid ((Hsa2.out.below Hb6.out).below Hb7.out)
      have SN2 := Lib.hid ((Hsn2.out.below Hb6.out).below Hb7.out)
      have SA3 := Lib.hid (Hsa3.out.below Hb7.out)
      have SN3 := Lib.hid (Hsn3.out.below Hb7.out)
      have SA4 := Hsa4
      have SN4 := Hsn4
      have hB7 := (((HB2.out.bel Hb4.out).bel Hb5.out).bel Hb6.out).bel Hb7.out
      have HR5 : Hid (∀ w', Below w7.heap.size w7 w' → w'.rangeAt g5 0 (adL x)) := Lib.hid (fun w' hb => (hB7.bel hb).rangeAd)
      clear hB7
      have HXa := Lib.hid (fun (w' : World) (hb : Below w7.heap.size w7 w') => hnames_any H x _ w' (Hat.out.bel (Hb27.out.trans (hb.mono Hb27.out.size))) (by omega) Hsh.out)
      have HXb := Lib.hid (fun (w' : World) (hb : Below w7.heap.size w7 w') => rhnames_any H x _ w' (Hat.out.bel (Hb27.out.trans (hb.mono Hb27.out.size))) (by omega))
      obtain ⟨F1, F2⟩ := F
      obtain ⟨G1, G2⟩ := G
      dsimp only at SA1 SN1 SA2 SN2 SA3 SN3 SA4 SN4 hFl hGl hFn hGn ⊢
      generalize namesOf (H.map hoP) x = NX at HXa HXb
      clear HF HG HW Ht Hm HA HAb HN HnS Hsh Hb1 HB5 HB2 Hb2 Hsa1 Hsn1 Hsa2 Hsn2 Hsa3 Hsn3 Hsa4 Hsn4 Hb4 Hb24 Hb5 Hb25 Hb6 Hb26 Hb7 HFa1 HFa2 HFb1 HFb2
      refine wp_region_held (S := fun w' => Below w7.heap.size w7 w') (by kernel_rfl) ?_
      refine wpAnyH_take (i := 0) (oi := ⟨some 56, Op.move (Operand.tmp 7), _, _, _, none⟩) (v := Value.slice aa1 F1.length ac1) rfl (by kernel_rfl) (by kernel_rfl) (by kernel_rfl) (fun _ _ _ h => h) (Or.inl ⟨by rfl, fun w' hS' => by go_simp⟩) (Below.refl _ _).drew ?_
      simp only [Act.put, List.setIfInBounds_toArray, List.set_cons_zero, List.set_cons_succ]
      refine wpAnyH_take (i := 1) (oi := ⟨some 57, Op.move (Operand.tmp 9), _, _, _, none⟩) (v := Value.slice aa2 F1.length ac2) rfl (by kernel_rfl) (by kernel_rfl) (by kernel_rfl) (fun _ _ _ h => h) (Or.inl ⟨by rfl, fun w' hS' => by go_simp⟩) (Below.refl _ _).drew ?_
      simp only [Act.put, List.setIfInBounds_toArray, List.set_cons_zero, List.set_cons_succ]
      refine wpAnyH_all (rs := [2]) (by kernel_rfl) (by decide) ?_
      intro i hi
      obtain rfl := List.mem_singleton.1 hi
      refine wpOp_callM (o := ⟨some 58, Op.call { callee := Callee.value (Operand.func 32), args := #[Operand.tmp 56, Operand.tmp 57], argTypes := #[54, 54] }, _, _, _, none⟩) rfl (by rfl) (by go_simp) (sameAds_t (SA1.out.below ((Below.refl _ _).drew)) (SA2.out.below ((Below.refl _ _).drew)) (by omega)) ?_
      rintro e x1 ⟨rfl, hx1⟩
      have hx1 := bel_drew hx1
      refine ⟨_, rfl, ?_⟩
      show _ ∧ _
      refine ⟨hx1, ?_⟩
      simp only [Act.put, List.setIfInBounds_toArray, List.set_cons_zero, List.set_cons_succ]
      refine wpAnyH_take (i := 3) (oi := ⟨some 59, Op.move (Operand.tmp 58), _, _, _, none⟩) (v := Value.bool true) rfl (by kernel_rfl) (by kernel_rfl) (by kernel_rfl) (fun _ _ _ h => h) (Or.inl ⟨by rfl, fun w' hS' => by go_simp⟩) hx1 ?_
      simp only [Act.put, List.setIfInBounds_toArray, List.set_cons_zero, List.set_cons_succ]
      refine wpAnyH_take (i := 4) (oi := ⟨some 60, Op.move (Operand.tmp 8), _, _, _, some (3 , true)⟩) (v := Value.slice an1 (List.length F2) ak1) rfl (by kernel_rfl) (by kernel_rfl) (by kernel_rfl) (fun _ _ _ h => h) (Or.inl ⟨by rfl, fun w' hS' => by go_simp⟩) hx1 ?_
      simp only [Act.put, List.setIfInBounds_toArray, List.set_cons_zero, List.set_cons_succ]
      refine wpAnyH_take (i := 5) (oi := ⟨some 61, Op.move (Operand.tmp 10), _, _, _, some (3 , true)⟩) (v := Value.slice an2 (List.length F2) ak2) rfl (by kernel_rfl) (by kernel_rfl) (by kernel_rfl) (fun _ _ _ h => h) (Or.inl ⟨by rfl, fun w' hS' => by go_simp⟩) hx1 ?_
      simp only [Act.put, List.setIfInBounds_toArray, List.set_cons_zero, List.set_cons_succ]
      refine wpAnyH_all (rs := [6]) (by kernel_rfl) (by decide) ?_
      intro i hi
      obtain rfl := List.mem_singleton.1 hi
      refine wpOp_callM (o := ⟨some 62, Op.call { callee := Callee.value (Operand.func 33), args := #[Operand.tmp 60, Operand.tmp 61], argTypes := #[48, 48] }, _, _, _, some (3 , true)⟩) rfl (by rfl) (by go_simp) (exact_t (SN1.out.below hx1) (SN2.out.below hx1) (by omega)) ?_
      rintro e x2 ⟨rfl, hy2⟩
      have hx2 := bel_tr hx1 hy2
      refine ⟨_, rfl, ?_⟩
      show _ ∧ _
      refine ⟨hx2, ?_⟩
      simp only [Act.put, List.setIfInBounds_toArray, List.set_cons_zero, List.set_cons_succ]
      refine wpAnyH_take (i := 7) (oi := ⟨some 63, Op.pick (Operand.tmp 59) (Operand.tmp 62) (Operand.const (Value.bool false)), _, _, _, none⟩) (v := Value.bool true) rfl (by kernel_rfl) (by kernel_rfl) (by kernel_rfl) (fun _ _ _ h => h) (Or.inl ⟨by rfl, fun w' hS' => by go_simp⟩) hx2 ?_
      simp only [Act.put, List.setIfInBounds_toArray, List.set_cons_zero, List.set_cons_succ]
      refine wpAnyH_take (i := 8) (oi := ⟨some 64, Op.move (Operand.tmp 63), _, _, _, none⟩) (v := Value.bool true) rfl (by kernel_rfl) (by kernel_rfl) (by kernel_rfl) (fun _ _ _ h => h) (Or.inl ⟨by rfl, fun w' hS' => by go_simp⟩) hx2 ?_
      simp only [Act.put, List.setIfInBounds_toArray, List.set_cons_zero, List.set_cons_succ]
      refine wpAnyH_take (i := 9) (oi := ⟨some 65, Op.move (Operand.tmp 11), _, _, _, some (8 , true)⟩) (v := Value.slice aa3 G1.length ac3) rfl (by kernel_rfl) (by kernel_rfl) (by kernel_rfl) (fun _ _ _ h => h) (Or.inl ⟨by rfl, fun w' hS' => by go_simp⟩) hx2 ?_
      simp only [Act.put, List.setIfInBounds_toArray, List.set_cons_zero, List.set_cons_succ]
      refine wpAnyH_take (i := 10) (oi := ⟨some 66, Op.move (Operand.tmp 13), _, _, _, some (8 , true)⟩) (v := Value.slice aa4 G1.length ac4) rfl (by kernel_rfl) (by kernel_rfl) (by kernel_rfl) (fun _ _ _ h => h) (Or.inl ⟨by rfl, fun w' hS' => by go_simp⟩) hx2 ?_
      simp only [Act.put, List.setIfInBounds_toArray, List.set_cons_zero, List.set_cons_succ]
      refine wpAnyH_all (rs := [11]) (by kernel_rfl) (by decide) ?_
      intro i hi
      obtain rfl := List.mem_singleton.1 hi
      refine wpOp_callM (o := ⟨some 67, Op.call { callee := Callee.value (Operand.func 32), args := #[Operand.tmp 65, Operand.tmp 66], argTypes := #[54, 54] }, _, _, _, some (8 , true)⟩) rfl (by rfl) (by go_simp) (sameAds_t (SA3.out.below hx2) (SA4.out.below hx2) (by omega)) ?_
      rintro e x3 ⟨rfl, hy3⟩
      have hx3 := bel_tr hx2 hy3
      refine ⟨_, rfl, ?_⟩
      show _ ∧ _
      refine ⟨hx3, ?_⟩
      simp only [Act.put, List.setIfInBounds_toArray, List.set_cons_zero, List.set_cons_succ]
      refine wpAnyH_take (i := 12) (oi := ⟨some 68, Op.pick (Operand.tmp 64) (Operand.tmp 67) (Operand.const (Value.bool false)), _, _, _, none⟩) (v := Value.bool true) rfl (by kernel_rfl) (by kernel_rfl) (by kernel_rfl) (fun _ _ _ h => h) (Or.inl ⟨by rfl, fun w' hS' => by go_simp⟩) hx3 ?_
      simp only [Act.put, List.setIfInBounds_toArray, List.set_cons_zero, List.set_cons_succ]
      refine wpAnyH_take (i := 13) (oi := ⟨some 69, Op.move (Operand.tmp 68), _, _, _, none⟩) (v := Value.bool true) rfl (by kernel_rfl) (by kernel_rfl) (by kernel_rfl) (fun _ _ _ h => h) (Or.inl ⟨by rfl, fun w' hS' => by go_simp⟩) hx3 ?_
      simp only [Act.put, List.setIfInBounds_toArray, List.set_cons_zero, List.set_cons_succ]
      refine wpAnyH_take (i := 14) (oi := ⟨some 70, Op.move (Operand.tmp 12), _, _, _, some (13 , true)⟩) (v := Value.slice an3 (List.length G2) ak3) rfl (by kernel_rfl) (by kernel_rfl) (by kernel_rfl) (fun _ _ _ h => h) (Or.inl ⟨by rfl, fun w' hS' => by go_simp⟩) hx3 ?_
      simp only [Act.put, List.setIfInBounds_toArray, List.set_cons_zero, List.set_cons_succ]
      refine wpAnyH_take (i := 15) (oi := ⟨some 71, Op.move (Operand.tmp 14), _, _, _, some (13 , true)⟩) (v := Value.slice an4 (List.length G2) ak4) rfl (by kernel_rfl) (by kernel_rfl) (by kernel_rfl) (fun _ _ _ h => h) (Or.inl ⟨by rfl, fun w' hS' => by go_simp⟩) hx3 ?_
      simp only [Act.put, List.setIfInBounds_toArray, List.set_cons_zero, List.set_cons_succ]
      refine wpAnyH_all (rs := [16]) (by kernel_rfl) (by decide) ?_
      intro i hi
      obtain rfl := List.mem_singleton.1 hi
      refine wpOp_callM (o := ⟨some 72, Op.call { callee := Callee.value (Operand.func 33), args := #[Operand.tmp 70, Operand.tmp 71], argTypes := #[48, 48] }, _, _, _, some (13 , true)⟩) rfl (by rfl) (by go_simp) (exact_t (SN3.out.below hx3) (SN4.out.below hx3) (by omega)) ?_
      rintro e x4 ⟨rfl, hy4⟩
      have hx4 := bel_tr hx3 hy4
      refine ⟨_, rfl, ?_⟩
      show _ ∧ _
      refine ⟨hx4, ?_⟩
      simp only [Act.put, List.setIfInBounds_toArray, List.set_cons_zero, List.set_cons_succ]
      refine wpAnyH_take (i := 17) (oi := ⟨some 73, Op.pick (Operand.tmp 69) (Operand.tmp 72) (Operand.const (Value.bool false)), _, _, _, none⟩) (v := Value.bool true) rfl (by kernel_rfl) (by kernel_rfl) (by kernel_rfl) (fun _ _ _ h => h) (Or.inl ⟨by rfl, fun w' hS' => by go_simp⟩) hx4 ?_
      simp only [Act.put, List.setIfInBounds_toArray, List.set_cons_zero, List.set_cons_succ]
      refine wpAnyH_take (i := 18) (oi := ⟨some 74, Op.move (Operand.tmp 73), _, _, _, none⟩) (v := Value.bool true) rfl (by kernel_rfl) (by kernel_rfl) (by kernel_rfl) (fun _ _ _ h => h) (Or.inl ⟨by rfl, fun w' hS' => by go_simp⟩) hx4 ?_
      simp only [Act.put, List.setIfInBounds_toArray, List.set_cons_zero, List.set_cons_succ]
      refine wpAnyH_take (i := 19) (oi := ⟨some 75, Op.move (Operand.tmp 0), _, _, _, some (18 , true)⟩) (v := Value.slice A0 H.length c0) rfl (by kernel_rfl) (by kernel_rfl) (by kernel_rfl) (fun _ _ _ h => h) (Or.inl ⟨by rfl, fun w' hS' => by go_simp⟩) hx4 ?_
      simp only [Act.put, List.setIfInBounds_toArray, List.set_cons_zero, List.set_cons_succ]
      refine wpAnyH_take (i := 20) (oi := ⟨some 76, Op.load 34 (Operand.tmp 5), _, _, _, some (18 , true)⟩) (v := Value.agg (adA x)) rfl (by kernel_rfl) (by kernel_rfl) (by kernel_rfl) (fun _ _ _ h => h) (yieldsIf_loadAd (by rfl) _ rfl rfl HR5.out) hx4 ?_
      simp only [Act.put, List.setIfInBounds_toArray, List.set_cons_zero, List.set_cons_succ]
      refine wpAnyH_take (i := 22) (oi := ⟨some 78, Op.move (Operand.tmp 0), _, _, _, some (18 , true)⟩) (v := Value.slice A0 H.length c0) rfl (by kernel_rfl) (by kernel_rfl) (by kernel_rfl) (fun _ _ _ h => h) (Or.inl ⟨by rfl, fun w' hS' => by go_simp⟩) hx4 ?_
      simp only [Act.put, List.setIfInBounds_toArray, List.set_cons_zero, List.set_cons_succ]
      refine wpAnyH_take (i := 23) (oi := ⟨some 79, Op.load 34 (Operand.tmp 5), _, _, _, some (18 , true)⟩) (v := Value.agg (adA x)) rfl (by kernel_rfl) (by kernel_rfl) (by kernel_rfl) (fun _ _ _ h => h) (yieldsIf_loadAd (by rfl) _ rfl rfl HR5.out) hx4 ?_
      simp only [Act.put, List.setIfInBounds_toArray, List.set_cons_zero, List.set_cons_succ]
      refine wpAnyH_all (rs := [21]) (by kernel_rfl) (by decide) ?_
      intro i hi
      obtain rfl := List.mem_singleton.1 hi
      refine wpOp_callM (o := ⟨some 77, Op.call { callee := Callee.value (Operand.func 35), args := #[Operand.tmp 75, Operand.tmp 76], argTypes := #[45, 34] }, _, _, _, some (18 , true)⟩) rfl (by rfl) (by go_simp) (HXa.out _ hx4) ?_
      rintro e x5 ⟨v1, N1, rfl, ha1, hl1, hy5⟩
      have hx5 := bel_tr hx4 hy5
      obtain ⟨a1, c1, rfl, _⟩ := ha1.sl.any
      have HA1 := Lib.hid ha1
      clear ha1
      refine ⟨_, rfl, ?_⟩
      show _ ∧ _
      refine ⟨hx5, ?_⟩
      simp only [Act.put, List.setIfInBounds_toArray, List.set_cons_zero, List.set_cons_succ]
      refine wpAnyH_all (rs := [24]) (by kernel_rfl) (by decide) ?_
      intro i hi
      obtain rfl := List.mem_singleton.1 hi
      refine wpOp_callM (o := ⟨some 80, Op.call { callee := Callee.value (Operand.func 36), args := #[Operand.tmp 78, Operand.tmp 79], argTypes := #[45, 34] }, _, _, _, some (18 , true)⟩) rfl (by rfl) (by go_simp) (HXb.out _ hx5) ?_
      rintro e x6 ⟨v2, N2, rfl, ha2, hl2, hy6⟩
      have hx6 := bel_tr hx5 hy6
      obtain ⟨a2, c2, rfl, _⟩ := ha2.sl.any
      have HA2 := Lib.hid ha2
      have HA1 := Lib.hid (HA1.out.bel hy6)
      clear ha2
      refine ⟨_, rfl, ?_⟩
      show _ ∧ _
      refine ⟨hx6, ?_⟩
      simp only [Act.put, List.setIfInBounds_toArray, List.set_cons_zero, List.set_cons_succ]
      refine wpAnyH_all (rs := [25]) (by kernel_rfl) (by decide) ?_
      intro i hi
      obtain rfl := List.mem_singleton.1 hi
      refine wpOp_callM (o := ⟨some 81, Op.call { callee := Callee.value (Operand.func 34), args := #[Operand.tmp 77, Operand.tmp 80], argTypes := #[62, 62] }, _, _, _, some (18 , true)⟩) rfl (by rfl) (by go_simp) (sameNms_t HA1.out HA2.out hl1 hl2) ?_
      rintro e x7 ⟨rfl, hy7⟩
      have hx7 := bel_tr hx6 hy7
      refine ⟨_, rfl, ?_⟩
      show _ ∧ _
      refine ⟨hx7, ?_⟩
      simp only [Act.put, List.setIfInBounds_toArray, List.set_cons_zero, List.set_cons_succ]
      refine wpAnyH_take (i := 26) (oi := ⟨some 82, Op.pick (Operand.tmp 74) (Operand.tmp 81) (Operand.const (Value.bool false)), _, _, _, none⟩) (v := Value.bool true) rfl (by kernel_rfl) (by kernel_rfl) (by kernel_rfl) (fun _ _ _ h => h) (Or.inl ⟨by rfl, fun w' hS' => by go_simp⟩) hx7 ?_
      simp only [Act.put, List.setIfInBounds_toArray, List.set_cons_zero, List.set_cons_succ]
      refine wpAnyH_take (i := 27) (oi := ⟨some 6, Op.assign (Operand.tmp 82), _, _, _, none⟩) (v := Value.bool true) rfl (by kernel_rfl) (by kernel_rfl) (by kernel_rfl) (fun _ _ _ h => h) (Or.inl ⟨by rfl, fun w' hS' => by go_simp⟩) hx7 ?_
      simp only [Act.put, List.setIfInBounds_toArray, List.set_cons_zero, List.set_cons_succ]
      refine wpAnyH_done (by kernel_rfl) ?_ _
      go_wp2
      go_ret
      exact ⟨rfl, Hb27.out.trans (hx7.mono Hb27.out.size)⟩
end Go.Proofs.YtgebcifkbldfoaaDoor
