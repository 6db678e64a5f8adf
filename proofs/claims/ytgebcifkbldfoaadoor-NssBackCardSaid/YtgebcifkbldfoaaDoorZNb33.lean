/- Contracts and plain lemmas of our own, merged. -/
import Derived.Test.YtgebcifkbldfoaaDoorZNb32
import Derived.Deep.OwnRows
/- nss.Text: what is written of sources. -/
namespace Go.Proofs.YtgebcifkbldfoaaDoor
open Go.RowKit
attribute [local go_sem] ba_get ext_take ext_drop ext_any ba_app

theorem made_oneS (z : Value) (n : Nat) : madeCells #[z] n = (List.replicate n z).toArray := by
  apply Array.ext'
  unfold madeCells
  rw [Array.toList_map, Array.toList_range]
  refine List.ext_getElem (by simp) fun i h1 h2 => ?_
  simp [Nat.mod_one]
/-- 'make([]T, n)' of members of one cell. -/
theorem wpList_makeS {P : Program} {w : World} {ops : Array Oper} {rest : List Oper} {o : Oper} {a : Act} {Q : Exit → Act → World → Prop} (hg : o.guard = none) (l c : Operand) (t : TypeId) (hop : o.op = Op.makeSlice t l c) {e : TypeId} {z : Value} {bytes : Nat}
    (ht : P.underlying t = some (.slice e)) (hinfo : (P.info? e).map (fun i => (i.zero, i.size, i.bytes)) = some (some z, 1, bytes)) (hz1 : z.cells = #[z]) {kl kc : IntKind} (n : Nat) (hl : a.eval l = .int kl (n : Int)) (hc : a.eval c = .int kc (n : Int)) (hb : bytes * n ≤ 281474976710656) (hn : n ≤ 1000000000)
    (h : ∀ w', Bk w' w.heap.size e (List.replicate n z).toArray → Below w.heap.size w w' → w'.heap.size = w.heap.size + 1 → wpList P ops Q rest (a.put o.dst (.slice (some ⟨w.heap.size, 0, none⟩) n n)) w') : wpList P ops Q (o :: rest) a w := by
  refine wpList_plain hg fun _ hK => ?_
  unfold Oper.wp
  simp only [execOp, hop, hl, hc, run_make_row' t e z bytes ht hinfo hz1 kl kc n hb (by omega) w, Sem.run_bind, Result.andThen_ok]
  refine hK _ _ (h _ ?_ ((Below.refl _ _).alloc (Nat.le_refl _) _) (by simp))
  rw [made_oneS]
  exact Bk.new _ _ _
theorem str_info : (Tryd.prog.info? 9).map (fun i => (i.zero, i.size, i.bytes)) = some (some (.string ⟨#[]⟩), 1, 16) := by kernel_rfl
theorem wrd_take {L : List So} {k : Nat} (h : k < L.length) : hosT :: (L.take (k + 1)).flatMap wrdT = (hosT :: (L.take k).flatMap wrdT) ++ wrdT L[k] := by
  rw [List.take_succ_eq_append_getElem h, List.flatMap_append, List.flatMap_cons, List.flatMap_nil, List.append_nil, List.cons_append]
theorem wrd_len (L : List So) : (L.flatMap wrdT).length ≤ 2 * L.length := by
  induction L with
  | nil => simp
  | cons s L ih =>
    rw [List.flatMap_cons, List.length_append, List.length_cons]
    have : (wrdT s).length ≤ 2 := by
      unfold wrdT
      by_cases h : s.st = [true, false, false, false]
      · rw [if_pos h]; simp
      · rw [if_neg h]; simp
    omega
theorem quiet_loadStQ {w : World} {o : Oper} {a a' : Act} {K : Act → Prop} (x : Operand) (ho : o.op = .load 25 x) {g off : Nat} (hx : a.eval x = .pointer (some ⟨g, off, none⟩)) {st : List Bool} (h4 : st.length = 4) (hB : w.rangeAt g off (st.map Value.bool))
    (ha : a.put o.dst (.agg (stA st)) = a') (hk : K a') : o.quiet Tryd.prog a (fun w' => ∃ y : BelT w, w' = y.at_) K := by
  subst ha
  refine ⟨_, ?_, hk⟩
  rintro _ ⟨y, rfl⟩
  unfold Oper.quietAt execOp
  have hr : y.at_.rangeAt g off (st.map Value.bool) := fun j v hv => y.cell (hB j v hv)
  simp only [ho, hx, Instr.loadAt, Instr.sureAddr, Sem.run_bind, Sem.run_pure, Result.andThen_ok, run_loadVar_mid y.at_ g off 25 (st.map Value.bool) _ hr Tryd.underlying25 rfl (by rw [List.length_map, h4]; exact st_size)]
  exact ⟨rfl, rfl⟩
theorem quiet_eqlStQ {w : World} {o : Oper} {a a' : Act} {K : Act → Prop} (x y : Operand) {t : TypeId} (ho : o.op = .binOp .eql 25 x y t) {b c : List Bool} (hb : b.length = 4) (hc : c.length = 4) (hx : a.eval x = .agg (stA b)) (hy : a.eval y = .agg (stA c)) {r : Bool} (hr : (b == c) = r)
    (ha : a.put o.dst (.bool r) = a') (hk : K a') : o.quiet Tryd.prog a (fun w' => ∃ y : BelT w, w' = y.at_) K := by
  subst ha hr
  refine ⟨_, ?_, hk⟩
  rintro _ ⟨z, rfl⟩
  unfold Oper.quietAt execOp
  simp only [ho, hx, hy, Sem.run_bind, run_eqGuard_agg z.at_ .eql 25 x y _ _ Tryd.eqGuardType25, Result.andThen_ok, st_eql z.at_ b c hb hc]
  exact ⟨rfl, rfl⟩
theorem run_fieldSt (w : World) (s : So) : (Instr.field 27 (.agg (soA s)) 1).run Tryd.prog w = .ok (.agg (stA s.st)) w := by
  obtain ⟨f0, f1, hl, h0, h1⟩ := list2 so_fields
  simp only [Prod.mk.injEq] at h1
  obtain ⟨n1, t1, o1⟩ := h1
  have hf : (Tryd.prog.fieldsOf 27)[1]? = some f1 := by rw [← Array.getElem?_toList, hl]; rfl
  have hp := part_st w s
  rw [← t1, ← o1] at hp
  simp [Instr.field, run_underlying so_under, hf, asAgg]
  exact hp
theorem quiet_fieldStQ {w : World} {o : Oper} {a a' : Act} {K : Act → Prop} (x : Operand) (ho : o.op = .field 27 x 1) {s : So} (hx : a.eval x = .agg (soA s))
    (ha : a.put o.dst (.agg (stA s.st)) = a') (hk : K a') : o.quiet Tryd.prog a (fun w' => ∃ y : BelT w, w' = y.at_) K := by
  subst ha
  refine ⟨_, ?_, hk⟩
  rintro _ ⟨y, rfl⟩
  unfold Oper.quietAt execOp
  simp only [ho, hx, Sem.run_bind, run_fieldSt, Result.andThen_ok]
  exact ⟨rfl, rfl⟩
/-- the items so far, as cells. -/
def itC (st : List Bool) (j : Nat) : List Value := ((itmsT st).take j).map stv ++ List.replicate (4 - j) (.string ⟨#[]⟩)
theorem itms_len (st : List Bool) (h : st.length = 4) : (itmsT st).length = 4 := by unfold itmsT; rw [List.length_mapIdx, h]
theorem itC_at (st : List Bool) (h : st.length = 4) (j : Nat) (hj : j < 4) : (itC st j).toArray[j]? = some (.string ⟨#[]⟩) := by
  obtain ⟨m, hm⟩ : ∃ m, 4 - j = m + 1 := ⟨3 - j, by omega⟩
  have hl : (((itmsT st).take j).map stv).length = j := by rw [List.length_map, List.length_take, itms_len st h]; omega
  unfold itC
  rw [List.getElem?_toArray, List.getElem?_append_right (by omega), hl, Nat.sub_self, hm]
  rfl
theorem itC_set (st : List Bool) (h : st.length = 4) (j : Nat) (hj : j < 4) : (itC st j).toArray.setIfInBounds j (stv (itmT j (st[j]'(by omega)))) = (itC st (j + 1)).toArray := by
  obtain ⟨m, hm⟩ : ∃ m, 4 - j = m + 1 := ⟨3 - j, by omega⟩
  have hl : (((itmsT st).take j).map stv).length = j := by rw [List.length_map, List.length_take, itms_len st h]; omega
  have hi : j < (itmsT st).length := by rw [itms_len st h]; exact hj
  have he : (itmsT st)[j] = itmT j (st[j]'(by omega)) := by simp only [itmsT, List.getElem_mapIdx]
  unfold itC
  rw [List.setIfInBounds_toArray, List.set_append_right _ _ (by omega), hl, Nat.sub_self, hm, List.replicate_succ, List.set_cons_zero, List.take_succ_eq_append_getElem hi, he, List.map_append, show 4 - (j + 1) = m by omega]
  simp
theorem itC_all (st : List Bool) (h : st.length = 4) : itC st 4 = (itmsT st).map stv := by
  unfold itC
  rw [List.take_of_length_le (by rw [itms_len st h]; exact Nat.le_refl _)]
  simp
theorem itC_two (st : List Bool) (j : Nat) (x y : Value) : ((itC st j).toArray.setIfInBounds j x).setIfInBounds j y = (itC st j).toArray.setIfInBounds j y := by
  rw [List.setIfInBounds_toArray, List.setIfInBounds_toArray, List.setIfInBounds_toArray, List.set_set]
theorem stat_len (n : Nat) : (statP (n : Int)).length ≤ 8 := by
  unfold statP
  split
  · decide
  · split
    · decide
    · split <;> decide
set_option maxRecDepth 100000 in
set_option maxHeartbeats 4000000 in
theorem nstext_any (L : List So) (v : Value) (w : World) (hs : Sl w 5 v L.length (L.flatMap soL)) (hl : L.length ≤ 20) :
    Calls Tryd.prog 12 #[v] w (StrPost' w (txtT L)) := by
  obtain ⟨A, c, rfl, hc⟩ := hs.any
  have Hs := Lib.hid hs
  clear hs
  go_enter Tryd.func12, Tryd.ntmps12
  go_wp2_with (first
    | ((with_reducible show wpList _ _ _ (⟨some 8, _, _, _, _, _⟩ :: _) _ _); refine wpList_lit (o := ⟨some 8, _, _, _, _, _⟩) rfl _ _ rfl elt_strs [stv hosT] rfl (by decide) (by decide) (fun v hv => by rw [List.mem_singleton.1 hv]; rfl) rfl ?_; intro w1 hB1 hx1 hb1 hs1; clear hB1 hs1))
  obtain ⟨b0, hb0⟩ : ∃ b0, b0 = w.heap.size := ⟨_, rfl⟩
  rw [← hb0] at hx1 ⊢
  have Hb1 := Lib.hid hb1
  have Hb0 := Lib.hid hb0
  have Hx1 : Hid (w1.ownsRow b0 9 1 (.slice (some ⟨b0, 0, none⟩) 1 1) (hosT :: (L.take 0).flatMap wrdT).length ((hosT :: (L.take 0).flatMap wrdT).map stv)) := Lib.hid hx1
  clear hx1 hb1 hb0
  go_loopw [3, 5, 6, 7, 11] (fun pv _ _ _ iv wr => ∃ k : Nat, k ≤ L.length ∧ iv = .int .i64 k ∧ wr.ownsRow b0 9 1 pv (hosT :: (L.take k).flatMap wrdT).length ((hosT :: (L.take k).flatMap wrdT).map stv) ∧ Below w.heap.size w wr) (fun _ _ _ _ iv _ => L.length - (intOf iv).toNat)
  case atStart => exact ⟨0, Nat.zero_le _, rfl, Hx1.out, Hb1.out⟩
  case round =>
    obtain ⟨k, hk, rfl, hown, hbel⟩ := hrel
    have hlen1 : (hosT :: (L.take k).flatMap wrdT).length ≤ 41 := by
      have := wrd_len (L.take k)
      rw [List.length_take] at this
      rw [List.length_cons]
      omega
    by_cases hlt : k < L.length
    · have hltI : (k : Int) < (L.length : Int) := by omega
      have hk0 : (0 : Int) ≤ (k : Int) := by omega
      obtain ⟨b, off, c', hv, hc', hbl, hcell⟩ := Hs.out.pos (by omega)
      injection hv with hv1 _ hv2
      subst hv1 hv2
      have hR := range_of soL_len hcell hlt
      have HR : wr.rangeAt b (off + k * 5) (soL L[k]) := fun j u hu => ((hbel.cell (p := ⟨b, off + k * 5 + j, none⟩) hbl).trans (hR j u hu))
      have Hnx := Lib.hid (wrd_take hlt)
      clear hR hcell
      generalize L[k] = s at *
      generalize hP : hosT :: (L.take k).flatMap wrdT = P at *
      obtain ⟨pa, pc, rfl⟩ := own_any hown
      have Hown := Lib.hid hown
      have Hbel := Lib.hid hbel
      have hszw : b0 ≤ wr.heap.size := by have h1 := Hb0.out; have h2 := hbel.size; omega
      clear hown hbel hP
      go_upto_region 6 with (first
        | ((with_reducible show wpList _ _ _ (⟨some 14, _, _, _, _, _⟩ :: _) _ _); refine wpList_loadSoM (o := ⟨some 14, _, _, _, _, _⟩) rfl _ rfl rfl HR ?_)
        | ((with_reducible show wpList _ _ _ (⟨some 5, _, _, _, _, _⟩ :: _) _ _); refine wpList_allocSo (o := ⟨some 5, _, _, _, _, _⟩) rfl rfl ?_; intro g5 w2 hg5 hB5 hb2 hs2; have Hg5 := Lib.hid hg5; clear hs2 hg5)
        | ((with_reducible refine wpList_storeSo (o := ⟨none, _, _, _, _, _⟩) rfl (.tmp 5) _ rfl rfl rfl hB5 ?_); intro w3 hB3 hS3; have hb3 := hb2.trans (hS3.below (by have := Hg5.out; omega)); have c0 : w3.cell? ⟨g5, 0, none⟩ = some (.int .i64 s.k) := hB3.cell 0; have HB3 := Lib.hid hB3; have Hb3 := Lib.hid hb3; clear hB3 hb3 hS3 hb2 hB5 HR)
        | (go_at_call 42; refine (word_any _ _).mono ?_; rintro e w4 ⟨rfl, hw4⟩; subst hw4; have hown3 := own_below Hown.out Hb3.out; refine holdL ?_))
      refine Lib.hid ?_
      have hwl := word_len s.k
      go_upto_region 6 with (first
        | (at_builtin; refine wpList_appLit rfl _ _ _ rfl elt_strs (n := P.length) rfl hown3 [stv (wordP s.k)] (m := 1) rfl rfl (by simp [Value.oneCell', stv]) (Nat.le_trans hszw Hb3.out.size) (by omega) (by omega) ?_; intro v5 w5 ho5 hb5 hg5))
      obtain ⟨pa5, pc5, rfl⟩ := own_any ho5
      have B5 := HB3.out.grown hg5 (own_neBk hown3 HB3.out (by decide))
      have Ho5 := Lib.hid ho5
      have hb05 : Below w.heap.size w w5 := (Hbel.out.trans (Hb3.out.mono Hbel.out.size)).trans (by rw [← Hb0.out]; exact hb5)
      have Hb05 := Lib.hid hb05
      have hs35 : w3.heap.size ≤ w5.heap.size := hb5.size
      have hr0 : w5.rangeAt g5 1 (s.st.map Value.bool) := fun j u hu => by
        have := B5.range_so (j + 1) u (by unfold soL; rw [List.getElem?_cons_succ]; exact hu)
        rwa [show 0 + (j + 1) = 1 + j by omega] at this
      have c5 : w5.cell? ⟨g5, 0, none⟩ = some (.int .i64 s.k) := B5.cell 0
      have HB5 := Lib.hid B5
      have Hst := Lib.hid s.ok
      have HS : ∀ (x : BelT w5), Calls Tryd.prog 43 #[.int .i64 s.k] x.at_ fun e w' => e = .returned (.agg (soA (soK s.k))) ∧ Below x.at_.heap.size x.at_ w' := fun x => source_any s.k _
      clear c0 hown3 hb5 hg5 ho5 B5 hb05 HB3
      obtain ⟨r, hr⟩ : ∃ r, (s.st == [true, false, false, false]) = r := ⟨_, rfl⟩
      have Hr := Lib.hid hr
      clear hr
      refine wp_region_bel (by kernel_rfl) (by kernel_rfl) ?_
      repeat (first
        | go_big_quiet_skip
        | (go_big_quiet_want; first
            | ((with_reducible show (⟨some 22, _, _, _, _, _⟩ : Oper).quiet _ _ _ _); refine quiet_loadStQ (o := ⟨some 22, _, _, _, _, _⟩) _ rfl rfl Hst.out hr0 (by simp only [Act.put, List.setIfInBounds_toArray, List.set_cons_succ, List.set_cons_zero]; exact rfl) ?_; go_big_quiet_on)
            | ((with_reducible show (⟨some 24, _, _, _, _, _⟩ : Oper).quiet _ _ _ _); refine quiet_loadC (o := ⟨some 24, _, _, _, _, _⟩) _ _ rfl rfl c5 Tryd.underlying3 rfl (by simp only [Act.put, List.setIfInBounds_toArray, List.set_cons_succ, List.set_cons_zero]; exact rfl) ?_; go_big_quiet_on)
            | ((with_reducible show (⟨some 26, _, _, _, _, _⟩ : Oper).quiet _ _ _ _); refine quiet_fieldStQ (o := ⟨some 26, _, _, _, _, _⟩) _ rfl rfl (by simp only [Act.put, List.setIfInBounds_toArray, List.set_cons_succ, List.set_cons_zero]; exact rfl) ?_; go_big_quiet_on)
            | ((with_reducible show (⟨some 27, _, _, _, _, _⟩ : Oper).quiet _ _ _ _); refine quiet_eqlStQ (o := ⟨some 27, _, _, _, _, _⟩) _ _ rfl Hst.out (soK s.k).ok rfl rfl Hr.out (by simp only [Act.put, List.setIfInBounds_toArray, List.set_cons_succ, List.set_cons_zero]; exact rfl) ?_; go_big_quiet_on)
            | (go_big_quiet_op; first | go_big_quiet_on | go_big_quiet_call ((refine bel_call (HS _))))))
      refine wpQuiet_nil ?_
      rintro _ ⟨x, rfl⟩
      have Hx := Lib.hid x.bel
      have ho6 := own_below Ho5.out x.bel
      have hb06 : Below w.heap.size w x.at_ := Hb05.out.trans (x.bel.mono Hb05.out.size)
      have B6 := HB5.out.bel x.bel
      have hszx : b0 ≤ x.at_.heap.size := by have h1 := Hb0.out; have h2 := hb06.size; omega
      generalize x.at_ = w6 at *
      have Ho6 := Lib.hid ho6
      have Hb06 := Lib.hid hb06
      have HB6 := Lib.hid B6
      clear ho6 hb06 B6 hr0 c5 HS HB5 Hb05
      cases r with
      | true =>
        have hE : wrdT s = [wordP s.k] := by unfold wrdT; rw [if_pos (by simpa using Hr.out)]
        rw [hE] at Hnx
        clear hE
        go_wp2
        go_roundw
        case rel => exact ⟨k + 1, by omega, by go_num, by rw [Hnx.out, List.length_append, List.map_append]; exact Ho6.out, Hb06.out⟩
        case measure => (simp [intOf]) <;> omega
      | false =>
        have hE : wrdT s = [wordP s.k, 91 :: (cluT s.st ++ [93])] := by unfold wrdT; rw [if_neg (by have := Hr.out; simpa using this)]
        rw [hE] at Hnx
        clear hE
        obtain ⟨wo, rfl⟩ : ∃ wo, wo = w6 := ⟨_, rfl⟩
        obtain ⟨g6, hg6⟩ : ∃ g, g = wo.heap.size := ⟨_, rfl⟩
        have Hg6 := Lib.hid hg6
        clear hg6
        go_wp2_with (first
          | ((with_reducible show wpList _ _ _ (⟨some 28, _, _, _, _, _⟩ :: _) _ _); refine wpList_makeS (o := ⟨some 28, _, _, _, _, _⟩) rfl _ _ _ rfl elt_strs.under str_info rfl 4 rfl rfl (by omega) (by omega) ?_; rw [← Hg6.out]; intro w7 hB7 hb7 hs7; clear hs7))
        have hB7' : Bk w7 g6 9 (itC s.st 0).toArray := hB7
        have hb7' : Below wo.heap.size wo w7 := by rw [← Hg6.out]; exact hb7
        have Hb7 := Lib.hid hb7'
        have HB57 := Lib.hid (HB6.out.bel hb7')
        have h56 : g5 < g6 := by have := HB6.out.lt; have := Hg6.out; omega
        have HB7 := Lib.hid hB7'
        clear hB7 hB7' hb7 hb7'
        go_loopw [7, 31] (fun _ jv wv => ∃ j : Nat, j ≤ 4 ∧ jv = .int .i64 j ∧ Bk wv g6 9 (itC s.st j).toArray ∧ Stays g6 w7 wv) (fun _ jv _ => 4 - (intOf jv).toNat)
        case atStart => exact ⟨0, by omega, rfl, HB7.out, ⟨rfl, rfl, rfl, rfl, fun _ _ => rfl⟩⟩
        case round =>
          obtain ⟨j, hj, rfl, hBj, hSj⟩ := hrel
          by_cases hj4 : j < 4
          · have hjI : (j : Int) < 4 := by omega
            have hj0 : (0 : Int) ≤ (j : Int) := by omega
            have hsl := stat_len j
            have cj := (hBj.cell j).trans (itC_at s.st Hst.out j hj4)
            have fj := hBj.free j
            have hset := itC_set s.st Hst.out j hj4
            have hj5 : j < s.st.length := by rw [Hst.out]; exact hj4
            obtain ⟨y, hy⟩ : ∃ y, s.st[j] = y := ⟨_, rfl⟩
            rw [hy] at hset
            have hS1 := Stays.cell wr g6 j (.string ⟨(statP (j : Int) ++ [61, 99, 111, 110, 116, 105, 110, 117, 101]).toArray⟩)
            have B1 := hBj.set_ j (.string ⟨(statP (j : Int) ++ [61, 99, 111, 110, 116, 105, 110, 117, 101]).toArray⟩)
            have c43 : (wr.setCell ⟨g6, j, none⟩ (.string ⟨(statP (j : Int) ++ [61, 99, 111, 110, 116, 105, 110, 117, 101]).toArray⟩)).cell? ⟨g5, 1 + j, none⟩ = some (.bool y) := by
              have h1 := (HB57.out.stays (hSj.trans hS1) (by omega)).range_so (j + 1) (.bool y) (by unfold soL; rw [List.getElem?_cons_succ, List.getElem?_map, List.getElem?_eq_getElem hj5, hy]; rfl)
              rwa [show 0 + (j + 1) = 1 + j by omega] at h1
            have HBj := Lib.hid hBj
            have HSj := Lib.hid hSj
            have HS1 := Lib.hid hS1
            have HB1 := Lib.hid B1
            have Hset := Lib.hid hset
            have cj1 := (B1.cell j).trans (by rw [Array.getElem?_setIfInBounds_self_of_lt (by have h := itC_at s.st Hst.out j hj4; exact (Array.getElem?_eq_some_iff.1 h).1)])
            have fj1 := B1.free j
            have hst := status_any j hj4
            clear hBj hSj hS1 B1 hset hy
            cases y with
            | false =>
              go_wp2_with (first
                | (go_at_call 44; refine (hst _).mono ?_; rintro e w8 ⟨rfl, hw8⟩; subst hw8))
              go_roundw
              case rel => exact ⟨j + 1, by omega, by go_num, by rw [← Hset.out]; exact HB1.out, HSj.out.trans HS1.out⟩
              case measure => (simp [intOf]) <;> omega
            | true =>
              have hS2 := Stays.cell (wr.setCell ⟨g6, j, none⟩ (.string ⟨(statP (j : Int) ++ [61, 99, 111, 110, 116, 105, 110, 117, 101]).toArray⟩)) g6 j (.string ⟨(statP (j : Int) ++ [61, 114, 101, 116, 117, 114, 110]).toArray⟩)
              have B2 := HB1.out.set_ j (.string ⟨(statP (j : Int) ++ [61, 114, 101, 116, 117, 114, 110]).toArray⟩)
              rw [itC_two] at B2
              have HS2 := Lib.hid hS2
              have HB2 := Lib.hid B2
              clear hS2 B2
              go_wp2_with (first
                | (go_at_call 44; refine (hst _).mono ?_; rintro e w8 ⟨rfl, hw8⟩; subst hw8))
              go_roundw
              case rel => exact ⟨j + 1, by omega, by go_num, by rw [← Hset.out]; exact HB2.out, (HSj.out.trans HS1.out).trans HS2.out⟩
              case measure => (simp [intOf]) <;> omega
          · obtain rfl : j = 4 := by omega
            have hjI : ¬ ((4 : Nat) : Int) < 4 := by omega
            have hcl := clu_len s.st Hst.out
            have hIt : Sl wr 1 (.slice (some ⟨g6, 0, none⟩) 4 4) (itmsT s.st).length ((itmsT s.st).map stv) := by
              have h := hBj
              rw [itC_all s.st Hst.out] at h
              have h2 := Bk.sl (size := 1) (n := 4) h (by rw [List.length_map, itms_len s.st Hst.out]) 4 (Nat.le_refl _)
              rw [itms_len s.st Hst.out]
              exact h2
            have HX := Lib.hid (join_any [32] (itmsT s.st) _ wr hIt (by rw [itms_len s.st Hst.out]; omega) (by rw [show joi [32] (itmsT s.st) = cluT s.st from rfl]; omega))
            rw [show joi [32] (itmsT s.st) = cluT s.st from rfl] at HX
            have hg06 : b0 ≤ g6 := by have := Hg6.out; omega
            have hb8 : Below w.heap.size w wr := (Hb06.out.trans (Hb7.out.mono Hb06.out.size)).trans (hSj.below (by have := Hb0.out; omega))
            have o8 : wr.ownsRow b0 9 1 (.slice pa5 (P.length + 1) pc5) (P.length + 1) (P.map stv ++ [stv (wordP s.k)]) := (own_below Ho6.out Hb7.out).kept (row := some g6) ⟨hSj.os, hSj.tape, hSj.output, Nat.le_of_eq hSj.size.symm, fun k _ hne => hSj.block k (fun e => hne (by rw [e]))⟩ (by
              cases hv : (Value.slice pa5 (P.length + 1) pc5).ownBlock with
              | none => exact .inl rfl
              | some q => exact .inr (fun e => by injection e with e; have h1 := (Ho6.out.lt q hv).2; have h2 := Hg6.out; omega))
            have Ho8 := Lib.hid o8
            have Hb8 := Lib.hid hb8
            clear o8 hb8 hIt hBj hSj
            generalize cluT s.st = C at *
            go_wp2_with (first
              | (go_at_call 45; refine HX.out.mono ?_; rintro e w9 ⟨rfl, hb9⟩; have Hb9 := Lib.hid (Hb8.out.trans (hb9.mono Hb8.out.size)); have o9 := own_below Ho8.out hb9; have hs9 : wr.heap.size ≤ w9.heap.size := hb9.size; clear hb9 HX)
              | (at_builtin; refine wpList_appLit rfl _ _ _ rfl elt_strs (n := P.length + 1) rfl o9 [stv (91 :: (C ++ [93]))] (m := 1) rfl rfl (by simp [Value.oneCell', stv]) (by have h1 := Hb9.out.size; have h2 := Hb0.out; omega) (by omega) (by omega) ?_; intro vA wA hoA hbA hgA))
            go_roundw
            case rel => exact ⟨k + 1, by omega, by go_num, by rw [Hnx.out, List.length_append, List.map_append]; simpa using hoA, Hb9.out.trans (by rw [← Hb0.out]; exact hbA)⟩
            case measure => (simp [intOf]) <;> omega
    · obtain rfl : k = L.length := by omega
      have hltI : ¬ (L.length : Int) < (L.length : Int) := by omega
      rw [List.take_length] at hown hlen1
      have htx : txtT L = joi [32] (hosT :: L.flatMap wrdT) := rfl
      have hjl : (joi [32] (hosT :: L.flatMap wrdT)).length ≤ 1000000000 := by
        rw [← htx, txt_eq, List.length_append]
        have := bod_len L
        rw [show hosT.length = 6 from rfl]
        omega
      have HX := Lib.hid (join_any [32] (hosT :: L.flatMap wrdT) _ wr (Sl.own hown) (by omega) hjl)
      rw [← htx] at HX
      clear htx Hx1
      generalize hosT :: L.flatMap wrdT = P at *
      obtain ⟨pa, pc, rfl⟩ := own_any hown
      have Hbel := Lib.hid hbel
      clear hown hbel hjl
      go_wp2_with (first
        | (go_at_call 45; refine HX.out.mono ?_; rintro e w5 ⟨rfl, hb5⟩; have Hb5 := Lib.hid (Hbel.out.trans (hb5.mono Hbel.out.size)); clear hb5))
      go_ret
      exact ⟨rfl, Hb5.out⟩
end Go.Proofs.YtgebcifkbldfoaaDoor

/- The law's own test of sources (19); what is read of a text that was written. -/
namespace Go.Proofs.YtgebcifkbldfoaaDoor
open Go.RowKit
attribute [local go_sem] ba_get ext_take ext_drop ext_any ba_app

def w19s : List UInt8 := [104, 111, 115, 116, 115, 58, 32, 102, 105, 108, 101, 115, 32, 91, 33, 78, 79, 84, 70, 79, 85, 78, 68, 61, 114, 101, 116, 117, 114, 110, 93, 32, 100, 110, 115]
def w19a : So := ⟨1, [true, false, true, true], rfl⟩
theorem w19_lines : alL true w19s = [(1, [hosT, [102, 105, 108, 101, 115], [91, 33, 78, 79, 84, 70, 79, 85, 78, 68, 61, 114, 101, 116, 117, 114, 110, 93], [100, 110, 115]])] := by decide +kernel
theorem w19_parse : nssP w19s = [w19a, soK 2] := by decide +kernel
theorem w19_ok : ∀ c ∈ alL true w19s, Asc (joi [32] c.2.tail) ∧ (joi [32] c.2.tail).length ≤ 1000000 := by
  rw [w19_lines]
  intro c hc
  rw [List.mem_singleton.1 hc]
  refine ⟨?_, by decide⟩
  unfold Asc
  decide
theorem txt_ok (L : List So) (h8 : L.length ≤ 8) : ∀ c ∈ alL true (txtT L), Asc (joi [32] c.2.tail) ∧ (joi [32] c.2.tail).length ≤ 1000000 := by
  rw [txt_eq, alL_txt L h8]
  intro c hc
  rw [List.mem_singleton.1 hc]
  dsimp only [List.tail_cons]
  have hb := bod_by L
  have hl := bod_len L
  rw [bodT_bT] at hb hl
  by_cases h0 : L.flatMap fldT = []
  · rw [h0]
    exact ⟨fun b h => (by cases h), by decide⟩
  · rw [← joi_bT _ h0] at hb hl
    refine ⟨fun b h => (hb b (by simp [h])).1, ?_⟩
    rw [List.length_cons] at hl
    omega
theorem txt_len (L : List So) : (txtT L).length ≤ 6 + 90 * L.length := by
  rw [txt_eq, List.length_append]
  have := bod_len L
  rw [show hosT.length = 6 from rfl]
  omega
set_option maxRecDepth 100000 in
set_option maxHeartbeats 4000000 in
theorem works19_any (w : World) : Calls Tryd.prog 11 #[] w (Good w) := by
  have HP := Lib.hid (nssparse_any w19s w (by decide) w19_ok)
  rw [w19_parse] at HP
  go_enter Tryd.func11, Tryd.ntmps11
  go_wp2_with (first
    | (go_at_call 15; refine HP.out.mono ?_; rintro e w1 ⟨v1, rfl, ho1, hb1⟩; obtain ⟨A1, c1, rfl⟩ := own_any ho1; have Ho1 := Lib.hid ho1; have Hb1 := Lib.hid hb1; clear ho1 hb1; refine holdL ?_))
  refine Lib.hid ?_
  go_wp2_with (first
    | ((with_reducible show wpList _ _ _ (⟨some 4, _, _, _, _, _⟩ :: _) _ _); refine wpList_buildL (o := ⟨some 4, _, _, _, _, _⟩) rfl _ [(0, .const (.bool true)), (1, .const (.bool false)), (2, .const (.bool true)), (3, .const (.bool true))] rfl (built_st true false true true) rfl ?_)
    | ((with_reducible show wpList _ _ _ (⟨some 5, _, _, _, _, _⟩ :: _) _ _); refine wpList_buildL (o := ⟨some 5, _, _, _, _, _⟩) rfl _ [(0, .const (.int .i64 1)), (1, .tmp 4)] rfl (built_soS 1 true false true true) rfl ?_)
    | ((with_reducible show wpList _ _ _ (⟨some 6, _, _, _, _, _⟩ :: _) _ _); refine wpList_buildL (o := ⟨some 6, _, _, _, _, _⟩) rfl _ [(0, .const (.bool true)), (1, .const (.bool false)), (2, .const (.bool false)), (3, .const (.bool false))] rfl (built_st true false false false) rfl ?_)
    | ((with_reducible show wpList _ _ _ (⟨some 7, _, _, _, _, _⟩ :: _) _ _); refine wpList_buildL (o := ⟨some 7, _, _, _, _, _⟩) rfl _ [(0, .const (.int .i64 2)), (1, .tmp 6)] rfl (built_soS 2 true false false false) rfl ?_)
    | ((with_reducible show wpList _ _ _ (⟨some 8, _, _, _, _, _⟩ :: _) _ _); refine wpList_lit (o := ⟨some 8, _, _, _, _, _⟩) rfl _ _ rfl elt_so [.agg (soA w19a), .agg (soA (soK 2))] rfl (by decide) (by decide) (fun v hv => by simp at hv; rcases hv with rfl | rfl <;> rfl) rfl ?_; intro w2 hB2 hx2 hb2 hs2; have hsl2 : Sl w2 5 _ [w19a, soK 2].length ([w19a, soK 2].flatMap soL) := Sl.own hx2; have Hb2 := Lib.hid hb2; clear hB2 hx2 hs2 hb2)
    | (go_at_call 14; refine (sameSos_any [w19a, soK 2] [w19a, soK 2] _ _ _ ((Sl.own Ho1.out).below Hb2.out) hsl2 (by decide) (by decide)).mono ?_; rintro e w3 ⟨rfl, hb3⟩; have Hb3 := Lib.hid (Hb1.out.trans ((bel_tr Hb2.out hb3).mono Hb1.out.size)); clear hb3 Ho1 hsl2; refine holdL ?_))
  refine Lib.hid ?_
  go_wp2_with (first
    | (go_at_call 16; refine (nsplain_any _).mono ?_; rintro e w4 ⟨v4, rfl, ho4, hb4⟩; obtain ⟨A4, c4, rfl⟩ := own_any ho4; have Ho4 := Lib.hid ho4; have Hb4 := Lib.hid hb4; clear ho4 hb4)
    | (go_at_call 41; refine (rnsplain_any _).mono ?_; rintro e w5 ⟨v5, rfl, ho5, hb5⟩; obtain ⟨A5, c5, rfl⟩ := own_any ho5; have hsl5 := Sl.own ho5; have Hb5 := Lib.hid hb5; clear ho5 hb5)
    | (go_at_call 14; refine (sameSos_any plainNs plainNs _ _ _ ((Sl.own Ho4.out).below Hb5.out) hsl5 (by decide) (by decide)).mono ?_; rintro e w6 ⟨rfl, hb6⟩; have Hb6 := Lib.hid (bel_tr (bel_tr Hb4.out Hb5.out) hb6); clear hb6))
  go_ret
  exact ⟨rfl, Hb3.out.trans (Hb6.out.mono Hb3.out.size)⟩
end Go.Proofs.YtgebcifkbldfoaaDoor

/- NssBack: the walk. -/
namespace Go.Proofs.YtgebcifkbldfoaaDoor
open Go.RowKit
attribute [local go_sem] ba_get ext_take ext_drop ext_any ba_app

def SosArg (w : World) (v : Value) (L : List So) : Prop := Sl w 5 v L.length (L.flatMap soL)
set_option maxRecDepth 100000 in
set_option maxHeartbeats 4000000 in
theorem nssBack_walk (w : World) (L : List So) (v : Value) (hs : SosArg w v L) : Calls Tryd.prog 3 #[v] w (Good w) := by
  obtain ⟨A, c, rfl, hc⟩ := hs.any
  have Hs : Hid (Sl w 5 (.slice A L.length c) L.length (L.flatMap soL)) := Lib.hid hs
  clear hs
  have HW := Lib.hid works19_any
  by_cases hl : 20 < L.length
  · have hlI : (20 : Int) < (L.length : Int) := by omega
    clear hl
    go_enter Tryd.func3, Tryd.ntmps3
    go_wp2_with (first
      | (go_at_call 11; refine (HW.out _).mono ?_; rintro e w1 ⟨rfl, hb1⟩; have Hb1 := Lib.hid hb1; clear hb1; refine holdL ?_))
    refine Lib.hid ?_
    go_wp2_with (first
      | (go_at_call 11; refine (HW.out _).mono ?_; rintro e w2 ⟨rfl, hb2⟩; have Hb2 := Lib.hid (bel_tr Hb1.out hb2); clear hb2))
    go_ret
    exact ⟨rfl, Hb2.out⟩
  · have hlI : ¬ (20 : Int) < (L.length : Int) := by omega
    have hl20 : L.length ≤ 20 := by omega
    have HN := Lib.hid (fun (w' : World) (hb : Below w.heap.size w w') => nstext_any L _ w' (Hs.out.below hb) hl20)
    have HR := Lib.hid (fun (w' : World) (hb : Below w.heap.size w w') => rnstext_any L _ w' (Hs.out.below hb) hl20)
    rw [← txt_eq] at HR
    have htl := txt_len L
    have HP := Lib.hid (fun (h8 : L.length ≤ 8) (w' : World) => nssparse_any (txtT L) w' (by omega) (txt_ok L h8))
    have HQ := Lib.hid (nssP_txt L)
    clear hl
    go_enter Tryd.func3, Tryd.ntmps3
    generalize txtT L = T at *
    go_wp2_with (first
      | (go_at_call 11; refine (HW.out _).mono ?_; rintro e w1 ⟨rfl, hb1⟩; have Hb1 := Lib.hid hb1; clear hb1 HW; refine holdL ?_))
    refine Lib.hid ?_
    go_wp2_with (first
      | (go_at_call 12; refine (HN.out _ Hb1.out).mono ?_; rintro e w2 ⟨rfl, hb2⟩; have Hb2 := Lib.hid (bel_tr Hb1.out hb2); clear hb2)
      | (go_at_call 13; refine (HR.out _ Hb2.out).mono ?_; rintro e w3 ⟨rfl, hb3⟩; have Hb3 := Lib.hid (bel_tr Hb2.out hb3); clear hb3))
    clear HN HR
    go_loopw [4] (fun iv wr => ∃ k : Nat, k ≤ L.length ∧ iv = .int .i64 k ∧ (∀ s ∈ L.take k, 1 ≤ s.k ∧ s.k ≤ 3) ∧ wr = w3) (fun iv _ => L.length - (intOf iv).toNat)
    case atStart => exact ⟨0, Nat.zero_le _, rfl, fun s h => (by cases h), rfl⟩
    case round =>
      obtain ⟨k, hk, rfl, hok, rfl⟩ := hrel
      have Hok := Lib.hid hok
      clear hok
      by_cases hlt : k < L.length
      · have hltI : (k : Int) < (L.length : Int) := by omega
        have hk0 : (0 : Int) ≤ (k : Int) := by omega
        obtain ⟨b, off, c', hv, hc', hbl, hcell⟩ := Hs.out.pos (by omega)
        injection hv with hv1 _ hv2
        subst hv1 hv2
        have hR := range_of soL_len hcell hlt
        have c0 : wr.cell? ⟨b, off + k * 5, none⟩ = some (.int .i64 L[k].k) := by
          have h := (Hb3.out.cell (p := ⟨b, off + k * 5 + 0, none⟩) hbl).trans (hR 0 _ (soL_0 L[k]))
          rwa [Nat.add_zero] at h
        have Hnx : Hid (1 ≤ L[k].k ∧ L[k].k ≤ 3 → ∀ s ∈ L.take (k + 1), 1 ≤ s.k ∧ s.k ≤ 3) := Lib.hid (fun h s hs => by
          rw [List.take_succ_eq_append_getElem hlt] at hs
          rcases List.mem_append.1 hs with hs | hs
          · exact Hok.out s hs
          · rw [List.mem_singleton.1 hs]; exact h)
        clear hR hcell
        generalize L[k] = s at *
        by_cases h1 : s.k < 1
        · clear Hnx
          go_wp2
          go_ret
          exact ⟨rfl, Hb3.out⟩
        · by_cases h3 : 3 < s.k
          · clear Hnx
            go_wp2
            go_ret
            exact ⟨rfl, Hb3.out⟩
          · have h1' : ¬ s.k < 1 := h1
            go_wp2
            go_roundw
            case rel => exact ⟨k + 1, by omega, by go_num, Hnx.out ⟨by omega, by omega⟩, trivial⟩
            case measure => (simp [intOf]) <;> omega
      · obtain rfl : k = L.length := by omega
        have hltI : ¬ (L.length : Int) < (L.length : Int) := by omega
        have hok := Hok.out
        rw [List.take_length] at hok
        by_cases h0 : L = []
        · subst h0
          have HP2 := Lib.hid (HP.out (by decide))
          have hq := HQ.out hok (by decide)
          rw [if_pos rfl] at hq
          rw [hq] at HP2
          clear HP HQ hq hok
          go_wp2_with (first
            | (go_at_call 15; refine (HP2.out _).mono ?_; rintro e w4 ⟨v4, rfl, ho4, hb4⟩; obtain ⟨A4, c4, rfl⟩ := own_any ho4; have Ho4 := Lib.hid ho4; have Hb4 := Lib.hid (bel_tr Hb3.out hb4); clear ho4 hb4)
            | (go_at_call 16; refine (nsplain_any _).mono ?_; rintro e w5 ⟨v5, rfl, ho5, hb5⟩; obtain ⟨A5, c5, rfl⟩ := own_any ho5; have Ho5 := Lib.hid ho5; have Hb5 := Lib.hid hb5; clear ho5 hb5)
            | (go_at_call 14; refine (sameSos_any plainNs plainNs _ _ _ ((Sl.own Ho4.out).below Hb5.out) (Sl.own Ho5.out) (by decide) (by decide)).mono ?_; rintro e w6 ⟨rfl, hb6⟩; have Hb6 := Lib.hid (bel_tr (bel_tr Hb4.out Hb5.out) hb6); clear hb6))
          go_ret
          exact ⟨rfl, Hb6.out⟩
        · have hz : ((L.length : Int) == 0) = false := by
            rw [beq_eq_false_iff_ne]
            have := List.length_pos_iff.2 h0
            omega
          by_cases h8 : 8 < L.length
          · have h8I : (8 : Int) < (L.length : Int) := by omega
            clear HP HQ hok h8 h0
            go_wp2
            go_ret
            exact ⟨rfl, Hb3.out⟩
          · have h8I : ¬ (8 : Int) < (L.length : Int) := by omega
            have HP2 := Lib.hid (HP.out (by omega))
            have hq := HQ.out hok (by omega)
            rw [if_neg h0] at hq
            rw [hq] at HP2
            clear HP HQ hq hok h0 h8
            go_wp2_with (first
              | (go_at_call 15; refine (HP2.out _).mono ?_; rintro e w4 ⟨v4, rfl, ho4, hb4⟩; obtain ⟨A4, c4, rfl⟩ := own_any ho4; have Ho4 := Lib.hid ho4; have Hb4 := Lib.hid (bel_tr Hb3.out hb4); clear ho4 hb4)
              | (go_at_call 14; refine (sameSos_any L L _ _ _ (Sl.own Ho4.out) (Hs.out.below Hb4.out) (by omega) (by omega)).mono ?_; rintro e w6 ⟨rfl, hb6⟩; have Hb6 := Lib.hid (bel_tr Hb4.out hb6); clear hb6))
            go_ret
            exact ⟨retb (by simp), Hb6.out⟩
end Go.Proofs.YtgebcifkbldfoaaDoor
