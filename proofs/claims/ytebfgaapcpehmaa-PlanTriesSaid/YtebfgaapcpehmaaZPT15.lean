/- Contracts and plain lemmas of our own, merged. -/
import Derived.Test.YtebfgaapcpehmaaZPT11
import Derived.Test.YtebfgaapcpehmaaZPT14
import Derived.IntWalk
/- The walk of PlanTries. -/
namespace Go.Proofs.Ytebfgaapcpehmaa
open Go.RowKit

theorem wpOp_callM {P : Program} {ops : Array Oper} {Q : Exit → Act → World → Prop} {i : Nat} {o : Oper} {K : Act → World → Prop} {a : Act} {w : World} {f : FuncId} {args : Array Value} {Post : Ending → World → Prop} (hi : ops[i]? = some o)
    (hw : Region.wanted o (yielded ops a.tmps) = true) (hrun : (execOp a.eval o).run P w = .ok (.enter f args) w) (hc : Calls P f args w Post)
    (h : ∀ e w', Post e w' → ∃ v, e = .returned v ∧ K (a.put o.dst v) w') : wpOp P ops Q i K a w := by
  unfold wpOp
  simp only [hi]
  rw [if_pos hw]
  refine .inl ?_
  unfold Oper.wp
  rw [hrun, Oper.upon_enter]
  refine hc.mono fun e w'' hh => ?_
  obtain ⟨v, rfl, hk⟩ := h e w'' hh
  exact hk
theorem yieldsIf_loadRs {ops : Array Oper} {S : World → Prop} {o : Oper} {a : Act} (hw : Region.wanted o (yielded ops a.tmps) = true) (x : Operand) (ho : o.op = .load 26 x) {g : Nat} (hx : a.eval x = .pointer (some ⟨g, 0, none⟩)) {vs vn vp : Value} {R : Rs}
    (h : ∀ w', S w' → w'.rangeAt g 0 (rsL vs vn vp R)) : YieldsIf Try.prog ops S o (.agg (rsL vs vn vp R).toArray) a := yieldsIf_load_mid hw _ _ ho _ _ hx (rsL vs vn vp R) _ h rs_under rfl rs_size
theorem yieldsIf_neqAd {ops : Array Oper} {S : World → Prop} {o : Oper} {a : Act} (hw : Region.wanted o (yielded ops a.tmps) = true) (x y : Operand) {t : TypeId} (ho : o.op = .binOp .neq 40 x y t) {b c : Ad} (hx : a.eval x = .agg (adA b)) (hy : a.eval y = .agg (adA c)) {r : Bool} (hr : (!decide (b = c)) = r) :
    YieldsIf Try.prog ops S o (.bool r) a := by
  subst hr
  refine .inl ⟨hw, fun w _ => ?_⟩
  unfold execOp
  simp only [ho, hx, hy, Sem.run_bind, run_eqGuard_agg w .neq 40 x y _ _ Try.eqGuardType40, Result.andThen_ok, ad_neq]
  rfl
theorem yieldsIf_fieldTm {ops : Array Oper} {S : World → Prop} {o : Oper} {a : Act} (hw : Region.wanted o (yielded ops a.tmps) = true) {x : Operand} (ho : o.op = .field 26 x 4) {vs vn vp : Value} {R : Rs} (hx : a.eval x = .agg (rsL vs vn vp (heldR R)).toArray) {t : Nat} (ht : heldI R.tm 1 30 = (t : Int)) :
    YieldsIf Try.prog ops S o (.int .i64 (t : Int)) a := by
  rw [← ht]
  exact yieldsIf_fieldOne hw _ _ 4 ho hx rs_under (ty := 3) (off := 4) (by kernel_rfl) Try.underlying3 rfl rfl
set_option maxRecDepth 100000 in
set_option maxHeartbeats 8000000 in
theorem planTries_in (w : World) (vs vn vp : Value) (R : Rs) (h : RsRaw w vs vn vp R) (turn : Int) (hf : fewR R = true) : Calls Try.prog 3 #[.agg (rsL vs vn vp R).toArray, .int .i64 turn] w (Fair w) := by
  have hat := fewR_at h hf
  have H := Lib.hid h
  have Hf := Lib.hid hf
  have Hat := Lib.hid hat
  have Hcf := Lib.hid (built_cf0 vs vn vp R)
  clear hat hf h
  obtain ⟨D, hD⟩ : ∃ D, rotL R turn = D := ⟨_, rfl⟩
  obtain ⟨K, hK⟩ : ∃ K, trN R = K := ⟨_, rfl⟩
  have hK5 : K ≤ 5 := by rw [← hK]; exact (trN_eq R).2.2
  have hD1 : 1 ≤ D.length := by rw [← hD, rotL_len]; exact (srvL_len R.S).1
  have hD3 : D.length ≤ 3 := by rw [← hD, rotL_len]; exact (srvL_len R.S).2
  obtain ⟨T, hT⟩ : ∃ T, trsL D K = T := ⟨_, rfl⟩
  obtain ⟨W, hW⟩ : ∃ W, repL D K = W := ⟨_, rfl⟩
  have hTl : T.length = K * D.length := by rw [← hT]; exact trsL_len D (by omega)
  have hWl : W.length = K * D.length := by rw [← hW]; exact repL_len D K
  have hT15 : T.length ≤ 15 := by
    rw [hTl]
    have : K * D.length ≤ 5 * 3 := Nat.mul_le_mul hK5 hD3
    omega
  have hTW : W.length = T.length := by rw [hTl, hWl]
  have Hof := Lib.hid (fun i (hi : i < T.length) => trs_rep D K (by omega) i (by rw [← hTl]; exact hi))
  rw [hT, hW] at Hof
  have HTr : Hid (trsL (rotL R turn) (trN R) = T) := Lib.hid (by rw [hD, hK, hT])
  have HWr : Hid (repL (rotL R turn) (trN R) = W) := Lib.hid (by rw [hD, hK, hW])
  have HD := Lib.hid hD
  have HTW := Lib.hid hTW
  clear hT hW hTl hWl hD hK hTW
  go_enter Try.func3, Try.ntmps3
  go_wp2_with (first
    | ((with_reducible refine wpList_boxB rfl _ _ rfl rfl ?_); intro g1 w1 hg1 hB1 hb1 hs1; clear hg1 hs1)
    | (refine wpList_loadB (o := ⟨some 9, _, _, _, _, _⟩) rfl _ _ rfl rfl hB1 rs_under rfl rs_size ?_)
    | (refine wpList_buildL (o := ⟨some 10, _, _, _, _, _⟩) rfl _ [(0, .tmp 9)] rfl Hcf.out rfl ?_)
    | (go_at_call 7; refine (rfew21_any vs vn vp R _ (H.out.bel hb1)).mono ?_
       rw [Hf.out]
       rintro e w2 ⟨rfl, hb2⟩
       have hb02 := bel_tr hb1 hb2
       have hB2 := hB1.bel hb2
       clear hB1 hb1 hb2
       refine holdE ?_))
  refine Lib.hid ?_
  go_wp2_with (first
    | (refine wpList_loadB (o := ⟨some 14, _, _, _, _, _⟩) rfl _ _ rfl rfl hB2 rs_under rfl rs_size ?_)
    | (go_at_call 9; refine (ptries_any vs vn vp R turn _ (Hat.out.bel hb02)).mono ?_
       rw [HTr.out]
       rintro e w3 ⟨v3, rfl, ho3, hb3⟩
       obtain ⟨a3, c3, rfl⟩ := own_any ho3
       have hb03 := bel_tr hb02 hb3
       have hB3 := hB2.bel hb3
       have sl3 := Lib.hid (Sl.own ho3)
       clear ho3 hb02 hb3 hB2
       refine holdE ?_))
  refine Lib.hid ?_
  go_wp2_with (first
    | (refine wpList_loadB (o := ⟨some 17, _, _, _, _, _⟩) rfl _ _ rfl rfl hB3 rs_under rfl rs_size ?_)
    | (go_at_call 10; refine (rtries_any vs vn vp R turn _ (Hat.out.bel hb03)).mono ?_
       rw [HWr.out]
       rintro e w4 ⟨v4, rfl, ho4, hb4⟩
       obtain ⟨a4, c4, rfl⟩ := own_any ho4
       have hb04 := bel_tr hb03 hb4
       have hB4 := hB3.bel hb4
       have sl4 := Lib.hid (Sl.own ho4)
       have sl34 := Lib.hid (sl3.out.below hb4)
       rw [HTW.out]
       clear ho4 hb03 hb4 hB3 sl3
       refine holdE ?_))
  refine Lib.hid ?_
  go_wp2_with fail
  have hRow : ∀ w', Below w4.heap.size w4 w' → w'.rangeAt g1 0 (rsL vs vn vp R) := fun w' hS' => (hB4.bel hS').rangeL 0 (rsL vs vn vp R) [] (List.append_nil _).symm
  refine wp_region_held (S := fun w' => Below w4.heap.size w4 w') (by kernel_rfl) ?_
  refine wpAnyH_all (rs := [0]) (by kernel_rfl) (by decide) ?_
  intro i hi
  obtain rfl := List.mem_singleton.1 hi
  refine wpOp_callM (o := ⟨some 20, .call { callee := .value (.func 8), args := #[], argTypes := #[] }, _, _, _, none⟩) rfl (by rfl) (by go_simp) (works23_any _) ?_
  rintro e w5 ⟨rfl, hb5⟩
  have hb5 := bel_drew hb5
  refine ⟨_, rfl, ?_⟩
  show _ ∧ _
  refine ⟨hb5, ?_⟩
  simp only [Act.put, List.setIfInBounds_toArray, List.set_cons_zero, List.set_cons_succ]
  refine wpAnyH_take (i := 1) (oi := ⟨some 21, .unOp .not 4 (.tmp 20), _, _, _, none⟩) (v := .bool false) rfl (by kernel_rfl) (by kernel_rfl) (by kernel_rfl) (fun _ _ _ h => h) (Or.inl ⟨by rfl, fun w' hS' => by go_simp⟩) hb5 ?_
  simp only [Act.put, List.setIfInBounds_toArray, List.set_cons_zero, List.set_cons_succ]
  refine wpAnyH_take (i := 2) (oi := ⟨some 22, .move (.tmp 21), _, _, _, none⟩) (v := .bool false) rfl (by kernel_rfl) (by kernel_rfl) (by kernel_rfl) (fun _ _ _ h => h) (Or.inl ⟨by rfl, fun w' hS' => by go_simp⟩) hb5 ?_
  simp only [Act.put, List.setIfInBounds_toArray, List.set_cons_zero, List.set_cons_succ]
  refine wpAnyH_take (i := 3) (oi := ⟨some 23, .move (.tmp 5), _, _, _, some (2, false)⟩) (v := .slice a3 T.length c3) rfl (by kernel_rfl) (by kernel_rfl) (by kernel_rfl) (fun _ _ _ h => h) (Or.inl ⟨by rfl, fun w' hS' => by go_simp⟩) hb5 ?_
  simp only [Act.put, List.setIfInBounds_toArray, List.set_cons_zero, List.set_cons_succ]
  refine wpAnyH_take (i := 4) (oi := ⟨some 24, .call { callee := .builtin .len, args := #[.tmp 23], argTypes := #[34] }, _, _, _, some (2, false)⟩) (v := .int .i64 (T.length : Int)) rfl (by kernel_rfl) (by kernel_rfl) (by kernel_rfl) (fun _ _ _ h => h) (Or.inl ⟨by rfl, fun w' hS' => by go_simp⟩) hb5 ?_
  simp only [Act.put, List.setIfInBounds_toArray, List.set_cons_zero, List.set_cons_succ]
  refine wpAnyH_take (i := 5) (oi := ⟨some 25, .move (.tmp 6), _, _, _, some (2, false)⟩) (v := .slice a4 T.length c4) rfl (by kernel_rfl) (by kernel_rfl) (by kernel_rfl) (fun _ _ _ h => h) (Or.inl ⟨by rfl, fun w' hS' => by go_simp⟩) hb5 ?_
  simp only [Act.put, List.setIfInBounds_toArray, List.set_cons_zero, List.set_cons_succ]
  refine wpAnyH_take (i := 6) (oi := ⟨some 26, .call { callee := .builtin .len, args := #[.tmp 25], argTypes := #[22] }, _, _, _, some (2, false)⟩) (v := .int .i64 (T.length : Int)) rfl (by kernel_rfl) (by kernel_rfl) (by kernel_rfl) (fun _ _ _ h => h) (Or.inl ⟨by rfl, fun w' hS' => by go_simp⟩) hb5 ?_
  simp only [Act.put, List.setIfInBounds_toArray, List.set_cons_zero, List.set_cons_succ]
  refine wpAnyH_take (i := 7) (oi := ⟨some 27, .binOp .neq 3 (.tmp 24) (.tmp 26) 3, _, _, _, some (2, false)⟩) (v := .bool false) rfl (by kernel_rfl) (by kernel_rfl) (by kernel_rfl) (fun _ _ _ h => h) (Or.inl ⟨by rfl, fun w' hS' => by go_simp⟩) hb5 ?_
  simp only [Act.put, List.setIfInBounds_toArray, List.set_cons_zero, List.set_cons_succ]
  refine wpAnyH_take (i := 8) (oi := ⟨some 28, .pick (.tmp 22) (.const (.bool true)) (.tmp 27), _, _, _, none⟩) (v := .bool false) rfl (by kernel_rfl) (by kernel_rfl) (by kernel_rfl) (fun _ _ _ h => h) (Or.inl ⟨by rfl, fun w' hS' => by go_simp⟩) hb5 ?_
  simp only [Act.put, List.setIfInBounds_toArray, List.set_cons_zero, List.set_cons_succ]
  refine wpAnyH_take (i := 9) (oi := ⟨some 29, .move (.tmp 28), _, _, _, none⟩) (v := .bool false) rfl (by kernel_rfl) (by kernel_rfl) (by kernel_rfl) (fun _ _ _ h => h) (Or.inl ⟨by rfl, fun w' hS' => by go_simp⟩) hb5 ?_
  simp only [Act.put, List.setIfInBounds_toArray, List.set_cons_zero, List.set_cons_succ]
  refine wpAnyH_take (i := 10) (oi := ⟨some 30, .load 26 (.tmp 2), _, _, _, some (9, false)⟩) (v := .agg (rsL vs vn vp R).toArray) rfl (by kernel_rfl) (by kernel_rfl) (by kernel_rfl) (fun _ _ _ h => h) (yieldsIf_loadRs (by rfl) _ rfl rfl hRow) hb5 ?_
  simp only [Act.put, List.setIfInBounds_toArray, List.set_cons_zero, List.set_cons_succ]
  refine wpAnyH_take (i := 11) (oi := ⟨some 31, .move (.tmp 1), _, _, _, some (9, false)⟩) (v := .int .i64 turn) rfl (by kernel_rfl) (by kernel_rfl) (by kernel_rfl) (fun _ _ _ h => h) (Or.inl ⟨by rfl, fun w' hS' => by go_simp⟩) hb5 ?_
  simp only [Act.put, List.setIfInBounds_toArray, List.set_cons_zero, List.set_cons_succ]
  refine wpAnyH_take (i := 13) (oi := ⟨some 33, .load 26 (.tmp 2), _, _, _, some (9, false)⟩) (v := .agg (rsL vs vn vp R).toArray) rfl (by kernel_rfl) (by kernel_rfl) (by kernel_rfl) (fun _ _ _ h => h) (yieldsIf_loadRs (by rfl) _ rfl rfl hRow) hb5 ?_
  simp only [Act.put, List.setIfInBounds_toArray, List.set_cons_zero, List.set_cons_succ]
  refine wpAnyH_take (i := 14) (oi := ⟨some 34, .move (.tmp 1), _, _, _, some (9, false)⟩) (v := .int .i64 turn) rfl (by kernel_rfl) (by kernel_rfl) (by kernel_rfl) (fun _ _ _ h => h) (Or.inl ⟨by rfl, fun w' hS' => by go_simp⟩) hb5 ?_
  simp only [Act.put, List.setIfInBounds_toArray, List.set_cons_zero, List.set_cons_succ]
  refine wpAnyH_all (rs := [12]) (by kernel_rfl) (by decide) ?_
  intro i hi
  obtain rfl := List.mem_singleton.1 hi
  refine wpOp_callM (o := ⟨some 32, .call { callee := .value (.func 12), args := #[.tmp 30, .tmp 31], argTypes := #[26, 3] }, _, _, _, some (9, false)⟩) rfl (by rfl) (by go_simp) (pservers_any vs vn vp R turn _ (Hat.out.bel (bel_tr hb04 hb5))) ?_
  rintro e w6 h6
  rw [HD.out] at h6
  obtain ⟨v6, rfl, ho6, hb6⟩ := h6
  obtain ⟨a6, c6, rfl⟩ := own_any ho6
  have hb6 := bel_tr hb5 hb6
  have sl6 := Lib.hid (Sl.own ho6)
  clear ho6
  refine ⟨_, rfl, ?_⟩
  show _ ∧ _
  refine ⟨hb6, ?_⟩
  simp only [Act.put, List.setIfInBounds_toArray, List.set_cons_zero, List.set_cons_succ]
  refine wpAnyH_all (rs := [15]) (by kernel_rfl) (by decide) ?_
  intro i hi
  obtain rfl := List.mem_singleton.1 hi
  refine wpOp_callM (o := ⟨some 35, .call { callee := .value (.func 13), args := #[.tmp 33, .tmp 34], argTypes := #[26, 3] }, _, _, _, some (9, false)⟩) rfl (by rfl) (by go_simp) (rservers_any vs vn vp R turn _ (Hat.out.bel (bel_tr hb04 hb6))) ?_
  rintro e w7 h7
  rw [HD.out] at h7
  obtain ⟨v7, rfl, ho7, hb67⟩ := h7
  obtain ⟨a7, c7, rfl⟩ := own_any ho7
  have hb7 := bel_tr hb6 hb67
  have sl7 := Lib.hid (Sl.own ho7)
  have sl67 := Lib.hid (sl6.out.below hb67)
  clear ho7 hb67
  refine ⟨_, rfl, ?_⟩
  show _ ∧ _
  refine ⟨hb7, ?_⟩
  simp only [Act.put, List.setIfInBounds_toArray, List.set_cons_zero, List.set_cons_succ]
  refine wpAnyH_all (rs := [16]) (by kernel_rfl) (by decide) ?_
  intro i hi
  obtain rfl := List.mem_singleton.1 hi
  refine wpOp_callM (o := ⟨some 36, .call { callee := .value (.func 11), args := #[.tmp 32, .tmp 35], argTypes := #[22, 22] }, _, _, _, some (9, false)⟩) rfl (by rfl) (by go_simp) (sameAds_any D D _ _ _ sl67.out sl7.out (by omega) (by omega)) ?_
  rintro e w8 ⟨rfl, hb78⟩
  rw [decide_eq_true (rfl : D = D)]
  have hb8 := bel_tr hb7 hb78
  refine ⟨_, rfl, ?_⟩
  show _ ∧ _
  refine ⟨hb8, ?_⟩
  simp only [Act.put, List.setIfInBounds_toArray, List.set_cons_zero, List.set_cons_succ]
  refine wpAnyH_take (i := 17) (oi := ⟨some 37, .unOp .not 4 (.tmp 36), _, _, _, some (9, false)⟩) (v := .bool false) rfl (by kernel_rfl) (by kernel_rfl) (by kernel_rfl) (fun _ _ _ h => h) (Or.inl ⟨by rfl, fun w' hS' => by go_simp⟩) hb8 ?_
  simp only [Act.put, List.setIfInBounds_toArray, List.set_cons_zero, List.set_cons_succ]
  refine wpAnyH_take (i := 18) (oi := ⟨some 38, .pick (.tmp 29) (.const (.bool true)) (.tmp 37), _, _, _, none⟩) (v := .bool false) rfl (by kernel_rfl) (by kernel_rfl) (by kernel_rfl) (fun _ _ _ h => h) (Or.inl ⟨by rfl, fun w' hS' => by go_simp⟩) hb8 ?_
  simp only [Act.put, List.setIfInBounds_toArray, List.set_cons_zero, List.set_cons_succ]
  refine wpAnyH_done (by kernel_rfl) ?_ _
  have hb08 := bel_tr hb04 hb8
  have hB8 := hB4.bel hb8
  have sl38 := Lib.hid (sl34.out.below hb8)
  have sl48 := Lib.hid (sl4.out.below hb8)
  clear hRow sl34 sl4 hB4 hb04 sl67 sl7 sl6 hb5 hb6 hb7 hb8 hb78
  refine holdE ?_
  refine Lib.hid ?_
  go_wp2_with (first
    | (refine wpList_loadB (o := ⟨some 39, _, _, _, _, _⟩) rfl _ _ rfl rfl hB8 rs_under rfl rs_size ?_)
    | (go_at_call 13; refine (rservers_any vs vn vp R turn _ (Hat.out.bel hb08)).mono ?_
       rw [HD.out]
       rintro e w9 ⟨v9, rfl, ho9, hb9⟩
       obtain ⟨a9, c9, rfl⟩ := own_any ho9
       have hb09 := bel_tr hb08 hb9
       have hB9 := hB8.bel hb9
       have sl39 := Lib.hid (sl38.out.below hb9)
       have sl49 := Lib.hid (sl48.out.below hb9)
       clear ho9 hb08 hb9 hB8 sl38 sl48))
  go_loopw [8] (fun i wr => ∃ k : Nat, k ≤ T.length ∧ i = .int .i64 k ∧ Below w9.heap.size w9 wr) (fun i _ => T.length - (intOf i).toNat)
  case atStart => exact ⟨0, Nat.zero_le _, rfl, Below.refl _ _⟩
  case round =>
    obtain ⟨k, hk, rfl, hz⟩ := hrel
    by_cases hlt : k < T.length
    · have hltI : (k : Int) < (T.length : Int) := by omega
      have hk0 : (0 : Int) ≤ (k : Int) := by omega
      have hD0 : ((D.length : Int) == 0) = false := by rw [beq_eq_false_iff_ne]; omega
      obtain ⟨x, p, hx1, hx2, hx3, hx4⟩ := Hof.out k hlt
      obtain ⟨q, hq⟩ : ∃ q, k / D.length = q := ⟨_, rfl⟩
      have hq1 : (k : Int) / (D.length : Int) = (q : Int) := by rw [← hq, Int.natCast_ediv]
      have hq2 : Int.tdiv (k : Int) (D.length : Int) = (q : Int) := by rw [Int.tdiv_eq_ediv_of_nonneg hk0]; exact hq1
      have hDn : D ≠ [] := List.ne_nil_of_length_pos (by omega)
      have hwq : IntKind.i64.wrap (q : Int) = (q : Int) := IntWalk.i64_in _ (by have := Nat.div_le_self k D.length; omega)
      rw [hq] at hx4
      have hWk : k < W.length := by have := HTW.out; omega
      rw [List.getElem?_eq_getElem hlt] at hx1
      rw [List.getElem?_eq_getElem hWk] at hx2
      injection hx1 with hx1
      injection hx2 with hx2
      obtain ⟨b3, off3, c3', hv, hc3, hbl3, hcell3⟩ := sl39.out.pos (by omega)
      injection hv with hv1 _ hv2
      subst hv1 hv2
      have h49 : Sl w9 18 (.slice a4 W.length c4) W.length (W.flatMap adL) := sl49.out
      obtain ⟨b4, off4, c4', hv, hc4, hbl4, hcell4⟩ := h49.pos (by omega)
      injection hv with hv1 _ hv2
      subst hv1 hv2
      have hc4T : T.length ≤ c4 := by have := HTW.out; omega
      have hRp := range_of pfL_len hcell3 hlt
      have hRw := range_of adL_len hcell4 hWk
      rw [hx1] at hRp
      rw [hx2] at hRw
      have hRA := pf_adR hRp
      rw [hx3] at hRA
      have hcb : w9.cell? ⟨b3, off3 + k * 19 + 18, none⟩ = some (.int .i64 (q : Int)) := by
        refine hRp 18 _ ?_
        have := pfA_18 p
        unfold pfA at this
        rw [List.getElem?_toArray, hx4] at this
        exact this
      have hRT : ∀ w', Below wr.heap.size wr w' → w'.rangeAt b3 (off3 + k * 19) (adL x) := fun w' hS' j u hu => ((hz.trans (hS'.mono hz.size)).cell (p := ⟨b3, off3 + k * 19 + j, none⟩) hbl3).trans (hRA j u hu)
      have hRW : ∀ w', Below wr.heap.size wr w' → w'.rangeAt b4 (off4 + k * 18) (adL x) := fun w' hS' j u hu => ((hz.trans (hS'.mono hz.size)).cell (p := ⟨b4, off4 + k * 18 + j, none⟩) hbl4).trans (hRw j u hu)
      have hRB : ∀ w', Below wr.heap.size wr w' → w'.cell? ⟨b3, off3 + k * 19 + 18, none⟩ = some (.int .i64 (q : Int)) := fun w' hS' => ((hz.trans (hS'.mono hz.size)).cell (p := ⟨b3, off3 + k * 19 + 18, none⟩) hbl3).trans hcb
      clear hRp hRw hRA hcb hcell3 hcell4 hx1 hx2 hx3 hx4 hq h49
      go_wp2_with fail
      refine wp_region_held (S := fun w' => Below wr.heap.size wr w') (by kernel_rfl) ?_
      refine wpAnyH_take (i := 0) (oi := ⟨some 49, .move (.tmp 5), _, _, _, none⟩) (v := .slice (some ⟨b3, off3, none⟩) T.length c3) rfl (by kernel_rfl) (by kernel_rfl) (by kernel_rfl) (fun _ _ _ h => h) (Or.inl ⟨by rfl, fun w' hS' => by go_simp⟩) (Below.refl _ _).drew ?_
      simp only [Act.put, List.setIfInBounds_toArray, List.set_cons_zero, List.set_cons_succ]
      refine wpAnyH_take (i := 1) (oi := ⟨some 50, .move (.tmp 8), _, _, _, none⟩) (v := .int .i64 k) rfl (by kernel_rfl) (by kernel_rfl) (by kernel_rfl) (fun _ _ _ h => h) (Or.inl ⟨by rfl, fun w' hS' => by go_simp⟩) (Below.refl _ _).drew ?_
      simp only [Act.put, List.setIfInBounds_toArray, List.set_cons_zero, List.set_cons_succ]
      refine wpAnyH_take (i := 2) (oi := ⟨some 51, .indexAddr 34 (.tmp 49) (.tmp 50), _, _, _, none⟩) (v := .pointer (some ⟨b3, off3 + k * 19, none⟩)) rfl (by kernel_rfl) (by kernel_rfl) (by kernel_rfl) (fun _ _ _ h => h) (Or.inl ⟨by rfl, fun w' hS' => by go_simp⟩) (Below.refl _ _).drew ?_
      simp only [Act.put, List.setIfInBounds_toArray, List.set_cons_zero, List.set_cons_succ]
      refine wpAnyH_take (i := 3) (oi := ⟨some 52, .fieldAddr 42 (.tmp 51) 0, _, _, _, none⟩) (v := .pointer (some ⟨b3, off3 + k * 19, none⟩)) rfl (by kernel_rfl) (by kernel_rfl) (by kernel_rfl) (fun _ _ _ h => h) (Or.inl ⟨by rfl, fun w' hS' => by go_simp⟩) (Below.refl _ _).drew ?_
      simp only [Act.put, List.setIfInBounds_toArray, List.set_cons_zero, List.set_cons_succ]
      refine wpAnyH_take (i := 4) (oi := ⟨some 53, .load 40 (.tmp 52), _, _, _, none⟩) (v := .agg (adA x)) rfl (by kernel_rfl) (by kernel_rfl) (by kernel_rfl) (fun _ _ _ h => h) (yieldsIf_loadAd (by rfl) _ rfl rfl hRT) (Below.refl _ _).drew ?_
      simp only [Act.put, List.setIfInBounds_toArray, List.set_cons_zero, List.set_cons_succ]
      refine wpAnyH_take (i := 5) (oi := ⟨some 54, .move (.tmp 6), _, _, _, none⟩) (v := .slice (some ⟨b4, off4, none⟩) T.length c4) rfl (by kernel_rfl) (by kernel_rfl) (by kernel_rfl) (fun _ _ _ h => h) (Or.inl ⟨by rfl, fun w' hS' => by go_simp⟩) (Below.refl _ _).drew ?_
      simp only [Act.put, List.setIfInBounds_toArray, List.set_cons_zero, List.set_cons_succ]
      refine wpAnyH_take (i := 6) (oi := ⟨some 55, .move (.tmp 8), _, _, _, none⟩) (v := .int .i64 k) rfl (by kernel_rfl) (by kernel_rfl) (by kernel_rfl) (fun _ _ _ h => h) (Or.inl ⟨by rfl, fun w' hS' => by go_simp⟩) (Below.refl _ _).drew ?_
      simp only [Act.put, List.setIfInBounds_toArray, List.set_cons_zero, List.set_cons_succ]
      refine wpAnyH_take (i := 7) (oi := ⟨some 56, .indexAddr 22 (.tmp 54) (.tmp 55), _, _, _, none⟩) (v := .pointer (some ⟨b4, off4 + k * 18, none⟩)) rfl (by kernel_rfl) (by kernel_rfl) (by kernel_rfl) (fun _ _ _ h => h) (Or.inl ⟨by rfl, fun w' hS' => by go_simp⟩) (Below.refl _ _).drew ?_
      simp only [Act.put, List.setIfInBounds_toArray, List.set_cons_zero, List.set_cons_succ]
      refine wpAnyH_take (i := 8) (oi := ⟨some 57, .load 40 (.tmp 56), _, _, _, none⟩) (v := .agg (adA x)) rfl (by kernel_rfl) (by kernel_rfl) (by kernel_rfl) (fun _ _ _ h => h) (yieldsIf_loadAd (by rfl) _ rfl rfl hRW) (Below.refl _ _).drew ?_
      simp only [Act.put, List.setIfInBounds_toArray, List.set_cons_zero, List.set_cons_succ]
      refine wpAnyH_take (i := 9) (oi := ⟨some 58, .binOp .neq 40 (.tmp 53) (.tmp 57) 40, _, _, _, none⟩) (v := .bool false) rfl (by kernel_rfl) (by kernel_rfl) (by kernel_rfl) (fun _ _ _ h => h) (yieldsIf_neqAd (by rfl) _ _ rfl rfl rfl (by simp)) (Below.refl _ _).drew ?_
      simp only [Act.put, List.setIfInBounds_toArray, List.set_cons_zero, List.set_cons_succ]
      refine wpAnyH_take (i := 10) (oi := ⟨some 59, .move (.tmp 58), _, _, _, none⟩) (v := .bool false) rfl (by kernel_rfl) (by kernel_rfl) (by kernel_rfl) (fun _ _ _ h => h) (Or.inl ⟨by rfl, fun w' hS' => by go_simp⟩) (Below.refl _ _).drew ?_
      simp only [Act.put, List.setIfInBounds_toArray, List.set_cons_zero, List.set_cons_succ]
      refine wpAnyH_take (i := 11) (oi := ⟨some 60, .move (.tmp 5), _, _, _, some (10, false)⟩) (v := .slice (some ⟨b3, off3, none⟩) T.length c3) rfl (by kernel_rfl) (by kernel_rfl) (by kernel_rfl) (fun _ _ _ h => h) (Or.inl ⟨by rfl, fun w' hS' => by go_simp⟩) (Below.refl _ _).drew ?_
      simp only [Act.put, List.setIfInBounds_toArray, List.set_cons_zero, List.set_cons_succ]
      refine wpAnyH_take (i := 12) (oi := ⟨some 61, .move (.tmp 8), _, _, _, some (10, false)⟩) (v := .int .i64 k) rfl (by kernel_rfl) (by kernel_rfl) (by kernel_rfl) (fun _ _ _ h => h) (Or.inl ⟨by rfl, fun w' hS' => by go_simp⟩) (Below.refl _ _).drew ?_
      simp only [Act.put, List.setIfInBounds_toArray, List.set_cons_zero, List.set_cons_succ]
      refine wpAnyH_take (i := 13) (oi := ⟨some 62, .indexAddr 34 (.tmp 60) (.tmp 61), _, _, _, some (10, false)⟩) (v := .pointer (some ⟨b3, off3 + k * 19, none⟩)) rfl (by kernel_rfl) (by kernel_rfl) (by kernel_rfl) (fun _ _ _ h => h) (Or.inl ⟨by rfl, fun w' hS' => by go_simp⟩) (Below.refl _ _).drew ?_
      simp only [Act.put, List.setIfInBounds_toArray, List.set_cons_zero, List.set_cons_succ]
      refine wpAnyH_take (i := 14) (oi := ⟨some 63, .fieldAddr 42 (.tmp 62) 1, _, _, _, some (10, false)⟩) (v := .pointer (some ⟨b3, off3 + k * 19 + 18, none⟩)) rfl (by kernel_rfl) (by kernel_rfl) (by kernel_rfl) (fun _ _ _ h => h) (Or.inl ⟨by rfl, fun w' hS' => by go_simp⟩) (Below.refl _ _).drew ?_
      simp only [Act.put, List.setIfInBounds_toArray, List.set_cons_zero, List.set_cons_succ]
      refine wpAnyH_take (i := 15) (oi := ⟨some 64, .load 3 (.tmp 63), _, _, _, some (10, false)⟩) (v := .int .i64 (q : Int)) rfl (by kernel_rfl) (by kernel_rfl) (by kernel_rfl) (fun _ _ _ h => h) (yieldsIf_loadC (by rfl) _ _ rfl rfl hRB Try.underlying3 rfl) (Below.refl _ _).drew ?_
      simp only [Act.put, List.setIfInBounds_toArray, List.set_cons_zero, List.set_cons_succ]
      refine wpAnyH_take (i := 16) (oi := ⟨some 65, .move (.tmp 8), _, _, _, some (10, false)⟩) (v := .int .i64 k) rfl (by kernel_rfl) (by kernel_rfl) (by kernel_rfl) (fun _ _ _ h => h) (Or.inl ⟨by rfl, fun w' hS' => by go_simp⟩) (Below.refl _ _).drew ?_
      simp only [Act.put, List.setIfInBounds_toArray, List.set_cons_zero, List.set_cons_succ]
      refine wpAnyH_take (i := 17) (oi := ⟨some 66, .move (.tmp 7), _, _, _, some (10, false)⟩) (v := .int .i64 (D.length : Int)) rfl (by kernel_rfl) (by kernel_rfl) (by kernel_rfl) (fun _ _ _ h => h) (Or.inl ⟨by rfl, fun w' hS' => by go_simp⟩) (Below.refl _ _).drew ?_
      simp only [Act.put, List.setIfInBounds_toArray, List.set_cons_zero, List.set_cons_succ]
      refine wpAnyH_take (i := 18) (oi := ⟨some 67, .binOp .quo 3 (.tmp 65) (.tmp 66) 3, _, _, _, some (10, false)⟩) (v := .int .i64 (q : Int)) rfl (by kernel_rfl) (by kernel_rfl) (by kernel_rfl) (fun _ _ _ h => h) (Or.inl ⟨by rfl, fun w' hS' => by go_simp⟩) (Below.refl _ _).drew ?_
      simp only [Act.put, List.setIfInBounds_toArray, List.set_cons_zero, List.set_cons_succ]
      refine wpAnyH_take (i := 19) (oi := ⟨some 68, .binOp .neq 3 (.tmp 64) (.tmp 67) 3, _, _, _, some (10, false)⟩) (v := .bool false) rfl (by kernel_rfl) (by kernel_rfl) (by kernel_rfl) (fun _ _ _ h => h) (Or.inl ⟨by rfl, fun w' hS' => by go_simp⟩) (Below.refl _ _).drew ?_
      simp only [Act.put, List.setIfInBounds_toArray, List.set_cons_zero, List.set_cons_succ]
      refine wpAnyH_take (i := 20) (oi := ⟨some 69, .pick (.tmp 59) (.const (.bool true)) (.tmp 68), _, _, _, none⟩) (v := .bool false) rfl (by kernel_rfl) (by kernel_rfl) (by kernel_rfl) (fun _ _ _ h => h) (Or.inl ⟨by rfl, fun w' hS' => by go_simp⟩) (Below.refl _ _).drew ?_
      simp only [Act.put, List.setIfInBounds_toArray, List.set_cons_zero, List.set_cons_succ]
      refine wpAnyH_done (by kernel_rfl) ?_ _
      go_wp2
      go_roundw
      case rel => exact ⟨k + 1, by omega, by go_num, hz.drew⟩
      case measure => simp [intOf]; omega
    · have hltI : ¬ (k : Int) < (T.length : Int) := by omega
      obtain ⟨J, hJ⟩ : ∃ J, tmN R * mostN R = J := ⟨_, rfl⟩
      obtain ⟨Mo, hMo⟩ : ∃ Mo, mostN R = Mo := ⟨_, rfl⟩
      obtain ⟨tm, htm⟩ : ∃ tm, tmN R = tm := ⟨_, rfl⟩
      have htme := (tmN_eq R).1
      have hmost := mostN_le R
      have hJl : J ≤ 1350 := by
        rw [← hJ]
        exact Nat.le_trans (Nat.mul_le_mul (tmN_eq R).2.2 hmost) (by omega)
      rw [htm] at htme
      have hJ2 : Mo * tm = J := by rw [← hJ, hMo, htm, Nat.mul_comm]
      have hprod : (Mo : Int) * (tm : Int) = (J : Int) := by rw [← hJ2, Int.natCast_mul]
      have hwJ : IntKind.i64.wrap (J : Int) = (J : Int) := IntWalk.i64_in _ (by omega)
      have HJ := Lib.hid hJ
      have HMo := Lib.hid hMo
      have Htm := Lib.hid htme
      have hb0r : Below w.heap.size w wr := hb09.trans (hz.mono hb09.size)
      have hBr := hB9.bel hz
      have hRow2 : ∀ w', Below wr.heap.size wr w' → w'.rangeAt g1 0 (rsL vs vn vp R) := fun w' hS' => (hBr.bel hS').rangeL 0 (rsL vs vn vp R) [] (List.append_nil _).symm
      clear hJ hMo htm htme hmost hJ2
      go_wp2_with fail
      refine wp_region_held (S := fun w' => Below wr.heap.size wr w') (by kernel_rfl) ?_
      refine wpAnyH_take (i := 0) (oi := ⟨some 70, .load 26 (.tmp 2), _, _, _, none⟩) (v := .agg (rsL vs vn vp R).toArray) rfl (by kernel_rfl) (by kernel_rfl) (by kernel_rfl) (fun _ _ _ h => h) (yieldsIf_loadRs (by rfl) _ rfl rfl hRow2) (Below.refl _ _).drew ?_
      simp only [Act.put, List.setIfInBounds_toArray, List.set_cons_zero, List.set_cons_succ]
      refine wpAnyH_take (i := 2) (oi := ⟨some 72, .load 26 (.tmp 2), _, _, _, none⟩) (v := .agg (rsL vs vn vp R).toArray) rfl (by kernel_rfl) (by kernel_rfl) (by kernel_rfl) (fun _ _ _ h => h) (yieldsIf_loadRs (by rfl) _ rfl rfl hRow2) (Below.refl _ _).drew ?_
      simp only [Act.put, List.setIfInBounds_toArray, List.set_cons_zero, List.set_cons_succ]
      refine wpAnyH_all (rs := [1]) (by kernel_rfl) (by decide) ?_
      intro i hi
      obtain rfl := List.mem_singleton.1 hi
      refine wpOp_callM (o := ⟨some 71, .call { callee := .value (.func 14), args := #[.tmp 70], argTypes := #[26] }, _, _, _, none⟩) rfl (by rfl) (by go_simp) (pmost_any vs vn vp R _ (Hat.out.bel (hb0r.drew))) ?_
      rintro e x1 ⟨rfl, hx1⟩
      rw [HMo.out]
      have hx1 := bel_drew hx1
      refine ⟨_, rfl, ?_⟩
      show _ ∧ _
      refine ⟨hx1, ?_⟩
      simp only [Act.put, List.setIfInBounds_toArray, List.set_cons_zero, List.set_cons_succ]
      refine wpAnyH_all (rs := [3]) (by kernel_rfl) (by decide) ?_
      intro i hi
      obtain rfl := List.mem_singleton.1 hi
      refine wpOp_callM (o := ⟨some 73, .call { callee := .value (.func 15), args := #[.tmp 72], argTypes := #[26] }, _, _, _, none⟩) rfl (by rfl) (by go_simp) (rmost_any vs vn vp R _ (Hat.out.bel (bel_tr hb0r hx1))) ?_
      rintro e x2 ⟨rfl, hx12⟩
      rw [HMo.out]
      have hx2 := bel_tr hx1 hx12
      refine ⟨_, rfl, ?_⟩
      show _ ∧ _
      refine ⟨hx2, ?_⟩
      simp only [Act.put, List.setIfInBounds_toArray, List.set_cons_zero, List.set_cons_succ]
      refine wpAnyH_take (i := 4) (oi := ⟨some 74, .binOp .eql 3 (.tmp 71) (.tmp 73) 3, _, _, _, none⟩) (v := .bool true) rfl (by kernel_rfl) (by kernel_rfl) (by kernel_rfl) (fun _ _ _ h => h) (Or.inl ⟨by rfl, fun w' hS' => by go_simp⟩) hx2 ?_
      simp only [Act.put, List.setIfInBounds_toArray, List.set_cons_zero, List.set_cons_succ]
      refine wpAnyH_take (i := 5) (oi := ⟨some 75, .move (.tmp 74), _, _, _, none⟩) (v := .bool true) rfl (by kernel_rfl) (by kernel_rfl) (by kernel_rfl) (fun _ _ _ h => h) (Or.inl ⟨by rfl, fun w' hS' => by go_simp⟩) hx2 ?_
      simp only [Act.put, List.setIfInBounds_toArray, List.set_cons_zero, List.set_cons_succ]
      refine wpAnyH_take (i := 6) (oi := ⟨some 76, .load 26 (.tmp 2), _, _, _, some (5, true)⟩) (v := .agg (rsL vs vn vp R).toArray) rfl (by kernel_rfl) (by kernel_rfl) (by kernel_rfl) (fun _ _ _ h => h) (yieldsIf_loadRs (by rfl) _ rfl rfl hRow2) hx2 ?_
      simp only [Act.put, List.setIfInBounds_toArray, List.set_cons_zero, List.set_cons_succ]
      refine wpAnyH_take (i := 8) (oi := ⟨some 78, .load 26 (.tmp 2), _, _, _, some (5, true)⟩) (v := .agg (rsL vs vn vp R).toArray) rfl (by kernel_rfl) (by kernel_rfl) (by kernel_rfl) (fun _ _ _ h => h) (yieldsIf_loadRs (by rfl) _ rfl rfl hRow2) hx2 ?_
      simp only [Act.put, List.setIfInBounds_toArray, List.set_cons_zero, List.set_cons_succ]
      refine wpAnyH_take (i := 10) (oi := ⟨some 80, .load 26 (.tmp 2), _, _, _, some (5, true)⟩) (v := .agg (rsL vs vn vp R).toArray) rfl (by kernel_rfl) (by kernel_rfl) (by kernel_rfl) (fun _ _ _ h => h) (yieldsIf_loadRs (by rfl) _ rfl rfl hRow2) hx2 ?_
      simp only [Act.put, List.setIfInBounds_toArray, List.set_cons_zero, List.set_cons_succ]
      refine wpAnyH_all (rs := [7]) (by kernel_rfl) (by decide) ?_
      intro i hi
      obtain rfl := List.mem_singleton.1 hi
      refine wpOp_callM (o := ⟨some 77, .call { callee := .value (.func 16), args := #[.tmp 76], argTypes := #[26] }, _, _, _, some (5, true)⟩) rfl (by rfl) (by go_simp) (pticks_any vs vn vp R _ (Hat.out.bel (bel_tr hb0r hx2))) ?_
      rintro e x3 ⟨rfl, hx23⟩
      rw [HJ.out]
      have hx3 := bel_tr hx2 hx23
      refine ⟨_, rfl, ?_⟩
      show _ ∧ _
      refine ⟨hx3, ?_⟩
      simp only [Act.put, List.setIfInBounds_toArray, List.set_cons_zero, List.set_cons_succ]
      refine wpAnyH_all (rs := [9]) (by kernel_rfl) (by decide) ?_
      intro i hi
      obtain rfl := List.mem_singleton.1 hi
      refine wpOp_callM (o := ⟨some 79, .call { callee := .value (.func 15), args := #[.tmp 78], argTypes := #[26] }, _, _, _, some (5, true)⟩) rfl (by rfl) (by go_simp) (rmost_any vs vn vp R _ (Hat.out.bel (bel_tr hb0r hx3))) ?_
      rintro e x4 ⟨rfl, hx34⟩
      rw [HMo.out]
      have hx4 := bel_tr hx3 hx34
      refine ⟨_, rfl, ?_⟩
      show _ ∧ _
      refine ⟨hx4, ?_⟩
      simp only [Act.put, List.setIfInBounds_toArray, List.set_cons_zero, List.set_cons_succ]
      refine wpAnyH_all (rs := [11]) (by kernel_rfl) (by decide) ?_
      intro i hi
      obtain rfl := List.mem_singleton.1 hi
      refine wpOp_callM (o := ⟨some 81, .call { callee := .value (.func 17), args := #[.tmp 80], argTypes := #[26] }, _, _, _, some (5, true)⟩) rfl (by rfl) (by go_simp) (rresolv_any vs vn vp R _ (Hat.out.bel (bel_tr hb0r hx4))) ?_
      rintro e x5 ⟨xs, xn, xp, rfl, hR5, hx45⟩
      clear hR5
      have hx5 := bel_tr hx4 hx45
      refine ⟨_, rfl, ?_⟩
      show _ ∧ _
      refine ⟨hx5, ?_⟩
      simp only [Act.put, List.setIfInBounds_toArray, List.set_cons_zero, List.set_cons_succ]
      refine wpAnyH_take (i := 12) (oi := ⟨some 82, .field 26 (.tmp 81) 4, _, _, _, some (5, true)⟩) (v := .int .i64 (tm : Int)) rfl (by kernel_rfl) (by kernel_rfl) (by kernel_rfl) (fun _ _ _ h => h) (yieldsIf_fieldTm (by rfl) rfl rfl Htm.out) hx5 ?_
      simp only [Act.put, List.setIfInBounds_toArray, List.set_cons_zero, List.set_cons_succ]
      refine wpAnyH_take (i := 13) (oi := ⟨some 83, .binOp .mul 3 (.tmp 79) (.tmp 82) 3, _, _, _, some (5, true)⟩) (v := .int .i64 (J : Int)) rfl (by kernel_rfl) (by kernel_rfl) (by kernel_rfl) (fun _ _ _ h => h) (Or.inl ⟨by rfl, fun w' hS' => by go_simp⟩) hx5 ?_
      simp only [Act.put, List.setIfInBounds_toArray, List.set_cons_zero, List.set_cons_succ]
      refine wpAnyH_take (i := 14) (oi := ⟨some 84, .binOp .eql 3 (.tmp 77) (.tmp 83) 3, _, _, _, some (5, true)⟩) (v := .bool true) rfl (by kernel_rfl) (by kernel_rfl) (by kernel_rfl) (fun _ _ _ h => h) (Or.inl ⟨by rfl, fun w' hS' => by go_simp⟩) hx5 ?_
      simp only [Act.put, List.setIfInBounds_toArray, List.set_cons_zero, List.set_cons_succ]
      refine wpAnyH_take (i := 15) (oi := ⟨some 85, .pick (.tmp 75) (.tmp 84) (.const (.bool false)), _, _, _, none⟩) (v := .bool true) rfl (by kernel_rfl) (by kernel_rfl) (by kernel_rfl) (fun _ _ _ h => h) (Or.inl ⟨by rfl, fun w' hS' => by go_simp⟩) hx5 ?_
      simp only [Act.put, List.setIfInBounds_toArray, List.set_cons_zero, List.set_cons_succ]
      refine wpAnyH_take (i := 16) (oi := ⟨some 4, .assign (.tmp 85), _, _, _, none⟩) (v := .bool true) rfl (by kernel_rfl) (by kernel_rfl) (by kernel_rfl) (fun _ _ _ h => h) (Or.inl ⟨by rfl, fun w' hS' => by go_simp⟩) hx5 ?_
      simp only [Act.put, List.setIfInBounds_toArray, List.set_cons_zero, List.set_cons_succ]
      refine wpAnyH_done (by kernel_rfl) ?_ _
      go_wp2_with fail
      go_ret
      exact ⟨rfl, hb0r.trans (hx5.mono hb0r.size)⟩

set_option maxRecDepth 100000 in
set_option maxHeartbeats 1000000 in
theorem planTries_walk (w : World) (q : Value × Value × Value × Rs) (v : Value) (h : RsArg w v q) (turn : Int) (_ht : (Lit.int .i64 turn).wf = true) : Calls Try.prog 3 #[v, .int .i64 turn] w (Fair w) := by
  obtain ⟨vs, vn, vp, R⟩ := q
  obtain ⟨rfl, h⟩ := h
  dsimp only at h ⊢
  cases hf : fewR R
  · have H := Lib.hid h
    have Hf := Lib.hid hf
    clear hf h _ht
    go_enter Try.func3, Try.ntmps3
    go_wp2_with (first
      | ((with_reducible refine wpList_boxB rfl _ _ rfl rfl ?_); intro g1 w1 hg1 hB1 hb1 hs1; clear hg1 hs1)
      | (refine wpList_loadB (o := ⟨some 9, _, _, _, _, _⟩) rfl _ _ rfl rfl hB1 rs_under rfl rs_size ?_)
      | (refine wpList_buildL (o := ⟨some 10, _, _, _, _, _⟩) rfl _ [(0, .tmp 9)] rfl (built_cf0 vs vn vp R) rfl ?_)
      | (go_at_call 7; refine (rfew21_any vs vn vp R _ (H.out.bel hb1)).mono ?_
         rw [Hf.out]
         rintro e w2 ⟨rfl, hb2⟩
         have hb02 := bel_tr hb1 hb2)
      | (go_at_call 8; refine (works23_any _).mono ?_; rintro e w3 ⟨rfl, hb3⟩; have hb03 := bel_tr hb02 hb3))
    go_ret
    exact ⟨rfl, hb03⟩
  · exact planTries_in w vs vn vp R h turn hf
end Go.Proofs.Ytebfgaapcpehmaa
