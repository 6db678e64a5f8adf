/- Contracts and plain lemmas of our own, merged. -/
import Derived.Test.YtebfgaapcpehmaaZPT11
import Derived.Test.YtebfgaapcpehmaaZPT13
import Derived.Test.YtebfgaapcpehmaaZPT9
import Derived.Deep.CutBlock
import Derived.Deep.DeepCutAuto
/- The reference's Resolv (21). -/
namespace Go.Proofs.Ytebfgaapcpehmaa
open Go.RowKit

theorem own_mid {w w' : World} {base B : Nat} {e : TypeId} {size n : Nat} {v : Value} {xs : List Value} (h : w.ownsRow base e size v n xs) (hb : Below B w w') (hv : ∀ k, v.ownBlock = some k → k < B) : w'.ownsRow base e size v n xs := by
  refine ⟨h.1, ?_⟩
  rcases h.2 with hn | ⟨g, cap, cur, rfl, hb', hgg, rest⟩
  · exact .inl hn
  · exact .inr ⟨g, cap, cur, rfl, hb', (hb.block g (hv g rfl)).trans hgg, rest⟩
theorem yieldsIf_loadC {P : Program} {ops : Array Oper} {S : World → Prop} {o : Oper} {a : Act} (hw : Region.wanted o (yielded ops a.tmps) = true) (ty : TypeId) (x : Operand) (ho : o.op = .load ty x) {g i : Nat} {v : Value} (hx : a.eval x = .pointer (some ⟨g, i, none⟩))
    (hc : ∀ w', S w' → w'.cell? ⟨g, i, none⟩ = some v) {d : TypeDesc} (hu : P.underlying ty = some d) (hd : d.isRow = false) : YieldsIf P ops S o v a := by
  refine Or.inl ⟨hw, fun w' hS => ?_⟩
  have hc' := hc w' hS
  have ha : (isAgg ty).run P w' = .ok false w' := by cases d <;> first | (cases hd; done) | simp [isAgg, run_underlying hu]
  have hr : (loadVar ty ⟨g, i, none⟩).run P w' = .ok v w' := by
    simp only [loadVar, Sem.run_bind, ha, Result.andThen_ok, Bool.false_eq_true, if_false]
    simp [load, Sem.run, hc']
  unfold execOp
  simp only [ho, hx, Instr.loadAt, Instr.sureAddr, Sem.run_bind, Sem.run_pure, Result.andThen_ok, hr]
theorem yieldsIf_loadAd {ops : Array Oper} {S : World → Prop} {o : Oper} {a : Act} (hw : Region.wanted o (yielded ops a.tmps) = true) (x : Operand) (ho : o.op = .load 40 x) {g off : Nat} (hx : a.eval x = .pointer (some ⟨g, off, none⟩)) {b : Ad}
    (h : ∀ w', S w' → w'.rangeAt g off (adL b)) : YieldsIf Try.prog ops S o (.agg (adA b)) a := yieldsIf_load_mid hw _ _ ho _ _ hx (adL b) _ h ad_under rfl (by rw [adL_len]; exact ad_size)
theorem yieldsIf_loadPf {ops : Array Oper} {S : World → Prop} {o : Oper} {a : Act} (hw : Region.wanted o (yielded ops a.tmps) = true) (x : Operand) (ho : o.op = .load 67 x) {g off : Nat} (hx : a.eval x = .pointer (some ⟨g, off, none⟩)) {b : Pf}
    (h : ∀ w', S w' → w'.rangeAt g off (pfL b)) : YieldsIf Try.prog ops S o (.agg (pfA b)) a := yieldsIf_load_mid hw _ _ ho _ _ hx (pfL b) _ h pf_under rfl (by rw [pfL_len]; exact pf_size)
/-- the first loop: the servers that were kept so far lie in the block g. -/
def R1Rel (w2 : World) (g b : Nat) (vn vp : Value) (R : Rs) (k : Nat) (wr : World) : Prop :=
  ∃ v, Bk wr g 26 (rsL v vn vp R).toArray ∧ wr.ownsRow b 40 18 v ((R.S.take k).filter okA).length (((R.S.take k).filter okA).flatMap adL) ∧ ((R.S.take k).filter okA).length ≤ 3 ∧ Below w2.heap.size w2 wr ∧ b ≤ wr.heap.size
theorem rof_127 (w : World) : Calls Try.prog 26 #[.int .i64 127, .int .i64 0, .int .i64 0, .int .i64 1] w (AdPost w (adOf 127 0 0 1)) := rof_any 127 0 0 1 w
def F1 (w2 : World) (g b : Nat) (vn vp : Value) (R : Rs) (wx : World) : Prop :=
  ∃ v, Bk wx g 26 (rsL v vn vp R).toArray ∧ wx.ownsRow b 40 18 v (leftL okA 3 R.S).length ((leftL okA 3 R.S).flatMap adL) ∧ Below w2.heap.size w2 wx ∧ b ≤ wx.heap.size
def FJ (w2 : World) (g b : Nat) (vn vp : Value) (R : Rs) (wx : World) : Prop :=
  ∃ v, Bk wx g 26 (rsL v vn vp R).toArray ∧ wx.ownsRow b 40 18 v (srvL R.S).length ((srvL R.S).flatMap adL) ∧ b ≤ wx.heap.size ∧ Below w2.heap.size w2 wx
/-- the second loop: the prefixes that were kept so far; the servers stand. -/
def R2Rel (w2 : World) (g bS b : Nat) (vS vn : Value) (R : Rs) (k : Nat) (wr : World) : Prop :=
  ∃ v, Bk wr g 26 (rsL vS vn v R).toArray ∧ wr.ownsRow b 67 19 v ((R.P.take k).filter okP).length (((R.P.take k).filter okP).flatMap pfL) ∧ ((R.P.take k).filter okP).length ≤ 10 ∧ Below w2.heap.size w2 wr ∧ b ≤ wr.heap.size ∧ wr.ownsRow bS 40 18 vS (srvL R.S).length ((srvL R.S).flatMap adL)
def F2 (w2 : World) (g bS b : Nat) (vS vn : Value) (R : Rs) (wx : World) : Prop :=
  ∃ v, Bk wx g 26 (rsL vS vn v R).toArray ∧ wx.ownsRow b 67 19 v (leftL okP 10 R.P).length ((leftL okP 10 R.P).flatMap pfL) ∧ Below w2.heap.size w2 wx ∧ b ≤ wx.heap.size ∧ wx.ownsRow bS 40 18 vS (srvL R.S).length ((srvL R.S).flatMap adL)
theorem left_all {α : Type} {p : α → Bool} {m : Nat} {L : List α} (h : ((L.take L.length).filter p).length ≤ m) : leftL p m L = (L.take L.length).filter p := by
  rw [leftL, List.take_length, List.take_of_length_le (by rw [List.take_length] at h; exact h)]
theorem left_full {α : Type} {p : α → Bool} {m k : Nat} {L : List α} (h1 : m ≤ ((L.take k).filter p).length) (h2 : ((L.take k).filter p).length ≤ m) : leftL p m L = (L.take k).filter p := by
  rw [leftL_stop h1, List.take_of_length_le h2]

set_option maxRecDepth 100000 in
set_option maxHeartbeats 8000000 in
theorem rresolv_any (vs vn vp : Value) (R : Rs) (w : World) (h : RsAt w vs vn vp R) :
    Calls Try.prog 17 #[.agg (rsL vs vn vp R).toArray] w (ResPost w R) := by
  obtain ⟨asl, cs, hvs, hcs⟩ := h.s.any
  obtain ⟨an, cn, hvn, hcn⟩ := h.n.any
  obtain ⟨ap, cp, hvp, hcp⟩ := h.p.any
  subst hvs hvn hvp
  have H := Lib.hid h
  clear h
  have hls := H.out.ls
  have hlp := H.out.lp
  go_enter Try.func17, Try.ntmps17
  go_wp2_with (first
    | ((with_reducible refine wpList_boxB rfl _ _ rfl rfl ?_); intro g1 w1 hg1 hB1 hb1 hs1; have hg1' : w.heap.size ≤ g1 := Nat.le_of_eq hg1.symm; clear hg1 hs1)
    | ((with_reducible refine wpList_allocZ (o := ⟨some 2, _, _, _, _, _⟩) rfl _ rfl rs_zero ?_); intro g2 w2 hg2 hB2 hb2 hs2; have hg2' : w1.heap.size ≤ g2 := Nat.le_of_eq hg2.symm; clear hg2 hs2; have hB12 := hB1.bel hb2; have hg12 : g1 < g2 := Nat.lt_of_lt_of_le hB1.lt hg2'; have hb02 := bel_tr hb1 hb2; refine holdE ?_))
  refine Lib.hid ?_
  go_wp2_with (first
    | (refine wpList_loadB (o := ⟨some 6, _, _, _, _, _⟩) rfl _ _ rfl rfl hB12 rs_under rfl rs_size ?_)
    | ((with_reducible refine wpList_allocZ (o := ⟨some 3, _, _, _, _, _⟩) rfl _ rfl rs_zero ?_); intro g3 w3 hg3 hB3 hb3 hs3; have hg3' : w2.heap.size ≤ g3 := Nat.le_of_eq hg3.symm; clear hg3 hs3)
    | (refine wpList_storeB rfl _ (.tmp 3) (.tmp 6) rfl rfl rfl hB3 rs_size rfl (rsL_one _ rfl rfl rfl) ?_; intro w4 hB4 hS4
       have hz4 := bk_stays hb3 hS4 hg3'
       refine holdE ?_))
  refine Lib.hid ?_
  go_wp2_with (first
    | (refine wpList_storeC (o := ⟨none, .store _ (.tmp 7) _, _, _, _, _⟩) rfl _ _ _ rfl rfl rfl rfl hB4 (show 0 < 10 from by decide) sz_ads ?_
       intro w5 hB5' hS5
       have hB5 : Bk w5 g3 26 (rsL (.slice none 0 0) (.slice an R.N.length cn) (.slice ap R.P.length cp) R).toArray := hB5'
       have hz5 := bk_stays hz4 hS5 hg3'
       clear hB5')
    | (refine wpList_storeC (o := ⟨none, .store _ (.tmp 8) _, _, _, _, _⟩) rfl _ _ _ rfl rfl rfl rfl hB5 (show 2 < 10 from by decide) sz_pfs ?_
       intro w6 hB6' hS6
       have hB6 : Bk w6 g3 26 (rsL (.slice none 0 0) (.slice an R.N.length cn) (.slice none 0 0) R).toArray := hB6'
       have hz6 := bk_stays hz5 hS6 hg3'
       clear hB6'
       refine holdE ?_))
  refine Lib.hid ?_
  have hg36 : g3 < w6.heap.size := hB6.lt
  have hg1s : g1 < w2.heap.size := hB12.lt
  have hg13 : g1 < g3 := Nat.lt_of_lt_of_le hg1s hg3'
  have hw6 : w.heap.size ≤ w6.heap.size := (hb02.trans (hz6.mono hb02.size)).size
  have hz6k' : w2.heap.size ≤ w6.heap.size := hz6.size
  clear hB1 hB3 hB4 hB5 hS4 hz4 hz5 hb3
  go_upto_block 0 with (fail)
  go_cut [4] (fun s4 wx => F1 w2 g3 w6.heap.size (.slice an R.N.length cn) (.slice none 0 0) R wx)
  case first =>
    go_wp2_with fail
    go_loopw [4] (fun i wr => ∃ k : Nat, k ≤ R.S.length ∧ i = .int .i64 k ∧ R1Rel w2 g3 w6.heap.size (.slice an R.N.length cn) (.slice none 0 0) R k wr) (fun i _ => R.S.length - (intOf i).toNat)
    case atStart => exact ⟨0, Nat.zero_le _, rfl, _, hB6, by simpa using World.ownsRow_nil w6 w6.heap.size 40 18, by simp, hz6, Nat.le_refl _⟩
    case round =>
      clear hB6 hz6
      obtain ⟨k, hk, rfl, vk, hBk, hown, hcnt, hz, hz6k⟩ := hrel
      obtain ⟨ak, ck, rfl⟩ := own_any hown
      have hB1k := hB12.below hz hB12.lt
      have c1 : wr.cell? ⟨g1, 0, none⟩ = some (.slice asl R.S.length cs) := hB1k.cell 0
      have c3 : wr.cell? ⟨g3, 0, none⟩ = some (.slice ak ((R.S.take k).filter okA).length ck) := hBk.cell 0
      have h0k := hb02.trans (hz.mono hb02.size)
      have Hown := Lib.hid hown
      clear hown
      by_cases hlt : k < R.S.length ∧ ((R.S.take k).filter okA).length < 3
      · obtain ⟨hlt, hst⟩ := hlt
        obtain ⟨b, off, c, hv, hc, hbl, hcell⟩ := H.out.s.pos (by omega)
        injection hv with hv1 _ hv2
        subst hv1 hv2
        have hR := (range_of adL_len hcell hlt)
        have HR : Hid (wr.rangeAt b (off + k * 18) (adL R.S[k])) := Lib.hid (fun j u hu => ((h0k.cell (p := ⟨b, off + k * 18 + j, none⟩) hbl).trans (hR j u hu)))
        clear hR hcell
        have hltI : (k : Int) < (R.S.length : Int) := by omega
        have hstI : (((R.S.take k).filter okA).length : Int) < 3 := by omega
        have hnx := filter_next (p := okA) hlt
        have Hnx := Lib.hid hnx
        clear hnx
        cases hok : okA R.S[k]
        · have hchk : (chkA R.S[k] == 0) = false := hok
          have Hok := Lib.hid hok
          clear hok
          go_wp2_with (first
            | ((with_reducible refine wpList_loadAdM rfl _ rfl rfl HR.out ?_))
            | (go_at_call 28; refine (rcheckA_any _ _).mono ?_; rintro e w7 ⟨rfl, hb7⟩))
          go_roundw
          case rel =>
            refine ⟨k + 1, by omega, by go_num, ?_⟩
            unfold R1Rel
            rw [Hnx.out, if_neg (by rw [Hok.out]; decide), List.append_nil]
            exact ⟨_, hBk.bel hb7, own_below Hown.out hb7, hcnt, hz.trans (hb7.mono hz.size), Nat.le_trans hz6k hb7.size⟩
          case measure => simp [intOf]; omega
        · have hchk : (chkA R.S[k] == 0) = true := hok
          have Hok := Lib.hid hok
          clear hok
          go_wp2_with (first
            | ((with_reducible refine wpList_loadAdM rfl _ rfl rfl HR.out ?_))
            | (go_at_call 28; refine (rcheckA_any _ _).mono ?_; rintro e w7 ⟨rfl, hb7⟩))
          have hBk7 := hBk.bel hb7
          have e1 : w7.cell? ⟨g1, 0, none⟩ = some (.slice (some ⟨b, off, none⟩) R.S.length cs) := (hB1k.bel hb7).cell 0
          have e3 : w7.cell? ⟨g3, 0, none⟩ = some (.slice ak ((R.S.take k).filter okA).length ck) := hBk7.cell 0
          have HR7 : Hid (w7.rangeAt b (off + k * 18) (adL R.S[k])) := Lib.hid (fun j u hu => (hb7.cell (block_lt_of_cell (HR.out j u hu))).trans (HR.out j u hu))
          have Hown7 := Lib.hid (own_below Hown.out hb7)
          have hg7' : w6.heap.size ≤ w7.heap.size := Nat.le_trans hz6k hb7.size
          have hz7 := hz.trans (hb7.mono hz.size)
          have hlt3 : g3 < w6.heap.size := hg36
          have hlt1 : g1 < w6.heap.size := Nat.lt_trans hg13 hg36
          have hltb : b < w6.heap.size := Nat.lt_of_lt_of_le hbl hw6
          have hRS : ∀ w', Below w6.heap.size w7 w' → w'.rangeAt b (off + k * 18) (adL R.S[k]) := fun w' hS' j u hu => (hS'.cell (p := ⟨b, off + k * 18 + j, none⟩) hltb).trans (HR7.out j u hu)
          clear c1 c3 HR Hown
          refine wp_region_k 10 (fun w' => Below w6.heap.size w7 w') (by kernel_rfl) ?_
          refine wpAnyK_take (i := 0) (oi := ⟨some 29, .fieldAddr 26 (.tmp 3) 0, _, _, _, none⟩) (v := .pointer (some ⟨g3, 0, none⟩)) [1, 8, 10] rfl (by kernel_rfl) (by kernel_rfl) (by kernel_rfl) (by kernel_rfl) (fun _ _ _ h => h) (Or.inl ⟨by rfl, fun w' hS' => by go_simp⟩) (Below.refl _ _).drew ?_
          simp only [Act.put, List.setIfInBounds_toArray, List.set_cons_zero, List.set_cons_succ]
          refine wpAnyK_take (i := 1) (oi := ⟨some 30, .load 22 (.tmp 29), _, _, _, none⟩) (v := .slice ak ((R.S.take k).filter okA).length ck) [8, 10] rfl (by kernel_rfl) (by kernel_rfl) (by kernel_rfl) (by kernel_rfl) (fun _ _ _ h => h) (yieldsIf_loadC (by rfl) _ _ rfl rfl (fun w' hS' => (hS'.cell (p := ⟨g3, 0, none⟩) hlt3).trans e3) Try.underlying22 rfl) (Below.refl _ _).drew ?_
          simp only [Act.put, List.setIfInBounds_toArray, List.set_cons_zero, List.set_cons_succ]
          refine wpAnyK_take (i := 2) (oi := ⟨some 31, .fieldAddr 26 (.tmp 1) 0, _, _, _, none⟩) (v := .pointer (some ⟨g1, 0, none⟩)) [3, 5, 6, 7, 8, 10] rfl (by kernel_rfl) (by kernel_rfl) (by kernel_rfl) (by kernel_rfl) (fun _ _ _ h => h) (Or.inl ⟨by rfl, fun w' hS' => by go_simp⟩) (Below.refl _ _).drew ?_
          simp only [Act.put, List.setIfInBounds_toArray, List.set_cons_zero, List.set_cons_succ]
          refine wpAnyK_take (i := 3) (oi := ⟨some 32, .load 22 (.tmp 31), _, _, _, none⟩) (v := .slice (some ⟨b, off, none⟩) R.S.length cs) [5, 6, 7, 8, 10] rfl (by kernel_rfl) (by kernel_rfl) (by kernel_rfl) (by kernel_rfl) (fun _ _ _ h => h) (yieldsIf_loadC (by rfl) _ _ rfl rfl (fun w' hS' => (hS'.cell (p := ⟨g1, 0, none⟩) hlt1).trans e1) Try.underlying22 rfl) (Below.refl _ _).drew ?_
          simp only [Act.put, List.setIfInBounds_toArray, List.set_cons_zero, List.set_cons_succ]
          refine wpAnyK_take (i := 4) (oi := ⟨some 33, .move (.tmp 4), _, _, _, none⟩) (v := .int .i64 k) [5, 6, 7, 8, 10] rfl (by kernel_rfl) (by kernel_rfl) (by kernel_rfl) (by kernel_rfl) (fun _ _ _ h => h) (Or.inl ⟨by rfl, fun w' hS' => by go_simp⟩) (Below.refl _ _).drew ?_
          simp only [Act.put, List.setIfInBounds_toArray, List.set_cons_zero, List.set_cons_succ]
          refine wpAnyK_take (i := 5) (oi := ⟨some 34, .indexAddr 22 (.tmp 32) (.tmp 33), _, _, _, none⟩) (v := .pointer (some ⟨b, off + k * 18, none⟩)) [6, 7, 8, 10] rfl (by kernel_rfl) (by kernel_rfl) (by kernel_rfl) (by kernel_rfl) (fun _ _ _ h => h) (Or.inl ⟨by rfl, fun w' hS' => by go_simp⟩) (Below.refl _ _).drew ?_
          simp only [Act.put, List.setIfInBounds_toArray, List.set_cons_zero, List.set_cons_succ]
          refine wpAnyK_take (i := 6) (oi := ⟨some 35, .load 40 (.tmp 34), _, _, _, none⟩) (v := .agg (adA R.S[k])) [7, 8, 10] rfl (by kernel_rfl) (by kernel_rfl) (by kernel_rfl) (by kernel_rfl) (fun _ _ _ h => h) (yieldsIf_loadAd (by rfl) _ rfl rfl hRS) (Below.refl _ _).drew ?_
          simp only [Act.put, List.setIfInBounds_toArray, List.set_cons_zero, List.set_cons_succ]
          refine wpAnyK_one (i := 7) (by kernel_rfl) ?_
          refine wpOp_of_list (o := ⟨some 36, .buildSlice 22 1 #[(0, .tmp 35)], _, _, _, none⟩) rfl ?_
          refine wpList_lit rfl _ _ rfl elt_ads [.agg (adA R.S[k])] rfl (by decide) (by decide) (fun v hv => by rw [List.mem_singleton.1 hv]; exact adA_size _) rfl ?_
          intro w8 hB8' hx8 hb8 hs8
          clear hx8 hs8
          have hB8 := bk_list (l := adL R.S[k]) hB8' rfl
          have hb78 := bel_drew hb8
          clear hB8'
          show _ ∧ _
          have hb78B := hb78.mono hg7'
          refine ⟨fun _ => hb78B, ?_⟩
          simp only [Act.put, List.setIfInBounds_toArray, List.set_cons_zero, List.set_cons_succ]
          refine wpAnyK_one (i := 8) (by kernel_rfl) ?_
          refine wpOp_of_list (o := ⟨some 37, .call { callee := .builtin .append, args := #[.tmp 30, .tmp 36], argTypes := #[22, 22] }, _, _, _, none⟩) rfl ?_
          refine wpList_app rfl (.tmp 30) (.tmp 36) _ rfl elt_ads rfl (own_below Hown7.out hb78) rfl (hB8.sl (size := 18) (n := 1) (adL_len _) 1 (Nat.le_refl _)) (adL_one _) (Nat.le_trans hg7' hb78.size) (by omega) (by omega) ?_
          intro v9 w9 ho9 hb9 hg9
          clear hg9
          obtain ⟨a9, k9, rfl⟩ := own_any ho9
          have hb79B := hb78B.trans hb9
          have hB9 := hBk7.below hb79B hlt3
          show _ ∧ _
          refine ⟨fun _ => hb79B, ?_⟩
          simp only [Act.put, List.setIfInBounds_toArray, List.set_cons_zero, List.set_cons_succ]
          refine wpAnyK_take (i := 9) (oi := ⟨some 38, .fieldAddr 26 (.tmp 3) 0, _, _, _, none⟩) (v := .pointer (some ⟨g3, 0, none⟩)) [10] rfl (by kernel_rfl) (by kernel_rfl) (by kernel_rfl) (by kernel_rfl) (fun _ _ _ h => h) (Or.inl ⟨by rfl, fun w' hS' => by go_simp⟩) hb79B ?_
          simp only [Act.put, List.setIfInBounds_toArray, List.set_cons_zero, List.set_cons_succ]
          refine wpAnyK_one (i := 10) (by kernel_rfl) ?_
          refine wpOp_of_list (o := ⟨none, .store 22 (.tmp 38) (.tmp 37), _, _, _, none⟩) rfl ?_
          refine wpList_storeC rfl _ _ _ rfl rfl rfl rfl hB9 (show 0 < 10 from by decide) sz_ads ?_
          intro w10 hB10' hS10
          show _ ∧ _
          refine ⟨fun h => (by cases (show true = false from h)), ?_⟩
          dsimp only [Act.put]
          refine wpAnyK_done (by kernel_rfl) ?_ _
          go_wp2
          go_roundw
          case rel =>
            have hw26 := hz6k'
            have hB10 : Bk w10 g3 26 (rsL (.slice a9 (((R.S.take k).filter okA).length + 1) k9) (.slice an R.N.length cn) (.slice none 0 0) R).toArray := hB10'
            refine ⟨k + 1, by omega, by go_num, ?_⟩
            unfold R1Rel
            rw [Hnx.out, if_pos Hok.out, List.length_append, List.flatMap_append]
            refine ⟨_, hB10, ?_, by simp; omega, (hz7.trans (hb79B.mono hw26)).trans (hS10.below hg3'), Nat.le_trans (Nat.le_trans hg7' hb79B.size) (Nat.le_of_eq hS10.size.symm)⟩
            have := own_stays ho9 hS10 hg36
            simpa using this
          case measure => simp [intOf]; omega
      · have hfin : leftL okA 3 R.S = (R.S.take k).filter okA := by
          by_cases h1 : k < R.S.length
          · exact left_full (by omega) hcnt
          · obtain rfl : k = R.S.length := by omega
            exact left_all hcnt
        have Hfin := Lib.hid hfin
        clear hfin
        by_cases h1 : k < R.S.length
        · have hltI : (k : Int) < (R.S.length : Int) := by omega
          have hstI : ¬ (((R.S.take k).filter okA).length : Int) < 3 := by omega
          go_wp2_with fail
          go_meet
          exact ⟨_, hBk, by rw [Hfin.out]; exact Hown.out, hz, hz6k⟩
        · have hltI : ¬ (k : Int) < (R.S.length : Int) := by omega
          go_wp2_with fail
          go_meet
          exact ⟨_, hBk, by rw [Hfin.out]; exact Hown.out, hz, hz6k⟩
  case rest =>
    clear hS5 hS6
    obtain ⟨vc, hBc, hoc, hzc, hbc⟩ := hcut
    obtain ⟨ac, kc, rfl⟩ := own_any hoc
    have cc : wc.cell? ⟨g3, 0, none⟩ = some (.slice ac (leftL okA 3 R.S).length kc) := hBc.cell 0
    have Hoc := Lib.hid hoc
    clear hoc
    have hl3 := leftL_len okA 3 R.S
    go_upto_if 42 with (fail)
    go_cut [45] (fun s45 wx => FJ w2 g3 w6.heap.size (.slice an R.N.length cn) (.slice none 0 0) R wx)
    case first =>
      by_cases hE : leftL okA 3 R.S = []
      · have hn : (((leftL okA 3 R.S).length : Nat) == 0) = true := by rw [hE]; rfl
        have hn2 : (((leftL okA 3 R.S).length : Int) == 0) = true := by rw [hE]; rfl
        have hsrv : srvL R.S = [adOf 127 0 0 1] := by unfold srvL; rw [if_pos hE]
        have Hsrv := Lib.hid hsrv
        clear hE hsrv
        go_wp2_with (first
          | (go_at_call 26; refine (rof_127 _).mono ?_; rintro e w7 ⟨rfl, hb7⟩; have hB7 := hBc.bel hb7; have hz7 := hzc.trans (hb7.mono hzc.size); have hg7 : w6.heap.size ≤ w7.heap.size := Nat.le_trans hbc hb7.size)
          | (refine wpList_lit (o := ⟨some 44, _, _, _, _, _⟩) rfl _ _ rfl elt_ads [.agg (adA (adOf 127 0 0 1))] rfl (by decide) (by decide) (fun v hv => by rw [List.mem_singleton.1 hv]; exact adA_size _) rfl ?_
             intro w8 hB8 ho8 hb8 hs8
             have hz8 := hz7.trans (hb8.mono hz7.size)
             have hB78 := hB7.bel hb8
             have hg8 : w6.heap.size ≤ w8.heap.size := Nat.le_trans hg7 hb8.size
             clear hB8 hs8 hb8)
          | (refine wpList_storeC (o := ⟨none, .store _ (.tmp 45) _, _, _, _, _⟩) rfl _ _ _ rfl rfl rfl rfl hB78 (show 0 < 10 from by decide) sz_ads ?_
             intro w9 hB9' hS9))
        go_meet
        have ho9 := own_stays ho8 hS9 (Nat.lt_of_lt_of_le hg36 hg7)
        refine ⟨.slice (some ⟨w7.heap.size, 0, none⟩) 1 1, hB9', ?_, by rw [hS9.size]; exact hg8, hz8.trans (hS9.below hg3')⟩
        rw [Hsrv.out]
        exact own_low ho9 hg7
      · have hn : (((leftL okA 3 R.S).length : Nat) == 0) = false := by simpa using hE
        have hn2 : (((leftL okA 3 R.S).length : Int) == 0) = false := by simpa using hE
        have hsrv : srvL R.S = leftL okA 3 R.S := by unfold srvL; rw [if_neg hE]
        have Hsrv := Lib.hid hsrv
        clear hE hsrv
        go_wp2_with fail
        go_meet
        exact ⟨_, hBc, by rw [Hsrv.out]; exact Hoc.out, hbc, hzc⟩
    case rest =>
      obtain ⟨vS, hBj, hoj, hbj, hzj⟩ := hcut
      obtain ⟨aS, kS, rfl⟩ := own_any hoj
      obtain ⟨wj, rfl⟩ : ∃ wj, wj = wc := ⟨_, rfl⟩
      clear hBc cc Hoc hzc hbc hl3 hB6 hz6
      have Hoj := Lib.hid hoj
      have hojl := Lib.hid (fun k hk => (hoj.lt k hk).2)
      have hg3j : g3 < wj.heap.size := hBj.lt
      have hg1j : g1 < wj.heap.size := Nat.lt_trans hg13 hg3j
      have h2j : w2.heap.size ≤ wj.heap.size := hzj.size
      have hwj : w.heap.size ≤ wj.heap.size := Nat.le_trans hb02.size h2j
      clear hoj
      go_upto_block 2 with (fail)
      go_cut [5] (fun s5 wx => F2 w2 g3 w6.heap.size wj.heap.size (.slice aS (srvL R.S).length kS) (.slice an R.N.length cn) R wx)
      case first =>
        go_wp2_with fail
        go_loopw [5] (fun i wr => ∃ k : Nat, k ≤ R.P.length ∧ i = .int .i64 k ∧ R2Rel w2 g3 w6.heap.size wj.heap.size (.slice aS (srvL R.S).length kS) (.slice an R.N.length cn) R k wr) (fun i _ => R.P.length - (intOf i).toNat)
        case atStart => exact ⟨0, Nat.zero_le _, rfl, _, hBj, by simpa using World.ownsRow_nil wj wj.heap.size 67 19, by simp, hzj, Nat.le_refl _, Hoj.out⟩
        case round =>
          clear hBj hzj hbj
          obtain ⟨k, hk, rfl, vk, hBk, hown, hcnt, hz, hzjk, hsv⟩ := hrel
          obtain ⟨ak, ck, rfl⟩ := own_any hown
          have hB1k := hB12.below hz hB12.lt
          have c1 : wr.cell? ⟨g1, 2, none⟩ = some (.slice ap R.P.length cp) := hB1k.cell 2
          have c3 : wr.cell? ⟨g3, 2, none⟩ = some (.slice ak ((R.P.take k).filter okP).length ck) := hBk.cell 2
          have h0k := hb02.trans (hz.mono hb02.size)
          have Hown := Lib.hid hown
          have Hsv := Lib.hid hsv
          clear hown hsv
          by_cases hlt : k < R.P.length ∧ ((R.P.take k).filter okP).length < 10
          · obtain ⟨hlt, hst⟩ := hlt
            obtain ⟨b, off, c, hv, hc, hbl, hcell⟩ := H.out.p.pos (by omega)
            injection hv with hv1 _ hv2
            subst hv1 hv2
            have hR := (range_of pfL_len hcell hlt)
            have HR : Hid (wr.rangeAt b (off + k * 19) (pfL R.P[k])) := Lib.hid (fun j u hu => ((h0k.cell (p := ⟨b, off + k * 19 + j, none⟩) hbl).trans (hR j u hu)))
            clear hR hcell
            have hltI : (k : Int) < (R.P.length : Int) := by omega
            have hstI : (((R.P.take k).filter okP).length : Int) < 10 := by omega
            have hnx := filter_next (p := okP) hlt
            have Hnx := Lib.hid hnx
            clear hnx
            cases hok : okP R.P[k]
            · have hchk : (chkP R.P[k] == 0) = false := hok
              have Hok := Lib.hid hok
              clear hok
              go_wp2_with (first
                | ((with_reducible refine wpList_loadPfM rfl _ rfl rfl HR.out ?_))
                | (go_at_call 29; refine (rholds_any _ _).mono ?_; rintro e w7 ⟨rfl, hb7⟩))
              go_roundw
              case rel =>
                refine ⟨k + 1, by omega, by go_num, ?_⟩
                unfold R2Rel
                rw [Hnx.out, if_neg (by rw [Hok.out]; decide), List.append_nil]
                exact ⟨_, hBk.bel hb7, own_below Hown.out hb7, hcnt, hz.trans (hb7.mono hz.size), Nat.le_trans hzjk hb7.size, own_below Hsv.out hb7⟩
              case measure => simp [intOf]; omega
            · have hchk : (chkP R.P[k] == 0) = true := hok
              have Hok := Lib.hid hok
              clear hok
              go_wp2_with (first
                | ((with_reducible refine wpList_loadPfM rfl _ rfl rfl HR.out ?_))
                | (go_at_call 29; refine (rholds_any _ _).mono ?_; rintro e w7 ⟨rfl, hb7⟩))
              have hBk7 := hBk.bel hb7
              have e1 : w7.cell? ⟨g1, 2, none⟩ = some (.slice (some ⟨b, off, none⟩) R.P.length cp) := (hB1k.bel hb7).cell 2
              have e3 : w7.cell? ⟨g3, 2, none⟩ = some (.slice ak ((R.P.take k).filter okP).length ck) := hBk7.cell 2
              have HR7 : Hid (w7.rangeAt b (off + k * 19) (pfL R.P[k])) := Lib.hid (fun j u hu => (hb7.cell (block_lt_of_cell (HR.out j u hu))).trans (HR.out j u hu))
              have Hown7 := Lib.hid (own_below Hown.out hb7)
              have Hsv7 := Lib.hid (own_below Hsv.out hb7)
              have hg7' : wj.heap.size ≤ w7.heap.size := Nat.le_trans hzjk hb7.size
              have hz7 := hz.trans (hb7.mono hz.size)
              have hlt3 : g3 < wj.heap.size := hg3j
              have hlt1 : g1 < wj.heap.size := hg1j
              have hltb : b < wj.heap.size := Nat.lt_of_lt_of_le hbl hwj
              have hRS : ∀ w', Below wj.heap.size w7 w' → w'.rangeAt b (off + k * 19) (pfL R.P[k]) := fun w' hS' j u hu => (hS'.cell (p := ⟨b, off + k * 19 + j, none⟩) hltb).trans (HR7.out j u hu)
              clear c1 c3 HR Hown Hsv
              refine wp_region_k 10 (fun w' => Below wj.heap.size w7 w') (by kernel_rfl) ?_
              refine wpAnyK_take (i := 0) (oi := ⟨some 66, .fieldAddr 26 (.tmp 3) 2, _, _, _, none⟩) (v := .pointer (some ⟨g3, 2, none⟩)) [1, 8, 10] rfl (by kernel_rfl) (by kernel_rfl) (by kernel_rfl) (by kernel_rfl) (fun _ _ _ h => h) (Or.inl ⟨by rfl, fun w' hS' => by go_simp⟩) (Below.refl _ _).drew ?_
              simp only [Act.put, List.setIfInBounds_toArray, List.set_cons_zero, List.set_cons_succ]
              refine wpAnyK_take (i := 1) (oi := ⟨some 67, .load 24 (.tmp 66), _, _, _, none⟩) (v := .slice ak ((R.P.take k).filter okP).length ck) [8, 10] rfl (by kernel_rfl) (by kernel_rfl) (by kernel_rfl) (by kernel_rfl) (fun _ _ _ h => h) (yieldsIf_loadC (by rfl) _ _ rfl rfl (fun w' hS' => (hS'.cell (p := ⟨g3, 2, none⟩) hlt3).trans e3) Try.underlying24 rfl) (Below.refl _ _).drew ?_
              simp only [Act.put, List.setIfInBounds_toArray, List.set_cons_zero, List.set_cons_succ]
              refine wpAnyK_take (i := 2) (oi := ⟨some 68, .fieldAddr 26 (.tmp 1) 2, _, _, _, none⟩) (v := .pointer (some ⟨g1, 2, none⟩)) [3, 5, 6, 7, 8, 10] rfl (by kernel_rfl) (by kernel_rfl) (by kernel_rfl) (by kernel_rfl) (fun _ _ _ h => h) (Or.inl ⟨by rfl, fun w' hS' => by go_simp⟩) (Below.refl _ _).drew ?_
              simp only [Act.put, List.setIfInBounds_toArray, List.set_cons_zero, List.set_cons_succ]
              refine wpAnyK_take (i := 3) (oi := ⟨some 69, .load 24 (.tmp 68), _, _, _, none⟩) (v := .slice (some ⟨b, off, none⟩) R.P.length cp) [5, 6, 7, 8, 10] rfl (by kernel_rfl) (by kernel_rfl) (by kernel_rfl) (by kernel_rfl) (fun _ _ _ h => h) (yieldsIf_loadC (by rfl) _ _ rfl rfl (fun w' hS' => (hS'.cell (p := ⟨g1, 2, none⟩) hlt1).trans e1) Try.underlying24 rfl) (Below.refl _ _).drew ?_
              simp only [Act.put, List.setIfInBounds_toArray, List.set_cons_zero, List.set_cons_succ]
              refine wpAnyK_take (i := 4) (oi := ⟨some 70, .move (.tmp 5), _, _, _, none⟩) (v := .int .i64 k) [5, 6, 7, 8, 10] rfl (by kernel_rfl) (by kernel_rfl) (by kernel_rfl) (by kernel_rfl) (fun _ _ _ h => h) (Or.inl ⟨by rfl, fun w' hS' => by go_simp⟩) (Below.refl _ _).drew ?_
              simp only [Act.put, List.setIfInBounds_toArray, List.set_cons_zero, List.set_cons_succ]
              refine wpAnyK_take (i := 5) (oi := ⟨some 71, .indexAddr 24 (.tmp 69) (.tmp 70), _, _, _, none⟩) (v := .pointer (some ⟨b, off + k * 19, none⟩)) [6, 7, 8, 10] rfl (by kernel_rfl) (by kernel_rfl) (by kernel_rfl) (by kernel_rfl) (fun _ _ _ h => h) (Or.inl ⟨by rfl, fun w' hS' => by go_simp⟩) (Below.refl _ _).drew ?_
              simp only [Act.put, List.setIfInBounds_toArray, List.set_cons_zero, List.set_cons_succ]
              refine wpAnyK_take (i := 6) (oi := ⟨some 72, .load 67 (.tmp 71), _, _, _, none⟩) (v := .agg (pfA R.P[k])) [7, 8, 10] rfl (by kernel_rfl) (by kernel_rfl) (by kernel_rfl) (by kernel_rfl) (fun _ _ _ h => h) (yieldsIf_loadPf (by rfl) _ rfl rfl hRS) (Below.refl _ _).drew ?_
              simp only [Act.put, List.setIfInBounds_toArray, List.set_cons_zero, List.set_cons_succ]
              refine wpAnyK_one (i := 7) (by kernel_rfl) ?_
              refine wpOp_of_list (o := ⟨some 73, .buildSlice 24 1 #[(0, .tmp 72)], _, _, _, none⟩) rfl ?_
              refine wpList_lit rfl _ _ rfl elt_pfs [.agg (pfA R.P[k])] rfl (by decide) (by decide) (fun v hv => by rw [List.mem_singleton.1 hv]; exact pfA_size _) rfl ?_
              intro w8 hB8' hx8 hb8 hs8
              clear hx8 hs8
              have hB8 := bk_list (l := pfL R.P[k]) hB8' rfl
              have hb78 := bel_drew hb8
              clear hB8'
              show _ ∧ _
              have hb78B := hb78.mono hg7'
              refine ⟨fun _ => hb78B, ?_⟩
              simp only [Act.put, List.setIfInBounds_toArray, List.set_cons_zero, List.set_cons_succ]
              refine wpAnyK_one (i := 8) (by kernel_rfl) ?_
              refine wpOp_of_list (o := ⟨some 74, .call { callee := .builtin .append, args := #[.tmp 67, .tmp 73], argTypes := #[24, 24] }, _, _, _, none⟩) rfl ?_
              refine wpList_app rfl (.tmp 67) (.tmp 73) _ rfl elt_pfs rfl (own_below Hown7.out hb78) rfl (hB8.sl (size := 19) (n := 1) (pfL_len _) 1 (Nat.le_refl _)) (pfL_one _) (Nat.le_trans hg7' hb78.size) (by omega) (by omega) ?_
              intro v9 w9 ho9 hb9 hg9
              clear hg9
              obtain ⟨a9, k9, rfl⟩ := own_any ho9
              have hb79B := hb78B.trans hb9
              have hB9 := hBk7.below hb79B hlt3
              show _ ∧ _
              refine ⟨fun _ => hb79B, ?_⟩
              simp only [Act.put, List.setIfInBounds_toArray, List.set_cons_zero, List.set_cons_succ]
              refine wpAnyK_take (i := 9) (oi := ⟨some 75, .fieldAddr 26 (.tmp 3) 2, _, _, _, none⟩) (v := .pointer (some ⟨g3, 2, none⟩)) [10] rfl (by kernel_rfl) (by kernel_rfl) (by kernel_rfl) (by kernel_rfl) (fun _ _ _ h => h) (Or.inl ⟨by rfl, fun w' hS' => by go_simp⟩) hb79B ?_
              simp only [Act.put, List.setIfInBounds_toArray, List.set_cons_zero, List.set_cons_succ]
              refine wpAnyK_one (i := 10) (by kernel_rfl) ?_
              refine wpOp_of_list (o := ⟨none, .store 24 (.tmp 75) (.tmp 74), _, _, _, none⟩) rfl ?_
              refine wpList_storeC rfl _ _ _ rfl rfl rfl rfl hB9 (show 2 < 10 from by decide) sz_pfs ?_
              intro w10 hB10' hS10
              show _ ∧ _
              refine ⟨fun h => (by cases (show true = false from h)), ?_⟩
              dsimp only [Act.put]
              refine wpAnyK_done (by kernel_rfl) ?_ _
              go_wp2
              go_roundw
              case rel =>
                have hB10 : Bk w10 g3 26 (rsL (.slice aS (srvL R.S).length kS) (.slice an R.N.length cn) (.slice a9 (((R.P.take k).filter okP).length + 1) k9) R).toArray := hB10'
                refine ⟨k + 1, by omega, by go_num, ?_⟩
                unfold R2Rel
                rw [Hnx.out, if_pos Hok.out, List.length_append, List.flatMap_append]
                refine ⟨_, hB10, ?_, by simp; omega, (hz7.trans (hb79B.mono h2j)).trans (hS10.below hg3'), Nat.le_trans (Nat.le_trans hg7' hb79B.size) (Nat.le_of_eq hS10.size.symm), ?_⟩
                · have := own_stays ho9 hS10 hg3j
                  simpa using this
                · exact own_stays (own_mid Hsv7.out hb79B hojl.out) hS10 hg36
              case measure => simp [intOf]; omega
          · have hfin : leftL okP 10 R.P = (R.P.take k).filter okP := by
              by_cases h1 : k < R.P.length
              · exact left_full (by omega) hcnt
              · obtain rfl : k = R.P.length := by omega
                exact left_all hcnt
            have Hfin := Lib.hid hfin
            clear hfin
            by_cases h1 : k < R.P.length
            · have hltI : (k : Int) < (R.P.length : Int) := by omega
              have hstI : ¬ (((R.P.take k).filter okP).length : Int) < 10 := by omega
              go_wp2_with fail
              go_meet
              exact ⟨_, hBk, by rw [Hfin.out]; exact Hown.out, hz, hzjk, Hsv.out⟩
            · have hltI : ¬ (k : Int) < (R.P.length : Int) := by omega
              go_wp2_with fail
              go_meet
              exact ⟨_, hBk, by rw [Hfin.out]; exact Hown.out, hz, hzjk, Hsv.out⟩
      case rest =>
        clear hBj hzj hbj Hoj hojl
        obtain ⟨vP, hBf, hof, hzf, hbf, hsf⟩ := hcut
        obtain ⟨aP, kP, rfl⟩ := own_any hof
        obtain ⟨wf, rfl⟩ : ∃ wf, wf = wc := ⟨_, rfl⟩
        have hB1f := hB12.below hzf hB12.lt
        have c1 : wf.cell? ⟨g1, 1, none⟩ = some (.slice an R.N.length cn) := hB1f.cell 1
        have h0f := hb02.trans (hzf.mono hb02.size)
        have Hof := Lib.hid hof
        have Hsf := Lib.hid hsf
        clear hof hsf
        go_wp2_with (first
          | (go_at_call 30; refine (rnames6 R.N _ _ (H.out.n.below h0f) (fun q hq => (H.out.nm q hq).bel h0f) H.out.ln).mono ?_
             rintro e w7 ⟨v7, rfl, ho7, hb7⟩
             obtain ⟨aN, kN, rfl⟩ := own_any ho7
             have hB7 := hBf.bel hb7
             have hz7 := hzf.trans (hb7.mono hzf.size)
             have Hof7 := Lib.hid (own_below Hof.out hb7)
             have Hsf7 := Lib.hid (own_below Hsf.out hb7)
             clear c1 Hof Hsf)
          | (refine wpList_storeC (o := ⟨none, .store _ (.tmp 79) _, _, _, _, _⟩) rfl _ _ _ rfl rfl rfl rfl hB7 (show 1 < 10 from by decide) sz_nms ?_
             intro w8 hB8' hS8
             have hB8 : Bk w8 g3 26 (rsL (.slice aS (srvL R.S).length kS) (.slice aN (leftL okNp 6 R.N).length kN) (.slice aP (leftL okP 10 R.P).length kP) R).toArray := hB8'
             have hz8 := bk_stays hz7 hS8 hg3'
             have hN8 := Lib.hid (own_stays ho7 hS8 (Nat.lt_of_lt_of_le hg3j hbf))
             have hP8 := Lib.hid (own_stays Hof7.out hS8 hg3j)
             have hS8' := Lib.hid (own_stays Hsf7.out hS8 hg36)
             have c8 : w8.cell? ⟨g1, 3, none⟩ = some (.int .i64 R.nd) := (hB12.below hz8 hB12.lt).cell 3
             clear hB8' ho7 Hof7 Hsf7 hS8
             refine holdE ?_))
        refine Lib.hid ?_
        go_wp2_with (first
          | (refine wpList_storeC (o := ⟨none, .store _ (.tmp 84) _, _, _, _, _⟩) rfl _ _ _ rfl rfl rfl rfl hB8 (show 3 < 10 from by decide) sz_int ?_
             intro w9 hB9' hS9
             have hB9 : Bk w9 g3 26 (rsL (.slice aS (srvL R.S).length kS) (.slice aN (leftL okNp 6 R.N).length kN) (.slice aP (leftL okP 10 R.P).length kP) { R with nd := heldI R.nd 0 15 }).toArray := hB9'
             have hz9 := bk_stays hz8 hS9 hg3'
             have c9 : w9.cell? ⟨g1, 4, none⟩ = some (.int .i64 R.tm) := (hB12.below hz9 hB12.lt).cell 4
             clear hB9' c8
             refine holdE ?_))
        refine Lib.hid ?_
        go_wp2_with (first
          | (refine wpList_storeC (o := ⟨none, .store _ (.tmp 89) _, _, _, _, _⟩) rfl _ _ _ rfl rfl rfl rfl hB9 (show 4 < 10 from by decide) sz_int ?_
             intro w10 hB10' hS10
             have hB10 : Bk w10 g3 26 (rsL (.slice aS (srvL R.S).length kS) (.slice aN (leftL okNp 6 R.N).length kN) (.slice aP (leftL okP 10 R.P).length kP) { R with nd := heldI R.nd 0 15, tm := heldI R.tm 1 30 }).toArray := hB10'
             have hz10 := bk_stays hz9 hS10 hg3'
             have c10 : w10.cell? ⟨g1, 5, none⟩ = some (.int .i64 R.tr) := (hB12.below hz10 hB12.lt).cell 5
             clear hB10' c9
             refine holdE ?_))
        refine Lib.hid ?_
        go_wp2_with (first
          | (refine wpList_storeC (o := ⟨none, .store _ (.tmp 94) _, _, _, _, _⟩) rfl _ _ _ rfl rfl rfl rfl hB10 (show 5 < 10 from by decide) sz_int ?_
             intro w11 hB11' hS11
             have hB11 : Bk w11 g3 26 (rsL (.slice aS (srvL R.S).length kS) (.slice aN (leftL okNp 6 R.N).length kN) (.slice aP (leftL okP 10 R.P).length kP) (heldR R)).toArray := hB11'
             have hz11 := bk_stays hz10 hS11 hg3'
             have hB2' := hB2.below hz11 hB2.lt
             clear hB11' c10
             refine holdE ?_))
        refine Lib.hid ?_
        go_wp2_with (first
          | (refine wpList_loadB (o := ⟨some 95, _, _, _, _, _⟩) rfl _ _ rfl rfl hB11 rs_under rfl rs_size ?_)
          | (refine wpList_storeB rfl _ (.tmp 2) (.tmp 95) rfl rfl rfl hB2' rs_size rfl (rsL_one _ rfl rfl rfl) ?_; intro wz hBz hSz))
        have hS3 := (hS9.trans hS10).trans hS11
        have hg2s : g2 < w2.heap.size := hB2.lt
        have hb0z : Below w.heap.size w wz := hb02.trans ((hz11.mono hb02.size).trans (hSz.below (Nat.le_trans hb1.size hg2')))
        have q1 := own_stays (own_stays hS8'.out hS3 hg36) hSz (Nat.lt_of_lt_of_le hg2s hz6k')
        have q2 := own_stays (own_stays hN8.out hS3 (Nat.lt_of_lt_of_le hg3j hbf)) hSz (Nat.lt_of_lt_of_le hg2s (Nat.le_trans h2j hbf))
        have q3 := own_stays (own_stays hP8.out hS3 hg3j) hSz (Nat.lt_of_lt_of_le hg2s h2j)
        exact ret_row Try.results17 rfl hBz rs_under rfl rs_size rfl ⟨_, _, _, rfl, heldR_at q1 q2 q3 (fun q hq => (H.out.nm q hq).bel hb0z) hw6 (Nat.le_trans hwj hbf) hwj, hb0z⟩
end Go.Proofs.Ytebfgaapcpehmaa

/- The reference's Servers, Tries and Most (23). -/
namespace Go.Proofs.Ytebfgaapcpehmaa
open Go.RowKit

theorem rotL_at (R : Rs) (turn : Int) {k : Nat} (h : k < (srvL R.S).length) : (rotL R turn)[k]? = (srvL R.S)[(k + rotAt R turn) % (srvL R.S).length]? := by
  have ha := rotAt_lt R turn
  unfold rotL
  by_cases hk : k < (srvL R.S).length - rotAt R turn
  · rw [List.getElem?_append_left (by rw [List.length_drop]; exact hk), List.getElem?_drop, Nat.mod_eq_of_lt (by omega), Nat.add_comm]
  · have e : (k + rotAt R turn) % (srvL R.S).length = k + rotAt R turn - (srvL R.S).length := by
      rw [Nat.mod_eq_sub_mod (by omega), Nat.mod_eq_of_lt (by omega)]
    rw [List.getElem?_append_right (by rw [List.length_drop]; omega), List.length_drop, List.getElem?_take, if_pos (by omega), e]
    congr 1
    omega
def SrvRel (w2 : World) (L : List Ad) (k : Nat) (v : Value) (wr : World) : Prop := wr.ownsRow w2.heap.size 40 18 v k ((L.take k).flatMap adL) ∧ Below w2.heap.size w2 wr

set_option maxRecDepth 100000 in
set_option maxHeartbeats 4000000 in
theorem rservers_any (vs vn vp : Value) (R : Rs) (turn : Int) (w : World) (h : RsAt w vs vn vp R) :
    Calls Try.prog 13 #[.agg (rsL vs vn vp R).toArray, .int .i64 turn] w (SrvPost w (rotL R turn)) := by
  have H := Lib.hid h
  clear h
  obtain ⟨hn1, hn3⟩ := srvL_len R.S
  have hU := u64n_eq turn
  have hrl : (rotL R turn).length = (srvL R.S).length := rotL_len R turn
  obtain ⟨U, hU2⟩ : ∃ U, u64n turn = U := ⟨_, rfl⟩
  rw [hU2] at hU
  obtain ⟨M, hM2⟩ : ∃ M, U % (srvL R.S).length = M := ⟨_, rfl⟩
  have hM : (U : Int) % ((srvL R.S).length : Int) = (M : Int) := by rw [← hM2]; exact (Int.natCast_emod U _).symm
  have hMlt : M < (srvL R.S).length := by rw [← hM2]; exact Nat.mod_lt _ (by omega)
  have hn0 : (0 : Int) < ((srvL R.S).length : Int) := by omega
  have hra : rotAt R turn = (if R.rot then M else 0) := by unfold rotAt; rw [hU2, hM2]
  have Hra := Lib.hid hra
  have Hat := Lib.hid (fun (k : Nat) (h : k < (srvL R.S).length) => rotL_at R turn h)
  obtain ⟨L, hL⟩ : ∃ L, srvL R.S = L := ⟨_, rfl⟩
  obtain ⟨D, hD⟩ : ∃ D, rotL R turn = D := ⟨_, rfl⟩
  rw [hL] at hn1 hn3 hrl hM hMlt hn0 Hat
  rw [hD] at hrl Hat ⊢
  have HL := Lib.hid hL
  have Hrl := Lib.hid hrl
  clear hra hU2 hM2 hL hD hrl
  cases hrot : R.rot
  all_goals
    have Hrot := Lib.hid hrot
    clear hrot
    go_enter Try.func13, Try.ntmps13
    go_wp2_with (first
      | ((with_reducible refine wpList_boxB rfl _ _ rfl rfl ?_); intro g1 w1 hg1 hB1 hb1 hs1; clear hg1 hs1)
      | (refine wpList_loadB (o := ⟨some 10, _, _, _, _, _⟩) rfl _ _ rfl rfl hB1 rs_under rfl rs_size ?_)
      | (go_at_call 17; refine (rresolv_any vs vn vp R _ (H.out.bel hb1)).mono ?_
         rintro e w2 ⟨xs, xn, xp, rfl, hR2, hb2⟩
         have hB12 := hB1.bel hb2
         have hb02 := bel_tr hb1 hb2
         have ho2 : w2.ownsRow w1.heap.size 40 18 xs L.length (L.flatMap adL) := by rw [← HL.out]; exact hR2.os
         obtain ⟨b, off, c, rfl, hc, hbl, hcl⟩ := (Sl.own ho2).pos hn1
         have hcell := Lib.hid hcl
         clear hR2 ho2 hcl hB1 hb1 hb2
         refine holdE ?_))
    refine Lib.hid ?_
    go_wp2_with (first
      | (refine wpList_fieldOne (o := ⟨some 12, _, _, _, _, _⟩) rfl _ _ 0 rfl rfl rs_under (ty := 22) (off := 0) (by kernel_rfl) Try.underlying22 rfl (v := .slice (some ⟨b, off, none⟩) L.length c) rfl ?_))
    go_loopw [7, 8] (fun v i wr => ∃ k : Nat, k ≤ L.length ∧ i = .int .i64 k ∧ SrvRel w2 D k v wr) (fun _ i _ => L.length - (intOf i).toNat)
    case atStart => exact ⟨0, Nat.zero_le _, rfl, by simpa using World.ownsRow_nil w2 w2.heap.size 40 18, Below.refl _ _⟩
    case round =>
      obtain ⟨k, hk, rfl, hown, hz⟩ := hrel
      obtain ⟨ao, co, rfl⟩ := own_any hown
      have Hown := Lib.hid hown
      clear hown
      by_cases hlt : ¬ k < L.length
      · have hltI : ¬ (k : Int) < (L.length : Int) := by omega
        obtain rfl : k = L.length := by omega
        go_wp2
        go_ret
        refine ⟨_, rfl, ?_, hb02.trans (hz.mono hb02.size)⟩
        have := own_low Hown.out hb02.size
        rw [List.take_of_length_le (Nat.le_of_eq Hrl.out)] at this
        show wr.ownsRow _ _ 18 (.slice ao L.length co) D.length (D.flatMap adL)
        rw [Hrl.out]
        exact this
      have hlt : k < L.length := by omega
      have hltI : (k : Int) < (L.length : Int) := by omega
      have c6 : wr.cell? ⟨g1, 6, none⟩ = some (.bool R.rot) := (hB12.below hz hB12.lt).cell 6
      rw [Hrot.out] at c6
      obtain ⟨J, hJlt, hDk, hJq⟩ : ∃ J, J < L.length ∧ D[k]? = L[J]? ∧ ((R.rot = false ∧ k = J) ∨ (R.rot = true ∧ ((k : Int) + (M : Int)) % (L.length : Int) = (J : Int))) := by
        refine ⟨(k + rotAt R turn) % L.length, Nat.mod_lt _ (by omega), Hat.out k hlt, ?_⟩
        rw [Hra.out]
        cases hr : R.rot
        · left
          refine ⟨rfl, ?_⟩
          rw [if_neg (by decide), Nat.add_zero, Nat.mod_eq_of_lt hlt]
        · right
          refine ⟨rfl, ?_⟩
          rw [if_pos rfl, ← Int.natCast_add, ← Int.natCast_emod]
      have HDk := Lib.hid hDk
      clear hDk
      rcases hJq with ⟨hr, hJk⟩ | ⟨hr, hq⟩
      all_goals first | (exact absurd (hr.symm.trans Hrot.out) (by decide)) | (clear hr)
      all_goals first
        | (subst hJk
           clear hJlt
           have hR := (range_of adL_len hcell.out hlt)
           have HR : Hid (wr.rangeAt b (off + k * 18) (adL L[k])) := Lib.hid (fun i u hu => ((hz.cell (p := ⟨b, off + k * 18 + i, none⟩) hbl).trans (hR i u hu)))
           clear hR
           go_wp2_with (first
             | ((with_reducible refine wpList_loadAdM rfl _ rfl rfl HR.out ?_))
             | (refine wpList_lit (o := ⟨some 38, _, _, _, _, _⟩) rfl _ _ rfl elt_ads [.agg (adA L[k])] rfl (by decide) (by decide) (fun v hv => by rw [List.mem_singleton.1 hv]; exact adA_size _) rfl ?_
                intro w7 hB7' hx7 hb7 hs7
                have hB7 := bk_list (l := adL L[k]) hB7' rfl
                clear hx7 hs7 hB7')
             | (at_builtin; refine wpList_app (n := k) rfl (.tmp 33) (.tmp 38) _ rfl elt_ads rfl (own_below Hown.out hb7) rfl (hB7.sl (size := 18) (n := 1) (adL_len _) 1 (Nat.le_refl _)) (adL_one _) (Nat.le_trans hz.size hb7.size) (by omega) (by omega) ?_; intro v8 w8 ho8 hb8 hg8; have Ho8 := Lib.hid ho8; clear ho8 hg8))
           go_roundw
           case' rel =>
             refine ⟨k + 1, by omega, by go_num, ?_, (hz.trans (hb7.mono hz.size)).trans hb8⟩
             have hd := HDk.out
             rw [List.getElem?_eq_getElem hlt] at hd
             have hkD : k < D.length := by rw [Hrl.out]; exact hlt
             rw [List.getElem?_eq_getElem hkD] at hd
             injection hd with hd
             rw [List.take_succ_eq_append_getElem hkD, List.flatMap_append, hd]
             simpa using Ho8.out
           case' measure => simp [intOf]; omega)
        | (skip
           have hJI : (J : Int) < (L.length : Int) := by omega
           have hR := (range_of adL_len hcell.out hJlt)
           have HR : Hid (wr.rangeAt b (off + J * 18) (adL L[J])) := Lib.hid (fun i u hu => ((hz.cell (p := ⟨b, off + J * 18 + i, none⟩) hbl).trans (hR i u hu)))
           clear hR
           go_wp2_with (first
             | ((with_reducible refine wpList_loadAdM rfl _ rfl rfl HR.out ?_))
             | (refine wpList_lit (o := ⟨some 38, _, _, _, _, _⟩) rfl _ _ rfl elt_ads [.agg (adA L[J])] rfl (by decide) (by decide) (fun v hv => by rw [List.mem_singleton.1 hv]; exact adA_size _) rfl ?_
                intro w7 hB7' hx7 hb7 hs7
                have hB7 := bk_list (l := adL L[J]) hB7' rfl
                clear hx7 hs7 hB7')
             | (at_builtin; refine wpList_app (n := k) rfl (.tmp 33) (.tmp 38) _ rfl elt_ads rfl (own_below Hown.out hb7) rfl (hB7.sl (size := 18) (n := 1) (adL_len _) 1 (Nat.le_refl _)) (adL_one _) (Nat.le_trans hz.size hb7.size) (by omega) (by omega) ?_; intro v8 w8 ho8 hb8 hg8; have Ho8 := Lib.hid ho8; clear ho8 hg8))
           go_roundw
           case' rel =>
             refine ⟨k + 1, by omega, by go_num, ?_, (hz.trans (hb7.mono hz.size)).trans hb8⟩
             have hd := HDk.out
             rw [List.getElem?_eq_getElem hJlt] at hd
             have hkD : k < D.length := by rw [Hrl.out]; exact hlt
             rw [List.getElem?_eq_getElem hkD] at hd
             injection hd with hd
             rw [List.take_succ_eq_append_getElem hkD, List.flatMap_append, hd]
             simpa using Ho8.out
           case' measure => simp [intOf]; omega)
end Go.Proofs.Ytebfgaapcpehmaa

/- The reference's Tries and Most (23). -/
namespace Go.Proofs.Ytebfgaapcpehmaa
open Go.RowKit

def repL (L : List Ad) : Nat → List Ad
  | 0 => []
  | n + 1 => repL L n ++ L
theorem repL_len (L : List Ad) : ∀ n, (repL L n).length = n * L.length
  | 0 => by simp [repL]
  | n + 1 => by rw [repL, List.length_append, repL_len L n, Nat.add_mul, Nat.one_mul]
/-- the tries and the servers that are wanted, one by one. -/
theorem trs_rep (L : List Ad) : ∀ (n : Nat), n ≤ 1000 → ∀ i, i < n * L.length → ∃ (x : Ad) (p : Pf), (trsL L n)[i]? = some p ∧ (repL L n)[i]? = some x ∧ p.ad = x ∧ p.bits = ((i / L.length : Nat) : Int)
  | 0, _, i, hi => by simp at hi
  | n + 1, hn, i, hi => by
    rw [Nat.add_mul, Nat.one_mul] at hi
    have hl := trsL_len L (n := n) (by omega)
    have hr := repL_len L n
    rw [trsL_succ, repL]
    by_cases h : i < n * L.length
    · obtain ⟨x, p, h1, h2, h3, h4⟩ := trs_rep L n (by omega) i h
      exact ⟨x, p, by rw [List.getElem?_append_left (by omega)]; exact h1, by rw [List.getElem?_append_left (by omega)]; exact h2, h3, h4⟩
    · have hj : i - n * L.length < L.length := by omega
      refine ⟨L[i - n * L.length], mkT L[i - n * L.length] n (by omega), ?_, ?_, rfl, ?_⟩
      · rw [List.getElem?_append_right (by omega), hl]
        unfold rnd
        rw [dif_pos (by omega), List.getElem?_map, List.getElem?_eq_getElem hj]
        rfl
      · rw [List.getElem?_append_right (by omega), hr, List.getElem?_eq_getElem hj]
      · have : i / L.length = n := by
          have e : i = n * L.length + (i - n * L.length) := by omega
          rw [e, Nat.add_comm, Nat.add_mul_div_right _ _ (by omega), Nat.div_eq_of_lt hj, Nat.zero_add]
        rw [this]
        rfl

set_option maxRecDepth 100000 in
set_option maxHeartbeats 2000000 in
theorem rtries_any (vs vn vp : Value) (R : Rs) (turn : Int) (w : World) (h : RsAt w vs vn vp R) :
    Calls Try.prog 10 #[.agg (rsL vs vn vp R).toArray, .int .i64 turn] w (SrvPost w (repL (rotL R turn) (trN R))) := by
  have H := Lib.hid h
  clear h
  obtain ⟨htr, ht1, ht5⟩ := trN_eq R
  obtain ⟨T, hT⟩ : ∃ T, trN R = T := ⟨_, rfl⟩
  rw [hT] at htr ht1 ht5 ⊢
  have hrl := rotL_len R turn
  obtain ⟨hn1, hn3⟩ := srvL_len R.S
  obtain ⟨L, hL⟩ : ∃ L, rotL R turn = L := ⟨_, rfl⟩
  have hl3 : L.length ≤ 3 := by rw [← hL, hrl]; exact hn3
  rw [hL]
  have HL := Lib.hid hL
  have Htr := Lib.hid htr
  clear hT hrl hn1 hn3 hL htr
  go_enter Try.func10, Try.ntmps10
  go_wp2_with (first
    | ((with_reducible refine wpList_boxB rfl _ _ rfl rfl ?_); intro g1 w1 hg1 hB1 hb1 hs1; clear hg1 hs1))
  go_loopw [5, 6] (fun v i wr => ∃ k : Nat, k ≤ T ∧ i = .int .i64 k ∧ wr.ownsRow w1.heap.size 40 18 v (repL L k).length ((repL L k).flatMap adL) ∧ Below w1.heap.size w1 wr) (fun _ i _ => T - (intOf i).toNat)
  case atStart => exact ⟨0, Nat.zero_le _, rfl, by simpa [repL] using World.ownsRow_nil w1 w1.heap.size 40 18, Below.refl _ _⟩
  case round =>
    obtain ⟨k, hk, rfl, hown, hz⟩ := hrel
    obtain ⟨ao, co, rfl⟩ := own_any hown
    have Hown := Lib.hid hown
    have hlen := repL_len L k
    have hle : (repL L k).length ≤ 15 := by
      rw [hlen]
      have : k * L.length ≤ 5 * 3 := Nat.mul_le_mul (by omega) hl3
      omega
    have hBr := hB1.bel hz
    have h0r := bel_tr hb1 hz
    clear hown hlen
    by_cases hlt : k < T
    · have hltI : (k : Int) < (T : Int) := by omega
      go_wp2_with (first
        | (refine wpList_loadB (o := ⟨some 8, _, _, _, _, _⟩) rfl _ _ rfl rfl hBr rs_under rfl rs_size ?_)
        | (go_at_call 17; refine (rresolv_any vs vn vp R _ (H.out.bel h0r)).mono ?_
           rintro e w2 ⟨xs, xn, xp, rfl, hR2, hb2⟩
           have hB2 := hBr.bel hb2
           have h02 := bel_tr h0r hb2
           clear hR2)
        | (refine wpList_fieldOne (o := ⟨some 10, _, _, _, _, _⟩) rfl _ _ 5 rfl rfl rs_under (ty := 3) (off := 5) (by kernel_rfl) Try.underlying3 rfl (v := .int .i64 (heldI R.tr 1 5)) rfl ?_; rw [Htr.out]; refine holdE ?_))
      refine Lib.hid ?_
      go_wp2_with (first
        | (refine wpList_loadB (o := ⟨some 15, _, _, _, _, _⟩) rfl _ _ rfl rfl hB2 rs_under rfl rs_size ?_)
        | (go_at_call 13; refine (rservers_any vs vn vp R turn _ (H.out.bel h02)).mono ?_
           rw [HL.out]
           rintro e w3 ⟨v3, rfl, ho3, hb3⟩
           obtain ⟨a3, c3, rfl⟩ := own_any ho3
           have Ho3 := Lib.hid ho3
           have hb23 := bel_tr hb2 hb3
           clear ho3)
        | (at_builtin; refine wpList_app rfl (.tmp 14) (.tmp 17) _ rfl elt_ads rfl (own_below Hown.out hb23) rfl (Sl.own Ho3.out) (flat_one adL_one L) (Nat.le_trans hz.size hb23.size) (by omega) (by omega) ?_; intro v4 w4 ho4 hb4 hg4; have Ho4 := Lib.hid ho4; clear ho4 hg4))
      go_roundw
      case rel =>
        refine ⟨k + 1, by omega, by go_num, ?_, (hz.trans (hb23.mono hz.size)).trans hb4⟩
        rw [repL, List.length_append, List.flatMap_append]
        exact Ho4.out
      case measure => simp [intOf]; omega
    · have hltI : ¬ (k : Int) < (T : Int) := by omega
      obtain rfl : k = T := by omega
      go_wp2_with (first
        | (refine wpList_loadB (o := ⟨some 8, _, _, _, _, _⟩) rfl _ _ rfl rfl hBr rs_under rfl rs_size ?_)
        | (go_at_call 17; refine (rresolv_any vs vn vp R _ (H.out.bel h0r)).mono ?_
           rintro e w2 ⟨xs, xn, xp, rfl, hR2, hb2⟩
           clear hR2)
        | (refine wpList_fieldOne (o := ⟨some 10, _, _, _, _, _⟩) rfl _ _ 5 rfl rfl rs_under (ty := 3) (off := 5) (by kernel_rfl) Try.underlying3 rfl (v := .int .i64 (heldI R.tr 1 5)) rfl ?_; rw [Htr.out]))
      go_ret
      exact ⟨_, rfl, own_low (own_below Hown.out hb2) hb1.size, bel_tr h0r hb2⟩

set_option maxRecDepth 100000 in
set_option maxHeartbeats 1000000 in
theorem rmost_any (vs vn vp : Value) (R : Rs) (w : World) (h : RsAt w vs vn vp R) :
    Calls Try.prog 15 #[.agg (rsL vs vn vp R).toArray] w fun e w' => e = .returned (.int .i64 (mostN R)) ∧ Below w.heap.size w w' := by
  have H := Lib.hid h
  clear h
  obtain ⟨htr, ht1, ht5⟩ := trN_eq R
  obtain ⟨hn1, hn3⟩ := srvL_len R.S
  have hmo := mostN_le R
  have hm : mostN R = 3 * (trN R * (srvL R.S).length) := rfl
  obtain ⟨T, hT⟩ : ∃ T, trN R = T := ⟨_, rfl⟩
  obtain ⟨Mo, hMo⟩ : ∃ Mo, mostN R = Mo := ⟨_, rfl⟩
  obtain ⟨n, hn⟩ : ∃ n, (srvL R.S).length = n := ⟨_, rfl⟩
  rw [hT] at htr ht1 ht5 hm
  rw [hn] at hn1 hn3 hm
  rw [hMo] at hmo hm ⊢
  have hprod : (3 * (n : Int)) * (T : Int) = (Mo : Int) := by rw [hm, Int.natCast_mul, Int.natCast_mul, Int.mul_assoc, Int.mul_comm (n : Int)]; rfl
  have Htr := Lib.hid htr
  have Hn := Lib.hid hn
  clear hT hMo hm hn htr
  go_enter Try.func15, Try.ntmps15
  go_wp2_with (first
    | ((with_reducible refine wpList_boxB rfl _ _ rfl rfl ?_); intro g1 w1 hg1 hB1 hb1 hs1; clear hg1 hs1)
    | (refine wpList_loadB (o := ⟨some 4, _, _, _, _, _⟩) rfl _ _ rfl rfl hB1 rs_under rfl rs_size ?_)
    | (go_at_call 17; refine (rresolv_any vs vn vp R _ (H.out.bel hb1)).mono ?_
       rintro e w2 ⟨xs, xn, xp, rfl, hR2, hb2⟩
       have hb02 := bel_tr hb1 hb2
       obtain ⟨as2, cs2, hxs, _⟩ := hR2.rs.s.any
       obtain ⟨an2, cn2, hxn, _⟩ := hR2.rs.n.any
       obtain ⟨ap2, cp2, hxp, _⟩ := hR2.rs.p.any
       subst hxs hxn hxp
       clear hR2
       refine holdE ?_))
  refine Lib.hid ?_
  go_wp2_with (first
    | ((with_reducible refine wpList_allocZ (o := ⟨some 3, _, _, _, _, _⟩) rfl _ rfl rs_zero ?_); intro g3 w3 hg3 hB3 hb3 hs3; have hg3' : w2.heap.size ≤ g3 := Nat.le_of_eq hg3.symm; clear hg3 hs3)
    | (refine wpList_storeB rfl _ (.tmp 3) (.tmp 5) rfl rfl rfl hB3 rs_size rfl (rsL_one _ rfl rfl rfl) ?_; intro w4 hB4 hS4
       refine holdE ?_))
  refine Lib.hid ?_
  have hb04 := bel_tr hb02 (hb3.trans (hS4.below hg3'))
  have c0 : w4.cell? ⟨g3, 0, none⟩ = some (.slice as2 (srvL R.S).length cs2) := hB4.cell 0
  have c5 : w4.cell? ⟨g3, 5, none⟩ = some (.int .i64 (heldI R.tr 1 5)) := hB4.cell 5
  rw [Htr.out] at c5
  rw [Hn.out] at c0
  clear hB4 hS4 hB3
  go_wp2_with fail
  go_ret
  exact ⟨rfl, hb04⟩
end Go.Proofs.Ytebfgaapcpehmaa
