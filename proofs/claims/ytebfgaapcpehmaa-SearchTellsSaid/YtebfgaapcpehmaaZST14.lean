/- Contracts and plain lemmas of our own, merged. -/
import Derived.Test.YtebfgaapcpehmaaZST11
import Derived.Test.YtebfgaapcpehmaaZST13
import Derived.Test.YtebfgaapcpehmaaZST5
import Derived.Test.YtebfgaapcpehmaaZST9
import Derived.Deep.CutBlock
import Derived.Deep.DeepCutAuto
/- The reference's Resolv (21). -/
namespace Go.Proofs.Ytebfgaapcpehmaa
open Go.RowKit

theorem own_mid {w w' : World} {base B : Nat} {e : TypeId} {size n : Nat} {v : Value} {xs : List Value} (h : w.ownsRow base e size v n xs) (hb : Below B w w') (hv : ∀ k, v.ownBlock = some k → k < B) : w'.ownsRow base e size v n xs := by
  refine ⟨h.1, ?_⟩
  rcases h.2 with hn | ⟨g, cap, cur, rfl, hb', hgg, rest⟩
  · exact .inl hn
  · exact .inr ⟨g, cap, cur, rfl, hb', (hb.block g (hv g rfl)).trans hgg, rest⟩
theorem yieldsIf_loadC {P : Program} {ops : Array Oper} {S : World → Prop} {o : Oper} {a : Act} (hw : Region.wanted o (yielded ops a.tmps) = true) (ty : TypeId) (x : Operand) (ho : o.op = .load ty x) {g i : Nat} {v : Value} (hx : a.eval x = .pointer (some ⟨g, i, none⟩))
    (hc : ∀ w', S w' → w'.cell? ⟨g, i, none⟩ = some v) {d : TypeDesc} (hu : P.underlying ty = some d) (hd : d.isRow = false) : YieldsIf P ops S o v a := by
  refine Or.inl ⟨hw, fun w' hS => ?_⟩
  have hc' := hc w' hS
  have ha : (isAgg ty).run P w' = .ok false w' := by cases d <;> first | (cases hd; done) | simp [isAgg, run_underlying hu]
  have hr : (loadVar ty ⟨g, i, none⟩).run P w' = .ok v w' := by
    simp only [loadVar, Sem.run_bind, ha, Result.andThen_ok, Bool.false_eq_true, if_false]
    simp [load, Sem.run, hc']
  unfold execOp
  simp only [ho, hx, Instr.loadAt, Instr.sureAddr, Sem.run_bind, Sem.run_pure, Result.andThen_ok, hr]
theorem yieldsIf_loadAd {ops : Array Oper} {S : World → Prop} {o : Oper} {a : Act} (hw : Region.wanted o (yielded ops a.tmps) = true) (x : Operand) (ho : o.op = .load 40 x) {g off : Nat} (hx : a.eval x = .pointer (some ⟨g, off, none⟩)) {b : Ad}
    (h : ∀ w', S w' → w'.rangeAt g off (adL b)) : YieldsIf Try.prog ops S o (.agg (adA b)) a := yieldsIf_load_mid hw _ _ ho _ _ hx (adL b) _ h ad_under rfl (by rw [adL_len]; exact ad_size)
theorem yieldsIf_loadPf {ops : Array Oper} {S : World → Prop} {o : Oper} {a : Act} (hw : Region.wanted o (yielded ops a.tmps) = true) (x : Operand) (ho : o.op = .load 67 x) {g off : Nat} (hx : a.eval x = .pointer (some ⟨g, off, none⟩)) {b : Pf}
    (h : ∀ w', S w' → w'.rangeAt g off (pfL b)) : YieldsIf Try.prog ops S o (.agg (pfA b)) a := yieldsIf_load_mid hw _ _ ho _ _ hx (pfL b) _ h pf_under rfl (by rw [pfL_len]; exact pf_size)
/-- the first loop: the servers that were kept so far lie in the block g. -/
def R1Rel (w2 : World) (g b : Nat) (vn vp : Value) (R : Rs) (k : Nat) (wr : World) : Prop :=
  ∃ v, Bk wr g 26 (rsL v vn vp R).toArray ∧ wr.ownsRow b 40 18 v ((R.S.take k).filter okA).length (((R.S.take k).filter okA).flatMap adL) ∧ ((R.S.take k).filter okA).length ≤ 3 ∧ Below w2.heap.size w2 wr ∧ b ≤ wr.heap.size
theorem rof_127 (w : World) : Calls Try.prog 26 #[.int .i64 127, .int .i64 0, .int .i64 0, .int .i64 1] w (AdPost w (adOf 127 0 0 1)) := rof_any 127 0 0 1 w
def F1 (w2 : World) (g b : Nat) (vn vp : Value) (R : Rs) (wx : World) : Prop :=
  ∃ v, Bk wx g 26 (rsL v vn vp R).toArray ∧ wx.ownsRow b 40 18 v (leftL okA 3 R.S).length ((leftL okA 3 R.S).flatMap adL) ∧ Below w2.heap.size w2 wx ∧ b ≤ wx.heap.size
def FJ (w2 : World) (g b : Nat) (vn vp : Value) (R : Rs) (wx : World) : Prop :=
  ∃ v, Bk wx g 26 (rsL v vn vp R).toArray ∧ wx.ownsRow b 40 18 v (srvL R.S).length ((srvL R.S).flatMap adL) ∧ b ≤ wx.heap.size ∧ Below w2.heap.size w2 wx
/-- the second loop: the prefixes that were kept so far; the servers stand. -/
def R2Rel (w2 : World) (g bS b : Nat) (vS vn : Value) (R : Rs) (k : Nat) (wr : World) : Prop :=
  ∃ v, Bk wr g 26 (rsL vS vn v R).toArray ∧ wr.ownsRow b 67 19 v ((R.P.take k).filter okP).length (((R.P.take k).filter okP).flatMap pfL) ∧ ((R.P.take k).filter okP).length ≤ 10 ∧ Below w2.heap.size w2 wr ∧ b ≤ wr.heap.size ∧ wr.ownsRow bS 40 18 vS (srvL R.S).length ((srvL R.S).flatMap adL)
def F2 (w2 : World) (g bS b : Nat) (vS vn : Value) (R : Rs) (wx : World) : Prop :=
  ∃ v, Bk wx g 26 (rsL vS vn v R).toArray ∧ wx.ownsRow b 67 19 v (leftL okP 10 R.P).length ((leftL okP 10 R.P).flatMap pfL) ∧ Below w2.heap.size w2 wx ∧ b ≤ wx.heap.size ∧ wx.ownsRow bS 40 18 vS (srvL R.S).length ((srvL R.S).flatMap adL)
theorem left_all {α : Type} {p : α → Bool} {m : Nat} {L : List α} (h : ((L.take L.length).filter p).length ≤ m) : leftL p m L = (L.take L.length).filter p := by
  rw [leftL, List.take_length, List.take_of_length_le (by rw [List.take_length] at h; exact h)]
theorem left_full {α : Type} {p : α → Bool} {m k : Nat} {L : List α} (h1 : m ≤ ((L.take k).filter p).length) (h2 : ((L.take k).filter p).length ≤ m) : leftL p m L = (L.take k).filter p := by
  rw [leftL_stop h1, List.take_of_length_le h2]

set_option maxRecDepth 100000 in
set_option maxHeartbeats 8000000 in
theorem rresolv_any (vs vn vp : Value) (R : Rs) (w : World) (h : RsAt w vs vn vp R) :
    Calls Try.prog 17 #[.agg (rsL vs vn vp R).toArray] w (ResPost w R) := by
  obtain ⟨asl, cs, hvs, hcs⟩ := h.s.any
  obtain ⟨an, cn, hvn, hcn⟩ := h.n.any
  obtain ⟨ap, cp, hvp, hcp⟩ := h.p.any
  subst hvs hvn hvp
  have H := Lib.hid h
  clear h
  have hls := H.out.ls
  have hlp := H.out.lp
  go_enter Try.func17, Try.ntmps17
  go_wp2_with (first
    | ((with_reducible refine wpList_boxB rfl _ _ rfl rfl ?_); intro g1 w1 hg1 hB1 hb1 hs1; have hg1' : w.heap.size ≤ g1 := Nat.le_of_eq hg1.symm; clear hg1 hs1)
    | ((with_reducible refine wpList_allocZ (o := ⟨some 2, _, _, _, _, _⟩) rfl _ rfl rs_zero ?_); intro g2 w2 hg2 hB2 hb2 hs2; have hg2' : w1.heap.size ≤ g2 := Nat.le_of_eq hg2.symm; clear hg2 hs2; have hB12 := hB1.bel hb2; have hg12 : g1 < g2 := Nat.lt_of_lt_of_le hB1.lt hg2'; have hb02 := bel_tr hb1 hb2; refine holdE ?_))
  refine Lib.hid ?_
  go_wp2_with (first
    | (refine wpList_loadB (o := ⟨some 6, _, _, _, _, _⟩) rfl _ _ rfl rfl hB12 rs_under rfl rs_size ?_)
    | ((with_reducible refine wpList_allocZ (o := ⟨some 3, _, _, _, _, _⟩) rfl _ rfl rs_zero ?_); intro g3 w3 hg3 hB3 hb3 hs3; have hg3' : w2.heap.size ≤ g3 := Nat.le_of_eq hg3.symm; clear hg3 hs3)
    | (refine wpList_storeB rfl _ (.tmp 3) (.tmp 6) rfl rfl rfl hB3 rs_size rfl (rsL_one _ rfl rfl rfl) ?_; intro w4 hB4 hS4
       have hz4 := bk_stays hb3 hS4 hg3'
       refine holdE ?_))
  refine Lib.hid ?_
  go_wp2_with (first
    | (refine wpList_storeC (o := ⟨none, .store _ (.tmp 7) _, _, _, _, _⟩) rfl _ _ _ rfl rfl rfl rfl hB4 (show 0 < 10 from by decide) sz_ads ?_
       intro w5 hB5' hS5
       have hB5 : Bk w5 g3 26 (rsL (.slice none 0 0) (.slice an R.N.length cn) (.slice ap R.P.length cp) R).toArray := hB5'
       have hz5 := bk_stays hz4 hS5 hg3'
       clear hB5')
    | (refine wpList_storeC (o := ⟨none, .store _ (.tmp 8) _, _, _, _, _⟩) rfl _ _ _ rfl rfl rfl rfl hB5 (show 2 < 10 from by decide) sz_pfs ?_
       intro w6 hB6' hS6
       have hB6 : Bk w6 g3 26 (rsL (.slice none 0 0) (.slice an R.N.length cn) (.slice none 0 0) R).toArray := hB6'
       have hz6 := bk_stays hz5 hS6 hg3'
       clear hB6'
       refine holdE ?_))
  refine Lib.hid ?_
  have hg36 : g3 < w6.heap.size := hB6.lt
  have hg1s : g1 < w2.heap.size := hB12.lt
  have hg13 : g1 < g3 := Nat.lt_of_lt_of_le hg1s hg3'
  have hw6 : w.heap.size ≤ w6.heap.size := (hb02.trans (hz6.mono hb02.size)).size
  have hz6k' : w2.heap.size ≤ w6.heap.size := hz6.size
  clear hB1 hB3 hB4 hB5 hS4 hz4 hz5 hb3
  go_upto_block 0 with (fail)
  go_cut [4] (fun s4 wx => F1 w2 g3 w6.heap.size (.slice an R.N.length cn) (.slice none 0 0) R wx)
  case first =>
    go_wp2_with fail
    go_loopw [4] (fun i wr => ∃ k : Nat, k ≤ R.S.length ∧ i = .int .i64 k ∧ R1Rel w2 g3 w6.heap.size (.slice an R.N.length cn) (.slice none 0 0) R k wr) (fun i _ => R.S.length - (intOf i).toNat)
    case atStart => exact ⟨0, Nat.zero_le _, rfl, _, hB6, by simpa using World.ownsRow_nil w6 w6.heap.size 40 18, by simp, hz6, Nat.le_refl _⟩
    case round =>
      clear hB6 hz6
      obtain ⟨k, hk, rfl, vk, hBk, hown, hcnt, hz, hz6k⟩ := hrel
      obtain ⟨ak, ck, rfl⟩ := own_any hown
      have hB1k := hB12.below hz hB12.lt
      have c1 : wr.cell? ⟨g1, 0, none⟩ = some (.slice asl R.S.length cs) := hB1k.cell 0
      have c3 : wr.cell? ⟨g3, 0, none⟩ = some (.slice ak ((R.S.take k).filter okA).length ck) := hBk.cell 0
      have h0k := hb02.trans (hz.mono hb02.size)
      have Hown := Lib.hid hown
      clear hown
      by_cases hlt : k < R.S.length ∧ ((R.S.take k).filter okA).length < 3
      · obtain ⟨hlt, hst⟩ := hlt
        obtain ⟨b, off, c, hv, hc, hbl, hcell⟩ := H.out.s.pos (by omega)
        injection hv with hv1 _ hv2
        subst hv1 hv2
        have hR := (range_of adL_len hcell hlt)
        have HR : Hid (wr.rangeAt b (off + k * 18) (adL R.S[k])) := Lib.hid (fun j u hu => ((h0k.cell (p := ⟨b, off + k * 18 + j, none⟩) hbl).trans (hR j u hu)))
        clear hR hcell
        have hltI : (k : Int) < (R.S.length : Int) := by omega
        have hstI : (((R.S.take k).filter okA).length : Int) < 3 := by omega
        have hnx := filter_next (p := okA) hlt
        have Hnx := Lib.hid hnx
        clear hnx
        cases hok : okA R.S[k]
        · have hchk : (chkA R.S[k] == 0) = false := hok
          have Hok := Lib.hid hok
          clear hok
          go_wp2_with (first
            | ((with_reducible refine wpList_loadAdM rfl _ rfl rfl HR.out ?_))
            | (go_at_call 28; refine (rcheckA_any _ _).mono ?_; rintro e w7 ⟨rfl, hb7⟩))
          go_roundw
          case rel =>
            refine ⟨k + 1, by omega, by go_num, ?_⟩
            unfold R1Rel
            rw [Hnx.out, if_neg (by rw [Hok.out]; decide), List.append_nil]
            exact ⟨_, hBk.bel hb7, own_below Hown.out hb7, hcnt, hz.trans (hb7.mono hz.size), Nat.le_trans hz6k hb7.size⟩
          case measure => simp [intOf]; omega
        · have hchk : (chkA R.S[k] == 0) = true := hok
          have Hok := Lib.hid hok
          clear hok
          go_wp2_with (first
            | ((with_reducible refine wpList_loadAdM rfl _ rfl rfl HR.out ?_))
            | (go_at_call 28; refine (rcheckA_any _ _).mono ?_; rintro e w7 ⟨rfl, hb7⟩))
          have hBk7 := hBk.bel hb7
          have e1 : w7.cell? ⟨g1, 0, none⟩ = some (.slice (some ⟨b, off, none⟩) R.S.length cs) := (hB1k.bel hb7).cell 0
          have e3 : w7.cell? ⟨g3, 0, none⟩ = some (.slice ak ((R.S.take k).filter okA).length ck) := hBk7.cell 0
          have HR7 : Hid (w7.rangeAt b (off + k * 18) (adL R.S[k])) := Lib.hid (fun j u hu => (hb7.cell (block_lt_of_cell (HR.out j u hu))).trans (HR.out j u hu))
          have Hown7 := Lib.hid (own_below Hown.out hb7)
          have hg7' : w6.heap.size ≤ w7.heap.size := Nat.le_trans hz6k hb7.size
          have hz7 := hz.trans (hb7.mono hz.size)
          have hlt3 : g3 < w6.heap.size := hg36
          have hlt1 : g1 < w6.heap.size := Nat.lt_trans hg13 hg36
          have hltb : b < w6.heap.size := Nat.lt_of_lt_of_le hbl hw6
          have hRS : ∀ w', Below w6.heap.size w7 w' → w'.rangeAt b (off + k * 18) (adL R.S[k]) := fun w' hS' j u hu => (hS'.cell (p := ⟨b, off + k * 18 + j, none⟩) hltb).trans (HR7.out j u hu)
          clear c1 c3 HR Hown
          refine wp_region_k 10 (fun w' => Below w6.heap.size w7 w') (by kernel_rfl) ?_
          refine wpAnyK_take (i := 0) (oi := ⟨some 29, .fieldAddr 26 (.tmp 3) 0, _, _, _, none⟩) (v := .pointer (some ⟨g3, 0, none⟩)) [1, 8, 10] rfl (by kernel_rfl) (by kernel_rfl) (by kernel_rfl) (by kernel_rfl) (fun _ _ _ h => h) (Or.inl ⟨by rfl, fun w' hS' => by go_simp⟩) (Below.refl _ _).drew ?_
          simp only [Act.put, List.setIfInBounds_toArray, List.set_cons_zero, List.set_cons_succ]
          refine wpAnyK_take (i := 1) (oi := ⟨some 30, .load 22 (.tmp 29), _, _, _, none⟩) (v := .slice ak ((R.S.take k).filter okA).length ck) [8, 10] rfl (by kernel_rfl) (by kernel_rfl) (by kernel_rfl) (by kernel_rfl) (fun _ _ _ h => h) (yieldsIf_loadC (by rfl) _ _ rfl rfl (fun w' hS' => (hS'.cell (p := ⟨g3, 0, none⟩) hlt3).trans e3) Try.underlying22 rfl) (Below.refl _ _).drew ?_
          simp only [Act.put, List.setIfInBounds_toArray, List.set_cons_zero, List.set_cons_succ]
          refine wpAnyK_take (i := 2) (oi := ⟨some 31, .fieldAddr 26 (.tmp 1) 0, _, _, _, none⟩) (v := .pointer (some ⟨g1, 0, none⟩)) [3, 5, 6, 7, 8, 10] rfl (by kernel_rfl) (by kernel_rfl) (by kernel_rfl) (by kernel_rfl) (fun _ _ _ h => h) (Or.inl ⟨by rfl, fun w' hS' => by go_simp⟩) (Below.refl _ _).drew ?_
          simp only [Act.put, List.setIfInBounds_toArray, List.set_cons_zero, List.set_cons_succ]
          refine wpAnyK_take (i := 3) (oi := ⟨some 32, .load 22 (.tmp 31), _, _, _, none⟩) (v := .slice (some ⟨b, off, none⟩) R.S.length cs) [5, 6, 7, 8, 10] rfl (by kernel_rfl) (by kernel_rfl) (by kernel_rfl) (by kernel_rfl) (fun _ _ _ h => h) (yieldsIf_loadC (by rfl) _ _ rfl rfl (fun w' hS' => (hS'.cell (p := ⟨g1, 0, none⟩) hlt1).trans e1) Try.underlying22 rfl) (Below.refl _ _).drew ?_
          simp only [Act.put, List.setIfInBounds_toArray, List.set_cons_zero, List.set_cons_succ]
          refine wpAnyK_take (i := 4) (oi := ⟨some 33, .move (.tmp 4), _, _, _, none⟩) (v := .int .i64 k) [5, 6, 7, 8, 10] rfl (by kernel_rfl) (by kernel_rfl) (by kernel_rfl) (by kernel_rfl) (fun _ _ _ h => h) (Or.inl ⟨by rfl, fun w' hS' => by go_simp⟩) (Below.refl _ _).drew ?_
          simp only [Act.put, List.setIfInBounds_toArray, List.set_cons_zero, List.set_cons_succ]
          refine wpAnyK_take (i := 5) (oi := ⟨some 34, .indexAddr 22 (.tmp 32) (.tmp 33), _, _, _, none⟩) (v := .pointer (some ⟨b, off + k * 18, none⟩)) [6, 7, 8, 10] rfl (by kernel_rfl) (by kernel_rfl) (by kernel_rfl) (by kernel_rfl) (fun _ _ _ h => h) (Or.inl ⟨by rfl, fun w' hS' => by go_simp⟩) (Below.refl _ _).drew ?_
          simp only [Act.put, List.setIfInBounds_toArray, List.set_cons_zero, List.set_cons_succ]
          refine wpAnyK_take (i := 6) (oi := ⟨some 35, .load 40 (.tmp 34), _, _, _, none⟩) (v := .agg (adA R.S[k])) [7, 8, 10] rfl (by kernel_rfl) (by kernel_rfl) (by kernel_rfl) (by kernel_rfl) (fun _ _ _ h => h) (yieldsIf_loadAd (by rfl) _ rfl rfl hRS) (Below.refl _ _).drew ?_
          simp only [Act.put, List.setIfInBounds_toArray, List.set_cons_zero, List.set_cons_succ]
          refine wpAnyK_one (i := 7) (by kernel_rfl) ?_
          refine wpOp_of_list (o := ⟨some 36, .buildSlice 22 1 #[(0, .tmp 35)], _, _, _, none⟩) rfl ?_
          refine wpList_lit rfl _ _ rfl elt_ads [.agg (adA R.S[k])] rfl (by decide) (by decide) (fun v hv => by rw [List.mem_singleton.1 hv]; exact adA_size _) rfl ?_
          intro w8 hB8' hx8 hb8 hs8
          clear hx8 hs8
          have hB8 := bk_list (l := adL R.S[k]) hB8' rfl
          have hb78 := bel_drew hb8
          clear hB8'
          show _ ∧ _
          have hb78B := hb78.mono hg7'
          refine ⟨fun _ => hb78B, ?_⟩
          simp only [Act.put, List.setIfInBounds_toArray, List.set_cons_zero, List.set_cons_succ]
          refine wpAnyK_one (i := 8) (by kernel_rfl) ?_
          refine wpOp_of_list (o := ⟨some 37, .call { callee := .builtin .append, args := #[.tmp 30, .tmp 36], argTypes := #[22, 22] }, _, _, _, none⟩) rfl ?_
          refine wpList_app rfl (.tmp 30) (.tmp 36) _ rfl elt_ads rfl (own_below Hown7.out hb78) rfl (hB8.sl (size := 18) (n := 1) (adL_len _) 1 (Nat.le_refl _)) (adL_one _) (Nat.le_trans hg7' hb78.size) (by omega) (by omega) ?_
          intro v9 w9 ho9 hb9 hg9
          clear hg9
          obtain ⟨a9, k9, rfl⟩ := own_any ho9
          have hb79B := hb78B.trans hb9
          have hB9 := hBk7.below hb79B hlt3
          show _ ∧ _
          refine ⟨fun _ => hb79B, ?_⟩
          simp only [Act.put, List.setIfInBounds_toArray, List.set_cons_zero, List.set_cons_succ]
          refine wpAnyK_take (i := 9) (oi := ⟨some 38, .fieldAddr 26 (.tmp 3) 0, _, _, _, none⟩) (v := .pointer (some ⟨g3, 0, none⟩)) [10] rfl (by kernel_rfl) (by kernel_rfl) (by kernel_rfl) (by kernel_rfl) (fun _ _ _ h => h) (Or.inl ⟨by rfl, fun w' hS' => by go_simp⟩) hb79B ?_
          simp only [Act.put, List.setIfInBounds_toArray, List.set_cons_zero, List.set_cons_succ]
          refine wpAnyK_one (i := 10) (by kernel_rfl) ?_
          refine wpOp_of_list (o := ⟨none, .store 22 (.tmp 38) (.tmp 37), _, _, _, none⟩) rfl ?_
          refine wpList_storeC rfl _ _ _ rfl rfl rfl rfl hB9 (show 0 < 10 from by decide) sz_ads ?_
          intro w10 hB10' hS10
          show _ ∧ _
          refine ⟨fun h => (by cases (show true = false from h)), ?_⟩
          dsimp only [Act.put]
          refine wpAnyK_done (by kernel_rfl) ?_ _
          go_wp2
          go_roundw
          case rel =>
            have hw26 := hz6k'
            have hB10 : Bk w10 g3 26 (rsL (.slice a9 (((R.S.take k).filter okA).length + 1) k9) (.slice an R.N.length cn) (.slice none 0 0) R).toArray := hB10'
            refine ⟨k + 1, by omega, by go_num, ?_⟩
            unfold R1Rel
            rw [Hnx.out, if_pos Hok.out, List.length_append, List.flatMap_append]
            refine ⟨_, hB10, ?_, by simp; omega, (hz7.trans (hb79B.mono hw26)).trans (hS10.below hg3'), Nat.le_trans (Nat.le_trans hg7' hb79B.size) (Nat.le_of_eq hS10.size.symm)⟩
            have := own_stays ho9 hS10 hg36
            simpa using this
          case measure => simp [intOf]; omega
      · have hfin : leftL okA 3 R.S = (R.S.take k).filter okA := by
          by_cases h1 : k < R.S.length
          · exact left_full (by omega) hcnt
          · obtain rfl : k = R.S.length := by omega
            exact left_all hcnt
        have Hfin := Lib.hid hfin
        clear hfin
        by_cases h1 : k < R.S.length
        · have hltI : (k : Int) < (R.S.length : Int) := by omega
          have hstI : ¬ (((R.S.take k).filter okA).length : Int) < 3 := by omega
          go_wp2_with fail
          go_meet
          exact ⟨_, hBk, by rw [Hfin.out]; exact Hown.out, hz, hz6k⟩
        · have hltI : ¬ (k : Int) < (R.S.length : Int) := by omega
          go_wp2_with fail
          go_meet
          exact ⟨_, hBk, by rw [Hfin.out]; exact Hown.out, hz, hz6k⟩
  case rest =>
    clear hS5 hS6
    obtain ⟨vc, hBc, hoc, hzc, hbc⟩ := hcut
    obtain ⟨ac, kc, rfl⟩ := own_any hoc
    have cc : wc.cell? ⟨g3, 0, none⟩ = some (.slice ac (leftL okA 3 R.S).length kc) := hBc.cell 0
    have Hoc := Lib.hid hoc
    clear hoc
    have hl3 := leftL_len okA 3 R.S
    go_upto_if 42 with (fail)
    go_cut [45] (fun s45 wx => FJ w2 g3 w6.heap.size (.slice an R.N.length cn) (.slice none 0 0) R wx)
    case first =>
      by_cases hE : leftL okA 3 R.S = []
      · have hn : (((leftL okA 3 R.S).length : Nat) == 0) = true := by rw [hE]; rfl
        have hn2 : (((leftL okA 3 R.S).length : Int) == 0) = true := by rw [hE]; rfl
        have hsrv : srvL R.S = [adOf 127 0 0 1] := by unfold srvL; rw [if_pos hE]
        have Hsrv := Lib.hid hsrv
        clear hE hsrv
        go_wp2_with (first
          | (go_at_call 26; refine (rof_127 _).mono ?_; rintro e w7 ⟨rfl, hb7⟩; have hB7 := hBc.bel hb7; have hz7 := hzc.trans (hb7.mono hzc.size); have hg7 : w6.heap.size ≤ w7.heap.size := Nat.le_trans hbc hb7.size)
          | (refine wpList_lit (o := ⟨some 44, _, _, _, _, _⟩) rfl _ _ rfl elt_ads [.agg (adA (adOf 127 0 0 1))] rfl (by decide) (by decide) (fun v hv => by rw [List.mem_singleton.1 hv]; exact adA_size _) rfl ?_
             intro w8 hB8 ho8 hb8 hs8
             have hz8 := hz7.trans (hb8.mono hz7.size)
             have hB78 := hB7.bel hb8
             have hg8 : w6.heap.size ≤ w8.heap.size := Nat.le_trans hg7 hb8.size
             clear hB8 hs8 hb8)
          | (refine wpList_storeC (o := ⟨none, .store _ (.tmp 45) _, _, _, _, _⟩) rfl _ _ _ rfl rfl rfl rfl hB78 (show 0 < 10 from by decide) sz_ads ?_
             intro w9 hB9' hS9))
        go_meet
        have ho9 := own_stays ho8 hS9 (Nat.lt_of_lt_of_le hg36 hg7)
        refine ⟨.slice (some ⟨w7.heap.size, 0, none⟩) 1 1, hB9', ?_, by rw [hS9.size]; exact hg8, hz8.trans (hS9.below hg3')⟩
        rw [Hsrv.out]
        exact own_low ho9 hg7
      · have hn : (((leftL okA 3 R.S).length : Nat) == 0) = false := by simpa using hE
        have hn2 : (((leftL okA 3 R.S).length : Int) == 0) = false := by simpa using hE
        have hsrv : srvL R.S = leftL okA 3 R.S := by unfold srvL; rw [if_neg hE]
        have Hsrv := Lib.hid hsrv
        clear hE hsrv
        go_wp2_with fail
        go_meet
        exact ⟨_, hBc, by rw [Hsrv.out]; exact Hoc.out, hbc, hzc⟩
    case rest =>
      obtain ⟨vS, hBj, hoj, hbj, hzj⟩ := hcut
      obtain ⟨aS, kS, rfl⟩ := own_any hoj
      obtain ⟨wj, rfl⟩ : ∃ wj, wj = wc := ⟨_, rfl⟩
      clear hBc cc Hoc hzc hbc hl3 hB6 hz6
      have Hoj := Lib.hid hoj
      have hojl := Lib.hid (fun k hk => (hoj.lt k hk).2)
      have hg3j : g3 < wj.heap.size := hBj.lt
      have hg1j : g1 < wj.heap.size := Nat.lt_trans hg13 hg3j
      have h2j : w2.heap.size ≤ wj.heap.size := hzj.size
      have hwj : w.heap.size ≤ wj.heap.size := Nat.le_trans hb02.size h2j
      clear hoj
      go_upto_block 2 with (fail)
      go_cut [5] (fun s5 wx => F2 w2 g3 w6.heap.size wj.heap.size (.slice aS (srvL R.S).length kS) (.slice an R.N.length cn) R wx)
      case first =>
        go_wp2_with fail
        go_loopw [5] (fun i wr => ∃ k : Nat, k ≤ R.P.length ∧ i = .int .i64 k ∧ R2Rel w2 g3 w6.heap.size wj.heap.size (.slice aS (srvL R.S).length kS) (.slice an R.N.length cn) R k wr) (fun i _ => R.P.length - (intOf i).toNat)
        case atStart => exact ⟨0, Nat.zero_le _, rfl, _, hBj, by simpa using World.ownsRow_nil wj wj.heap.size 67 19, by simp, hzj, Nat.le_refl _, Hoj.out⟩
        case round =>
          clear hBj hzj hbj
          obtain ⟨k, hk, rfl, vk, hBk, hown, hcnt, hz, hzjk, hsv⟩ := hrel
          obtain ⟨ak, ck, rfl⟩ := own_any hown
          have hB1k := hB12.below hz hB12.lt
          have c1 : wr.cell? ⟨g1, 2, none⟩ = some (.slice ap R.P.length cp) := hB1k.cell 2
          have c3 : wr.cell? ⟨g3, 2, none⟩ = some (.slice ak ((R.P.take k).filter okP).length ck) := hBk.cell 2
          have h0k := hb02.trans (hz.mono hb02.size)
          have Hown := Lib.hid hown
          have Hsv := Lib.hid hsv
          clear hown hsv
          by_cases hlt : k < R.P.length ∧ ((R.P.take k).filter okP).length < 10
          · obtain ⟨hlt, hst⟩ := hlt
            obtain ⟨b, off, c, hv, hc, hbl, hcell⟩ := H.out.p.pos (by omega)
            injection hv with hv1 _ hv2
            subst hv1 hv2
            have hR := (range_of pfL_len hcell hlt)
            have HR : Hid (wr.rangeAt b (off + k * 19) (pfL R.P[k])) := Lib.hid (fun j u hu => ((h0k.cell (p := ⟨b, off + k * 19 + j, none⟩) hbl).trans (hR j u hu)))
            clear hR hcell
            have hltI : (k : Int) < (R.P.length : Int) := by omega
            have hstI : (((R.P.take k).filter okP).length : Int) < 10 := by omega
            have hnx := filter_next (p := okP) hlt
            have Hnx := Lib.hid hnx
            clear hnx
            cases hok : okP R.P[k]
            · have hchk : (chkP R.P[k] == 0) = false := hok
              have Hok := Lib.hid hok
              clear hok
              go_wp2_with (first
                | ((with_reducible refine wpList_loadPfM rfl _ rfl rfl HR.out ?_))
                | (go_at_call 29; refine (rholds_any _ _).mono ?_; rintro e w7 ⟨rfl, hb7⟩))
              go_roundw
              case rel =>
                refine ⟨k + 1, by omega, by go_num, ?_⟩
                unfold R2Rel
                rw [Hnx.out, if_neg (by rw [Hok.out]; decide), List.append_nil]
                exact ⟨_, hBk.bel hb7, own_below Hown.out hb7, hcnt, hz.trans (hb7.mono hz.size), Nat.le_trans hzjk hb7.size, own_below Hsv.out hb7⟩
              case measure => simp [intOf]; omega
            · have hchk : (chkP R.P[k] == 0) = true := hok
              have Hok := Lib.hid hok
              clear hok
              go_wp2_with (first
                | ((with_reducible refine wpList_loadPfM rfl _ rfl rfl HR.out ?_))
                | (go_at_call 29; refine (rholds_any _ _).mono ?_; rintro e w7 ⟨rfl, hb7⟩))
              have hBk7 := hBk.bel hb7
              have e1 : w7.cell? ⟨g1, 2, none⟩ = some (.slice (some ⟨b, off, none⟩) R.P.length cp) := (hB1k.bel hb7).cell 2
              have e3 : w7.cell? ⟨g3, 2, none⟩ = some (.slice ak ((R.P.take k).filter okP).length ck) := hBk7.cell 2
              have HR7 : Hid (w7.rangeAt b (off + k * 19) (pfL R.P[k])) := Lib.hid (fun j u hu => (hb7.cell (block_lt_of_cell (HR.out j u hu))).trans (HR.out j u hu))
              have Hown7 := Lib.hid (own_below Hown.out hb7)
              have Hsv7 := Lib.hid (own_below Hsv.out hb7)
              have hg7' : wj.heap.size ≤ w7.heap.size := Nat.le_trans hzjk hb7.size
              have hz7 := hz.trans (hb7.mono hz.size)
              have hlt3 : g3 < wj.heap.size := hg3j
              have hlt1 : g1 < wj.heap.size := hg1j
              have hltb : b < wj.heap.size := Nat.lt_of_lt_of_le hbl hwj
              have hRS : ∀ w', Below wj.heap.size w7 w' → w'.rangeAt b (off + k * 19) (pfL R.P[k]) := fun w' hS' j u hu => (hS'.cell (p := ⟨b, off + k * 19 + j, none⟩) hltb).trans (HR7.out j u hu)
              clear c1 c3 HR Hown Hsv
              refine wp_region_k 10 (fun w' => Below wj.heap.size w7 w') (by kernel_rfl) ?_
              refine wpAnyK_take (i := 0) (oi := ⟨some 66, .fieldAddr 26 (.tmp 3) 2, _, _, _, none⟩) (v := .pointer (some ⟨g3, 2, none⟩)) [1, 8, 10] rfl (by kernel_rfl) (by kernel_rfl) (by kernel_rfl) (by kernel_rfl) (fun _ _ _ h => h) (Or.inl ⟨by rfl, fun w' hS' => by go_simp⟩) (Below.refl _ _).drew ?_
              simp only [Act.put, List.setIfInBounds_toArray, List.set_cons_zero, List.set_cons_succ]
              refine wpAnyK_take (i := 1) (oi := ⟨some 67, .load 24 (.tmp 66), _, _, _, none⟩) (v := .slice ak ((R.P.take k).filter okP).length ck) [8, 10] rfl (by kernel_rfl) (by kernel_rfl) (by kernel_rfl) (by kernel_rfl) (fun _ _ _ h => h) (yieldsIf_loadC (by rfl) _ _ rfl rfl (fun w' hS' => (hS'.cell (p := ⟨g3, 2, none⟩) hlt3).trans e3) Try.underlying24 rfl) (Below.refl _ _).drew ?_
              simp only [Act.put, List.setIfInBounds_toArray, List.set_cons_zero, List.set_cons_succ]
              refine wpAnyK_take (i := 2) (oi := ⟨some 68, .fieldAddr 26 (.tmp 1) 2, _, _, _, none⟩) (v := .pointer (some ⟨g1, 2, none⟩)) [3, 5, 6, 7, 8, 10] rfl (by kernel_rfl) (by kernel_rfl) (by kernel_rfl) (by kernel_rfl) (fun _ _ _ h => h) (Or.inl ⟨by rfl, fun w' hS' => by go_simp⟩) (Below.refl _ _).drew ?_
              simp only [Act.put, List.setIfInBounds_toArray, List.set_cons_zero, List.set_cons_succ]
              refine wpAnyK_take (i := 3) (oi := ⟨some 69, .load 24 (.tmp 68), _, _, _, none⟩) (v := .slice (some ⟨b, off, none⟩) R.P.length cp) [5, 6, 7, 8, 10] rfl (by kernel_rfl) (by kernel_rfl) (by kernel_rfl) (by kernel_rfl) (fun _ _ _ h => h) (yieldsIf_loadC (by rfl) _ _ rfl rfl (fun w' hS' => (hS'.cell (p := ⟨g1, 2, none⟩) hlt1).trans e1) Try.underlying24 rfl) (Below.refl _ _).drew ?_
              simp only [Act.put, List.setIfInBounds_toArray, List.set_cons_zero, List.set_cons_succ]
              refine wpAnyK_take (i := 4) (oi := ⟨some 70, .move (.tmp 5), _, _, _, none⟩) (v := .int .i64 k) [5, 6, 7, 8, 10] rfl (by kernel_rfl) (by kernel_rfl) (by kernel_rfl) (by kernel_rfl) (fun _ _ _ h => h) (Or.inl ⟨by rfl, fun w' hS' => by go_simp⟩) (Below.refl _ _).drew ?_
              simp only [Act.put, List.setIfInBounds_toArray, List.set_cons_zero, List.set_cons_succ]
              refine wpAnyK_take (i := 5) (oi := ⟨some 71, .indexAddr 24 (.tmp 69) (.tmp 70), _, _, _, none⟩) (v := .pointer (some ⟨b, off + k * 19, none⟩)) [6, 7, 8, 10] rfl (by kernel_rfl) (by kernel_rfl) (by kernel_rfl) (by kernel_rfl) (fun _ _ _ h => h) (Or.inl ⟨by rfl, fun w' hS' => by go_simp⟩) (Below.refl _ _).drew ?_
              simp only [Act.put, List.setIfInBounds_toArray, List.set_cons_zero, List.set_cons_succ]
              refine wpAnyK_take (i := 6) (oi := ⟨some 72, .load 67 (.tmp 71), _, _, _, none⟩) (v := .agg (pfA R.P[k])) [7, 8, 10] rfl (by kernel_rfl) (by kernel_rfl) (by kernel_rfl) (by kernel_rfl) (fun _ _ _ h => h) (yieldsIf_loadPf (by rfl) _ rfl rfl hRS) (Below.refl _ _).drew ?_
              simp only [Act.put, List.setIfInBounds_toArray, List.set_cons_zero, List.set_cons_succ]
              refine wpAnyK_one (i := 7) (by kernel_rfl) ?_
              refine wpOp_of_list (o := ⟨some 73, .buildSlice 24 1 #[(0, .tmp 72)], _, _, _, none⟩) rfl ?_
              refine wpList_lit rfl _ _ rfl elt_pfs [.agg (pfA R.P[k])] rfl (by decide) (by decide) (fun v hv => by rw [List.mem_singleton.1 hv]; exact pfA_size _) rfl ?_
              intro w8 hB8' hx8 hb8 hs8
              clear hx8 hs8
              have hB8 := bk_list (l := pfL R.P[k]) hB8' rfl
              have hb78 := bel_drew hb8
              clear hB8'
              show _ ∧ _
              have hb78B := hb78.mono hg7'
              refine ⟨fun _ => hb78B, ?_⟩
              simp only [Act.put, List.setIfInBounds_toArray, List.set_cons_zero, List.set_cons_succ]
              refine wpAnyK_one (i := 8) (by kernel_rfl) ?_
              refine wpOp_of_list (o := ⟨some 74, .call { callee := .builtin .append, args := #[.tmp 67, .tmp 73], argTypes := #[24, 24] }, _, _, _, none⟩) rfl ?_
              refine wpList_app rfl (.tmp 67) (.tmp 73) _ rfl elt_pfs rfl (own_below Hown7.out hb78) rfl (hB8.sl (size := 19) (n := 1) (pfL_len _) 1 (Nat.le_refl _)) (pfL_one _) (Nat.le_trans hg7' hb78.size) (by omega) (by omega) ?_
              intro v9 w9 ho9 hb9 hg9
              clear hg9
              obtain ⟨a9, k9, rfl⟩ := own_any ho9
              have hb79B := hb78B.trans hb9
              have hB9 := hBk7.below hb79B hlt3
              show _ ∧ _
              refine ⟨fun _ => hb79B, ?_⟩
              simp only [Act.put, List.setIfInBounds_toArray, List.set_cons_zero, List.set_cons_succ]
              refine wpAnyK_take (i := 9) (oi := ⟨some 75, .fieldAddr 26 (.tmp 3) 2, _, _, _, none⟩) (v := .pointer (some ⟨g3, 2, none⟩)) [10] rfl (by kernel_rfl) (by kernel_rfl) (by kernel_rfl) (by kernel_rfl) (fun _ _ _ h => h) (Or.inl ⟨by rfl, fun w' hS' => by go_simp⟩) hb79B ?_
              simp only [Act.put, List.setIfInBounds_toArray, List.set_cons_zero, List.set_cons_succ]
              refine wpAnyK_one (i := 10) (by kernel_rfl) ?_
              refine wpOp_of_list (o := ⟨none, .store 24 (.tmp 75) (.tmp 74), _, _, _, none⟩) rfl ?_
              refine wpList_storeC rfl _ _ _ rfl rfl rfl rfl hB9 (show 2 < 10 from by decide) sz_pfs ?_
              intro w10 hB10' hS10
              show _ ∧ _
              refine ⟨fun h => (by cases (show true = false from h)), ?_⟩
              dsimp only [Act.put]
              refine wpAnyK_done (by kernel_rfl) ?_ _
              go_wp2
              go_roundw
              case rel =>
                have hB10 : Bk w10 g3 26 (rsL (.slice aS (srvL R.S).length kS) (.slice an R.N.length cn) (.slice a9 (((R.P.take k).filter okP).length + 1) k9) R).toArray := hB10'
                refine ⟨k + 1, by omega, by go_num, ?_⟩
                unfold R2Rel
                rw [Hnx.out, if_pos Hok.out, List.length_append, List.flatMap_append]
                refine ⟨_, hB10, ?_, by simp; omega, (hz7.trans (hb79B.mono h2j)).trans (hS10.below hg3'), Nat.le_trans (Nat.le_trans hg7' hb79B.size) (Nat.le_of_eq hS10.size.symm), ?_⟩
                · have := own_stays ho9 hS10 hg3j
                  simpa using this
                · exact own_stays (own_mid Hsv7.out hb79B hojl.out) hS10 hg36
              case measure => simp [intOf]; omega
          · have hfin : leftL okP 10 R.P = (R.P.take k).filter okP := by
              by_cases h1 : k < R.P.length
              · exact left_full (by omega) hcnt
              · obtain rfl : k = R.P.length := by omega
                exact left_all hcnt
            have Hfin := Lib.hid hfin
            clear hfin
            by_cases h1 : k < R.P.length
            · have hltI : (k : Int) < (R.P.length : Int) := by omega
              have hstI : ¬ (((R.P.take k).filter okP).length : Int) < 10 := by omega
              go_wp2_with fail
              go_meet
              exact ⟨_, hBk, by rw [Hfin.out]; exact Hown.out, hz, hzjk, Hsv.out⟩
            · have hltI : ¬ (k : Int) < (R.P.length : Int) := by omega
              go_wp2_with fail
              go_meet
              exact ⟨_, hBk, by rw [Hfin.out]; exact Hown.out, hz, hzjk, Hsv.out⟩
      case rest =>
        clear hBj hzj hbj Hoj hojl
        obtain ⟨vP, hBf, hof, hzf, hbf, hsf⟩ := hcut
        obtain ⟨aP, kP, rfl⟩ := own_any hof
        obtain ⟨wf, rfl⟩ : ∃ wf, wf = wc := ⟨_, rfl⟩
        have hB1f := hB12.below hzf hB12.lt
        have c1 : wf.cell? ⟨g1, 1, none⟩ = some (.slice an R.N.length cn) := hB1f.cell 1
        have h0f := hb02.trans (hzf.mono hb02.size)
        have Hof := Lib.hid hof
        have Hsf := Lib.hid hsf
        clear hof hsf
        go_wp2_with (first
          | (go_at_call 30; refine (rnames6 R.N _ _ (H.out.n.below h0f) (fun q hq => (H.out.nm q hq).bel h0f) H.out.ln).mono ?_
             rintro e w7 ⟨v7, rfl, ho7, hb7⟩
             obtain ⟨aN, kN, rfl⟩ := own_any ho7
             have hB7 := hBf.bel hb7
             have hz7 := hzf.trans (hb7.mono hzf.size)
             have Hof7 := Lib.hid (own_below Hof.out hb7)
             have Hsf7 := Lib.hid (own_below Hsf.out hb7)
             clear c1 Hof Hsf)
          | (refine wpList_storeC (o := ⟨none, .store _ (.tmp 79) _, _, _, _, _⟩) rfl _ _ _ rfl rfl rfl rfl hB7 (show 1 < 10 from by decide) sz_nms ?_
             intro w8 hB8' hS8
             have hB8 : Bk w8 g3 26 (rsL (.slice aS (srvL R.S).length kS) (.slice aN (leftL okNp 6 R.N).length kN) (.slice aP (leftL okP 10 R.P).length kP) R).toArray := hB8'
             have hz8 := bk_stays hz7 hS8 hg3'
             have hN8 := Lib.hid (own_stays ho7 hS8 (Nat.lt_of_lt_of_le hg3j hbf))
             have hP8 := Lib.hid (own_stays Hof7.out hS8 hg3j)
             have hS8' := Lib.hid (own_stays Hsf7.out hS8 hg36)
             have c8 : w8.cell? ⟨g1, 3, none⟩ = some (.int .i64 R.nd) := (hB12.below hz8 hB12.lt).cell 3
             clear hB8' ho7 Hof7 Hsf7 hS8
             refine holdE ?_))
        refine Lib.hid ?_
        go_wp2_with (first
          | (refine wpList_storeC (o := ⟨none, .store _ (.tmp 84) _, _, _, _, _⟩) rfl _ _ _ rfl rfl rfl rfl hB8 (show 3 < 10 from by decide) sz_int ?_
             intro w9 hB9' hS9
             have hB9 : Bk w9 g3 26 (rsL (.slice aS (srvL R.S).length kS) (.slice aN (leftL okNp 6 R.N).length kN) (.slice aP (leftL okP 10 R.P).length kP) { R with nd := heldI R.nd 0 15 }).toArray := hB9'
             have hz9 := bk_stays hz8 hS9 hg3'
             have c9 : w9.cell? ⟨g1, 4, none⟩ = some (.int .i64 R.tm) := (hB12.below hz9 hB12.lt).cell 4
             clear hB9' c8
             refine holdE ?_))
        refine Lib.hid ?_
        go_wp2_with (first
          | (refine wpList_storeC (o := ⟨none, .store _ (.tmp 89) _, _, _, _, _⟩) rfl _ _ _ rfl rfl rfl rfl hB9 (show 4 < 10 from by decide) sz_int ?_
             intro w10 hB10' hS10
             have hB10 : Bk w10 g3 26 (rsL (.slice aS (srvL R.S).length kS) (.slice aN (leftL okNp 6 R.N).length kN) (.slice aP (leftL okP 10 R.P).length kP) { R with nd := heldI R.nd 0 15, tm := heldI R.tm 1 30 }).toArray := hB10'
             have hz10 := bk_stays hz9 hS10 hg3'
             have c10 : w10.cell? ⟨g1, 5, none⟩ = some (.int .i64 R.tr) := (hB12.below hz10 hB12.lt).cell 5
             clear hB10' c9
             refine holdE ?_))
        refine Lib.hid ?_
        go_wp2_with (first
          | (refine wpList_storeC (o := ⟨none, .store _ (.tmp 94) _, _, _, _, _⟩) rfl _ _ _ rfl rfl rfl rfl hB10 (show 5 < 10 from by decide) sz_int ?_
             intro w11 hB11' hS11
             have hB11 : Bk w11 g3 26 (rsL (.slice aS (srvL R.S).length kS) (.slice aN (leftL okNp 6 R.N).length kN) (.slice aP (leftL okP 10 R.P).length kP) (heldR R)).toArray := hB11'
             have hz11 := bk_stays hz10 hS11 hg3'
             have hB2' := hB2.below hz11 hB2.lt
             clear hB11' c10
             refine holdE ?_))
        refine Lib.hid ?_
        go_wp2_with (first
          | (refine wpList_loadB (o := ⟨some 95, _, _, _, _, _⟩) rfl _ _ rfl rfl hB11 rs_under rfl rs_size ?_)
          | (refine wpList_storeB rfl _ (.tmp 2) (.tmp 95) rfl rfl rfl hB2' rs_size rfl (rsL_one _ rfl rfl rfl) ?_; intro wz hBz hSz))
        have hS3 := (hS9.trans hS10).trans hS11
        have hg2s : g2 < w2.heap.size := hB2.lt
        have hb0z : Below w.heap.size w wz := hb02.trans ((hz11.mono hb02.size).trans (hSz.below (Nat.le_trans hb1.size hg2')))
        have q1 := own_stays (own_stays hS8'.out hS3 hg36) hSz (Nat.lt_of_lt_of_le hg2s hz6k')
        have q2 := own_stays (own_stays hN8.out hS3 (Nat.lt_of_lt_of_le hg3j hbf)) hSz (Nat.lt_of_lt_of_le hg2s (Nat.le_trans h2j hbf))
        have q3 := own_stays (own_stays hP8.out hS3 hg3j) hSz (Nat.lt_of_lt_of_le hg2s h2j)
        exact ret_row Try.results17 rfl hBz rs_under rfl rs_size rfl ⟨_, _, _, rfl, heldR_at q1 q2 q3 (fun q hq => (H.out.nm q hq).bel hb0z) hw6 (Nat.le_trans hwj hbf) hwj, hb0z⟩
end Go.Proofs.Ytebfgaapcpehmaa

/- The reference's Candidates (31). -/
namespace Go.Proofs.Ytebfgaapcpehmaa
open Go.RowKit

set_option maxRecDepth 100000 in
set_option maxHeartbeats 2000000 in
theorem rcand_easy (vs vn vp : Value) (R : Rs) (s : List UInt8) (w : World) (h : RsAt w vs vn vp R) (hs : s.length ≤ 1000000) (hno : ¬ ∃ n, prs s = .inr (n, false) ∧ n ≠ []) :
    Calls Try.prog 20 #[.agg (rsL vs vn vp R).toArray, .string ⟨s.toArray⟩] w (CandPost w (candC R s)) := by
  have H := Lib.hid h
  clear h
  obtain ⟨C, hC⟩ : ∃ C, candC R s = C := ⟨_, rfl⟩
  rw [hC]
  have HC := Lib.hid hC
  clear hC
  cases hp : prs s with
  | inl c =>
    have hc0 : ((c : Int) != 0) = true := by
      rw [bne_iff_ne]
      intro h0
      subst h0
      exact prs_ne hp
    have hE : C = ([], 8) := by rw [← HC.out]; exact candC_err hp
    have HE := Lib.hid hE
    have Hp := Lib.hid hp
    clear hE hp
    go_enter Try.func20, Try.ntmps20
    go_wp2_with (first
      | ((with_reducible refine wpList_boxB rfl _ _ rfl rfl ?_); intro g1 w1 hg1 hB1 hb1 hs1; clear hg1 hs1)
      | (go_at_call 22; refine (rparse_any s _ hs).mono ?_
         intro e w2 h2
         obtain ⟨v2, rfl, hs2, hb2⟩ := prs_open_err h2 Hp.out
         have hb02 := bel_tr hb1 hb2
         clear h2))
    go_ret2
    exact CandPost.err HE.out hb02
  | inr p =>
    obtain ⟨n, dot⟩ := p
    obtain ⟨hchk, hnl⟩ := prs_ok hp
    have hlen := chk_len hchk
    have hn200 := chk_few hchk
    by_cases hn : n = []
    · subst hn
      have hE : C = ([], 8) := by rw [← HC.out]; exact candC_nil hp
      have HE := Lib.hid hE
      have Hp := Lib.hid hp
      clear hE hp hchk hlen hn200 hnl
      go_enter Try.func20, Try.ntmps20
      go_wp2_with (first
        | ((with_reducible refine wpList_boxB rfl _ _ rfl rfl ?_); intro g1 w1 hg1 hB1 hb1 hs1; clear hg1 hs1)
        | (go_at_call 22; refine (rparse_any s _ hs).mono ?_
           intro e w2 h2
           obtain ⟨v2, rfl, hs2, hb2⟩ := prs_open h2 Hp.out
           obtain ⟨a2, c2, rfl, _⟩ := hs2.any
           have hb02 := bel_tr hb1 hb2
           clear h2))
      go_ret2
      exact CandPost.err HE.out hb02
    · have hpos : 0 < n.length := List.length_pos_iff.2 hn
      have hn0 : ((n.length : Int) == 0) = false := by rw [beq_eq_false_iff_ne]; omega
      have hn1 : ((n.length : Nat) == 0) = false := by rw [beq_eq_false_iff_ne]; omega
      cases dot
      · exact absurd ⟨n, hp, hn⟩ hno
      · have hE : C = ([n], 0) := by rw [← HC.out]; exact candC_dot hp hn
        have HE := Lib.hid hE
        have Hp := Lib.hid hp
        have Hlen := Lib.hid hlen
        clear hE hp hchk hlen hn
        go_enter Try.func20, Try.ntmps20
        go_wp2_with (first
          | ((with_reducible refine wpList_boxB rfl _ _ rfl rfl ?_); intro g1 w1 hg1 hB1 hb1 hs1; clear hg1 hs1)
          | (go_at_call 22; refine (rparse_any s _ hs).mono ?_
             intro e w2 h2
             obtain ⟨v2, rfl, hs2, hb2⟩ := prs_open h2 Hp.out
             obtain ⟨a2, c2, rfl, _⟩ := hs2.any
             have hb02 := bel_tr hb1 hb2
             clear h2)
          | (refine wpList_lit (o := ⟨some 29, _, _, _, _, _⟩) rfl _ _ rfl elt_nms [Value.slice a2 n.length c2] rfl (by decide) (by decide) (fun v hv => by rw [List.mem_singleton.1 hv]; rfl) rfl ?_
             intro w3 hB3 ho3 hb3 hs3))
        go_ret2
        have hb03 := bel_tr hb02 hb3
        refine CandPost.ok (N := [(.slice a2 n.length c2, n)]) HE.out ⟨Sl.own ho3, fun q hq => ?_, rfl⟩ hb03
        rw [List.mem_singleton.1 hq]
        exact ⟨hs2.below hb3, by show n.length ≤ _; omega, Hlen.out⟩
end Go.Proofs.Ytebfgaapcpehmaa

/- The reference's Candidates (31): a name that is looked for within others. -/
namespace Go.Proofs.Ytebfgaapcpehmaa
open Go.RowKit

set_option maxRecDepth 100000 in
set_option maxHeartbeats 4000000 in
theorem rcand_at (vs vn vp : Value) (R : Rs) (s : List UInt8) (w : World) (h : RsAt w vs vn vp R) (hs : s.length ≤ 1000000) (n : NmL) (hp : prs s = .inr (n, false)) (hn : n ≠ []) :
    Calls Try.prog 20 #[.agg (rsL vs vn vp R).toArray, .string ⟨s.toArray⟩] w (CandPost w (candC R s)) := by
  obtain ⟨b1, k1, hvs, _⟩ := h.s.any
  obtain ⟨b2, k2, hvn, _⟩ := h.n.any
  obtain ⟨b3, k3, hvp, _⟩ := h.p.any
  have H := Lib.hid h
  clear h
  subst hvs hvn hvp
  obtain ⟨C, hC⟩ : ∃ C, candC R s = C := ⟨_, rfl⟩
  rw [hC]
  have HC := Lib.hid hC
  clear hC
  obtain ⟨hchk, hnl⟩ := prs_ok hp
  have hlen := chk_len hchk
  have hn200 := chk_few hchk
  have hpos : 0 < n.length := List.length_pos_iff.2 hn
  have hn0 : ((n.length : Int) == 0) = false := by rw [beq_eq_false_iff_ne]; omega
  have hn1 : ((n.length : Nat) == 0) = false := by rw [beq_eq_false_iff_ne]; omega
  have hE : C = (candL n R, 0) := by rw [← HC.out]; exact candC_at hp hn
  have HE := Lib.hid hE
  have Hp := Lib.hid hp
  have Hlen := Lib.hid hlen
  have Hchk := Lib.hid hchk
  clear hE hp hchk hlen hn
  go_enter Try.func20, Try.ntmps20
  go_wp2_with (first
    | ((with_reducible refine wpList_boxB rfl _ _ rfl rfl ?_); intro g1 w1 hg1 hB1 hb1 hs1; clear hg1 hs1)
    | (go_at_call 22; refine (rparse_any s _ hs).mono ?_
       intro e w2 h2
       obtain ⟨v2, rfl, hs2, hb2⟩ := prs_open h2 Hp.out
       obtain ⟨a2, c2, rfl, _⟩ := hs2.any
       have hb02 := bel_tr hb1 hb2
       have hB12 := hB1.bel hb2
       have Hs2 := Lib.hid hs2
       clear h2 hs2 hB1 hb1 hb2
       refine holdE ?_))
  refine Lib.hid ?_
  go_wp2_with (first
    | (refine wpList_loadB (o := ⟨some 30, _, _, _, _, _⟩) rfl _ _ rfl rfl hB12 rs_under rfl rs_size ?_)
    | (go_at_call 17; refine (rresolv_any _ _ _ R _ (H.out.bel hb02)).mono ?_
       rintro e w3 ⟨xs, xn, xp, rfl, hR3, hb3⟩
       have HR3 := Lib.hid hR3
       obtain ⟨as3, cs3, hxs, _⟩ := hR3.rs.s.any
       obtain ⟨an3, cn3, hxn, _⟩ := hR3.rs.n.any
       obtain ⟨ap3, cp3, hxp, _⟩ := hR3.rs.p.any
       subst hxs hxn hxp
       have hb03 := bel_tr hb02 hb3
       have Hs3 := Lib.hid (Hs2.out.below hb3)
       clear hR3 hB12 hb02 hb3 Hs2
       refine holdE ?_))
  refine Lib.hid ?_
  go_wp2_with (first
    | ((with_reducible refine wpList_allocZ (o := ⟨some 9, _, _, _, _, _⟩) rfl _ rfl rs_zero ?_); intro g9 w9 hg9 hB9 hb9 hs9; have hg9' : w3.heap.size ≤ g9 := Nat.le_of_eq hg9.symm; clear hg9 hs9)
    | (refine wpList_storeB rfl _ (.tmp 9) (.tmp 31) rfl rfl rfl hB9 rs_size rfl (rsL_one _ (sl_one HR3.out.rs.s) (sl_one HR3.out.rs.n) (sl_one HR3.out.rs.p)) ?_; intro w4 hB4 hS4
       refine holdE ?_))
  refine Lib.hid ?_
  have hb34 := hb9.trans (hS4.below hg9')
  have hb04 : Below w.heap.size w w4 := bel_tr hb03 hb34
  have Hn4 := Lib.hid (Hs3.out.below hb34)
  have c3 : w4.cell? ⟨g9, 3, none⟩ = some (.int .i64 (heldR R).nd) := hB4.cell 3
  have c1 : w4.cell? ⟨g9, 1, none⟩ = some (.slice an3 (heldR R).N.length cn3) := hB4.cell 1
  have hM6 := heldR_N R
  have HM4 := Lib.hid (HR3.out.rs.n.below hb34)
  have HNm := Lib.hid (fun q hq => (HR3.out.rs.nm q hq).bel hb34)
  have hMf : ∀ q ∈ (heldR R).N, q.2.length ≤ 255 := fun q hq => okN_few (leftL_mem hq).2
  have HMf := Lib.hid hMf
  clear hMf
  have hg9s : g9 < w4.heap.size := hB4.lt
  clear hB4 hS4 hB9 hb9 hb34 hb03 HR3 Hs3 hg9'
  have HcL : Hid (candL n R = if firstB n R = true then n :: catsL n (heldR R).N else catsL n (heldR R).N ++ [n]) := Lib.hid rfl
  obtain ⟨ndv, hndv⟩ : ∃ ndv, (heldR R).nd = ndv := ⟨_, rfl⟩
  have hfd : firstB n R = decide (ndv ≤ (n.length : Int) - 1) := by rw [← hndv]; rfl
  rw [hndv] at c3
  obtain ⟨M, hM⟩ : ∃ M, (heldR R).N = M := ⟨_, rfl⟩
  rw [hM] at c1 hM6 HM4 HNm HcL HMf
  have Hfd := Lib.hid hfd
  have C3 := Lib.hid c3
  clear hndv hM hfd c3
  have hst : CndRel w4.heap.size w4 [] n M 0 (.slice none 0 0) w4 := ⟨[], NmsOwn.nil _ _, by simp, Below.refl _ _⟩
  go_wp2_with fail
  go_loopw [10, 11] (fun v i wr => ∃ k : Nat, k ≤ M.length ∧ i = .int .i64 k ∧ CndRel w4.heap.size w4 [] n M k v wr) (fun _ i _ => M.length - (intOf i).toNat)
  case atStart => exact ⟨0, Nat.zero_le _, rfl, hst⟩
  case round =>
    obtain ⟨k, hk, rfl, N, hN, hNk, hz⟩ := hrel
    obtain ⟨ao, co, rfl⟩ := own_any hN.own
    have HN := Lib.hid hN
    have c1k : wr.cell? ⟨g9, 1, none⟩ = some (.slice an3 M.length cn3) := (hz.cell (p := ⟨g9, 1, none⟩) hg9s).trans c1
    have c3k : wr.cell? ⟨g9, 3, none⟩ = some (.int .i64 ndv) := (hz.cell (p := ⟨g9, 3, none⟩) hg9s).trans C3.out
    clear hN hst
    by_cases hlt : k < M.length
    · obtain ⟨b, off, c, hv, hc, hbl, hcell⟩ := HM4.out.pos (by omega)
      injection hv with hv1 _ hv2
      subst hv1 hv2
      have hnm := HNm.out _ (List.getElem_mem hlt)
      have hpf := HMf.out _ (List.getElem_mem hlt)
      have hR := range_of nmF_len hcell hlt
      have e1 : wr.cell? ⟨b, off + k, none⟩ = some M[k].1 := by
        have := (hz.cell (p := ⟨b, off + k * 1 + 0, none⟩) hbl).trans (hR 0 _ rfl)
        simpa using this
      have hnx := catsL_next (n := n) hlt
      obtain ⟨P, hP⟩ : ∃ P, M[k] = P := ⟨_, rfl⟩
      obtain ⟨pv, pn⟩ := P
      rw [hP] at e1 hnm hnx hpf
      obtain ⟨na, nc, hnv, hnc⟩ := hnm.sl.any
      dsimp only at hnv hnc e1 hnx hpf
      subst hnv
      have Hnm := Lib.hid (hnm.bel hz)
      have Hnx := Lib.hid hnx
      have hltI : (k : Int) < (M.length : Int) := by omega
      clear hR hcell hbl hnm hP hnx
      by_cases hc : chk (n ++ pn) = 0
      · have Hc := Lib.hid hc
        clear hc
        obtain ⟨D, hD⟩ : ∃ D, D = n ++ pn := ⟨_, rfl⟩
        have hDl : D.length ≤ 600 := by rw [hD, List.length_append]; omega
        have HDl : Hid (∀ l ∈ D, l.length ≤ 140737488351232) := Lib.hid (fun l hl => by rw [hD] at hl; rcases List.mem_append.1 hl with h | h; exact Hlen.out l h; exact Hnm.out.len l h)
        have HD := Lib.hid hD
        clear hD
        go_wp2_with (first
          | (go_at_call 34; refine (rcatO_any n pn _ _ _ (Hn4.out.below hz) Hnm.out.sl (by omega) (by omega) (fun l hl => by rcases List.mem_append.1 hl with h | h; exact Hlen.out l h; exact Hnm.out.len l h)).mono ?_
             rintro e w5 ⟨v5, rfl, ⟨C5, hC5, hoC⟩, hb5⟩
             rw [show chk (n ++ pn) = 0 from Hc.out]
             rw [if_pos Hc.out, ← HD.out] at hC5
             obtain rfl : D = C5 := hC5.symm
             obtain ⟨a5, k5, rfl⟩ := own_any hoC
             have HoC := Lib.hid hoC
             clear hoC)
          | (at_builtin; refine wpList_appLit (n := N.length) (m := 1) rfl (.tmp 51) (.tmp 53) _ rfl elt_nms rfl (own_below HN.out.own hb5) [Value.slice a5 D.length k5] rfl rfl (by intro u hu; rw [List.mem_singleton.1 hu]; rfl) (Nat.le_trans hz.size hb5.size) (by omega) (by omega) ?_; intro v6 w6 ho6 hb6 hg6; have Ho6 := Lib.hid ho6; have Hg6 := Lib.hid hg6; clear ho6 hg6))
        go_roundw
        case rel =>
          refine ⟨k + 1, by omega, by go_num, N ++ [(.slice a5 D.length k5, D)], ?_, by rw [List.length_append]; simp; omega, (hz.trans (hb5.mono hz.size)).trans hb6⟩
          rw [Hnx.out, if_pos Hc.out, ← List.append_assoc, ← HD.out]
          have hown5 := own_below HN.out.own hb5
          exact NmsOwn.add (HN.out.bel hb5) Ho6.out (fun q hq => ((HN.out.ok q hq).bel hb5).grown hown5 Hg6.out) (NmB.grown ⟨.own HoC.out, by show D.length ≤ _; omega, HDl.out⟩ hown5 Hg6.out)
        case measure => simp [intOf]; omega
      · have hc1 : ((chk (n ++ pn) : Int) == 0) = false := by simpa using hc
        have Hc := Lib.hid hc
        clear hc
        go_wp2_with (first
          | (go_at_call 34; refine (rcatO_any n pn _ _ _ (Hn4.out.below hz) Hnm.out.sl (by omega) (by omega) (fun l hl => by rcases List.mem_append.1 hl with h | h; exact Hlen.out l h; exact Hnm.out.len l h)).mono ?_
             rintro e w5 ⟨v5, rfl, ⟨C5, hC5, hoC⟩, hb5⟩
             obtain ⟨a5, k5, rfl⟩ := own_any hoC
             clear hoC hC5))
        go_roundw
        case rel =>
          refine ⟨k + 1, by omega, by go_num, N, ?_, by omega, hz.trans (hb5.mono hz.size)⟩
          rw [Hnx.out, if_neg Hc.out, List.append_nil]
          exact HN.out.bel hb5
        case measure => simp [intOf]; omega
    · have hltI : ¬ (k : Int) < (M.length : Int) := by omega
      obtain rfl : k = M.length := by omega
      have hM9 := HN.out.is
      rw [List.take_length, List.nil_append] at hM9
      have HM9 := Lib.hid hM9
      clear hM9
      cases hf : firstB n R
      · have hnd : decide (ndv < (n.length : Int)) = false := by
          rw [decide_eq_false_iff_not]
          have := Hfd.out.symm.trans hf
          rw [decide_eq_false_iff_not] at this
          omega
        have hL : candL n R = catsL n M ++ [n] := by rw [HcL.out, if_neg (by rw [hf]; decide)]
        have HL := Lib.hid hL
        clear hL hf
        go_wp2_with (first
          | (at_builtin; refine wpList_appLit (n := N.length) (m := 1) rfl (.tmp 64) (.tmp 66) _ rfl elt_nms rfl HN.out.own [Value.slice a2 n.length c2] rfl rfl (by intro u hu; rw [List.mem_singleton.1 hu]; rfl) hz.size (by omega) (by omega) ?_; intro v6 w6 ho6 hb6 hg6; have Ho6 := Lib.hid ho6; have Hg6 := Lib.hid hg6; clear ho6 hg6))
        go_ret2
        refine CandPost.ok (N := N ++ [(.slice a2 n.length c2, n)]) HE.out ?_ (bel_tr4 hb04 hz rfl hb6)
        refine ⟨by rw [List.length_append, List.flatMap_append]; simpa [nmF] using Sl.own Ho6.out, fun q hq => ?_, by rw [List.map_append, HM9.out, HL.out]; rfl⟩
        rcases List.mem_append.1 hq with hq | hq
        · exact ((HN.out.ok q hq).grown HN.out.own Hg6.out).ok
        · rw [List.mem_singleton.1 hq]
          exact (NmB.grown (b := w4.heap.size) ((NmB.old ⟨Hn4.out, by show n.length ≤ _; omega, Hlen.out⟩ (Nat.le_refl _)).bel hz) HN.out.own Hg6.out).ok
      · have hnd : decide (ndv < (n.length : Int)) = true := by
          rw [decide_eq_true_iff]
          have := Hfd.out.symm.trans hf
          rw [decide_eq_true_iff] at this
          omega
        have hL : candL n R = n :: catsL n M := by rw [HcL.out, if_pos hf]
        have HL := Lib.hid hL
        clear hL hf
        go_wp2_with (first
          | (refine wpList_lit (o := ⟨some 61, _, _, _, _, _⟩) rfl _ _ rfl elt_nms [Value.slice a2 n.length c2] rfl (by decide) (by decide) (fun v hv => by rw [List.mem_singleton.1 hv]; rfl) rfl ?_
             intro w5 hB5 ho5 hb5 hs5
             have Ho5 := Lib.hid ho5
             have HN5 := Lib.hid (HN.out.bel hb5)
             clear hB5 hs5 ho5)
          | (at_builtin; refine wpList_app rfl (.tmp 61) (.tmp 62) _ rfl elt_nms rfl Ho5.out rfl (Sl.own HN5.out.own) (fun u hu => by obtain ⟨q, hq, hqu⟩ := List.mem_flatMap.1 hu; rw [List.mem_singleton.1 hqu]; exact sl_one (HN5.out.ok q hq).ok.sl) hb5.size (by omega) (by omega) ?_
             intro v6 w6 ho6 hb6 hg6
             have Ho6 := Lib.hid ho6
             clear ho6 hg6))
        go_ret2
        have hb46 : Below wr.heap.size wr w6 := hb5.trans hb6
        refine CandPost.ok (N := (.slice a2 n.length c2, n) :: N) HE.out ?_ (bel_tr4 hb04 hz rfl (hb46.mono hz.size))
        refine ⟨?_, fun q hq => ?_, by rw [List.map_cons, HM9.out, HL.out]⟩
        · have := Sl.own Ho6.out
          rw [Nat.add_comm] at this
          exact this
        · rcases List.mem_cons.1 hq with rfl | hq
          · exact NmOk.bel ⟨Hn4.out.below hz, by show n.length ≤ _; omega, Hlen.out⟩ hb46
          · exact ((HN.out.ok q hq).ok).bel hb46
end Go.Proofs.Ytebfgaapcpehmaa

/- The reference's Candidates, all ways; the walk of SearchTells. -/
namespace Go.Proofs.Ytebfgaapcpehmaa
open Go.RowKit

theorem rcand_any (vs vn vp : Value) (R : Rs) (s : List UInt8) (w : World) (h : RsAt w vs vn vp R) (hs : s.length ≤ 1000000) :
    Calls Try.prog 20 #[.agg (rsL vs vn vp R).toArray, .string ⟨s.toArray⟩] w (CandPost w (candC R s)) := by
  by_cases hy : ∃ n, prs s = .inr (n, false) ∧ n ≠ []
  · obtain ⟨n, h1, h2⟩ := hy
    exact rcand_at vs vn vp R s w h hs n h1 h2
  · exact rcand_easy vs vn vp R s w h hs hy
theorem candL_len (n : NmL) (R : Rs) : (candL n R).length ≤ 7 := by
  have h6 := Nat.le_trans (catsL_len n (heldR R).N) (heldR_N R)
  unfold candL
  split
  · simp; omega
  · simp; omega
theorem candC_len (R : Rs) (s : List UInt8) : (candC R s).1.length ≤ 7 := by
  unfold candC
  split
  · simp
  · split
    · simp
    · split
      · simp
      · exact candL_len _ _
set_option maxRecDepth 100000 in
set_option maxHeartbeats 4000000 in
theorem searchTells_walk (w : World) (q : Value × Value × Value × Rs) (v : Value) (h : RsArg w v q) (s : List UInt8) (hs : s.length ≤ 140737488351232) : Calls Try.prog 5 #[v, .string ⟨s.toArray⟩] w (TrueP w) := by
  obtain ⟨vs, vn, vp, R⟩ := q
  obtain ⟨rfl, h⟩ := h
  dsimp only at h ⊢
  have H := Lib.hid h
  have Hcf := Lib.hid (built_cf0 vs vn vp R)
  clear h
  by_cases hlen : 1200 < s.length
  · have hI : decide ((1200 : Int) < (s.length : Int)) = true := decide_eq_true (by omega)
    go_enter Try.func5, Try.ntmps5
    go_wp2_with (first
      | ((with_reducible refine wpList_boxB rfl _ _ rfl rfl ?_); intro g1 w1 hg1 hB1 hb1 hs1; clear hg1 hs1)
      | (go_at_call 18; refine (works31_any _).mono ?_; rintro e w2 ⟨rfl, hb2⟩; have hb02 := bel_tr hb1 hb2))
    go_ret
    exact ⟨rfl, hb02⟩
  · have hI : decide ((1200 : Int) < (s.length : Int)) = false := decide_eq_false (by omega)
    cases hf : fewR R
    · have Hf := Lib.hid hf
      clear hf
      go_enter Try.func5, Try.ntmps5
      go_wp2_with (first
        | ((with_reducible refine wpList_boxB rfl _ _ rfl rfl ?_); intro g1 w1 hg1 hB1 hb1 hs1; clear hg1 hs1)
        | (refine wpList_guarded (o := ⟨some 13, _, _, _, _, _⟩) rfl ?_; refine wpList_loadB rfl _ _ rfl rfl hB1 rs_under rfl rs_size ?_)
        | (refine wpList_guarded (o := ⟨some 14, _, _, _, _, _⟩) rfl ?_; refine wpList_buildL rfl _ [(0, .tmp 13)] rfl Hcf.out rfl ?_)
        | (go_at_call 7; refine (rfew21_any vs vn vp R _ (H.out.bel hb1)).mono ?_
           rw [Hf.out]
           rintro e w2 ⟨rfl, hb2⟩
           have hb02 := bel_tr hb1 hb2
           refine holdE ?_))
      refine Lib.hid ?_
      go_wp2_with (first
        | (go_at_call 18; refine (works31_any _).mono ?_; rintro e w3 ⟨rfl, hb3⟩; have hb03 := bel_tr hb02 hb3))
      go_ret
      exact ⟨rfl, hb03⟩
    · have hat := fewR_at H.out hf
      have Hat := Lib.hid hat
      have Hf := Lib.hid hf
      have hCl := candC_len R s
      obtain ⟨C, hC⟩ : ∃ C, candC R s = C := ⟨_, rfl⟩
      rw [hC] at hCl
      have HC := Lib.hid hC
      clear hat hf hC
      obtain ⟨D, er⟩ := C
      dsimp only at hCl
      go_enter Try.func5, Try.ntmps5
      go_wp2_with (first
        | ((with_reducible refine wpList_boxB rfl _ _ rfl rfl ?_); intro g1 w1 hg1 hB1 hb1 hs1; clear hg1 hs1)
        | (refine wpList_guarded (o := ⟨some 13, _, _, _, _, _⟩) rfl ?_; refine wpList_loadB rfl _ _ rfl rfl hB1 rs_under rfl rs_size ?_)
        | (refine wpList_guarded (o := ⟨some 14, _, _, _, _, _⟩) rfl ?_; refine wpList_buildL rfl _ [(0, .tmp 13)] rfl Hcf.out rfl ?_)
        | (go_at_call 7; refine (rfew21_any vs vn vp R _ (H.out.bel hb1)).mono ?_
           rw [Hf.out]
           rintro e w2 ⟨rfl, hb2⟩
           have hb02 := bel_tr hb1 hb2
           have hB2 := hB1.bel hb2
           clear hb1 hb2 hB1
           refine holdE ?_))
      refine Lib.hid ?_
      go_wp2_with (first
        | (refine wpList_loadB (o := ⟨some 20, _, _, _, _, _⟩) rfl _ _ rfl rfl hB2 rs_under rfl rs_size ?_)
        | (go_at_call 19; refine (cand_any vs vn vp R s _ (Hat.out.bel hb02) (by omega)).mono ?_
           rw [HC.out]
           rintro e w4 ⟨v4, N4, rfl, hN4, hb4⟩
           have hb04 := bel_tr hb02 hb4
           have hB4 := hB2.bel hb4
           obtain ⟨a4, c4, hv4, _⟩ := hN4.sl.any
           subst hv4
           have HN4 := Lib.hid hN4
           clear hb02 hb4 hB2 hN4
           dsimp only
           refine holdE ?_))
      refine Lib.hid ?_
      go_wp2_with (first
        | (refine wpList_loadB (o := ⟨some 26, _, _, _, _, _⟩) rfl _ _ rfl rfl hB4 rs_under rfl rs_size ?_)
        | (go_at_call 20; refine (rcand_any vs vn vp R s _ (Hat.out.bel hb04) (by omega)).mono ?_
           rw [HC.out]
           rintro e w5 ⟨v5, N5, rfl, hN5, hb5⟩
           have hb05 := bel_tr hb04 hb5
           obtain ⟨a5, c5, hv5, _⟩ := hN5.sl.any
           subst hv5
           have HN5 := Lib.hid hN5
           have HN45 := Lib.hid (HN4.out.bel hb5)
           clear hb04 hb5 hB4 hN5 HN4
           dsimp only
           refine holdE ?_))
      refine Lib.hid ?_
      have hl4 : N4.length ≤ 7 := by have := congrArg List.length HN45.out.is; simp at this; omega
      have hl5 : N5.length ≤ 7 := by have := congrArg List.length HN5.out.is; simp at this; omega
      go_wp2_with (first
        | (go_at_call 18; refine (works31_any _).mono ?_; rintro e w6 ⟨rfl, hb6⟩; have hb06 := bel_tr hb05 hb6; have HN46 := Lib.hid (HN45.out.bel hb6); have HN56 := Lib.hid (HN5.out.bel hb6))
        | (go_at_call 21; refine (sameNms_any N4 N5 _ _ _ HN46.out.sl HN56.out.sl HN46.out.ok HN56.out.ok (by omega) (by omega)).mono ?_
           rw [decide_eq_true (show N4.map (·.2) = N5.map (·.2) from HN46.out.is.trans HN56.out.is.symm)]
           rintro e w7 ⟨rfl, hb7⟩
           have hb07 := bel_tr hb06 hb7))
      go_ret
      exact ⟨rfl, hb07⟩
end Go.Proofs.Ytebfgaapcpehmaa
