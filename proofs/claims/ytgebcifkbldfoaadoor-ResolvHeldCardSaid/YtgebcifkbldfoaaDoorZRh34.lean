/- Contracts and plain lemmas of our own, merged. -/
import Derived.Test.YtgebcifkbldfoaaDoorZRh11
import Derived.Test.YtgebcifkbldfoaaDoorZRh21
import Derived.Test.YtgebcifkbldfoaaDoorZRh31
import Derived.Test.YtgebcifkbldfoaaDoorZRh33
/- resolv.Parse: what a file says. -/
namespace Go.Proofs.YtgebcifkbldfoaaDoor
open Go.RowKit
attribute [local go_sem] ba_get ext_take ext_drop ext_any ba_app
attribute [local go_sem] Oper.semAt_some

def rvZ : Array Value := rvA (.slice none 0 0) (.slice none 0 0) (.slice none 0 0) ⟨[], [], [], 0, 0, 0, false, false, false, false⟩
theorem rv_under : Tryd.prog.underlying 68 = some (.struct (Tryd.prog.fieldsOf 68)) := by kernel_rfl
theorem rv_size : (Tryd.prog.info? 68).map (·.size) = some 10 := by kernel_rfl
theorem rv_zero : ZeroIs Tryd.prog 68 rvZ := by unfold ZeroIs; kernel_rfl
def rvP0 : Array Value := rvA (.slice none 0 0) (.slice none 0 0) (.slice none 0 0) rv0
theorem built_rv : Tryd.prog.built 68 [(3, .int .i64 1), (4, .int .i64 5), (5, .int .i64 2)] = some rvP0 := by kernel_rfl
theorem built_rd : Tryd.prog.built 116 [(0, .agg rvP0)] = some rvP0 := by kernel_rfl
theorem rvA_one {vs vn vp : Value} (R : Rv) (h1 : vs.oneCell' = true) (h2 : vn.oneCell' = true) (h3 : vp.oneCell' = true) : (rvA vs vn vp R).all (·.oneCell') = true := by
  refine all_oneCell_toArray fun v hv => ?_
  simp only [rvL, List.mem_cons, List.not_mem_nil, or_false] at hv
  rcases hv with rfl | rfl | rfl | rfl | rfl | rfl | rfl | rfl | rfl | rfl <;> first | assumption | rfl
theorem ret_rowR {P : Program} {fn : Func} {p : Tmp} {ty : TypeId} (h : fn.results = #[.cell p ty]) {R : Ending → World → Prop} {a : Act} {w : World} {g : Nat} {t : TypeId} {cs : Array Value} {d : TypeDesc}
    (hp : a.tmps.getD p undef = .pointer (some ⟨g, 0, none⟩)) (hB : Bk w g t cs) (hu : P.underlying ty = some d) (hr : d.isRow = true) (hi : (P.info? ty).map (·.size) = some cs.size) (hd : a.defers = []) (hR : R (.returned (.agg cs)) w) : bodyPost P fn R .ret a w :=
  bodyPost_ret_by (results_cell_row h a.tmps w g t cs (0, 0) _ hp hB hu (by cases d <;> first | rfl | cases hr) hi) hd hR
def PlnPost (w : World) (e : Ending) (w' : World) : Prop := e = .returned (.agg rvP0) ∧ Below w.heap.size w w'
set_option maxRecDepth 100000 in
theorem plain_any (w : World) : Calls Tryd.prog 69 #[] w (PlnPost w) := by
  go_enter Tryd.func69, Tryd.ntmps69
  go_wp2_with (first
    | ((with_reducible show wpList _ _ _ (⟨some 0, _, _, _, _, _⟩ :: _) _ _); refine wpList_allocZ (o := ⟨some 0, _, _, _, _, _⟩) rfl _ rfl rv_zero ?_; intro g2 w2 hg2 hB2 hb2 hs2; have hg2' : w.heap.size ≤ g2 := Nat.le_of_eq hg2.symm; clear hg2 hs2)
    | ((with_reducible show wpList _ _ _ (⟨some 1, _, _, _, _, _⟩ :: _) _ _); refine wpList_buildL (o := ⟨some 1, _, _, _, _, _⟩) rfl _ [(3, .const (.int .i64 1)), (4, .const (.int .i64 5)), (5, .const (.int .i64 2))] rfl built_rv rfl ?_)
    | ((with_reducible show wpList _ _ _ (⟨none, .store _ _ _, _, _, _, _⟩ :: _) _ _); refine wpList_storeB (o := ⟨none, _, _, _, _, _⟩) rfl _ (.tmp 0) _ rfl rfl rfl hB2 rv_size rfl (rvA_one _ rfl rfl rfl) ?_; intro w3 hB3 hS3))
  exact ret_rowR Tryd.results69 rfl hB3 rv_under rfl rv_size rfl ⟨rfl, hb2.trans (hS3.below hg2')⟩
set_option maxRecDepth 100000 in
theorem rv17plain_any (w : World) : Calls Tryd.prog 40 #[] w (PlnPost w) := by
  go_enter Tryd.func40, Tryd.ntmps40
  go_wp2_with (first
    | ((with_reducible show wpList _ _ _ (⟨some 0, _, _, _, _, _⟩ :: _) _ _); refine wpList_allocZ (o := ⟨some 0, _, _, _, _, _⟩) rfl _ rfl rv_zero ?_; intro g2 w2 hg2 hB2 hb2 hs2; have hg2' : w.heap.size ≤ g2 := Nat.le_of_eq hg2.symm; clear hg2 hs2)
    | ((with_reducible show wpList _ _ _ (⟨some 1, _, _, _, _, _⟩ :: _) _ _); refine wpList_buildL (o := ⟨some 1, _, _, _, _, _⟩) rfl _ [(3, .const (.int .i64 1)), (4, .const (.int .i64 5)), (5, .const (.int .i64 2))] rfl built_rv rfl ?_)
    | ((with_reducible show wpList _ _ _ (⟨none, .store _ _ _, _, _, _, _⟩ :: _) _ _); refine wpList_storeB (o := ⟨none, _, _, _, _, _⟩) rfl _ (.tmp 0) _ rfl rfl rfl hB2 rv_size rfl (rvA_one _ rfl rfl rfl) ?_; intro w3 hB3 hS3))
  exact ret_rowR Tryd.results40 rfl hB3 rv_under rfl rv_size rfl ⟨rfl, hb2.trans (hS3.below hg2')⟩
theorem gr_trans {a b c : World} {row : Option Nat} (h : a.grownBy b row) (k : b.grownBy c row) : a.grownBy c row :=
  ⟨k.os.trans h.os, k.tape.trans h.tape, k.output.trans h.output, Nat.le_trans h.size k.size, fun i hi hne => (k.block i (Nat.lt_of_lt_of_le hi h.size) hne).trans (h.block i hi hne)⟩
/-- what each word does. -/
def doV (g f : Nat) : Value := .func (.func f) #[.pointer (some ⟨g, 0, none⟩)] #[]
def doL (g : Nat) : List (List UInt8 × Value) := [(wNs, doV g 70), (wDo, doV g 71), (wSe, doV g 72), (wSo, doV g 73), (wOp, doV g 74)]
theorem zero_do (w : World) : (zeroValue 117).run Tryd.prog w = .ok .nilFunc w := by
  have h : (Tryd.prog.info? 117).map (·.zero) = some (some .nilFunc) := by kernel_rfl
  cases hq : Tryd.prog.info? 117 with
  | none => rw [hq] at h; cases h
  | some i =>
    rw [hq] at h
    have h1 : i.zero = some .nilFunc := by simpa using h
    simp [zeroValue, typeInfo, hq, h1]
theorem mkfn_run (fn : Fn) (first cap : Array Value) (w : World) : (Instr.makeFunc fn first cap).run Tryd.prog w = .ok (.func fn first cap) w := rfl
theorem say_ns (R : Rv) (F : List (List UInt8)) : sayS R wNs F = { R with S := addS R.S F } := if_pos rfl
theorem say_do (R : Rv) (F : List (List UInt8)) : sayS R wDo F = { R with N := (domN F).getD R.N } := by unfold sayS; rw [if_neg (by decide), if_pos rfl]
theorem say_se (R : Rv) (F : List (List UInt8)) : sayS R wSe F = { R with N := (newN F).getD R.N } := by unfold sayS; rw [if_neg (by decide), if_neg (by decide), if_pos rfl]
theorem say_so (R : Rv) (F : List (List UInt8)) : sayS R wSo F = { R with P := (newP F).getD R.P } := by unfold sayS; rw [if_neg (by decide), if_neg (by decide), if_neg (by decide), if_pos rfl]
theorem say_op (R : Rv) (F : List (List UInt8)) : sayS R wOp F = F.foldl optS R := by unfold sayS; rw [if_neg (by decide), if_neg (by decide), if_neg (by decide), if_neg (by decide), if_pos rfl]
theorem say_no {R : Rv} {f : List UInt8} {F : List (List UInt8)} (h1 : f ≠ wNs) (h2 : f ≠ wDo) (h3 : f ≠ wSe) (h4 : f ≠ wSo) (h5 : f ≠ wOp) : sayS R f F = R := by unfold sayS; rw [if_neg h1, if_neg h2, if_neg h3, if_neg h4, if_neg h5]
theorem ent_no {g : Nat} {f : List UInt8} (h1 : f ≠ wNs) (h2 : f ≠ wDo) (h3 : f ≠ wSe) (h4 : f ≠ wSo) (h5 : f ≠ wOp) : entS f (doL g) = none := by
  unfold doL
  simp [entS, h1, h2, h3, h4, h5]
def rvF (S : List (Nat × List (List UInt8))) : Rv := S.foldl (fun R c => lnR R c.2) rv0
theorem slA5 {w : World} {b off cp : Nat} {f : List UInt8} {R : List (List UInt8)} (h : Sl w 1 (.slice (some ⟨b, off, none⟩) (f :: R).length cp) (f :: R).length ((f :: R).map stv)) (hc : cp = 1) : Sl w 1 (.slice (some ⟨b, off, none⟩) R.length 0) R.length (R.map stv) := by
  subst hc
  have h2 := h.cut (k := 1) (by simp)
  simpa using h2
theorem slB5 {w : World} {b off cp : Nat} {f : List UInt8} {R : List (List UInt8)} (h : Sl w 1 (.slice (some ⟨b, off, none⟩) (f :: R).length cp) (f :: R).length ((f :: R).map stv)) (hc : ¬ cp = 1) : Sl w 1 (.slice (some ⟨b, off + 1, none⟩) R.length (cp - 1)) R.length (R.map stv) := by
  have h2 := h.cut (k := 1) (by simp)
  rw [if_neg hc] at h2
  simpa [Addr.add] using h2
theorem RvOwn.rv0 (b : Nat) (w : World) : RvOwn b w (.slice none 0 0) (.slice none 0 0) (.slice none 0 0) rv0 := ⟨World.ownsRow_nil _ _ _ _, ⟨[], NmsOwn.nil _ _, fun _ h => (by cases h)⟩, World.ownsRow_nil _ _ _ _⟩
theorem addS_few {S : List Ad} (F : List (List UInt8)) (h : S.length ≤ 3) : (addS S F).length ≤ 3 := by
  match F with
  | [] => exact h
  | _ :: _ :: _ => exact h
  | [f] =>
    show (if S.length < 3 then (match adrP f with | .inr a => S ++ [a] | .inl _ => S) else S).length ≤ 3
    by_cases h3 : S.length < 3
    · rw [if_pos h3]
      cases adrP f with
      | inl e => exact h
      | inr a =>
        show (S ++ [a]).length ≤ 3
        rw [List.length_append, List.length_singleton]
        omega
    · rw [if_neg h3]
      exact h
theorem optS_S (F : List (List UInt8)) : ∀ R : Rv, (F.foldl optS R).S = R.S := by
  induction F with
  | nil => exact fun _ => rfl
  | cons f F ih => exact fun R => ih (optS R f)
theorem say_few {R : Rv} (f : List UInt8) (F : List (List UInt8)) (h : R.S.length ≤ 3) : (sayS R f F).S.length ≤ 3 := by
  unfold sayS
  split
  · exact addS_few F h
  · split
    · exact h
    · split
      · exact h
      · split
        · exact h
        · split
          · rw [optS_S]; exact h
          · exact h
theorem ln_few {R : Rv} (F : List (List UInt8)) (h : R.S.length ≤ 3) : (lnR R F).S.length ≤ 3 := by
  cases F with
  | nil => exact h
  | cons f F => exact say_few f F h
theorem rvF_few (S : List (Nat × List (List UInt8))) : (rvF S).S.length ≤ 3 := by
  have h : ∀ (S : List (Nat × List (List UInt8))) (R : Rv), R.S.length ≤ 3 → (S.foldl (fun R c => lnR R c.2) R).S.length ≤ 3 := by
    intro S
    induction S with
    | nil => exact fun _ h => h
    | cons c S ih => exact fun R h => ih _ (ln_few c.2 h)
  exact h S rv0 (by decide)
theorem rvF_next {S : List (Nat × List (List UInt8))} {i : Nat} {c : Nat × List (List UInt8)} (h : S[i]? = some c) : rvF (S.take (i + 1)) = lnR (rvF (S.take i)) c.2 := by
  obtain ⟨hi, hx⟩ := List.getElem?_eq_some_iff.1 h
  rw [List.take_succ_eq_append_getElem hi, hx]
  unfold rvF
  rw [List.foldl_append]
  rfl
structure RpI (w : World) (g gm g4 : Nat) (S : List (Nat × List (List UInt8))) (i : Nat) (V : World) : Prop where
  at_ : RvAt w.heap.size V g (rvF (S.take i))
  map : MapS V gm (doL g)
  bx : Bk V g4 118 #[.map (some gm)]
  b : Below w.heap.size w V
theorem RpI.kept {w : World} {g gm g4 i : Nat} {S : List (Nat × List (List UInt8))} {W W' : World} {row : Option Nat} (h : RpI w g gm g4 S i W) (hg : W.grownBy W' row) (hh : Harm tyR w.heap.size W row) (h1 : some g ≠ row) (h2 : some gm ≠ row) (h3 : some g4 ≠ row) : RpI w g gm g4 S i W' := by
  obtain ⟨vs, vn, vp, hB, hO⟩ := h.at_
  exact ⟨⟨vs, vn, vp, hB.grown hg h1, hO.kept hg hh⟩, h.map.kept hg h2, h.bx.grown hg h3, Below.kept h.b h.b.size hg hh⟩
def RslP (w : World) (R : Rv) (e : Ending) (w' : World) : Prop := ∃ vs vn vp, e = .returned (.agg (rvA vs vn vp R)) ∧ RvOwn w.heap.size w' vs vn vp R ∧ Below w.heap.size w w'
attribute [local go_sem] mkfn_run
set_option maxRecDepth 100000 in
set_option maxHeartbeats 4000000 in
theorem rvparse_any (s : List UInt8) (w : World) (ht : Tab w) (hm : MaxI w) (hl : s.length ≤ 100000) : Calls Tryd.prog 39 #[.string ⟨s.toArray⟩] w (RslP w (rvP s)) := by
  refine (callsIn_wide (n := 0)).1 ?_
  refine callsIn_of_wp_marks Tryd.func39 rfl trivial ?_ rfl
  simp only [Tryd.ntmps39, List.size_toArray, List.length_cons, List.length_nil, Nat.reduceAdd, Nat.reduceSub, Array.replicate_succ, Array.replicate_zero, List.push_toArray, List.append_toArray, List.nil_append, List.cons_append]
  refine wpIn_wide.2 ?_
  have Ht := Lib.hid ht
  have Hm := Lib.hid hm
  clear ht hm
  go_wp2_with (first
    | ((with_reducible show wpList _ _ _ (⟨some 2, _, _, _, _, _⟩ :: _) _ _); refine wpList_allocZ (o := ⟨some 2, _, _, _, _, _⟩) rfl _ rfl rv_zero ?_; intro g2 w2 hg2 hB2 hb2 hs2; have Hg2 := Lib.hid (Nat.le_of_eq hg2.symm); have HB2 := Lib.hid hB2; have Hb2 := Lib.hid hb2; clear hg2 hs2 hB2 hb2)
    | (go_at_call 69; refine (plain_any _).mono ?_; rintro e w3 ⟨rfl, hb3⟩; have HB3 := Lib.hid (HB2.out.bel hb3); have Hb3 := Lib.hid (bel_tr Hb2.out hb3); clear hb3)
    | ((with_reducible show wpList _ _ _ (⟨some 10, _, _, _, _, _⟩ :: _) _ _); refine wpList_buildL (o := ⟨some 10, _, _, _, _, _⟩) rfl _ [(0, .tmp 9)] rfl built_rd rfl ?_)
    | ((with_reducible refine wpList_boxB (o := ⟨some 11, _, _, _, _, _⟩) rfl _ _ rfl rfl ?_); intro g w4 hg hB hb hs; have Hg := Lib.hid hg; have HB := Lib.hid hB; have HB4 := Lib.hid (HB3.out.bel hb); have Hb4 := Lib.hid (bel_tr Hb3.out hb); clear hg hB hb hs; refine holdL ?_))
  refine Lib.hid ?_
  go_wp2_with (first
    | ((with_reducible show wpList _ _ _ (⟨some 12, _, _, _, _, _⟩ :: _) _ _); refine wpList_makeS0 (o := ⟨some 12, _, _, _, _, _⟩) rfl _ rfl ?_; obtain ⟨gm, hgm⟩ : ∃ gm, gm = w4.heap.size := ⟨_, rfl⟩; rw [← hgm]; intro w5 hM hb hs; have HM5 := Lib.hid hM; have HGm := Lib.hid hgm; have Hb5 := Lib.hid hb; clear hM hgm hb hs)
    | ((with_reducible show wpList _ _ _ (⟨none, .insert _ _ _ (.tmp 14), _, _, _, _⟩ :: _) _ _); refine wpList_insertS (o := ⟨none, _, _, _, _, _⟩) rfl _ (.tmp 12) _ (.tmp 14) rfl Tryd.underlying118 Tryd.underlying9 rfl (x := wNs) rfl rfl HM5.out rfl ?_; intro w6 hM hg hs; have HM6 := Lib.hid hM; have HG6 := Lib.hid hg; clear hM hg hs)
    | ((with_reducible show wpList _ _ _ (⟨none, .insert _ _ _ (.tmp 16), _, _, _, _⟩ :: _) _ _); refine wpList_insertS (o := ⟨none, _, _, _, _, _⟩) rfl _ (.tmp 12) _ (.tmp 16) rfl Tryd.underlying118 Tryd.underlying9 rfl (x := wDo) rfl rfl HM6.out rfl ?_; intro w7 hM hg hs; have HM7 := Lib.hid hM; have HG7 := Lib.hid hg; clear hM hg hs)
    | ((with_reducible show wpList _ _ _ (⟨none, .insert _ _ _ (.tmp 18), _, _, _, _⟩ :: _) _ _); refine wpList_insertS (o := ⟨none, _, _, _, _, _⟩) rfl _ (.tmp 12) _ (.tmp 18) rfl Tryd.underlying118 Tryd.underlying9 rfl (x := wSe) rfl rfl HM7.out rfl ?_; intro w8 hM hg hs; have HM8 := Lib.hid hM; have HG8 := Lib.hid hg; clear hM hg hs)
    | ((with_reducible show wpList _ _ _ (⟨none, .insert _ _ _ (.tmp 20), _, _, _, _⟩ :: _) _ _); refine wpList_insertS (o := ⟨none, _, _, _, _, _⟩) rfl _ (.tmp 12) _ (.tmp 20) rfl Tryd.underlying118 Tryd.underlying9 rfl (x := wSo) rfl rfl HM8.out rfl ?_; intro w9 hM hg hs; have HM9 := Lib.hid hM; have HG9 := Lib.hid hg; clear hM hg hs)
    | ((with_reducible show wpList _ _ _ (⟨none, .insert _ _ _ (.tmp 22), _, _, _, _⟩ :: _) _ _); refine wpList_insertS (o := ⟨none, _, _, _, _, _⟩) rfl _ (.tmp 12) _ (.tmp 22) rfl Tryd.underlying118 Tryd.underlying9 rfl (x := wOp) rfl rfl HM9.out rfl ?_; intro w10 hM hg hs; have HM10 := Lib.hid hM; have HG10 := Lib.hid hg; clear hM hg hs; refine holdL ?_))
  refine Lib.hid ?_
  have hG : w5.grownBy w10 (some gm) := gr_trans (gr_trans (gr_trans (gr_trans HG6.out HG7.out) HG8.out) HG9.out) HG10.out
  have hb45 : Below w4.heap.size w4 w5 := by rw [← HGm.out]; exact Hb5.out
  have hgm4 : gm = w4.heap.size := HGm.out
  have hlt2 := HB4.out.lt
  have hltg := HB.out.lt
  have hgw : w.heap.size ≤ g := by rw [Hg.out]; exact Hb3.out.size
  have hgmw : w.heap.size ≤ gm := by rw [hgm4]; exact Hb4.out.size
  have HB10 : Hid (Bk w10 g 116 rvP0) := Lib.hid ((HB.out.bel hb45).grown hG (fun e => by injection e with e; omega))
  have HR10 : Hid (Bk w10 g2 68 rvZ) := Lib.hid ((HB4.out.bel hb45).grown hG (fun e => by injection e with e; omega))
  have HM : Hid (MapS w10 gm (doL g)) := HM10
  have Hb10 : Hid (Below w.heap.size w w10) := Lib.hid ((Hb4.out.trans (hb45.mono Hb4.out.size)).grown hG (Nat.le_trans Hb4.out.size hb45.size) (fun k e => by cases e; exact hgmw))
  have hgg : g < gm := by omega
  have hg2g : g2 < gm := by omega
  have Hgg := Lib.hid hgg
  have Hg2g := Lib.hid hg2g
  have Hgw := Lib.hid hgw
  have Hgmw := Lib.hid hgmw
  clear hG hb45 hgm4 hlt2 hltg hgw hgmw hgg hg2g HB HB2 HB3 HB4 Hb2 Hb3 Hb4 Hb5 HM5 HM6 HM7 HM8 HM9 HM10 HG6 HG7 HG8 HG9 HG10 HGm Hg
  go_wp2_with fail
  refine (lall_any s false _).mono ?_
  rintro e w2 ⟨rfl, hw2⟩
  obtain ⟨g4, hg4⟩ : ∃ g, g = w10.heap.size := ⟨_, rfl⟩
  obtain ⟨b4, hb4⟩ : ∃ b, b = (w10.alloc (.cells #[.map (some gm)] 118)).heap.size := ⟨_, rfl⟩
  rw [← hg4, ← hb4]
  have B3 : Boxed w2 g4 118 (.map (some gm)) := by rw [hw2, hg4]; exact ((Boxed.new w10 _ _).alloc _).alloc _
  have Bs : Boxed w2 b4 9 (stv s) := by rw [hw2, hb4]; exact (Boxed.new _ _ _).alloc _
  have Bb : Boxed w2 (b4 + 1) 4 (.bool false) := by
    rw [hw2, hb4, ← World.size_alloc (w10.alloc (.cells #[.map (some gm)] 118)) (.cells #[.string ⟨s.toArray⟩] 9)]
    exact Boxed.new _ _ _
  have hb102 : Below w10.heap.size w10 w2 := by rw [hw2]; exact (((Below.refl _ w10).alloc (Nat.le_refl _) _).alloc (by simp) _).alloc (by simp; omega) _
  have hg4l : gm < g4 := by rw [hg4]; exact (Array.getElem?_eq_some_iff.1 HM.out).1
  have hg4w : g4 < w2.heap.size := B3.lt
  have HB2 := Lib.hid (HB10.out.bel hb102)
  have HR2 := Lib.hid (HR10.out.bel hb102)
  have HM2 := Lib.hid (HM.out.bel hb102)
  have Hb02 := Lib.hid (Hb10.out.trans (hb102.mono Hb10.out.size))
  have Hlen := Lib.hid (alL_len false s)
  have h1 := Hgg.out
  have h2 := Hg2g.out
  have h3 := Hgw.out
  have h4 := Hgmw.out
  have h5 := Hg2.out
  clear hw2 hb4 hg4 hb102 HB10 HR10 HM Hb10 Hg2
  go_wp2
  refine (wpIn_wide (n := 0)).1 ?_
  refine range_seqC (gf := 76) (lb := #[.pointer (some ⟨b4, 0, none⟩), .pointer (some ⟨b4 + 1, 0, none⟩)]) rfl (enters_of Tryd.func76 (by kernel_rfl) rfl) (all_seq false s b4 (b4 + 1) w2 Bs Bb (by omega)) (Below.refl _ _) (fun h k => KpA.trans h k) (fun W l o o' h hc => KpA.put W l o o' h hc)
    (fun c args V he => by obtain ⟨v, h, _⟩ := he; rw [h]; rfl) (fun c args => encA_own _ c args)
    (fun i V => RpI w g gm g4 (alL false s) i V ∧ Bk V g2 68 rvZ)
    (fun _ _ => False)
    (fun i X Y row hs hg hr => ⟨hs.1.kept hg (Harm.loop (by omega) hr) (fun e => by have := (hr _ e.symm).1; omega) (fun e => by have := (hr _ e.symm).1; omega) (fun e => by have := (hr _ e.symm).1; omega), hs.2.grown hg (fun e => by have := (hr _ e.symm).1; omega)⟩) (fun c => ownFrom_pure _ (fun _ => False))
    ⟨⟨⟨.slice none 0 0, .slice none 0 0, .slice none 0 0, HB2.out, RvOwn.rv0 _ _⟩, HM2.out, B3, Hb02.out⟩, HR2.out⟩
    (fun args => { tmps := #[.string ⟨s.toArray⟩, undef, .pointer (some ⟨g2, 0, none⟩), .pointer (some ⟨g, 0, none⟩), .pointer (some ⟨g4, 0, none⟩), undef, args.getD 1 undef, undef, undef, .agg rvP0, .agg rvP0, .pointer (some ⟨g, 0, none⟩), .map (some gm), .pointer (some ⟨g, 0, none⟩), .func (.func 70) #[.pointer (some ⟨g, 0, none⟩)] #[], .pointer (some ⟨g, 0, none⟩), .func (.func 71) #[.pointer (some ⟨g, 0, none⟩)] #[], .pointer (some ⟨g, 0, none⟩), .func (.func 72) #[.pointer (some ⟨g, 0, none⟩)] #[], .pointer (some ⟨g, 0, none⟩), .func (.func 73) #[.pointer (some ⟨g, 0, none⟩)] #[], .pointer (some ⟨g, 0, none⟩), .func (.func 74) #[.pointer (some ⟨g, 0, none⟩)] #[], .map (some gm), .string ⟨s.toArray⟩, .func (.func 76) #[] #[.pointer (some ⟨b4, 0, none⟩), .pointer (some ⟨b4 + 1, 0, none⟩)], args.getD 0 undef, args.getD 1 undef, undef, undef, undef, undef, undef, undef, undef, undef, undef, undef, undef, undef, undef, undef, undef, undef, undef, undef, undef, undef], defers := [] }) ?assign ?body ?done ?stop
  case assign =>
    intro l2 c args V K he hK
    obtain ⟨v, rfl, _⟩ := he
    gi_wp2
    exact hK
  case body =>
    rintro l2 i c args V hl2 ⟨r, hr⟩ ⟨hI, hR2⟩ hc he
    obtain ⟨va, rfl, hsl⟩ := he
    have hbd := alL_bd hc
    have HI := Lib.hid hI
    have HR := Lib.hid hR2
    have Hnx := Lib.hid (rvF_next hc)
    have hfew := rvF_few ((alL false s).take i)
    have hVw := hI.b.size
    clear hI hR2 hr hc B3 Bs Bb HB2 HR2 HM2 Hb02
    obtain ⟨ln, F⟩ := c
    dsimp only at *
    generalize hR : rvF ((alL false s).take i) = R at *
    have HRi := Lib.hid hR
    clear hR
    cases F with
    | nil =>
      obtain ⟨A, cp, rfl, _⟩ := hsl.any
      clear hsl
      gi_wp2
      exact ⟨keeps_below (Below.refl _ _), KpA.below (Below.refl _ _), ⟨by rw [Hnx.out]; have h := HI.out.at_; rw [HRi.out] at h; exact h, HI.out.map, HI.out.bx, HI.out.b⟩, HR.out⟩
    | cons f F =>
      obtain ⟨b, off, cp, rfl, hcp, hbl, hcell⟩ := hsl.pos (by simp)
      have hc0 : V.cell? ⟨b, off, none⟩ = some (.string ⟨f.toArray⟩) := by
        have := hcell 0 (stv f) rfl
        rwa [Nat.add_zero] at this
      have c4 : V.cell? ⟨g4, 0, none⟩ = some (.map (some gm)) := HI.out.bx.cell 0
      have Hsl := Lib.hid hsl
      have HAt : Hid (RvAt w.heap.size V g R) := Lib.hid (by have h := HI.out.at_; rwa [HRi.out] at h)
      have HM := Lib.hid HI.out.map
      have hFl : F.length ≤ 100000 := by have := hbd.1; simp at this; omega
      have hFb : ∀ x ∈ F, x.length ≤ 1000000 := fun x hx => by have := hbd.2 x (by simp [hx]); omega
      have HFb := Lib.hid hFb
      have Hnx2 : Hid (rvF ((alL false s).take (i + 1)) = sayS R f F) := Lib.hid Hnx.out
      have e2 : (((F.length : Int) + 1) == 0) = false := by rw [beq_eq_false_iff_ne]; omega
      have e3 : (0 : Int) < (F.length : Int) + 1 := by omega
      have hMl : Tryd.prog.underlying 118 = some (.map 9 117) := Tryd.underlying118
      have HfinX : Hid (∀ (x : BelT V) (w6 : World), RvAt w.heap.size w6 g (sayS R f F) → Chg w.heap.size tyC x.at_ w6 → (KeepsFrom w2.heap.size V w6 ∧ KpA V w6 ∧ RpI w g gm g4 (alL false s) (i + 1) w6 ∧ Bk w6 g2 68 rvZ)) := Lib.hid (fun x w6 h6 hC => by
        have hx := x.bel
        refine ⟨(keeps_below hx).trans (hC.keeps _), (KpA.below hx).trans (hC.kpA (by decide) (by decide)), ⟨by rw [Hnx2.out]; exact h6, hC.other (HI.out.map.bel hx) rfl, hC.bk (HI.out.bx.bel hx) (by decide), (HI.out.b.trans (hx.mono hVw)).trans (hC.bel (Nat.le_trans hVw hx.size))⟩, hC.bk (HR.out.bel hx) (by decide)⟩)
      clear hsl hcell hFb Hnx HRi
      by_cases hf1 : f = wNs
      · subst hf1
        have hv : (entS wNs (doL g)).getD .nilFunc = .func (.func 70) #[.pointer (some ⟨g, 0, none⟩)] #[] := rfl
        have hb : (entS wNs (doL g)).isSome = true := rfl
        have HX : Hid (∀ (x : BelT V) v, Sl x.at_ 1 v F.length (F.map stv) → Calls Tryd.prog 70 #[.pointer (some ⟨g, 0, none⟩), v] x.at_ fun e w6 => e = .returned (.tuple #[]) ∧ RvAt w.heap.size w6 g (sayS R wNs F) ∧ Chg w.heap.size tyC x.at_ w6) := Lib.hid (fun x v hs => by
          rw [say_ns]
          exact (name_any w.heap.size g R v F x.at_ ((Ht.out.below HI.out.b).below x.bel) ((Hm.out.below HI.out.b).below x.bel) (HAt.out.bel x.bel) h3 (Nat.le_trans hVw x.bel.size) hs hFl HFb.out hfew))
        unfold wNs at hc0
        gi_wp2
        refine wpIn_region_bel (fun ⟨_, _, h⟩ => h) rfl (by kernel_rfl) (by kernel_rfl) ?_
        repeat (first
          | go_big_quiet_skip
          | (go_big_quiet_want; first
              | ((with_reducible show (⟨some 32, _, _, _, _, _⟩ : Oper).quiet _ _ _ _); refine quiet_loadC (o := ⟨some 32, _, _, _, _, _⟩) _ _ rfl rfl c4 hMl rfl (by simp only [Act.put, List.setIfInBounds_toArray, List.set_cons_succ, List.set_cons_zero]; exact rfl) ?_; go_big_quiet_on)
              | ((with_reducible show (⟨some 35, _, _, _, _, _⟩ : Oper).quiet _ _ _ _); refine quiet_loadC (o := ⟨some 35, _, _, _, _, _⟩) _ _ rfl rfl hc0 Tryd.underlying9 rfl (by simp only [Act.put, List.setIfInBounds_toArray, List.set_cons_succ, List.set_cons_zero]; exact rfl) ?_; go_big_quiet_on)
              | ((with_reducible show (⟨some 36, _, _, _, _, _⟩ : Oper).quiet _ _ _ _); refine quiet_lookupS (o := ⟨some 36, _, _, _, _, _⟩) _ _ _ rfl hMl Tryd.underlying9 zero_do rfl (s := wNs) rfl HM.out hv hb (by simp only [Act.put, List.setIfInBounds_toArray, List.set_cons_succ, List.set_cons_zero]; exact rfl) ?_; go_big_quiet_on)
              | (go_big_quiet_op; go_big_quiet_on)))
        refine wpQuiet_nil ?_
        rintro _ ⟨x, rfl⟩
        gi_wp2
        all_goals
          refine ⟨trivial, rfl, ?_⟩
          refine (CallsIn.inRound l2 (callsIn_wide.2 (HX.out x _ (by first | exact (slA5 Hsl.out (by assumption)).below x.bel | exact (slB5 Hsl.out (by assumption)).below x.bel)))).mono ?_
          rintro e w6 ⟨rfl, hR6, hC6⟩
          have HR6 := Lib.hid hR6
          have HC6 := Lib.hid hC6
          clear hR6 hC6
          gi_wp2
          exact HfinX.out x w6 HR6.out HC6.out
      by_cases hf2 : f = wDo
      · subst hf2
        have hv : (entS wDo (doL g)).getD .nilFunc = .func (.func 71) #[.pointer (some ⟨g, 0, none⟩)] #[] := rfl
        have hb : (entS wDo (doL g)).isSome = true := rfl
        have HX : Hid (∀ (x : BelT V) v, Sl x.at_ 1 v F.length (F.map stv) → Calls Tryd.prog 71 #[.pointer (some ⟨g, 0, none⟩), v] x.at_ fun e w6 => e = .returned (.tuple #[]) ∧ RvAt w.heap.size w6 g (sayS R wDo F) ∧ Chg w.heap.size tyC x.at_ w6) := Lib.hid (fun x v hs => by
          rw [say_do]
          exact (domain_any w.heap.size g R v F x.at_ (HAt.out.bel x.bel) h3 (Nat.le_trans hVw x.bel.size) hs hFl HFb.out))
        unfold wDo at hc0
        gi_wp2
        refine wpIn_region_bel (fun ⟨_, _, h⟩ => h) rfl (by kernel_rfl) (by kernel_rfl) ?_
        repeat (first
          | go_big_quiet_skip
          | (go_big_quiet_want; first
              | ((with_reducible show (⟨some 32, _, _, _, _, _⟩ : Oper).quiet _ _ _ _); refine quiet_loadC (o := ⟨some 32, _, _, _, _, _⟩) _ _ rfl rfl c4 hMl rfl (by simp only [Act.put, List.setIfInBounds_toArray, List.set_cons_succ, List.set_cons_zero]; exact rfl) ?_; go_big_quiet_on)
              | ((with_reducible show (⟨some 35, _, _, _, _, _⟩ : Oper).quiet _ _ _ _); refine quiet_loadC (o := ⟨some 35, _, _, _, _, _⟩) _ _ rfl rfl hc0 Tryd.underlying9 rfl (by simp only [Act.put, List.setIfInBounds_toArray, List.set_cons_succ, List.set_cons_zero]; exact rfl) ?_; go_big_quiet_on)
              | ((with_reducible show (⟨some 36, _, _, _, _, _⟩ : Oper).quiet _ _ _ _); refine quiet_lookupS (o := ⟨some 36, _, _, _, _, _⟩) _ _ _ rfl hMl Tryd.underlying9 zero_do rfl (s := wDo) rfl HM.out hv hb (by simp only [Act.put, List.setIfInBounds_toArray, List.set_cons_succ, List.set_cons_zero]; exact rfl) ?_; go_big_quiet_on)
              | (go_big_quiet_op; go_big_quiet_on)))
        refine wpQuiet_nil ?_
        rintro _ ⟨x, rfl⟩
        gi_wp2
        all_goals
          refine ⟨trivial, rfl, ?_⟩
          refine (CallsIn.inRound l2 (callsIn_wide.2 (HX.out x _ (by first | exact (slA5 Hsl.out (by assumption)).below x.bel | exact (slB5 Hsl.out (by assumption)).below x.bel)))).mono ?_
          rintro e w6 ⟨rfl, hR6, hC6⟩
          have HR6 := Lib.hid hR6
          have HC6 := Lib.hid hC6
          clear hR6 hC6
          gi_wp2
          exact HfinX.out x w6 HR6.out HC6.out
      by_cases hf3 : f = wSe
      · subst hf3
        have hv : (entS wSe (doL g)).getD .nilFunc = .func (.func 72) #[.pointer (some ⟨g, 0, none⟩)] #[] := rfl
        have hb : (entS wSe (doL g)).isSome = true := rfl
        have HX : Hid (∀ (x : BelT V) v, Sl x.at_ 1 v F.length (F.map stv) → Calls Tryd.prog 72 #[.pointer (some ⟨g, 0, none⟩), v] x.at_ fun e w6 => e = .returned (.tuple #[]) ∧ RvAt w.heap.size w6 g (sayS R wSe F) ∧ Chg w.heap.size tyC x.at_ w6) := Lib.hid (fun x v hs => by
          rw [say_se]
          exact (search_any w.heap.size g R v F x.at_ (HAt.out.bel x.bel) h3 (Nat.le_trans hVw x.bel.size) hs hFl HFb.out))
        unfold wSe at hc0
        gi_wp2
        refine wpIn_region_bel (fun ⟨_, _, h⟩ => h) rfl (by kernel_rfl) (by kernel_rfl) ?_
        repeat (first
          | go_big_quiet_skip
          | (go_big_quiet_want; first
              | ((with_reducible show (⟨some 32, _, _, _, _, _⟩ : Oper).quiet _ _ _ _); refine quiet_loadC (o := ⟨some 32, _, _, _, _, _⟩) _ _ rfl rfl c4 hMl rfl (by simp only [Act.put, List.setIfInBounds_toArray, List.set_cons_succ, List.set_cons_zero]; exact rfl) ?_; go_big_quiet_on)
              | ((with_reducible show (⟨some 35, _, _, _, _, _⟩ : Oper).quiet _ _ _ _); refine quiet_loadC (o := ⟨some 35, _, _, _, _, _⟩) _ _ rfl rfl hc0 Tryd.underlying9 rfl (by simp only [Act.put, List.setIfInBounds_toArray, List.set_cons_succ, List.set_cons_zero]; exact rfl) ?_; go_big_quiet_on)
              | ((with_reducible show (⟨some 36, _, _, _, _, _⟩ : Oper).quiet _ _ _ _); refine quiet_lookupS (o := ⟨some 36, _, _, _, _, _⟩) _ _ _ rfl hMl Tryd.underlying9 zero_do rfl (s := wSe) rfl HM.out hv hb (by simp only [Act.put, List.setIfInBounds_toArray, List.set_cons_succ, List.set_cons_zero]; exact rfl) ?_; go_big_quiet_on)
              | (go_big_quiet_op; go_big_quiet_on)))
        refine wpQuiet_nil ?_
        rintro _ ⟨x, rfl⟩
        gi_wp2
        all_goals
          refine ⟨trivial, rfl, ?_⟩
          refine (CallsIn.inRound l2 (callsIn_wide.2 (HX.out x _ (by first | exact (slA5 Hsl.out (by assumption)).below x.bel | exact (slB5 Hsl.out (by assumption)).below x.bel)))).mono ?_
          rintro e w6 ⟨rfl, hR6, hC6⟩
          have HR6 := Lib.hid hR6
          have HC6 := Lib.hid hC6
          clear hR6 hC6
          gi_wp2
          exact HfinX.out x w6 HR6.out HC6.out
      by_cases hf4 : f = wSo
      · subst hf4
        have hv : (entS wSo (doL g)).getD .nilFunc = .func (.func 73) #[.pointer (some ⟨g, 0, none⟩)] #[] := rfl
        have hb : (entS wSo (doL g)).isSome = true := rfl
        have HX : Hid (∀ (x : BelT V) v, Sl x.at_ 1 v F.length (F.map stv) → Calls Tryd.prog 73 #[.pointer (some ⟨g, 0, none⟩), v] x.at_ fun e w6 => e = .returned (.tuple #[]) ∧ RvAt w.heap.size w6 g (sayS R wSo F) ∧ Chg w.heap.size tyC x.at_ w6) := Lib.hid (fun x v hs => by
          rw [say_so]
          exact (sort_any w.heap.size g R v F x.at_ ((Ht.out.below HI.out.b).below x.bel) (HAt.out.bel x.bel) h3 (Nat.le_trans hVw x.bel.size) hs hFl HFb.out))
        unfold wSo at hc0
        gi_wp2
        refine wpIn_region_bel (fun ⟨_, _, h⟩ => h) rfl (by kernel_rfl) (by kernel_rfl) ?_
        repeat (first
          | go_big_quiet_skip
          | (go_big_quiet_want; first
              | ((with_reducible show (⟨some 32, _, _, _, _, _⟩ : Oper).quiet _ _ _ _); refine quiet_loadC (o := ⟨some 32, _, _, _, _, _⟩) _ _ rfl rfl c4 hMl rfl (by simp only [Act.put, List.setIfInBounds_toArray, List.set_cons_succ, List.set_cons_zero]; exact rfl) ?_; go_big_quiet_on)
              | ((with_reducible show (⟨some 35, _, _, _, _, _⟩ : Oper).quiet _ _ _ _); refine quiet_loadC (o := ⟨some 35, _, _, _, _, _⟩) _ _ rfl rfl hc0 Tryd.underlying9 rfl (by simp only [Act.put, List.setIfInBounds_toArray, List.set_cons_succ, List.set_cons_zero]; exact rfl) ?_; go_big_quiet_on)
              | ((with_reducible show (⟨some 36, _, _, _, _, _⟩ : Oper).quiet _ _ _ _); refine quiet_lookupS (o := ⟨some 36, _, _, _, _, _⟩) _ _ _ rfl hMl Tryd.underlying9 zero_do rfl (s := wSo) rfl HM.out hv hb (by simp only [Act.put, List.setIfInBounds_toArray, List.set_cons_succ, List.set_cons_zero]; exact rfl) ?_; go_big_quiet_on)
              | (go_big_quiet_op; go_big_quiet_on)))
        refine wpQuiet_nil ?_
        rintro _ ⟨x, rfl⟩
        gi_wp2
        all_goals
          refine ⟨trivial, rfl, ?_⟩
          refine (CallsIn.inRound l2 (callsIn_wide.2 (HX.out x _ (by first | exact (slA5 Hsl.out (by assumption)).below x.bel | exact (slB5 Hsl.out (by assumption)).below x.bel)))).mono ?_
          rintro e w6 ⟨rfl, hR6, hC6⟩
          have HR6 := Lib.hid hR6
          have HC6 := Lib.hid hC6
          clear hR6 hC6
          gi_wp2
          exact HfinX.out x w6 HR6.out HC6.out
      by_cases hf5 : f = wOp
      · subst hf5
        have hv : (entS wOp (doL g)).getD .nilFunc = .func (.func 74) #[.pointer (some ⟨g, 0, none⟩)] #[] := rfl
        have hb : (entS wOp (doL g)).isSome = true := rfl
        have HX : Hid (∀ (x : BelT V) v, Sl x.at_ 1 v F.length (F.map stv) → Calls Tryd.prog 74 #[.pointer (some ⟨g, 0, none⟩), v] x.at_ fun e w6 => e = .returned (.tuple #[]) ∧ RvAt w.heap.size w6 g (sayS R wOp F) ∧ Chg w.heap.size tyC x.at_ w6) := Lib.hid (fun x v hs => by
          rw [say_op]
          exact (opts_any w.heap.size g R v F x.at_ (HAt.out.bel x.bel) h3 hs hFl HFb.out).mono fun e w6 ⟨h1, h2, h4⟩ => ⟨h1, h2, (HAt.out.bel x.bel).chg_of h3 h4⟩)
        unfold wOp at hc0
        gi_wp2
        refine wpIn_region_bel (fun ⟨_, _, h⟩ => h) rfl (by kernel_rfl) (by kernel_rfl) ?_
        repeat (first
          | go_big_quiet_skip
          | (go_big_quiet_want; first
              | ((with_reducible show (⟨some 32, _, _, _, _, _⟩ : Oper).quiet _ _ _ _); refine quiet_loadC (o := ⟨some 32, _, _, _, _, _⟩) _ _ rfl rfl c4 hMl rfl (by simp only [Act.put, List.setIfInBounds_toArray, List.set_cons_succ, List.set_cons_zero]; exact rfl) ?_; go_big_quiet_on)
              | ((with_reducible show (⟨some 35, _, _, _, _, _⟩ : Oper).quiet _ _ _ _); refine quiet_loadC (o := ⟨some 35, _, _, _, _, _⟩) _ _ rfl rfl hc0 Tryd.underlying9 rfl (by simp only [Act.put, List.setIfInBounds_toArray, List.set_cons_succ, List.set_cons_zero]; exact rfl) ?_; go_big_quiet_on)
              | ((with_reducible show (⟨some 36, _, _, _, _, _⟩ : Oper).quiet _ _ _ _); refine quiet_lookupS (o := ⟨some 36, _, _, _, _, _⟩) _ _ _ rfl hMl Tryd.underlying9 zero_do rfl (s := wOp) rfl HM.out hv hb (by simp only [Act.put, List.setIfInBounds_toArray, List.set_cons_succ, List.set_cons_zero]; exact rfl) ?_; go_big_quiet_on)
              | (go_big_quiet_op; go_big_quiet_on)))
        refine wpQuiet_nil ?_
        rintro _ ⟨x, rfl⟩
        gi_wp2
        all_goals
          refine ⟨trivial, rfl, ?_⟩
          refine (CallsIn.inRound l2 (callsIn_wide.2 (HX.out x _ (by first | exact (slA5 Hsl.out (by assumption)).below x.bel | exact (slB5 Hsl.out (by assumption)).below x.bel)))).mono ?_
          rintro e w6 ⟨rfl, hR6, hC6⟩
          have HR6 := Lib.hid hR6
          have HC6 := Lib.hid hC6
          clear hR6 hC6
          gi_wp2
          exact HfinX.out x w6 HR6.out HC6.out
      have hv : (entS f (doL g)).getD .nilFunc = .nilFunc := by rw [ent_no hf1 hf2 hf3 hf4 hf5]; rfl
      have hb : (entS f (doL g)).isSome = false := by rw [ent_no hf1 hf2 hf3 hf4 hf5]; rfl
      have HE := Lib.hid (say_no (R := R) (F := F) hf1 hf2 hf3 hf4 hf5)
      clear hf1 hf2 hf3 hf4 hf5
      gi_wp2
      refine wpIn_region_bel (fun ⟨_, _, h⟩ => h) rfl (by kernel_rfl) (by kernel_rfl) ?_
      repeat (first
        | go_big_quiet_skip
        | (go_big_quiet_want; first
            | ((with_reducible show (⟨some 32, _, _, _, _, _⟩ : Oper).quiet _ _ _ _); refine quiet_loadC (o := ⟨some 32, _, _, _, _, _⟩) _ _ rfl rfl c4 hMl rfl (by simp only [Act.put, List.setIfInBounds_toArray, List.set_cons_succ, List.set_cons_zero]; exact rfl) ?_; go_big_quiet_on)
            | ((with_reducible show (⟨some 35, _, _, _, _, _⟩ : Oper).quiet _ _ _ _); refine quiet_loadC (o := ⟨some 35, _, _, _, _, _⟩) _ _ rfl rfl hc0 Tryd.underlying9 rfl (by simp only [Act.put, List.setIfInBounds_toArray, List.set_cons_succ, List.set_cons_zero]; exact rfl) ?_; go_big_quiet_on)
            | ((with_reducible show (⟨some 36, _, _, _, _, _⟩ : Oper).quiet _ _ _ _); refine quiet_lookupS (o := ⟨some 36, _, _, _, _, _⟩) _ _ _ rfl hMl Tryd.underlying9 zero_do rfl (s := f) rfl HM.out hv hb (by simp only [Act.put, List.setIfInBounds_toArray, List.set_cons_succ, List.set_cons_zero]; exact rfl) ?_; go_big_quiet_on)
            | (go_big_quiet_op; go_big_quiet_on)))
      refine wpQuiet_nil ?_
      rintro _ ⟨x, rfl⟩
      gi_wp2
      exact HfinX.out x x.at_ (by rw [HE.out]; exact HAt.out.bel x.bel) (Chg.refl _ _ _)
  case done =>
    rintro D V hD ⟨hI, hR2⟩ hK
    obtain ⟨vs, vn, vp, hB, hO⟩ := hI.at_
    rw [List.take_length] at hB hO
    obtain ⟨N, hN, hN0⟩ := hO.n
    obtain ⟨a1, c1, rfl⟩ := own_any hO.s
    obtain ⟨a2, c2, rfl⟩ := own_any hN.own
    obtain ⟨a3, c3, rfl⟩ := own_any hO.p
    have HO := Lib.hid hO
    have Hb := Lib.hid hI.b
    have HK := Lib.hid hK
    have hRg : V.rangeAt g 0 (rvL (.slice a1 (rvF (alL false s)).S.length c1) (.slice a2 N.length c2) (.slice a3 (rvF (alL false s)).P.length c3) (rvF (alL false s))) := Bk.rangeL hB 0 _ [] (by simp)
    have HrP : Hid (rvP s = rvF (alL false s)) := Lib.hid rfl
    clear hO hN hN0 hI hK hB B3 Bs Bb HB2 HR2 HM2 Hb02 Hlen
    generalize rvF (alL false s) = R at *
    go_wp2_with (first
      | ((with_reducible show wpList _ _ _ (⟨some 47, _, _, _, _, _⟩ :: _) _ _); refine wpList_load_mid (op := ⟨some 47, _, _, _, _, _⟩) rfl _ _ rfl _ _ rfl _ _ hRg rv_under rfl rv_size ?_)
      | ((with_reducible show wpList _ _ _ (⟨none, .store _ _ _, _, _, _, _⟩ :: _) _ _); refine wpList_storeB (o := ⟨none, _, _, _, _, _⟩) rfl _ (.tmp 2) _ rfl rfl rfl hR2 rv_size rfl (rvA_one _ rfl rfl rfl) ?_; intro w3 hB3 hS3))
    simp only [Act.put, List.setIfInBounds_toArray, List.set_cons_zero, List.set_cons_succ]
    rw [HrP.out]
    have hK3 : w3.heap[D]? = some (.deferred (some [])) := (hS3.block D (by intro e; omega)).trans HK.out
    refine ⟨by simp, .inl ⟨_, _, rfl, run_takeDeferred hK3, ?_⟩⟩
    have hg := grownBy_putObj' w3 D (.deferred none)
    have hh : ∀ T b', b' ≤ w.heap.size → Harm T b' w3 (some D) := fun T b' hb' => Harm.loop (B := w.heap.size) hb' (fun r e => by cases e; exact ⟨by omega, _, hK3, rfl⟩)
    have B5 := (hg.block g2 (heap_lt hB3) (by intro e; cases e; omega)).trans hB3
    have hh2 : ∀ T, 68 ∉ T → Harm T w.heap.size V (some g2) := fun T hT => Harm.type h5 (show V.heap[g2]? = _ from hR2) hT
    have hb3 : Below w.heap.size w w3 := Hb.out.trans (hS3.below h5)
    refine ⟨_, results_cell_row rfl _ _ g2 _ _ (0, 0) _ rfl B5 rv_under (by decide) rv_size, _, _, _, rfl, ?_, Below.kept hb3 hb3.size hg (hh [] _ (Nat.le_refl _))⟩
    exact (HO.out.kept hS3.grown (hh2 _ (by decide))).kept hg (hh _ _ (Nat.le_refl _))
  case stop =>
    rintro D c V hD hx hK
    exact hx.elim
end Go.Proofs.YtgebcifkbldfoaaDoor

/- The reference's Same of what two files say (17), where they say the same. (Not beside XPoC.) -/
namespace Go.Proofs.YtgebcifkbldfoaaDoor
open Go.RowKit
attribute [local go_sem] ba_get ext_take ext_drop ext_any ba_app

theorem Pf.same_iff {a b : Pf} : (a.ad = b.ad ∧ a.bits = b.bits) ↔ a = b := ⟨fun ⟨h1, h2⟩ => by cases a; cases b; simp only at h1 h2; subst h1 h2; rfl, fun h => by rw [h]; exact ⟨rfl, rfl⟩⟩
instance : DecidableEq Pf := fun _ _ => decidable_of_iff _ Pf.same_iff
theorem list2 {α β : Type} {f : α → β} {l : List α} {x y : β} (h : l.map f = [x, y]) : ∃ a b, l = [a, b] ∧ f a = x ∧ f b = y := by
  match l, h with
  | [a, b], h => simp at h; exact ⟨a, b, rfl, h⟩
theorem eqf2 {P : Program} (w : World) (d : Nat) (xs ys : Array Value) (f0 f1 : Field) (m0 : f0.name ≠ "_") (m1 : f1.name ≠ "_") {x0 x1 y0 y1 : Value} {b0 b1 : Bool}
    (p0 : (part f0.type xs f0.offset).run P w = .ok x0 w) (q0 : (part f0.type ys f0.offset).run P w = .ok y0 w) (e0 : (Op.equalIn d f0.type x0 y0).run P w = .ok b0 w)
    (p1 : (part f1.type xs f1.offset).run P w = .ok x1 w) (q1 : (part f1.type ys f1.offset).run P w = .ok y1 w) (e1 : (Op.equalIn d f1.type x1 y1).run P w = .ok b1 w) :
    (Op.eqFields d xs ys [f0, f1]).run P w = .ok (b0 && b1) w := by
  cases b0
  · simp [Op.eqFields, m0, p0, q0, e0]
  · cases b1 <;> simp [Op.eqFields, m0, m1, p0, q0, e0, p1, q1, e1]
theorem pf_fields : (Tryd.prog.fieldsOf 72).toList.map (fun f => (f.name == "_", f.type, f.offset)) = [(false, 34, 0), (false, 3, 18)] := by kernel_rfl
theorem size_of {t : TypeId} {n : Nat} (h : (Tryd.prog.info? t).map (·.size) = some n) (w : World) : (sizeOf t).run Tryd.prog w = .ok n w := by
  cases hq : Tryd.prog.info? t with
  | none => rw [hq] at h; cases h
  | some i => rw [hq] at h; simp [sizeOf, typeInfo, hq]; simpa using h
theorem pfA_ad (p : Pf) : (pfA p).extract 0 (0 + 18) = adA p.ad := by
  unfold pfA adA pfL
  rw [List.extract_toArray]
  have := adL_len p.ad
  simp [this]
theorem part_pfAd (w : World) (x : Pf) : (part 34 (pfA x) 0).run Tryd.prog w = .ok (.agg (adA x.ad)) w := by
  simp only [part, isAgg, Sem.run_bind, run_underlying ad_under, Result.andThen_ok, Sem.run_pure, if_true, size_of ad_size, pfA_ad]
theorem part_pfBits (w : World) (x : Pf) : (part 3 (pfA x) 18).run Tryd.prog w = .ok (.int .i64 x.bits) w := by
  simp [part, isAgg, run_underlying Tryd.underlying3, pfA_18]
theorem run_pf_eq (w : World) (d : Nat) (a b : Pf) : (Op.equalIn (d + 4) 72 (.agg (pfA a)) (.agg (pfA b))).run Tryd.prog w = .ok (decide (a = b)) w := by
  rw [run_equalIn_struct w (d + 3) _ _ _ pf_under Tryd.stoodInHeld72]
  obtain ⟨f0, f1, hl, h0, h1⟩ := list2 pf_fields
  rw [hl]
  simp only [Prod.mk.injEq] at h0 h1
  obtain ⟨n0, t0, o0⟩ := h0
  obtain ⟨n1, t1, o1⟩ := h1
  rw [eqf2 w (d + 3) (pfA a) (pfA b) f0 f1 (by simpa using n0) (by simpa using n1)
    (by rw [t0, o0]; exact part_pfAd w a) (by rw [t0, o0]; exact part_pfAd w b) (by rw [t0]; exact run_ad_eq w d a.ad b.ad)
    (by rw [t1, o1]; exact part_pfBits w a) (by rw [t1, o1]; exact part_pfBits w b) (by rw [t1]; exact run_equalIn_int w (d + 2) 3 .i64 .i64 a.bits b.bits Tryd.underlying3)]
  have hb : (decide (a.ad = b.ad) && (a.bits == b.bits)) = decide (a = b) := by
    rw [Bool.eq_iff_iff]
    simp [← Pf.same_iff]
  rw [hb]
theorem pf_neq (w : World) (a b : Pf) : (binOp .neq 72 (.agg (pfA a)) (.agg (pfA b))).run Tryd.prog w = .ok (.bool (!decide (a = b))) w := by
  rw [run_neq_struct, run_pf_eq w 9996 a b]; rfl
theorem quiet_neqPf {w : World} {o : Oper} {a a' : Act} {K : Act → Prop} (x y : Operand) {t : TypeId} (ho : o.op = .binOp .neq 72 x y t) {b c : Pf} (hx : a.eval x = .agg (pfA b)) (hy : a.eval y = .agg (pfA c)) {r : Bool} (hr : (!decide (b = c)) = r)
    (ha : a.put o.dst (.bool r) = a') (hk : K a') : o.quiet Tryd.prog a (fun w' => ∃ y : BelT w, w' = y.at_) K := by
  subst ha hr
  refine ⟨_, ?_, hk⟩
  rintro _ ⟨z, rfl⟩
  unfold Oper.quietAt execOp
  simp only [ho, hx, hy, Sem.run_bind, run_eqGuard_agg z.at_ .neq 72 x y _ _ Tryd.eqGuardType72, Result.andThen_ok, pf_neq]
  exact ⟨rfl, rfl⟩
theorem quiet_loadPfR {w : World} {o : Oper} {a a' : Act} {K : Act → Prop} (x : Operand) (ho : o.op = .load 72 x) {g off : Nat} (hx : a.eval x = .pointer (some ⟨g, off, none⟩)) {b : Pf} (hB : w.rangeAt g off (pfL b))
    (ha : a.put o.dst (.agg (pfA b)) = a') (hk : K a') : o.quiet Tryd.prog a (fun w' => ∃ y : BelT w, w' = y.at_) K := by
  subst ha
  refine ⟨_, ?_, hk⟩
  rintro _ ⟨y, rfl⟩
  unfold Oper.quietAt execOp
  have hr : y.at_.rangeAt g off (pfL b) := fun j v hv => y.cell (hB j v hv)
  simp only [ho, hx, Instr.loadAt, Instr.sureAddr, Sem.run_bind, Sem.run_pure, Result.andThen_ok, run_loadVar_mid y.at_ g off 72 (pfL b) _ hr pf_under rfl (by rw [pfL_len]; exact pf_size)]
  exact ⟨rfl, rfl⟩
/-- what a file says, as it is read. -/
structure RvRd (w : World) (vs vn vp : Value) (R : Rv) : Prop where
  s : Sl w 18 vs R.S.length (R.S.flatMap adL)
  n : ∃ N, NmsAt w vn R.N N
  p : Sl w 19 vp R.P.length (R.P.flatMap pfL)
theorem RvRd.bel {w w' : World} {vs vn vp : Value} {R : Rv} (h : RvRd w vs vn vp R) (hb : Below w.heap.size w w') : RvRd w' vs vn vp R := by
  obtain ⟨N, hN⟩ := h.n
  exact ⟨h.s.below hb, ⟨N, hN.bel hb⟩, h.p.below hb⟩
theorem RvOwn.rd {b : Nat} {w : World} {vs vn vp : Value} {R : Rv} (h : RvOwn b w vs vn vp R) : RvRd w vs vn vp R := by
  obtain ⟨N, hN, _⟩ := h.n
  exact ⟨Sl.own h.s, ⟨N, hN.at_⟩, Sl.own h.p⟩
theorem RvRd.zero (w : World) : RvRd w (.slice none 0 0) (.slice none 0 0) (.slice none 0 0) rv0 := (RvOwn.rv0 0 w).rd
def RvFew (R : Rv) : Prop := R.S.length ≤ 1000 ∧ R.N.length ≤ 1000 ∧ R.P.length ≤ 1000
set_option maxRecDepth 100000 in
set_option maxHeartbeats 4000000 in
theorem rsame17_any (R : Rv) (vs vn vp us un up : Value) (w : World) (h : RvRd w vs vn vp R) (k : RvRd w us un up R) (hf : RvFew R) :
    Calls Tryd.prog 38 #[.agg (rvA vs vn vp R), .agg (rvA us un up R)] w (Good w) := by
  obtain ⟨N, hN⟩ := h.n
  obtain ⟨M, hM⟩ := k.n
  obtain ⟨a1, c1, rfl, _⟩ := h.s.any
  obtain ⟨a2, c2, rfl, _⟩ := hN.sl.any
  obtain ⟨a3, c3, rfl, _⟩ := h.p.any
  obtain ⟨b1, d1, rfl, _⟩ := k.s.any
  obtain ⟨b2, d2, rfl, _⟩ := hM.sl.any
  obtain ⟨b3, d3, rfl, _⟩ := k.p.any
  obtain ⟨f1, f2, f3⟩ := hf
  have hNl : N.length = R.N.length := by rw [← hN.is, List.length_map]
  have hMl : M.length = R.N.length := by rw [← hM.is, List.length_map]
  have HNm := Lib.hid (fun (w' : World) (hb : Below w.heap.size w w') => sameNms_any N M _ _ w' (hN.sl.below hb) (hM.sl.below hb) (fun q hq => (hN.ok q hq).bel hb) (fun q hq => (hM.ok q hq).bel hb) (by omega) (by omega))
  have HNe : Hid (decide (N.map (·.2) = M.map (·.2)) = true) := Lib.hid (decide_eq_true (hN.is.trans hM.is.symm))
  rw [HNe.out] at HNm
  have HAd := Lib.hid (fun (w' : World) (hb : Below w.heap.size w w') => sameAds_any R.S R.S _ _ w' (h.s.below hb) (k.s.below hb) (by omega) (by omega))
  rw [decide_eq_true rfl] at HAd
  have HP := Lib.hid h.p
  have KP := Lib.hid k.p
  clear hN hM h k hNl hMl HNe
  go_enter Tryd.func38, Tryd.ntmps38
  go_wp2_with (first
    | ((with_reducible show wpList _ _ _ (⟨some 2, _, _, _, _, _⟩ :: _) _ _); refine wpList_boxB (o := ⟨some 2, _, _, _, _, _⟩) rfl _ _ rfl rfl ?_; intro g2 w1 hg hB1 hb1 hs; have HB1 := Lib.hid hB1; have Hb1 := Lib.hid hb1; clear hg hs hB1 hb1)
    | ((with_reducible show wpList _ _ _ (⟨some 3, _, _, _, _, _⟩ :: _) _ _); refine wpList_boxB (o := ⟨some 3, _, _, _, _, _⟩) rfl _ _ rfl rfl ?_; intro g3 w2 hg hB2 hb2 hs; have HB2 := Lib.hid hB2; have HB1 := Lib.hid (HB1.out.bel hb2); have Hb2 := Lib.hid (bel_tr Hb1.out hb2); clear hg hs hB2 hb2; refine holdL ?_))
  refine Lib.hid ?_
  have p2 : w2.cell? ⟨g2, 2, none⟩ = some (.slice a3 R.P.length c3) := HB1.out.cell 2
  have q2 : w2.cell? ⟨g3, 2, none⟩ = some (.slice b3 R.P.length d3) := HB2.out.cell 2
  have p1 : w2.cell? ⟨g2, 1, none⟩ = some (.slice a2 N.length c2) := HB1.out.cell 1
  have q1 : w2.cell? ⟨g3, 1, none⟩ = some (.slice b2 M.length d2) := HB2.out.cell 1
  have eP : ((R.P.length : Int) != (R.P.length : Int)) = false := by simp
  go_wp2_with (first
    | (go_at_call 34; refine (HNm.out _ Hb2.out).mono ?_; rintro e w3 ⟨rfl, hb3⟩; have HC1 := Lib.hid (HB1.out.bel hb3); have HC2 := Lib.hid (HB2.out.bel hb3); have Hb3 := Lib.hid (bel_tr Hb2.out hb3); clear hb3 p2 q2 p1 q1; have p0 : w3.cell? ⟨g2, 0, none⟩ = some (.slice a1 R.S.length c1) := HC1.out.cell 0; have q0 : w3.cell? ⟨g3, 0, none⟩ = some (.slice b1 R.S.length d1) := HC2.out.cell 0)
    | (go_at_call 32; refine (HAd.out _ Hb3.out).mono ?_; rintro e w4 ⟨rfl, hb4⟩; have HD1 := Lib.hid (HC1.out.bel hb4); have HD2 := Lib.hid (HC2.out.bel hb4); have Hb4 := Lib.hid (bel_tr Hb3.out hb4); clear hb4 p0 q0; refine holdL ?_))
  refine Lib.hid ?_
  go_wp2_with fail
  go_loopw [5] (fun i wr => ∃ k : Nat, k ≤ R.P.length ∧ i = .int .i64 k ∧ Below w4.heap.size w4 wr) (fun i _ => R.P.length - (intOf i).toNat)
  case atStart => exact ⟨0, Nat.zero_le _, rfl, Below.refl _ _⟩
  case round =>
    obtain ⟨k, hk, rfl, hbel⟩ := hrel
    have p2 : wr.cell? ⟨g2, 2, none⟩ = some (.slice a3 R.P.length c3) := (HD1.out.bel hbel).cell 2
    have q2 : wr.cell? ⟨g3, 2, none⟩ = some (.slice b3 R.P.length d3) := (HD2.out.bel hbel).cell 2
    by_cases hlt : k < R.P.length
    · have hltI : (k : Int) < (R.P.length : Int) := by omega
      have hk0 : (0 : Int) ≤ (k : Int) := by omega
      have hbw : Below w.heap.size w wr := Hb4.out.trans (hbel.mono Hb4.out.size)
      obtain ⟨b, off, c, hv, hc, hbl, hcell⟩ := HP.out.pos (by omega)
      injection hv with hv1 _ hv2
      subst hv1 hv2
      obtain ⟨b', off', c', hv, hc', hbl', hcell'⟩ := KP.out.pos (by omega)
      injection hv with hv1 _ hv2
      subst hv1 hv2
      have hR0 := range_of pfL_len hcell hlt
      have hR0' := range_of pfL_len hcell' hlt
      have hR : wr.rangeAt b (off + k * 19) (pfL R.P[k]) := fun j u hu => ((hbw.cell (p := ⟨b, off + k * 19 + j, none⟩) hbl).trans (hR0 j u hu))
      have hR' : wr.rangeAt b' (off' + k * 19) (pfL R.P[k]) := fun j u hu => ((hbw.cell (p := ⟨b', off' + k * 19 + j, none⟩) hbl').trans (hR0' j u hu))
      clear hcell hcell' hR0 hR0' hbw
      generalize R.P[k] = x at *
      have hr : (!decide (x = x)) = false := by simp
      have Hr := Lib.hid hr
      have Hbel := Lib.hid hbel
      clear hr hbel
      go_upto_region 6 with (fail)
      refine wp_region_bel (by kernel_rfl) (by kernel_rfl) ?_
      repeat (first
        | go_big_quiet_skip
        | (go_big_quiet_want; first
            | ((with_reducible show (⟨some 37, _, _, _, _, _⟩ : Oper).quiet _ _ _ _); refine quiet_loadC (o := ⟨some 37, _, _, _, _, _⟩) _ _ rfl rfl p2 Tryd.underlying66 rfl (by simp only [Act.put, List.setIfInBounds_toArray, List.set_cons_succ, List.set_cons_zero]; exact rfl) ?_; go_big_quiet_on)
            | ((with_reducible show (⟨some 42, _, _, _, _, _⟩ : Oper).quiet _ _ _ _); refine quiet_loadC (o := ⟨some 42, _, _, _, _, _⟩) _ _ rfl rfl q2 Tryd.underlying66 rfl (by simp only [Act.put, List.setIfInBounds_toArray, List.set_cons_succ, List.set_cons_zero]; exact rfl) ?_; go_big_quiet_on)
            | ((with_reducible show (⟨some 40, _, _, _, _, _⟩ : Oper).quiet _ _ _ _); refine quiet_loadPfR (o := ⟨some 40, _, _, _, _, _⟩) _ rfl rfl hR (by simp only [Act.put, List.setIfInBounds_toArray, List.set_cons_succ, List.set_cons_zero]; exact rfl) ?_; go_big_quiet_on)
            | ((with_reducible show (⟨some 45, _, _, _, _, _⟩ : Oper).quiet _ _ _ _); refine quiet_loadPfR (o := ⟨some 45, _, _, _, _, _⟩) _ rfl rfl hR' (by simp only [Act.put, List.setIfInBounds_toArray, List.set_cons_succ, List.set_cons_zero]; exact rfl) ?_; go_big_quiet_on)
            | ((with_reducible show (⟨some 46, _, _, _, _, _⟩ : Oper).quiet _ _ _ _); refine quiet_neqPf (o := ⟨some 46, _, _, _, _, _⟩) _ _ rfl rfl rfl Hr.out (by simp only [Act.put, List.setIfInBounds_toArray, List.set_cons_succ, List.set_cons_zero]; exact rfl) ?_; go_big_quiet_on)
            | (go_big_quiet_op; go_big_quiet_on)))
      refine wpQuiet_nil ?_
      rintro _ ⟨x, rfl⟩
      go_wp2
      go_roundw
      case rel => exact ⟨k + 1, by omega, by go_num, Hbel.out.trans (x.bel.mono Hbel.out.size)⟩
      case measure => (simp [intOf]) <;> omega
    · have hltI : ¬ (k : Int) < (R.P.length : Int) := by omega
      have x3 : wr.cell? ⟨g2, 3, none⟩ = some (.int .i64 R.nd) := (HD1.out.bel hbel).cell 3
      have y3 : wr.cell? ⟨g3, 3, none⟩ = some (.int .i64 R.nd) := (HD2.out.bel hbel).cell 3
      have x4 : wr.cell? ⟨g2, 4, none⟩ = some (.int .i64 R.tm) := (HD1.out.bel hbel).cell 4
      have y4 : wr.cell? ⟨g3, 4, none⟩ = some (.int .i64 R.tm) := (HD2.out.bel hbel).cell 4
      have x5 : wr.cell? ⟨g2, 5, none⟩ = some (.int .i64 R.tr) := (HD1.out.bel hbel).cell 5
      have y5 : wr.cell? ⟨g3, 5, none⟩ = some (.int .i64 R.tr) := (HD2.out.bel hbel).cell 5
      have x6 : wr.cell? ⟨g2, 6, none⟩ = some (.bool R.rot) := (HD1.out.bel hbel).cell 6
      have y6 : wr.cell? ⟨g3, 6, none⟩ = some (.bool R.rot) := (HD2.out.bel hbel).cell 6
      have x7 : wr.cell? ⟨g2, 7, none⟩ = some (.bool R.vc) := (HD1.out.bel hbel).cell 7
      have y7 : wr.cell? ⟨g3, 7, none⟩ = some (.bool R.vc) := (HD2.out.bel hbel).cell 7
      have x8 : wr.cell? ⟨g2, 8, none⟩ = some (.bool R.sg) := (HD1.out.bel hbel).cell 8
      have y8 : wr.cell? ⟨g3, 8, none⟩ = some (.bool R.sg) := (HD2.out.bel hbel).cell 8
      have x9 : wr.cell? ⟨g2, 9, none⟩ = some (.bool R.ed) := (HD1.out.bel hbel).cell 9
      have y9 : wr.cell? ⟨g3, 9, none⟩ = some (.bool R.ed) := (HD2.out.bel hbel).cell 9
      have Hbw : Hid (Below w.heap.size w wr) := Lib.hid (Hb4.out.trans (hbel.mono Hb4.out.size))
      clear hbel
      go_wp2
      go_ret
      exact ⟨rfl, Hbw.out⟩
end Go.Proofs.YtgebcifkbldfoaaDoor

/- Plain laws of what files say (17). -/
namespace Go.Proofs.YtgebcifkbldfoaaDoor
open Go.RowKit

theorem foldl_idx {α β γ : Type} (h : γ → α → γ) (f : γ → β → γ) : ∀ (L : List α) (g : Nat → α → β), (∀ R i x, f R (g i x) = h R x) → ∀ R, (L.mapIdx g).foldl f R = L.foldl h R
  | [], _, _, _ => rfl
  | x :: L, g, hg, R => by
    rw [List.mapIdx_cons, List.foldl_cons, List.foldl_cons, hg, foldl_idx h f L _ (fun R i x => hg R (i + 1) x)]
theorem foldl_filter {α γ : Type} (p : α → Bool) (f : γ → α → γ) : ∀ (L : List α) (R : γ), (∀ R x, p x = false → f R x = R) → (L.filter p).foldl f R = L.foldl f R
  | [], _, _ => rfl
  | x :: L, R, h => by
    rw [List.filter_cons]
    by_cases hx : p x = true
    · rw [if_pos hx, List.foldl_cons, List.foldl_cons, foldl_filter p f L _ h]
    · rw [if_neg hx, List.foldl_cons, h R x (by simpa using hx), foldl_filter p f L _ h]
theorem rvP_lin (s : List UInt8) : rvP s = (linL s).foldl (fun R x => lnR R (lnF false x)) rv0 := by
  unfold rvP alL alN numL
  rw [foldl_filter _ _ _ _ (fun R c hc => by
    have h : c.2 = [] := by simpa [alP] using hc
    rw [h]; rfl), List.foldl_map]
  exact foldl_idx (fun R x => lnR R (lnF false x)) (fun R (y : Nat × List UInt8) => lnR R (lnF false y.2)) (linL s) (fun i x => (i + 1, x)) (fun _ _ _ => rfl) rv0
def rvFrom (R : Rv) (s : List UInt8) : Rv := (linL s).foldl (fun R x => lnR R (lnF false x)) R
/-- what may be. -/
structure RvOk (R : Rv) : Prop where
  s : R.S.length ≤ 3
  n : R.N.length ≤ 6
  p : R.P.length ≤ 10
  nd : 0 ≤ R.nd ∧ R.nd ≤ 15
  tm : 1 ≤ R.tm ∧ R.tm ≤ 30
  tr : 1 ≤ R.tr ∧ R.tr ≤ 5
  pf : ∀ x ∈ R.P, x.ad.fam = 4 ∧ 0 ≤ x.bits ∧ x.bits ≤ 32
  nm : ∀ x ∈ R.N, x ≠ []
theorem pair_ok {s : List UInt8} {p : Pf} (h : pairP s = some p) : p.ad.fam = 4 ∧ 0 ≤ p.bits ∧ p.bits ≤ 32 := by
  have key : ∀ (a : Ad) (n : Nat) (x : List UInt8), qpA x = some a → p = pfN a n → p.ad.fam = 4 ∧ 0 ≤ p.bits ∧ p.bits ≤ 32 := by
    intro a n x hq hp
    obtain ⟨b0, b1, b2, b3, rfl⟩ := qpA_fam hq
    subst hp
    refine ⟨rfl, ?_, ?_⟩
    · show (0 : Int) ≤ ((min n 32 : Nat) : Int)
      omega
    · show ((min n 32 : Nat) : Int) ≤ 32
      omega
  unfold pairP at h
  split at h
  · obtain ⟨a, hq, hp⟩ := Option.map_eq_some_iff.1 h
    exact key a _ _ hq hp.symm
  · split at h
    · cases h
    · next a hq =>
      obtain ⟨n, _, hp⟩ := Option.map_eq_some_iff.1 h
      exact key a n _ hq hp.symm
theorem newP_ok {F : List (List UInt8)} {P : List Pf} (h : newP F = some P) : P.length ≤ 10 ∧ ∀ x ∈ P, x.ad.fam = 4 ∧ 0 ≤ x.bits ∧ x.bits ≤ 32 := by
  cases F with
  | nil => cases h
  | cons f F =>
    obtain ⟨Q, hQ, rfl⟩ := Option.map_eq_some_iff.1 h
    unfold pairsP at hQ
    split at hQ
    · injection hQ with hQ
      subst hQ
      refine ⟨by rw [List.length_take]; omega, fun x hx => ?_⟩
      obtain ⟨y, _, hy⟩ := List.mem_filterMap.1 (List.mem_of_mem_take hx)
      exact pair_ok hy
    · cases hQ
theorem newN_ok {F : List (List UInt8)} {N : List NmL} (h : newN F = some N) : N.length ≤ 6 ∧ (∀ x ∈ N, x ≠ []) ∧ N ≠ [] := by
  cases F with
  | nil => cases h
  | cons f F =>
    obtain ⟨Q, hQ, rfl⟩ := Option.map_eq_some_iff.1 h
    unfold namesP at hQ
    split at hQ
    · next hall =>
      injection hQ with hQ
      subst hQ
      refine ⟨by rw [List.length_take]; omega, fun x hx => ?_, ?_⟩
      · obtain ⟨y, _, hy⟩ := List.mem_filterMap.1 (List.mem_of_mem_take hx)
        unfold oneN at hy
        split at hy
        · split at hy
          · cases hy
          · next hn => injection hy with hy; rw [← hy]; exact hn
        · cases hy
      · rw [List.all_cons, Bool.and_eq_true] at hall
        obtain ⟨n, hn⟩ := Option.isSome_iff_exists.1 hall.1
        rw [List.filterMap_cons_some hn, List.take_succ_cons]
        exact List.cons_ne_nil _ _
    · cases hQ
theorem domN_new {F : List (List UInt8)} {N : List NmL} (h : domN F = some N) : newN F = some N := by
  match F with
  | [] => cases h
  | [f] => exact h
  | _ :: _ :: _ => cases h
theorem setV_ok {old : Int} {s : List UInt8} {l m : Nat} (hlm : l ≤ m) (h1 : (l : Int) ≤ old) (h2 : old ≤ m) : (l : Int) ≤ setV old s l m ∧ setV old s l m ≤ m := by
  unfold setV
  split
  · split
    · omega
    · omega
  · exact ⟨h1, h2⟩
theorem optN_ok {p : List UInt8} {old : Int} {s : List UInt8} {l m : Nat} (hlm : l ≤ m) (h1 : (l : Int) ≤ old) (h2 : old ≤ m) : (l : Int) ≤ optN p old l m s ∧ optN p old l m s ≤ m := by
  unfold optN
  split
  · exact setV_ok hlm h1 h2
  · exact ⟨h1, h2⟩
theorem opt_ok {R : Rv} (s : List UInt8) (h : RvOk R) : RvOk (optS R s) :=
  ⟨h.s, h.n, h.p, optN_ok (l := 0) (m := 15) (by omega) h.nd.1 h.nd.2, optN_ok (l := 1) (m := 30) (by omega) h.tm.1 h.tm.2, optN_ok (l := 1) (m := 5) (by omega) h.tr.1 h.tr.2, h.pf, h.nm⟩
theorem opts_ok (F : List (List UInt8)) : ∀ {R : Rv}, RvOk R → RvOk (F.foldl optS R) := by
  induction F with
  | nil => exact fun h => h
  | cons f F ih => exact fun h => ih (opt_ok f h)
theorem say_ok {R : Rv} (f : List UInt8) (F : List (List UInt8)) (h : RvOk R) : RvOk (sayS R f F) := by
  unfold sayS
  split
  · exact ⟨addS_few F h.s, h.n, h.p, h.nd, h.tm, h.tr, h.pf, h.nm⟩
  · split
    · cases hd : domN F with
      | none => exact h
      | some N =>
        have hn := newN_ok (domN_new hd)
        exact ⟨h.s, hn.1, h.p, h.nd, h.tm, h.tr, h.pf, hn.2.1⟩
    · split
      · cases hd : newN F with
        | none => exact h
        | some N =>
          have hn := newN_ok hd
          exact ⟨h.s, hn.1, h.p, h.nd, h.tm, h.tr, h.pf, hn.2.1⟩
      · split
        · cases hd : newP F with
          | none => exact h
          | some P =>
            have hn := newP_ok hd
            exact ⟨h.s, h.n, hn.1, h.nd, h.tm, h.tr, hn.2, h.nm⟩
        · split
          · exact opts_ok F h
          · exact h
theorem ln_ok {R : Rv} (F : List (List UInt8)) (h : RvOk R) : RvOk (lnR R F) := by
  cases F with
  | nil => exact h
  | cons f F => exact say_ok f F h
theorem rv0_ok : RvOk rv0 := ⟨by decide, by decide, by decide, by decide, by decide, by decide, fun _ h => (by cases h), fun _ h => (by cases h)⟩
theorem from_ok (s : List UInt8) {R : Rv} (h : RvOk R) : RvOk (rvFrom R s) := by
  have key : ∀ (L : List (List UInt8)) (R : Rv), RvOk R → RvOk (L.foldl (fun R x => lnR R (lnF false x)) R) := by
    intro L
    induction L with
    | nil => exact fun _ h => h
    | cons x L ih => exact fun R h => ih _ (ln_ok _ h)
  exact key _ _ h
theorem rvP_from (s : List UInt8) : rvP s = rvFrom rv0 s := rvP_lin s
theorem rvP_ok (s : List UInt8) : RvOk (rvP s) := by rw [rvP_from]; exact from_ok s rv0_ok
end Go.Proofs.YtgebcifkbldfoaaDoor

/- The law's own test of resolv (17); ResolvSkips: the walk. -/
namespace Go.Proofs.YtgebcifkbldfoaaDoor
open Go.RowKit
attribute [local go_sem] ba_get ext_take ext_drop ext_any ba_app

def w17s : List UInt8 := [110, 97, 109, 101, 115, 101, 114, 118, 101, 114, 32, 49, 57, 50, 46, 48, 46, 50, 46, 49, 10, 111, 112, 116, 105, 111, 110, 115, 32, 110, 100, 111, 116, 115, 58, 57, 57]
theorem w17_parse : (rvP w17s).S.length = 1 ∧ (rvP w17s).nd = 15 ∧ (rvP w17s).tm = 5 ∧ (rvP w17s).tr = 2 := by decide +kernel
/-- what a file says, handed back. -/
def RslQ (w : World) (R : Rv) (e : Ending) (w' : World) : Prop := ∃ vs vn vp, e = .returned (.agg (rvA vs vn vp R)) ∧ RvRd w' vs vn vp R ∧ Below w.heap.size w w'
theorem rvparse_rd (s : List UInt8) (w : World) (ht : Tab w) (hm : MaxI w) (hl : s.length ≤ 100000) : Calls Tryd.prog 39 #[.string ⟨s.toArray⟩] w (RslQ w (rvP s)) :=
  (rvparse_any s w ht hm hl).mono fun _ _ ⟨vs, vn, vp, he, ho, hb⟩ => ⟨vs, vn, vp, he, ho.rd, hb⟩
theorem plain_rd (w : World) : Calls Tryd.prog 69 #[] w (RslQ w rv0) := (plain_any w).mono fun _ w' ⟨he, hb⟩ => ⟨_, _, _, he, RvRd.zero w', hb⟩
theorem rv17plain_rd (w : World) : Calls Tryd.prog 40 #[] w (RslQ w rv0) := (rv17plain_any w).mono fun _ w' ⟨he, hb⟩ => ⟨_, _, _, he, RvRd.zero w', hb⟩
theorem RvRd.open_ {w : World} {vs vn vp : Value} {R : Rv} (h : RvRd w vs vn vp R) : ∃ a1 c1 a2 c2 a3 c3, vs = .slice a1 R.S.length c1 ∧ vn = .slice a2 R.N.length c2 ∧ vp = .slice a3 R.P.length c3 := by
  obtain ⟨N, hN⟩ := h.n
  obtain ⟨a1, c1, e1, _⟩ := h.s.any
  obtain ⟨a2, c2, e2, _⟩ := hN.sl.any
  obtain ⟨a3, c3, e3, _⟩ := h.p.any
  have hl : N.length = R.N.length := by rw [← hN.is, List.length_map]
  rw [hl] at e2
  exact ⟨a1, c1, a2, c2, a3, c3, e1, e2, e3⟩
set_option maxRecDepth 100000 in
set_option maxHeartbeats 4000000 in
theorem works17_any (w : World) (ht : Tab w) (hm : MaxI w) : Calls Tryd.prog 37 #[] w (Good w) := by
  have HP := Lib.hid (rvparse_rd w17s w ht hm (by decide))
  obtain ⟨q1, q2, q3, q4⟩ := w17_parse
  generalize rvP w17s = R at *
  have Q1 := Lib.hid q1
  have Q2 := Lib.hid q2
  have Q3 := Lib.hid q3
  have Q4 := Lib.hid q4
  clear ht hm q1 q2 q3 q4
  go_enter Tryd.func37, Tryd.ntmps37
  go_wp2_with (first
    | (go_at_call 39; refine HP.out.mono ?_; rintro e w1 ⟨vs, vn, vp, rfl, hrd, hb1⟩; obtain ⟨a1, c1, a2, c2, a3, c3, rfl, rfl, rfl⟩ := hrd.open_; have Hb1 := Lib.hid hb1; clear hrd hb1 HP)
    | ((with_reducible show wpList _ _ _ (⟨some 1, _, _, _, _, _⟩ :: _) _ _); refine wpList_allocZ (o := ⟨some 1, _, _, _, _, _⟩) rfl _ rfl rv_zero ?_; intro g2 w2 hg2 hB2 hb2 hs2; have Hg2 := Lib.hid hg2; have Hb2 := Lib.hid hb2; have HB2 := Lib.hid hB2; clear hg2 hs2 hb2 hB2)
    | ((with_reducible show wpList _ _ _ (⟨none, .store _ _ _, _, _, _, _⟩ :: _) _ _); refine wpList_storeB (o := ⟨none, _, _, _, _, _⟩) rfl _ (.tmp 1) _ rfl rfl rfl HB2.out rv_size rfl (rvA_one _ rfl rfl rfl) ?_; intro w3 hB3 hS3; have HB3 := Lib.hid hB3; have Hb3 := Lib.hid (bel_tr Hb1.out (Hb2.out.trans (hS3.below (Nat.le_of_eq Hg2.out.symm)))); clear hB3 hS3; refine holdL ?_))
  refine Lib.hid ?_
  have c0 : w3.cell? ⟨g2, 0, none⟩ = some (.slice a1 1 c1) := by have h := HB3.out.cell 0; rw [h]; show some (Value.slice a1 R.S.length c1) = _; rw [Q1.out]
  have c3' : w3.cell? ⟨g2, 3, none⟩ = some (.int .i64 15) := by have h := HB3.out.cell 3; rw [h]; show some (Value.int .i64 R.nd) = _; rw [Q2.out]
  have c4' : w3.cell? ⟨g2, 4, none⟩ = some (.int .i64 5) := by have h := HB3.out.cell 4; rw [h]; show some (Value.int .i64 R.tm) = _; rw [Q3.out]
  have c5' : w3.cell? ⟨g2, 5, none⟩ = some (.int .i64 2) := by have h := HB3.out.cell 5; rw [h]; show some (Value.int .i64 R.tr) = _; rw [Q4.out]
  go_wp2_with (first
    | (go_at_call 69; refine (plain_rd _).mono ?_; rintro e w4 ⟨us, un, up, rfl, hrd, hb4⟩; have HR4 := Lib.hid hrd; have Hb4 := Lib.hid hb4; clear hrd hb4 c0 c3' c4' c5')
    | (go_at_call 40; refine (rv17plain_rd _).mono ?_; rintro e w5 ⟨us2, un2, up2, rfl, hrd, hb5⟩; have HR5 := Lib.hid hrd; have HR4b := Lib.hid (HR4.out.bel hb5); have Hb5 := Lib.hid (bel_tr Hb4.out hb5); clear hrd hb5)
    | (go_at_call 38; refine (rsame17_any rv0 _ _ _ _ _ _ _ HR4b.out HR5.out (by unfold RvFew; decide)).mono ?_; rintro e w6 ⟨rfl, hb6⟩; have Hb6 := Lib.hid (bel_tr Hb5.out hb6); clear hb6))
  go_ret
  exact ⟨rfl, Hb3.out.trans (Hb6.out.mono Hb3.out.size)⟩
end Go.Proofs.YtgebcifkbldfoaaDoor

/- ResolvHeld: the walk. -/
namespace Go.Proofs.YtgebcifkbldfoaaDoor
open Go.RowKit
attribute [local go_sem] ba_get ext_take ext_drop ext_any ba_app

theorem nmflatR (N : List (Value × NmL)) (k : Nat) : (N.flatMap nmF)[k]? = N[k]?.map (·.1) := by
  have h : N.flatMap nmF = N.map (·.1) := by
    induction N with
    | nil => rfl
    | cons q N ih => rw [List.flatMap_cons, ih]; rfl
  rw [h, List.getElem?_map]
set_option maxRecDepth 100000 in
set_option maxHeartbeats 4000000 in
theorem resolvHeld_walk (w : World) (ht : Tab w) (hm : MaxI w) (s : List UInt8) (hs : s.length ≤ 140737488351232) :
    Calls Tryd.prog 9 #[.string ⟨s.toArray⟩] w (Good w) := by
  have Ht := Lib.hid ht
  have Hm := Lib.hid hm
  have HW := Lib.hid (works17_any w ht hm)
  clear ht hm
  by_cases hl : 4000 < s.length
  · have i1 : (4000 : Int) < (s.length : Int) := by omega
    clear hl
    go_enter Tryd.func9, Tryd.ntmps9
    go_wp2_with (first
      | (go_at_call 37; refine HW.out.mono ?_; rintro e w1 ⟨rfl, hb1⟩; have Hb1 := Lib.hid hb1; have HW2 := Lib.hid (works17_any w1 (Ht.out.below hb1) (Hm.out.below hb1)); clear hb1 HW)
      | (go_at_call 37; refine HW2.out.mono ?_; rintro e w2 ⟨rfl, hb2⟩; have Hb2 := Lib.hid (bel_tr Hb1.out hb2); clear hb2))
    go_ret
    exact ⟨rfl, Hb2.out⟩
  · have i1 : ¬ (4000 : Int) < (s.length : Int) := by omega
    have HP := Lib.hid (fun (w' : World) (hb : Below w.heap.size w w') => rvparse_rd s w' (Ht.out.below hb) (Hm.out.below hb) (by omega))
    have HO := Lib.hid (rvP_ok s)
    generalize rvP s = R at *
    go_enter Tryd.func9, Tryd.ntmps9
    go_wp2_with (first
      | (go_at_call 37; refine HW.out.mono ?_; rintro e w1 ⟨rfl, hb1⟩; have Hb1 := Lib.hid hb1; clear hb1 HW)
      | (go_at_call 39; refine (HP.out _ Hb1.out).mono ?_; rintro e w2 ⟨vs, vn, vp, rfl, hrd, hb2⟩; obtain ⟨a1, c1, a2, c2, a3, c3, rfl, rfl, rfl⟩ := hrd.open_; have HR2 := Lib.hid hrd; have Hb2 := Lib.hid (bel_tr Hb1.out hb2); clear hrd hb2 HP)
      | ((with_reducible show wpList _ _ _ (⟨some 3, _, _, _, _, _⟩ :: _) _ _); refine wpList_allocZ (o := ⟨some 3, _, _, _, _, _⟩) rfl _ rfl rv_zero ?_; intro g3 w3 hg3 hB3 hb3 hs3; have Hg3 := Lib.hid hg3; have Hb3 := Lib.hid hb3; have HB3 := Lib.hid hB3; clear hg3 hs3 hb3 hB3)
      | ((with_reducible show wpList _ _ _ (⟨none, .store _ _ _, _, _, _, _⟩ :: _) _ _); refine wpList_storeB (o := ⟨none, _, _, _, _, _⟩) rfl _ (.tmp 3) _ rfl rfl rfl HB3.out rv_size rfl (rvA_one _ rfl rfl rfl) ?_; intro w4 hB4 hS4; have HB4 := Lib.hid hB4; have hb24 := Hb3.out.trans (hS4.below (Nat.le_of_eq Hg3.out.symm)); have HR4 := Lib.hid (HR2.out.bel hb24); have Hb4 := Lib.hid (bel_tr Hb2.out hb24); clear hB4 hS4 hb24; refine holdL ?_))
    refine Lib.hid ?_
    obtain ⟨k1, k2, k3, k4, k5, k6, k7, k8⟩ := HO.out
    have x0 : w4.cell? ⟨g3, 0, none⟩ = some (.slice a1 R.S.length c1) := HB4.out.cell 0
    have x1 : w4.cell? ⟨g3, 1, none⟩ = some (.slice a2 R.N.length c2) := HB4.out.cell 1
    have x2 : w4.cell? ⟨g3, 2, none⟩ = some (.slice a3 R.P.length c3) := HB4.out.cell 2
    have x3 : w4.cell? ⟨g3, 3, none⟩ = some (.int .i64 R.nd) := HB4.out.cell 3
    have x4 : w4.cell? ⟨g3, 4, none⟩ = some (.int .i64 R.tm) := HB4.out.cell 4
    have x5 : w4.cell? ⟨g3, 5, none⟩ = some (.int .i64 R.tr) := HB4.out.cell 5
    have m1 : ¬ (3 : Int) < (R.S.length : Int) := by omega
    have m2 : ¬ (6 : Int) < (R.N.length : Int) := by omega
    have m3 : ¬ (10 : Int) < (R.P.length : Int) := by omega
    have m4 : ¬ R.nd < 0 := by omega
    have m5 : ¬ 15 < R.nd := by omega
    have m6 : ¬ R.tm < 1 := by omega
    have m7 : ¬ 30 < R.tm := by omega
    have m8 : ¬ R.tr < 1 := by omega
    have m9 : ¬ 5 < R.tr := by omega
    have K7 := Lib.hid k7
    have K8 := Lib.hid k8
    clear k7 k8 k1 k4 k5 k6
    go_wp2_with fail
    have X1 := Lib.hid x1
    have X2 := Lib.hid x2
    clear x0 x1 x2 x3 x4 x5 m1 m2 m3 m4 m5 m6 m7 m8 m9
    go_loopw [4] (fun i wr => ∃ k : Nat, k ≤ R.P.length ∧ i = .int .i64 k ∧ wr = w4) (fun i _ => R.P.length - (intOf i).toNat)
    case atStart => exact ⟨0, Nat.zero_le _, rfl, rfl⟩
    case round =>
      obtain ⟨k, hk, rfl, rfl⟩ := hrel
      have x2 := X2.out
      by_cases hlt : k < R.P.length
      · have hltI : (k : Int) < (R.P.length : Int) := by omega
        have hk0 : (0 : Int) ≤ (k : Int) := by omega
        obtain ⟨b, off, c, hv, hc, hbl, hcell⟩ := HR4.out.p.pos (by omega)
        injection hv with hv1 _ hv2
        subst hv1 hv2
        have hR := range_of pfL_len hcell hlt
        have y0 : wr.cell? ⟨b, off + k * 19, none⟩ = some (.int .i64 R.P[k].ad.fam) := by
          have h := hR 0 _ (show (pfL R.P[k])[0]? = some (.int .i64 R.P[k].ad.fam) from rfl)
          rwa [Nat.add_zero] at h
        have y18 : wr.cell? ⟨b, off + k * 19 + 18, none⟩ = some (.int .i64 R.P[k].bits) := hR 18 _ (by
          have h := pfA_18 R.P[k]
          unfold pfA at h
          rwa [List.getElem?_toArray] at h)
        have hq := K7.out _ (List.getElem_mem hlt)
        clear hcell hR
        generalize R.P[k] = x at *
        have q1 : (x.ad.fam != 4) = false := by rw [hq.1]; rfl
        have q2 : ¬ x.bits < 0 := by omega
        have q3 : ¬ 32 < x.bits := by omega
        clear hq
        go_wp2
        go_roundw
        case rel => exact ⟨k + 1, by omega, by go_num, trivial⟩
        case measure => (simp [intOf]) <;> omega
      · have hltI : ¬ (k : Int) < (R.P.length : Int) := by omega
        go_wp2_with fail
        clear x2 hlt hltI hk
        go_loopw [5] (fun i wq => ∃ k : Nat, k ≤ R.N.length ∧ i = .int .i64 k ∧ wq = wr) (fun i _ => R.N.length - (intOf i).toNat)
        case atStart => exact ⟨0, Nat.zero_le _, rfl, rfl⟩
        case round =>
          obtain ⟨k, hk, rfl, rfl⟩ := hrel
          have x1 := X1.out
          by_cases hlt : k < R.N.length
          · have hltI : (k : Int) < (R.N.length : Int) := by omega
            have hk0 : (0 : Int) ≤ (k : Int) := by omega
            obtain ⟨N, hN⟩ := HR4.out.n
            have hNl : N.length = R.N.length := by rw [← hN.is, List.length_map]
            obtain ⟨b, off, c, hv, hc, hbl, hcell⟩ := hN.sl.pos (by omega)
            injection hv with hv1 _ hv2
            subst hv1 hv2
            have hlt2 : k < N.length := by omega
            have y0 : wr.cell? ⟨b, off + k, none⟩ = some N[k].1 := hcell k _ (by rw [nmflatR, List.getElem?_eq_getElem hlt2]; rfl)
            have hok := hN.ok _ (List.getElem_mem hlt2)
            have hin : N[k].2 ≠ [] := K8.out _ (by rw [← hN.is]; exact List.mem_map.2 ⟨_, List.getElem_mem hlt2, rfl⟩)
            clear hcell hN
            generalize N[k] = q at *
            obtain ⟨qv, qn⟩ := q
            obtain ⟨qa, qc, hqv, _⟩ := hok.sl.any
            dsimp only at hqv y0 hin
            subst hqv
            have hz : ((qn.length : Int) == 0) = false := by
              rw [beq_eq_false_iff_ne]
              have := List.length_pos_iff.2 hin
              omega
            have hlt' := hltI
            clear hok hin hNl hlt2 hlt hk hc
            go_wp2
            go_roundw
            case rel => exact ⟨k + 1, by omega, by go_num, trivial⟩
            case measure => (simp [intOf]) <;> omega
          · have hltI : ¬ (k : Int) < (R.N.length : Int) := by omega
            go_wp2
            go_ret
            exact ⟨rfl, Hb4.out⟩
end Go.Proofs.YtgebcifkbldfoaaDoor
