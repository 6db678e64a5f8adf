/- Contracts and plain lemmas of our own, merged. -/
import Derived.Test.YtgebcifkbldfoaaDoorZRj11
import Derived.Test.YtgebcifkbldfoaaDoorZRj21
import Derived.Test.YtgebcifkbldfoaaDoorZRj31
import Derived.Test.YtgebcifkbldfoaaDoorZRj33
/- resolv.Parse: what a file says. -/
namespace Go.Proofs.YtgebcifkbldfoaaDoor
open Go.RowKit
attribute [local go_sem] ba_get ext_take ext_drop ext_any ba_app
attribute [local go_sem] Oper.semAt_some

def rvZ : Array Value := rvA (.slice none 0 0) (.slice none 0 0) (.slice none 0 0) ⟨[], [], [], 0, 0, 0, false, false, false, false⟩
theorem rv_under : Tryd.prog.underlying 68 = some (.struct (Tryd.prog.fieldsOf 68)) := by kernel_rfl
theorem rv_size : (Tryd.prog.info? 68).map (·.size) = some 10 := by kernel_rfl
theorem rv_zero : ZeroIs Tryd.prog 68 rvZ := by unfold ZeroIs; kernel_rfl
def rvP0 : Array Value := rvA (.slice none 0 0) (.slice none 0 0) (.slice none 0 0) rv0
theorem built_rv : Tryd.prog.built 68 [(3, .int .i64 1), (4, .int .i64 5), (5, .int .i64 2)] = some rvP0 := by kernel_rfl
theorem built_rd : Tryd.prog.built 116 [(0, .agg rvP0)] = some rvP0 := by kernel_rfl
theorem rvA_one {vs vn vp : Value} (R : Rv) (h1 : vs.oneCell' = true) (h2 : vn.oneCell' = true) (h3 : vp.oneCell' = true) : (rvA vs vn vp R).all (·.oneCell') = true := by
  refine all_oneCell_toArray fun v hv => ?_
  simp only [rvL, List.mem_cons, List.not_mem_nil, or_false] at hv
  rcases hv with rfl | rfl | rfl | rfl | rfl | rfl | rfl | rfl | rfl | rfl <;> first | assumption | rfl
theorem ret_rowR {P : Program} {fn : Func} {p : Tmp} {ty : TypeId} (h : fn.results = #[.cell p ty]) {R : Ending → World → Prop} {a : Act} {w : World} {g : Nat} {t : TypeId} {cs : Array Value} {d : TypeDesc}
    (hp : a.tmps.getD p undef = .pointer (some ⟨g, 0, none⟩)) (hB : Bk w g t cs) (hu : P.underlying ty = some d) (hr : d.isRow = true) (hi : (P.info? ty).map (·.size) = some cs.size) (hd : a.defers = []) (hR : R (.returned (.agg cs)) w) : bodyPost P fn R .ret a w :=
  bodyPost_ret_by (results_cell_row h a.tmps w g t cs (0, 0) _ hp hB hu (by cases d <;> first | rfl | cases hr) hi) hd hR
def PlnPost (w : World) (e : Ending) (w' : World) : Prop := e = .returned (.agg rvP0) ∧ Below w.heap.size w w'
set_option maxRecDepth 100000 in
theorem plain_any (w : World) : Calls Tryd.prog 69 #[] w (PlnPost w) := by
  go_enter Tryd.func69, Tryd.ntmps69
  go_wp2_with (first
    | ((with_reducible show wpList _ _ _ (⟨some 0, _, _, _, _, _⟩ :: _) _ _); refine wpList_allocZ (o := ⟨some 0, _, _, _, _, _⟩) rfl _ rfl rv_zero ?_; intro g2 w2 hg2 hB2 hb2 hs2; have hg2' : w.heap.size ≤ g2 := Nat.le_of_eq hg2.symm; clear hg2 hs2)
    | ((with_reducible show wpList _ _ _ (⟨some 1, _, _, _, _, _⟩ :: _) _ _); refine wpList_buildL (o := ⟨some 1, _, _, _, _, _⟩) rfl _ [(3, .const (.int .i64 1)), (4, .const (.int .i64 5)), (5, .const (.int .i64 2))] rfl built_rv rfl ?_)
    | ((with_reducible show wpList _ _ _ (⟨none, .store _ _ _, _, _, _, _⟩ :: _) _ _); refine wpList_storeB (o := ⟨none, _, _, _, _, _⟩) rfl _ (.tmp 0) _ rfl rfl rfl hB2 rv_size rfl (rvA_one _ rfl rfl rfl) ?_; intro w3 hB3 hS3))
  exact ret_rowR Tryd.results69 rfl hB3 rv_under rfl rv_size rfl ⟨rfl, hb2.trans (hS3.below hg2')⟩
set_option maxRecDepth 100000 in
theorem rv17plain_any (w : World) : Calls Tryd.prog 40 #[] w (PlnPost w) := by
  go_enter Tryd.func40, Tryd.ntmps40
  go_wp2_with (first
    | ((with_reducible show wpList _ _ _ (⟨some 0, _, _, _, _, _⟩ :: _) _ _); refine wpList_allocZ (o := ⟨some 0, _, _, _, _, _⟩) rfl _ rfl rv_zero ?_; intro g2 w2 hg2 hB2 hb2 hs2; have hg2' : w.heap.size ≤ g2 := Nat.le_of_eq hg2.symm; clear hg2 hs2)
    | ((with_reducible show wpList _ _ _ (⟨some 1, _, _, _, _, _⟩ :: _) _ _); refine wpList_buildL (o := ⟨some 1, _, _, _, _, _⟩) rfl _ [(3, .const (.int .i64 1)), (4, .const (.int .i64 5)), (5, .const (.int .i64 2))] rfl built_rv rfl ?_)
    | ((with_reducible show wpList _ _ _ (⟨none, .store _ _ _, _, _, _, _⟩ :: _) _ _); refine wpList_storeB (o := ⟨none, _, _, _, _, _⟩) rfl _ (.tmp 0) _ rfl rfl rfl hB2 rv_size rfl (rvA_one _ rfl rfl rfl) ?_; intro w3 hB3 hS3))
  exact ret_rowR Tryd.results40 rfl hB3 rv_under rfl rv_size rfl ⟨rfl, hb2.trans (hS3.below hg2')⟩
theorem gr_trans {a b c : World} {row : Option Nat} (h : a.grownBy b row) (k : b.grownBy c row) : a.grownBy c row :=
  ⟨k.os.trans h.os, k.tape.trans h.tape, k.output.trans h.output, Nat.le_trans h.size k.size, fun i hi hne => (k.block i (Nat.lt_of_lt_of_le hi h.size) hne).trans (h.block i hi hne)⟩
/-- what each word does. -/
def doV (g f : Nat) : Value := .func (.func f) #[.pointer (some ⟨g, 0, none⟩)] #[]
def doL (g : Nat) : List (List UInt8 × Value) := [(wNs, doV g 70), (wDo, doV g 71), (wSe, doV g 72), (wSo, doV g 73), (wOp, doV g 74)]
theorem zero_do (w : World) : (zeroValue 117).run Tryd.prog w = .ok .nilFunc w := by
  have h : (Tryd.prog.info? 117).map (·.zero) = some (some .nilFunc) := by kernel_rfl
  cases hq : Tryd.prog.info? 117 with
  | none => rw [hq] at h; cases h
  | some i =>
    rw [hq] at h
    have h1 : i.zero = some .nilFunc := by simpa using h
    simp [zeroValue, typeInfo, hq, h1]
theorem mkfn_run (fn : Fn) (first cap : Array Value) (w : World) : (Instr.makeFunc fn first cap).run Tryd.prog w = .ok (.func fn first cap) w := rfl
theorem say_ns (R : Rv) (F : List (List UInt8)) : sayS R wNs F = { R with S := addS R.S F } := if_pos rfl
theorem say_do (R : Rv) (F : List (List UInt8)) : sayS R wDo F = { R with N := (domN F).getD R.N } := by unfold sayS; rw [if_neg (by decide), if_pos rfl]
theorem say_se (R : Rv) (F : List (List UInt8)) : sayS R wSe F = { R with N := (newN F).getD R.N } := by unfold sayS; rw [if_neg (by decide), if_neg (by decide), if_pos rfl]
theorem say_so (R : Rv) (F : List (List UInt8)) : sayS R wSo F = { R with P := (newP F).getD R.P } := by unfold sayS; rw [if_neg (by decide), if_neg (by decide), if_neg (by decide), if_pos rfl]
theorem say_op (R : Rv) (F : List (List UInt8)) : sayS R wOp F = F.foldl optS R := by unfold sayS; rw [if_neg (by decide), if_neg (by decide), if_neg (by decide), if_neg (by decide), if_pos rfl]
theorem say_no {R : Rv} {f : List UInt8} {F : List (List UInt8)} (h1 : f ≠ wNs) (h2 : f ≠ wDo) (h3 : f ≠ wSe) (h4 : f ≠ wSo) (h5 : f ≠ wOp) : sayS R f F = R := by unfold sayS; rw [if_neg h1, if_neg h2, if_neg h3, if_neg h4, if_neg h5]
theorem ent_no {g : Nat} {f : List UInt8} (h1 : f ≠ wNs) (h2 : f ≠ wDo) (h3 : f ≠ wSe) (h4 : f ≠ wSo) (h5 : f ≠ wOp) : entS f (doL g) = none := by
  unfold doL
  simp [entS, h1, h2, h3, h4, h5]
def rvF (S : List (Nat × List (List UInt8))) : Rv := S.foldl (fun R c => lnR R c.2) rv0
theorem slA5 {w : World} {b off cp : Nat} {f : List UInt8} {R : List (List UInt8)} (h : Sl w 1 (.slice (some ⟨b, off, none⟩) (f :: R).length cp) (f :: R).length ((f :: R).map stv)) (hc : cp = 1) : Sl w 1 (.slice (some ⟨b, off, none⟩) R.length 0) R.length (R.map stv) := by
  subst hc
  have h2 := h.cut (k := 1) (by simp)
  simpa using h2
theorem slB5 {w : World} {b off cp : Nat} {f : List UInt8} {R : List (List UInt8)} (h : Sl w 1 (.slice (some ⟨b, off, none⟩) (f :: R).length cp) (f :: R).length ((f :: R).map stv)) (hc : ¬ cp = 1) : Sl w 1 (.slice (some ⟨b, off + 1, none⟩) R.length (cp - 1)) R.length (R.map stv) := by
  have h2 := h.cut (k := 1) (by simp)
  rw [if_neg hc] at h2
  simpa [Addr.add] using h2
theorem RvOwn.rv0 (b : Nat) (w : World) : RvOwn b w (.slice none 0 0) (.slice none 0 0) (.slice none 0 0) rv0 := ⟨World.ownsRow_nil _ _ _ _, ⟨[], NmsOwn.nil _ _, fun _ h => (by cases h)⟩, World.ownsRow_nil _ _ _ _⟩
theorem addS_few {S : List Ad} (F : List (List UInt8)) (h : S.length ≤ 3) : (addS S F).length ≤ 3 := by
  match F with
  | [] => exact h
  | _ :: _ :: _ => exact h
  | [f] =>
    show (if S.length < 3 then (match adrP f with | .inr a => S ++ [a] | .inl _ => S) else S).length ≤ 3
    by_cases h3 : S.length < 3
    · rw [if_pos h3]
      cases adrP f with
      | inl e => exact h
      | inr a =>
        show (S ++ [a]).length ≤ 3
        rw [List.length_append, List.length_singleton]
        omega
    · rw [if_neg h3]
      exact h
theorem optS_S (F : List (List UInt8)) : ∀ R : Rv, (F.foldl optS R).S = R.S := by
  induction F with
  | nil => exact fun _ => rfl
  | cons f F ih => exact fun R => ih (optS R f)
theorem say_few {R : Rv} (f : List UInt8) (F : List (List UInt8)) (h : R.S.length ≤ 3) : (sayS R f F).S.length ≤ 3 := by
  unfold sayS
  split
  · exact addS_few F h
  · split
    · exact h
    · split
      · exact h
      · split
        · exact h
        · split
          · rw [optS_S]; exact h
          · exact h
theorem ln_few {R : Rv} (F : List (List UInt8)) (h : R.S.length ≤ 3) : (lnR R F).S.length ≤ 3 := by
  cases F with
  | nil => exact h
  | cons f F => exact say_few f F h
theorem rvF_few (S : List (Nat × List (List UInt8))) : (rvF S).S.length ≤ 3 := by
  have h : ∀ (S : List (Nat × List (List UInt8))) (R : Rv), R.S.length ≤ 3 → (S.foldl (fun R c => lnR R c.2) R).S.length ≤ 3 := by
    intro S
    induction S with
    | nil => exact fun _ h => h
    | cons c S ih => exact fun R h => ih _ (ln_few c.2 h)
  exact h S rv0 (by decide)
theorem rvF_next {S : List (Nat × List (List UInt8))} {i : Nat} {c : Nat × List (List UInt8)} (h : S[i]? = some c) : rvF (S.take (i + 1)) = lnR (rvF (S.take i)) c.2 := by
  obtain ⟨hi, hx⟩ := List.getElem?_eq_some_iff.1 h
  rw [List.take_succ_eq_append_getElem hi, hx]
  unfold rvF
  rw [List.foldl_append]
  rfl
structure RpI (w : World) (g gm g4 : Nat) (S : List (Nat × List (List UInt8))) (i : Nat) (V : World) : Prop where
  at_ : RvAt w.heap.size V g (rvF (S.take i))
  map : MapS V gm (doL g)
  bx : Bk V g4 118 #[.map (some gm)]
  b : Below w.heap.size w V
theorem RpI.kept {w : World} {g gm g4 i : Nat} {S : List (Nat × List (List UInt8))} {W W' : World} {row : Option Nat} (h : RpI w g gm g4 S i W) (hg : W.grownBy W' row) (hh : Harm tyR w.heap.size W row) (h1 : some g ≠ row) (h2 : some gm ≠ row) (h3 : some g4 ≠ row) : RpI w g gm g4 S i W' := by
  obtain ⟨vs, vn, vp, hB, hO⟩ := h.at_
  exact ⟨⟨vs, vn, vp, hB.grown hg h1, hO.kept hg hh⟩, h.map.kept hg h2, h.bx.grown hg h3, Below.kept h.b h.b.size hg hh⟩
def RslP (w : World) (R : Rv) (e : Ending) (w' : World) : Prop := ∃ vs vn vp, e = .returned (.agg (rvA vs vn vp R)) ∧ RvOwn w.heap.size w' vs vn vp R ∧ Below w.heap.size w w'
attribute [local go_sem] mkfn_run
set_option maxRecDepth 100000 in
set_option maxHeartbeats 4000000 in
theorem rvparse_any (s : List UInt8) (w : World) (ht : Tab w) (hm : MaxI w) (hl : s.length ≤ 100000) : Calls Tryd.prog 39 #[.string ⟨s.toArray⟩] w (RslP w (rvP s)) := by
  refine (callsIn_wide (n := 0)).1 ?_
  refine callsIn_of_wp_marks Tryd.func39 rfl trivial ?_ rfl
  simp only [Tryd.ntmps39, List.size_toArray, List.length_cons, List.length_nil, Nat.reduceAdd, Nat.reduceSub, Array.replicate_succ, Array.replicate_zero, List.push_toArray, List.append_toArray, List.nil_append, List.cons_append]
  refine wpIn_wide.2 ?_
  have Ht := Lib.hid ht
  have Hm := Lib.hid hm
  clear ht hm
  go_wp2_with (first
    | ((with_reducible show wpList _ _ _ (⟨some 2, _, _, _, _, _⟩ :: _) _ _); refine wpList_allocZ (o := ⟨some 2, _, _, _, _, _⟩) rfl _ rfl rv_zero ?_; intro g2 w2 hg2 hB2 hb2 hs2; have Hg2 := Lib.hid (Nat.le_of_eq hg2.symm); have HB2 := Lib.hid hB2; have Hb2 := Lib.hid hb2; clear hg2 hs2 hB2 hb2)
    | (go_at_call 69; refine (plain_any _).mono ?_; rintro e w3 ⟨rfl, hb3⟩; have HB3 := Lib.hid (HB2.out.bel hb3); have Hb3 := Lib.hid (bel_tr Hb2.out hb3); clear hb3)
    | ((with_reducible show wpList _ _ _ (⟨some 10, _, _, _, _, _⟩ :: _) _ _); refine wpList_buildL (o := ⟨some 10, _, _, _, _, _⟩) rfl _ [(0, .tmp 9)] rfl built_rd rfl ?_)
    | ((with_reducible refine wpList_boxB (o := ⟨some 11, _, _, _, _, _⟩) rfl _ _ rfl rfl ?_); intro g w4 hg hB hb hs; have Hg := Lib.hid hg; have HB := Lib.hid hB; have HB4 := Lib.hid (HB3.out.bel hb); have Hb4 := Lib.hid (bel_tr Hb3.out hb); clear hg hB hb hs; refine holdL ?_))
  refine Lib.hid ?_
  go_wp2_with (first
    | ((with_reducible show wpList _ _ _ (⟨some 12, _, _, _, _, _⟩ :: _) _ _); refine wpList_makeS0 (o := ⟨some 12, _, _, _, _, _⟩) rfl _ rfl ?_; obtain ⟨gm, hgm⟩ : ∃ gm, gm = w4.heap.size := ⟨_, rfl⟩; rw [← hgm]; intro w5 hM hb hs; have HM5 := Lib.hid hM; have HGm := Lib.hid hgm; have Hb5 := Lib.hid hb; clear hM hgm hb hs)
    | ((with_reducible show wpList _ _ _ (⟨none, .insert _ _ _ (.tmp 14), _, _, _, _⟩ :: _) _ _); refine wpList_insertS (o := ⟨none, _, _, _, _, _⟩) rfl _ (.tmp 12) _ (.tmp 14) rfl Tryd.underlying118 Tryd.underlying9 rfl (x := wNs) rfl rfl HM5.out rfl ?_; intro w6 hM hg hs; have HM6 := Lib.hid hM; have HG6 := Lib.hid hg; clear hM hg hs)
    | ((with_reducible show wpList _ _ _ (⟨none, .insert _ _ _ (.tmp 16), _, _, _, _⟩ :: _) _ _); refine wpList_insertS (o := ⟨none, _, _, _, _, _⟩) rfl _ (.tmp 12) _ (.tmp 16) rfl Tryd.underlying118 Tryd.underlying9 rfl (x := wDo) rfl rfl HM6.out rfl ?_; intro w7 hM hg hs; have HM7 := Lib.hid hM; have HG7 := Lib.hid hg; clear hM hg hs)
    | ((with_reducible show wpList _ _ _ (⟨none, .insert _ _ _ (.tmp 18), _, _, _, _⟩ :: _) _ _); refine wpList_insertS (o := ⟨none, _, _, _, _, _⟩) rfl _ (.tmp 12) _ (.tmp 18) rfl Tryd.underlying118 Tryd.underlying9 rfl (x := wSe) rfl rfl HM7.out rfl ?_; intro w8 hM hg hs; have HM8 := Lib.hid hM; have HG8 := Lib.hid hg; clear hM hg hs)
    | ((with_reducible show wpList _ _ _ (⟨none, .insert _ _ _ (.tmp 20), _, _, _, _⟩ :: _) _ _); refine wpList_insertS (o := ⟨none, _, _, _, _, _⟩) rfl _ (.tmp 12) _ (.tmp 20) rfl Tryd.underlying118 Tryd.underlying9 rfl (x := wSo) rfl rfl HM8.out rfl ?_; intro w9 hM hg hs; have HM9 := Lib.hid hM; have HG9 := Lib.hid hg; clear hM hg hs)
    | ((with_reducible show wpList _ _ _ (⟨none, .insert _ _ _ (.tmp 22), _, _, _, _⟩ :: _) _ _); refine wpList_insertS (o := ⟨none, _, _, _, _, _⟩) rfl _ (.tmp 12) _ (.tmp 22) rfl Tryd.underlying118 Tryd.underlying9 rfl (x := wOp) rfl rfl HM9.out rfl ?_; intro w10 hM hg hs; have HM10 := Lib.hid hM; have HG10 := Lib.hid hg; clear hM hg hs; refine holdL ?_))
  refine Lib.hid ?_
  have hG : w5.grownBy w10 (some gm) := gr_trans (gr_trans (gr_trans (gr_trans HG6.out HG7.out) HG8.out) HG9.out) HG10.out
  have hb45 : Below w4.heap.size w4 w5 := by rw [← HGm.out]; exact Hb5.out
  have hgm4 : gm = w4.heap.size := HGm.out
  have hlt2 := HB4.out.lt
  have hltg := HB.out.lt
  have hgw : w.heap.size ≤ g := by rw [Hg.out]; exact Hb3.out.size
  have hgmw : w.heap.size ≤ gm := by rw [hgm4]; exact Hb4.out.size
  have HB10 : Hid (Bk w10 g 116 rvP0) := Lib.hid ((HB.out.bel hb45).grown hG (fun e => by injection e with e; omega))
  have HR10 : Hid (Bk w10 g2 68 rvZ) := Lib.hid ((HB4.out.bel hb45).grown hG (fun e => by injection e with e; omega))
  have HM : Hid (MapS w10 gm (doL g)) := HM10
  have Hb10 : Hid (Below w.heap.size w w10) := Lib.hid ((Hb4.out.trans (hb45.mono Hb4.out.size)).grown hG (Nat.le_trans Hb4.out.size hb45.size) (fun k e => by cases e; exact hgmw))
  have hgg : g < gm := by omega
  have hg2g : g2 < gm := by omega
  have Hgg := Lib.hid hgg
  have Hg2g := Lib.hid hg2g
  have Hgw := Lib.hid hgw
  have Hgmw := Lib.hid hgmw
  clear hG hb45 hgm4 hlt2 hltg hgw hgmw hgg hg2g HB HB2 HB3 HB4 Hb2 Hb3 Hb4 Hb5 HM5 HM6 HM7 HM8 HM9 HM10 HG6 HG7 HG8 HG9 HG10 HGm Hg
  go_wp2_with fail
  refine (lall_any s false _).mono ?_
  rintro e w2 ⟨rfl, hw2⟩
  obtain ⟨g4, hg4⟩ : ∃ g, g = w10.heap.size := ⟨_, rfl⟩
  obtain ⟨b4, hb4⟩ : ∃ b, b = (w10.alloc (.cells #[.map (some gm)] 118)).heap.size := ⟨_, rfl⟩
  rw [← hg4, ← hb4]
  have B3 : Boxed w2 g4 118 (.map (some gm)) := by rw [hw2, hg4]; exact ((Boxed.new w10 _ _).alloc _).alloc _
  have Bs : Boxed w2 b4 9 (stv s) := by rw [hw2, hb4]; exact (Boxed.new _ _ _).alloc _
  have Bb : Boxed w2 (b4 + 1) 4 (.bool false) := by
    rw [hw2, hb4, ← World.size_alloc (w10.alloc (.cells #[.map (some gm)] 118)) (.cells #[.string ⟨s.toArray⟩] 9)]
    exact Boxed.new _ _ _
  have hb102 : Below w10.heap.size w10 w2 := by rw [hw2]; exact (((Below.refl _ w10).alloc (Nat.le_refl _) _).alloc (by simp) _).alloc (by simp; omega) _
  have hg4l : gm < g4 := by rw [hg4]; exact (Array.getElem?_eq_some_iff.1 HM.out).1
  have hg4w : g4 < w2.heap.size := B3.lt
  have HB2 := Lib.hid (HB10.out.bel hb102)
  have HR2 := Lib.hid (HR10.out.bel hb102)
  have HM2 := Lib.hid (HM.out.bel hb102)
  have Hb02 := Lib.hid (Hb10.out.trans (hb102.mono Hb10.out.size))
  have Hlen := Lib.hid (alL_len false s)
  have h1 := Hgg.out
  have h2 := Hg2g.out
  have h3 := Hgw.out
  have h4 := Hgmw.out
  have h5 := Hg2.out
  clear hw2 hb4 hg4 hb102 HB10 HR10 HM Hb10 Hg2
  go_wp2
  refine (wpIn_wide (n := 0)).1 ?_
  refine range_seqC (gf := 76) (lb := #[.pointer (some ⟨b4, 0, none⟩), .pointer (some ⟨b4 + 1, 0, none⟩)]) rfl (enters_of Tryd.func76 (by kernel_rfl) rfl) (all_seq false s b4 (b4 + 1) w2 Bs Bb (by omega)) (Below.refl _ _) (fun h k => KpA.trans h k) (fun W l o o' h hc => KpA.put W l o o' h hc)
    (fun c args V he => by obtain ⟨v, h, _⟩ := he; rw [h]; rfl) (fun c args => encA_own _ c args)
    (fun i V => RpI w g gm g4 (alL false s) i V ∧ Bk V g2 68 rvZ)
    (fun _ _ => False)
    (fun i X Y row hs hg hr => ⟨hs.1.kept hg (Harm.loop (by omega) hr) (fun e => by have := (hr _ e.symm).1; omega) (fun e => by have := (hr _ e.symm).1; omega) (fun e => by have := (hr _ e.symm).1; omega), hs.2.grown hg (fun e => by have := (hr _ e.symm).1; omega)⟩) (fun c => ownFrom_pure _ (fun _ => False))
    ⟨⟨⟨.slice none 0 0, .slice none 0 0, .slice none 0 0, HB2.out, RvOwn.rv0 _ _⟩, HM2.out, B3, Hb02.out⟩, HR2.out⟩
    (fun args => { tmps := #[.string ⟨s.toArray⟩, undef, .pointer (some ⟨g2, 0, none⟩), .pointer (some ⟨g, 0, none⟩), .pointer (some ⟨g4, 0, none⟩), undef, args.getD 1 undef, undef, undef, .agg rvP0, .agg rvP0, .pointer (some ⟨g, 0, none⟩), .map (some gm), .pointer (some ⟨g, 0, none⟩), .func (.func 70) #[.pointer (some ⟨g, 0, none⟩)] #[], .pointer (some ⟨g, 0, none⟩), .func (.func 71) #[.pointer (some ⟨g, 0, none⟩)] #[], .pointer (some ⟨g, 0, none⟩), .func (.func 72) #[.pointer (some ⟨g, 0, none⟩)] #[], .pointer (some ⟨g, 0, none⟩), .func (.func 73) #[.pointer (some ⟨g, 0, none⟩)] #[], .pointer (some ⟨g, 0, none⟩), .func (.func 74) #[.pointer (some ⟨g, 0, none⟩)] #[], .map (some gm), .string ⟨s.toArray⟩, .func (.func 76) #[] #[.pointer (some ⟨b4, 0, none⟩), .pointer (some ⟨b4 + 1, 0, none⟩)], args.getD 0 undef, args.getD 1 undef, undef, undef, undef, undef, undef, undef, undef, undef, undef, undef, undef, undef, undef, undef, undef, undef, undef, undef, undef, undef], defers := [] }) ?assign ?body ?done ?stop
  case assign =>
    intro l2 c args V K he hK
    obtain ⟨v, rfl, _⟩ := he
    gi_wp2
    exact hK
  case body =>
    rintro l2 i c args V hl2 ⟨r, hr⟩ ⟨hI, hR2⟩ hc he
    obtain ⟨va, rfl, hsl⟩ := he
    have hbd := alL_bd hc
    have HI := Lib.hid hI
    have HR := Lib.hid hR2
    have Hnx := Lib.hid (rvF_next hc)
    have hfew := rvF_few ((alL false s).take i)
    have hVw := hI.b.size
    clear hI hR2 hr hc B3 Bs Bb HB2 HR2 HM2 Hb02
    obtain ⟨ln, F⟩ := c
    dsimp only at *
    generalize hR : rvF ((alL false s).take i) = R at *
    have HRi := Lib.hid hR
    clear hR
    cases F with
    | nil =>
      obtain ⟨A, cp, rfl, _⟩ := hsl.any
      clear hsl
      gi_wp2
      exact ⟨keeps_below (Below.refl _ _), KpA.below (Below.refl _ _), ⟨by rw [Hnx.out]; have h := HI.out.at_; rw [HRi.out] at h; exact h, HI.out.map, HI.out.bx, HI.out.b⟩, HR.out⟩
    | cons f F =>
      obtain ⟨b, off, cp, rfl, hcp, hbl, hcell⟩ := hsl.pos (by simp)
      have hc0 : V.cell? ⟨b, off, none⟩ = some (.string ⟨f.toArray⟩) := by
        have := hcell 0 (stv f) rfl
        rwa [Nat.add_zero] at this
      have c4 : V.cell? ⟨g4, 0, none⟩ = some (.map (some gm)) := HI.out.bx.cell 0
      have Hsl := Lib.hid hsl
      have HAt : Hid (RvAt w.heap.size V g R) := Lib.hid (by have h := HI.out.at_; rwa [HRi.out] at h)
      have HM := Lib.hid HI.out.map
      have hFl : F.length ≤ 100000 := by have := hbd.1; simp at this; omega
      have hFb : ∀ x ∈ F, x.length ≤ 1000000 := fun x hx => by have := hbd.2 x (by simp [hx]); omega
      have HFb := Lib.hid hFb
      have Hnx2 : Hid (rvF ((alL false s).take (i + 1)) = sayS R f F) := Lib.hid Hnx.out
      have e2 : (((F.length : Int) + 1) == 0) = false := by rw [beq_eq_false_iff_ne]; omega
      have e3 : (0 : Int) < (F.length : Int) + 1 := by omega
      have hMl : Tryd.prog.underlying 118 = some (.map 9 117) := Tryd.underlying118
      have HfinX : Hid (∀ (x : BelT V) (w6 : World), RvAt w.heap.size w6 g (sayS R f F) → Chg w.heap.size tyC x.at_ w6 → (KeepsFrom w2.heap.size V w6 ∧ KpA V w6 ∧ RpI w g gm g4 (alL false s) (i + 1) w6 ∧ Bk w6 g2 68 rvZ)) := Lib.hid (fun x w6 h6 hC => by
        have hx := x.bel
        refine ⟨(keeps_below hx).trans (hC.keeps _), (KpA.below hx).trans (hC.kpA (by decide) (by decide)), ⟨by rw [Hnx2.out]; exact h6, hC.other (HI.out.map.bel hx) rfl, hC.bk (HI.out.bx.bel hx) (by decide), (HI.out.b.trans (hx.mono hVw)).trans (hC.bel (Nat.le_trans hVw hx.size))⟩, hC.bk (HR.out.bel hx) (by decide)⟩)
      clear hsl hcell hFb Hnx HRi
      by_cases hf1 : f = wNs
      · subst hf1
        have hv : (entS wNs (doL g)).getD .nilFunc = .func (.func 70) #[.pointer (some ⟨g, 0, none⟩)] #[] := rfl
        have hb : (entS wNs (doL g)).isSome = true := rfl
        have HX : Hid (∀ (x : BelT V) v, Sl x.at_ 1 v F.length (F.map stv) → Calls Tryd.prog 70 #[.pointer (some ⟨g, 0, none⟩), v] x.at_ fun e w6 => e = .returned (.tuple #[]) ∧ RvAt w.heap.size w6 g (sayS R wNs F) ∧ Chg w.heap.size tyC x.at_ w6) := Lib.hid (fun x v hs => by
          rw [say_ns]
          exact (name_any w.heap.size g R v F x.at_ ((Ht.out.below HI.out.b).below x.bel) ((Hm.out.below HI.out.b).below x.bel) (HAt.out.bel x.bel) h3 (Nat.le_trans hVw x.bel.size) hs hFl HFb.out hfew))
        unfold wNs at hc0
        gi_wp2
        refine wpIn_region_bel (fun ⟨_, _, h⟩ => h) rfl (by kernel_rfl) (by kernel_rfl) ?_
        repeat (first
          | go_big_quiet_skip
          | (go_big_quiet_want; first
              | ((with_reducible show (⟨some 32, _, _, _, _, _⟩ : Oper).quiet _ _ _ _); refine quiet_loadC (o := ⟨some 32, _, _, _, _, _⟩) _ _ rfl rfl c4 hMl rfl (by simp only [Act.put, List.setIfInBounds_toArray, List.set_cons_succ, List.set_cons_zero]; exact rfl) ?_; go_big_quiet_on)
              | ((with_reducible show (⟨some 35, _, _, _, _, _⟩ : Oper).quiet _ _ _ _); refine quiet_loadC (o := ⟨some 35, _, _, _, _, _⟩) _ _ rfl rfl hc0 Tryd.underlying9 rfl (by simp only [Act.put, List.setIfInBounds_toArray, List.set_cons_succ, List.set_cons_zero]; exact rfl) ?_; go_big_quiet_on)
              | ((with_reducible show (⟨some 36, _, _, _, _, _⟩ : Oper).quiet _ _ _ _); refine quiet_lookupS (o := ⟨some 36, _, _, _, _, _⟩) _ _ _ rfl hMl Tryd.underlying9 zero_do rfl (s := wNs) rfl HM.out hv hb (by simp only [Act.put, List.setIfInBounds_toArray, List.set_cons_succ, List.set_cons_zero]; exact rfl) ?_; go_big_quiet_on)
              | (go_big_quiet_op; go_big_quiet_on)))
        refine wpQuiet_nil ?_
        rintro _ ⟨x, rfl⟩
        gi_wp2
        all_goals
          refine ⟨trivial, rfl, ?_⟩
          refine (CallsIn.inRound l2 (callsIn_wide.2 (HX.out x _ (by first | exact (slA5 Hsl.out (by assumption)).below x.bel | exact (slB5 Hsl.out (by assumption)).below x.bel)))).mono ?_
          rintro e w6 ⟨rfl, hR6, hC6⟩
          have HR6 := Lib.hid hR6
          have HC6 := Lib.hid hC6
          clear hR6 hC6
          gi_wp2
          exact HfinX.out x w6 HR6.out HC6.out
      by_cases hf2 : f = wDo
      · subst hf2
        have hv : (entS wDo (doL g)).getD .nilFunc = .func (.func 71) #[.pointer (some ⟨g, 0, none⟩)] #[] := rfl
        have hb : (entS wDo (doL g)).isSome = true := rfl
        have HX : Hid (∀ (x : BelT V) v, Sl x.at_ 1 v F.length (F.map stv) → Calls Tryd.prog 71 #[.pointer (some ⟨g, 0, none⟩), v] x.at_ fun e w6 => e = .returned (.tuple #[]) ∧ RvAt w.heap.size w6 g (sayS R wDo F) ∧ Chg w.heap.size tyC x.at_ w6) := Lib.hid (fun x v hs => by
          rw [say_do]
          exact (domain_any w.heap.size g R v F x.at_ (HAt.out.bel x.bel) h3 (Nat.le_trans hVw x.bel.size) hs hFl HFb.out))
        unfold wDo at hc0
        gi_wp2
        refine wpIn_region_bel (fun ⟨_, _, h⟩ => h) rfl (by kernel_rfl) (by kernel_rfl) ?_
        repeat (first
          | go_big_quiet_skip
          | (go_big_quiet_want; first
              | ((with_reducible show (⟨some 32, _, _, _, _, _⟩ : Oper).quiet _ _ _ _); refine quiet_loadC (o := ⟨some 32, _, _, _, _, _⟩) _ _ rfl rfl c4 hMl rfl (by simp only [Act.put, List.setIfInBounds_toArray, List.set_cons_succ, List.set_cons_zero]; exact rfl) ?_; go_big_quiet_on)
              | ((with_reducible show (⟨some 35, _, _, _, _, _⟩ : Oper).quiet _ _ _ _); refine quiet_loadC (o := ⟨some 35, _, _, _, _, _⟩) _ _ rfl rfl hc0 Tryd.underlying9 rfl (by simp only [Act.put, List.setIfInBounds_toArray, List.set_cons_succ, List.set_cons_zero]; exact rfl) ?_; go_big_quiet_on)
              | ((with_reducible show (⟨some 36, _, _, _, _, _⟩ : Oper).quiet _ _ _ _); refine quiet_lookupS (o := ⟨some 36, _, _, _, _, _⟩) _ _ _ rfl hMl Tryd.underlying9 zero_do rfl (s := wDo) rfl HM.out hv hb (by simp only [Act.put, List.setIfInBounds_toArray, List.set_cons_succ, List.set_cons_zero]; exact rfl) ?_; go_big_quiet_on)
              | (go_big_quiet_op; go_big_quiet_on)))
        refine wpQuiet_nil ?_
        rintro _ ⟨x, rfl⟩
        gi_wp2
        all_goals
          refine ⟨trivial, rfl, ?_⟩
          refine (CallsIn.inRound l2 (callsIn_wide.2 (HX.out x _ (by first | exact (slA5 Hsl.out (by assumption)).below x.bel | exact (slB5 Hsl.out (by assumption)).below x.bel)))).mono ?_
          rintro e w6 ⟨rfl, hR6, hC6⟩
          have HR6 := Lib.hid hR6
          have HC6 := Lib.hid hC6
          clear hR6 hC6
          gi_wp2
          exact HfinX.out x w6 HR6.out HC6.out
      by_cases hf3 : f = wSe
      · subst hf3
        have hv : (entS wSe (doL g)).getD .nilFunc = .func (.func 72) #[.pointer (some ⟨g, 0, none⟩)] #[] := rfl
        have hb : (entS wSe (doL g)).isSome = true := rfl
        have HX : Hid (∀ (x : BelT V) v, Sl x.at_ 1 v F.length (F.map stv) → Calls Tryd.prog 72 #[.pointer (some ⟨g, 0, none⟩), v] x.at_ fun e w6 => e = .returned (.tuple #[]) ∧ RvAt w.heap.size w6 g (sayS R wSe F) ∧ Chg w.heap.size tyC x.at_ w6) := Lib.hid (fun x v hs => by
          rw [say_se]
          exact (search_any w.heap.size g R v F x.at_ (HAt.out.bel x.bel) h3 (Nat.le_trans hVw x.bel.size) hs hFl HFb.out))
        unfold wSe at hc0
        gi_wp2
        refine wpIn_region_bel (fun ⟨_, _, h⟩ => h) rfl (by kernel_rfl) (by kernel_rfl) ?_
        repeat (first
          | go_big_quiet_skip
          | (go_big_quiet_want; first
              | ((with_reducible show (⟨some 32, _, _, _, _, _⟩ : Oper).quiet _ _ _ _); refine quiet_loadC (o := ⟨some 32, _, _, _, _, _⟩) _ _ rfl rfl c4 hMl rfl (by simp only [Act.put, List.setIfInBounds_toArray, List.set_cons_succ, List.set_cons_zero]; exact rfl) ?_; go_big_quiet_on)
              | ((with_reducible show (⟨some 35, _, _, _, _, _⟩ : Oper).quiet _ _ _ _); refine quiet_loadC (o := ⟨some 35, _, _, _, _, _⟩) _ _ rfl rfl hc0 Tryd.underlying9 rfl (by simp only [Act.put, List.setIfInBounds_toArray, List.set_cons_succ, List.set_cons_zero]; exact rfl) ?_; go_big_quiet_on)
              | ((with_reducible show (⟨some 36, _, _, _, _, _⟩ : Oper).quiet _ _ _ _); refine quiet_lookupS (o := ⟨some 36, _, _, _, _, _⟩) _ _ _ rfl hMl Tryd.underlying9 zero_do rfl (s := wSe) rfl HM.out hv hb (by simp only [Act.put, List.setIfInBounds_toArray, List.set_cons_succ, List.set_cons_zero]; exact rfl) ?_; go_big_quiet_on)
              | (go_big_quiet_op; go_big_quiet_on)))
        refine wpQuiet_nil ?_
        rintro _ ⟨x, rfl⟩
        gi_wp2
        all_goals
          refine ⟨trivial, rfl, ?_⟩
          refine (CallsIn.inRound l2 (callsIn_wide.2 (HX.out x _ (by first | exact (slA5 Hsl.out (by assumption)).below x.bel | exact (slB5 Hsl.out (by assumption)).below x.bel)))).mono ?_
          rintro e w6 ⟨rfl, hR6, hC6⟩
          have HR6 := Lib.hid hR6
          have HC6 := Lib.hid hC6
          clear hR6 hC6
          gi_wp2
          exact HfinX.out x w6 HR6.out HC6.out
      by_cases hf4 : f = wSo
      · subst hf4
        have hv : (entS wSo (doL g)).getD .nilFunc = .func (.func 73) #[.pointer (some ⟨g, 0, none⟩)] #[] := rfl
        have hb : (entS wSo (doL g)).isSome = true := rfl
        have HX : Hid (∀ (x : BelT V) v, Sl x.at_ 1 v F.length (F.map stv) → Calls Tryd.prog 73 #[.pointer (some ⟨g, 0, none⟩), v] x.at_ fun e w6 => e = .returned (.tuple #[]) ∧ RvAt w.heap.size w6 g (sayS R wSo F) ∧ Chg w.heap.size tyC x.at_ w6) := Lib.hid (fun x v hs => by
          rw [say_so]
          exact (sort_any w.heap.size g R v F x.at_ ((Ht.out.below HI.out.b).below x.bel) (HAt.out.bel x.bel) h3 (Nat.le_trans hVw x.bel.size) hs hFl HFb.out))
        unfold wSo at hc0
        gi_wp2
        refine wpIn_region_bel (fun ⟨_, _, h⟩ => h) rfl (by kernel_rfl) (by kernel_rfl) ?_
        repeat (first
          | go_big_quiet_skip
          | (go_big_quiet_want; first
              | ((with_reducible show (⟨some 32, _, _, _, _, _⟩ : Oper).quiet _ _ _ _); refine quiet_loadC (o := ⟨some 32, _, _, _, _, _⟩) _ _ rfl rfl c4 hMl rfl (by simp only [Act.put, List.setIfInBounds_toArray, List.set_cons_succ, List.set_cons_zero]; exact rfl) ?_; go_big_quiet_on)
              | ((with_reducible show (⟨some 35, _, _, _, _, _⟩ : Oper).quiet _ _ _ _); refine quiet_loadC (o := ⟨some 35, _, _, _, _, _⟩) _ _ rfl rfl hc0 Tryd.underlying9 rfl (by simp only [Act.put, List.setIfInBounds_toArray, List.set_cons_succ, List.set_cons_zero]; exact rfl) ?_; go_big_quiet_on)
              | ((with_reducible show (⟨some 36, _, _, _, _, _⟩ : Oper).quiet _ _ _ _); refine quiet_lookupS (o := ⟨some 36, _, _, _, _, _⟩) _ _ _ rfl hMl Tryd.underlying9 zero_do rfl (s := wSo) rfl HM.out hv hb (by simp only [Act.put, List.setIfInBounds_toArray, List.set_cons_succ, List.set_cons_zero]; exact rfl) ?_; go_big_quiet_on)
              | (go_big_quiet_op; go_big_quiet_on)))
        refine wpQuiet_nil ?_
        rintro _ ⟨x, rfl⟩
        gi_wp2
        all_goals
          refine ⟨trivial, rfl, ?_⟩
          refine (CallsIn.inRound l2 (callsIn_wide.2 (HX.out x _ (by first | exact (slA5 Hsl.out (by assumption)).below x.bel | exact (slB5 Hsl.out (by assumption)).below x.bel)))).mono ?_
          rintro e w6 ⟨rfl, hR6, hC6⟩
          have HR6 := Lib.hid hR6
          have HC6 := Lib.hid hC6
          clear hR6 hC6
          gi_wp2
          exact HfinX.out x w6 HR6.out HC6.out
      by_cases hf5 : f = wOp
      · subst hf5
        have hv : (entS wOp (doL g)).getD .nilFunc = .func (.func 74) #[.pointer (some ⟨g, 0, none⟩)] #[] := rfl
        have hb : (entS wOp (doL g)).isSome = true := rfl
        have HX : Hid (∀ (x : BelT V) v, Sl x.at_ 1 v F.length (F.map stv) → Calls Tryd.prog 74 #[.pointer (some ⟨g, 0, none⟩), v] x.at_ fun e w6 => e = .returned (.tuple #[]) ∧ RvAt w.heap.size w6 g (sayS R wOp F) ∧ Chg w.heap.size tyC x.at_ w6) := Lib.hid (fun x v hs => by
          rw [say_op]
          exact (opts_any w.heap.size g R v F x.at_ (HAt.out.bel x.bel) h3 hs hFl HFb.out).mono fun e w6 ⟨h1, h2, h4⟩ => ⟨h1, h2, (HAt.out.bel x.bel).chg_of h3 h4⟩)
        unfold wOp at hc0
        gi_wp2
        refine wpIn_region_bel (fun ⟨_, _, h⟩ => h) rfl (by kernel_rfl) (by kernel_rfl) ?_
        repeat (first
          | go_big_quiet_skip
          | (go_big_quiet_want; first
              | ((with_reducible show (⟨some 32, _, _, _, _, _⟩ : Oper).quiet _ _ _ _); refine quiet_loadC (o := ⟨some 32, _, _, _, _, _⟩) _ _ rfl rfl c4 hMl rfl (by simp only [Act.put, List.setIfInBounds_toArray, List.set_cons_succ, List.set_cons_zero]; exact rfl) ?_; go_big_quiet_on)
              | ((with_reducible show (⟨some 35, _, _, _, _, _⟩ : Oper).quiet _ _ _ _); refine quiet_loadC (o := ⟨some 35, _, _, _, _, _⟩) _ _ rfl rfl hc0 Tryd.underlying9 rfl (by simp only [Act.put, List.setIfInBounds_toArray, List.set_cons_succ, List.set_cons_zero]; exact rfl) ?_; go_big_quiet_on)
              | ((with_reducible show (⟨some 36, _, _, _, _, _⟩ : Oper).quiet _ _ _ _); refine quiet_lookupS (o := ⟨some 36, _, _, _, _, _⟩) _ _ _ rfl hMl Tryd.underlying9 zero_do rfl (s := wOp) rfl HM.out hv hb (by simp only [Act.put, List.setIfInBounds_toArray, List.set_cons_succ, List.set_cons_zero]; exact rfl) ?_; go_big_quiet_on)
              | (go_big_quiet_op; go_big_quiet_on)))
        refine wpQuiet_nil ?_
        rintro _ ⟨x, rfl⟩
        gi_wp2
        all_goals
          refine ⟨trivial, rfl, ?_⟩
          refine (CallsIn.inRound l2 (callsIn_wide.2 (HX.out x _ (by first | exact (slA5 Hsl.out (by assumption)).below x.bel | exact (slB5 Hsl.out (by assumption)).below x.bel)))).mono ?_
          rintro e w6 ⟨rfl, hR6, hC6⟩
          have HR6 := Lib.hid hR6
          have HC6 := Lib.hid hC6
          clear hR6 hC6
          gi_wp2
          exact HfinX.out x w6 HR6.out HC6.out
      have hv : (entS f (doL g)).getD .nilFunc = .nilFunc := by rw [ent_no hf1 hf2 hf3 hf4 hf5]; rfl
      have hb : (entS f (doL g)).isSome = false := by rw [ent_no hf1 hf2 hf3 hf4 hf5]; rfl
      have HE := Lib.hid (say_no (R := R) (F := F) hf1 hf2 hf3 hf4 hf5)
      clear hf1 hf2 hf3 hf4 hf5
      gi_wp2
      refine wpIn_region_bel (fun ⟨_, _, h⟩ => h) rfl (by kernel_rfl) (by kernel_rfl) ?_
      repeat (first
        | go_big_quiet_skip
        | (go_big_quiet_want; first
            | ((with_reducible show (⟨some 32, _, _, _, _, _⟩ : Oper).quiet _ _ _ _); refine quiet_loadC (o := ⟨some 32, _, _, _, _, _⟩) _ _ rfl rfl c4 hMl rfl (by simp only [Act.put, List.setIfInBounds_toArray, List.set_cons_succ, List.set_cons_zero]; exact rfl) ?_; go_big_quiet_on)
            | ((with_reducible show (⟨some 35, _, _, _, _, _⟩ : Oper).quiet _ _ _ _); refine quiet_loadC (o := ⟨some 35, _, _, _, _, _⟩) _ _ rfl rfl hc0 Tryd.underlying9 rfl (by simp only [Act.put, List.setIfInBounds_toArray, List.set_cons_succ, List.set_cons_zero]; exact rfl) ?_; go_big_quiet_on)
            | ((with_reducible show (⟨some 36, _, _, _, _, _⟩ : Oper).quiet _ _ _ _); refine quiet_lookupS (o := ⟨some 36, _, _, _, _, _⟩) _ _ _ rfl hMl Tryd.underlying9 zero_do rfl (s := f) rfl HM.out hv hb (by simp only [Act.put, List.setIfInBounds_toArray, List.set_cons_succ, List.set_cons_zero]; exact rfl) ?_; go_big_quiet_on)
            | (go_big_quiet_op; go_big_quiet_on)))
      refine wpQuiet_nil ?_
      rintro _ ⟨x, rfl⟩
      gi_wp2
      exact HfinX.out x x.at_ (by rw [HE.out]; exact HAt.out.bel x.bel) (Chg.refl _ _ _)
  case done =>
    rintro D V hD ⟨hI, hR2⟩ hK
    obtain ⟨vs, vn, vp, hB, hO⟩ := hI.at_
    rw [List.take_length] at hB hO
    obtain ⟨N, hN, hN0⟩ := hO.n
    obtain ⟨a1, c1, rfl⟩ := own_any hO.s
    obtain ⟨a2, c2, rfl⟩ := own_any hN.own
    obtain ⟨a3, c3, rfl⟩ := own_any hO.p
    have HO := Lib.hid hO
    have Hb := Lib.hid hI.b
    have HK := Lib.hid hK
    have hRg : V.rangeAt g 0 (rvL (.slice a1 (rvF (alL false s)).S.length c1) (.slice a2 N.length c2) (.slice a3 (rvF (alL false s)).P.length c3) (rvF (alL false s))) := Bk.rangeL hB 0 _ [] (by simp)
    have HrP : Hid (rvP s = rvF (alL false s)) := Lib.hid rfl
    clear hO hN hN0 hI hK hB B3 Bs Bb HB2 HR2 HM2 Hb02 Hlen
    generalize rvF (alL false s) = R at *
    go_wp2_with (first
      | ((with_reducible show wpList _ _ _ (⟨some 47, _, _, _, _, _⟩ :: _) _ _); refine wpList_load_mid (op := ⟨some 47, _, _, _, _, _⟩) rfl _ _ rfl _ _ rfl _ _ hRg rv_under rfl rv_size ?_)
      | ((with_reducible show wpList _ _ _ (⟨none, .store _ _ _, _, _, _, _⟩ :: _) _ _); refine wpList_storeB (o := ⟨none, _, _, _, _, _⟩) rfl _ (.tmp 2) _ rfl rfl rfl hR2 rv_size rfl (rvA_one _ rfl rfl rfl) ?_; intro w3 hB3 hS3))
    simp only [Act.put, List.setIfInBounds_toArray, List.set_cons_zero, List.set_cons_succ]
    rw [HrP.out]
    have hK3 : w3.heap[D]? = some (.deferred (some [])) := (hS3.block D (by intro e; omega)).trans HK.out
    refine ⟨by simp, .inl ⟨_, _, rfl, run_takeDeferred hK3, ?_⟩⟩
    have hg := grownBy_putObj' w3 D (.deferred none)
    have hh : ∀ T b', b' ≤ w.heap.size → Harm T b' w3 (some D) := fun T b' hb' => Harm.loop (B := w.heap.size) hb' (fun r e => by cases e; exact ⟨by omega, _, hK3, rfl⟩)
    have B5 := (hg.block g2 (heap_lt hB3) (by intro e; cases e; omega)).trans hB3
    have hh2 : ∀ T, 68 ∉ T → Harm T w.heap.size V (some g2) := fun T hT => Harm.type h5 (show V.heap[g2]? = _ from hR2) hT
    have hb3 : Below w.heap.size w w3 := Hb.out.trans (hS3.below h5)
    refine ⟨_, results_cell_row rfl _ _ g2 _ _ (0, 0) _ rfl B5 rv_under (by decide) rv_size, _, _, _, rfl, ?_, Below.kept hb3 hb3.size hg (hh [] _ (Nat.le_refl _))⟩
    exact (HO.out.kept hS3.grown (hh2 _ (by decide))).kept hg (hh _ _ (Nat.le_refl _))
  case stop =>
    rintro D c V hD hx hK
    exact hx.elim
end Go.Proofs.YtgebcifkbldfoaaDoor

/- The reference's Same of what two files say (17), where they say the same. (Not beside XPoC.) -/
namespace Go.Proofs.YtgebcifkbldfoaaDoor
open Go.RowKit
attribute [local go_sem] ba_get ext_take ext_drop ext_any ba_app

theorem Pf.same_iff {a b : Pf} : (a.ad = b.ad ∧ a.bits = b.bits) ↔ a = b := ⟨fun ⟨h1, h2⟩ => by cases a; cases b; simp only at h1 h2; subst h1 h2; rfl, fun h => by rw [h]; exact ⟨rfl, rfl⟩⟩
instance : DecidableEq Pf := fun _ _ => decidable_of_iff _ Pf.same_iff
theorem list2 {α β : Type} {f : α → β} {l : List α} {x y : β} (h : l.map f = [x, y]) : ∃ a b, l = [a, b] ∧ f a = x ∧ f b = y := by
  match l, h with
  | [a, b], h => simp at h; exact ⟨a, b, rfl, h⟩
theorem eqf2 {P : Program} (w : World) (d : Nat) (xs ys : Array Value) (f0 f1 : Field) (m0 : f0.name ≠ "_") (m1 : f1.name ≠ "_") {x0 x1 y0 y1 : Value} {b0 b1 : Bool}
    (p0 : (part f0.type xs f0.offset).run P w = .ok x0 w) (q0 : (part f0.type ys f0.offset).run P w = .ok y0 w) (e0 : (Op.equalIn d f0.type x0 y0).run P w = .ok b0 w)
    (p1 : (part f1.type xs f1.offset).run P w = .ok x1 w) (q1 : (part f1.type ys f1.offset).run P w = .ok y1 w) (e1 : (Op.equalIn d f1.type x1 y1).run P w = .ok b1 w) :
    (Op.eqFields d xs ys [f0, f1]).run P w = .ok (b0 && b1) w := by
  cases b0
  · simp [Op.eqFields, m0, p0, q0, e0]
  · cases b1 <;> simp [Op.eqFields, m0, m1, p0, q0, e0, p1, q1, e1]
theorem pf_fields : (Tryd.prog.fieldsOf 72).toList.map (fun f => (f.name == "_", f.type, f.offset)) = [(false, 34, 0), (false, 3, 18)] := by kernel_rfl
theorem size_of {t : TypeId} {n : Nat} (h : (Tryd.prog.info? t).map (·.size) = some n) (w : World) : (sizeOf t).run Tryd.prog w = .ok n w := by
  cases hq : Tryd.prog.info? t with
  | none => rw [hq] at h; cases h
  | some i => rw [hq] at h; simp [sizeOf, typeInfo, hq]; simpa using h
theorem pfA_ad (p : Pf) : (pfA p).extract 0 (0 + 18) = adA p.ad := by
  unfold pfA adA pfL
  rw [List.extract_toArray]
  have := adL_len p.ad
  simp [this]
theorem part_pfAd (w : World) (x : Pf) : (part 34 (pfA x) 0).run Tryd.prog w = .ok (.agg (adA x.ad)) w := by
  simp only [part, isAgg, Sem.run_bind, run_underlying ad_under, Result.andThen_ok, Sem.run_pure, if_true, size_of ad_size, pfA_ad]
theorem part_pfBits (w : World) (x : Pf) : (part 3 (pfA x) 18).run Tryd.prog w = .ok (.int .i64 x.bits) w := by
  simp [part, isAgg, run_underlying Tryd.underlying3, pfA_18]
theorem run_pf_eq (w : World) (d : Nat) (a b : Pf) : (Op.equalIn (d + 4) 72 (.agg (pfA a)) (.agg (pfA b))).run Tryd.prog w = .ok (decide (a = b)) w := by
  rw [run_equalIn_struct w (d + 3) _ _ _ pf_under Tryd.stoodInHeld72]
  obtain ⟨f0, f1, hl, h0, h1⟩ := list2 pf_fields
  rw [hl]
  simp only [Prod.mk.injEq] at h0 h1
  obtain ⟨n0, t0, o0⟩ := h0
  obtain ⟨n1, t1, o1⟩ := h1
  rw [eqf2 w (d + 3) (pfA a) (pfA b) f0 f1 (by simpa using n0) (by simpa using n1)
    (by rw [t0, o0]; exact part_pfAd w a) (by rw [t0, o0]; exact part_pfAd w b) (by rw [t0]; exact run_ad_eq w d a.ad b.ad)
    (by rw [t1, o1]; exact part_pfBits w a) (by rw [t1, o1]; exact part_pfBits w b) (by rw [t1]; exact run_equalIn_int w (d + 2) 3 .i64 .i64 a.bits b.bits Tryd.underlying3)]
  have hb : (decide (a.ad = b.ad) && (a.bits == b.bits)) = decide (a = b) := by
    rw [Bool.eq_iff_iff]
    simp [← Pf.same_iff]
  rw [hb]
theorem pf_neq (w : World) (a b : Pf) : (binOp .neq 72 (.agg (pfA a)) (.agg (pfA b))).run Tryd.prog w = .ok (.bool (!decide (a = b))) w := by
  rw [run_neq_struct, run_pf_eq w 9996 a b]; rfl
theorem quiet_neqPf {w : World} {o : Oper} {a a' : Act} {K : Act → Prop} (x y : Operand) {t : TypeId} (ho : o.op = .binOp .neq 72 x y t) {b c : Pf} (hx : a.eval x = .agg (pfA b)) (hy : a.eval y = .agg (pfA c)) {r : Bool} (hr : (!decide (b = c)) = r)
    (ha : a.put o.dst (.bool r) = a') (hk : K a') : o.quiet Tryd.prog a (fun w' => ∃ y : BelT w, w' = y.at_) K := by
  subst ha hr
  refine ⟨_, ?_, hk⟩
  rintro _ ⟨z, rfl⟩
  unfold Oper.quietAt execOp
  simp only [ho, hx, hy, Sem.run_bind, run_eqGuard_agg z.at_ .neq 72 x y _ _ Tryd.eqGuardType72, Result.andThen_ok, pf_neq]
  exact ⟨rfl, rfl⟩
theorem quiet_loadPfR {w : World} {o : Oper} {a a' : Act} {K : Act → Prop} (x : Operand) (ho : o.op = .load 72 x) {g off : Nat} (hx : a.eval x = .pointer (some ⟨g, off, none⟩)) {b : Pf} (hB : w.rangeAt g off (pfL b))
    (ha : a.put o.dst (.agg (pfA b)) = a') (hk : K a') : o.quiet Tryd.prog a (fun w' => ∃ y : BelT w, w' = y.at_) K := by
  subst ha
  refine ⟨_, ?_, hk⟩
  rintro _ ⟨y, rfl⟩
  unfold Oper.quietAt execOp
  have hr : y.at_.rangeAt g off (pfL b) := fun j v hv => y.cell (hB j v hv)
  simp only [ho, hx, Instr.loadAt, Instr.sureAddr, Sem.run_bind, Sem.run_pure, Result.andThen_ok, run_loadVar_mid y.at_ g off 72 (pfL b) _ hr pf_under rfl (by rw [pfL_len]; exact pf_size)]
  exact ⟨rfl, rfl⟩
/-- what a file says, as it is read. -/
structure RvRd (w : World) (vs vn vp : Value) (R : Rv) : Prop where
  s : Sl w 18 vs R.S.length (R.S.flatMap adL)
  n : ∃ N, NmsAt w vn R.N N
  p : Sl w 19 vp R.P.length (R.P.flatMap pfL)
theorem RvRd.bel {w w' : World} {vs vn vp : Value} {R : Rv} (h : RvRd w vs vn vp R) (hb : Below w.heap.size w w') : RvRd w' vs vn vp R := by
  obtain ⟨N, hN⟩ := h.n
  exact ⟨h.s.below hb, ⟨N, hN.bel hb⟩, h.p.below hb⟩
theorem RvOwn.rd {b : Nat} {w : World} {vs vn vp : Value} {R : Rv} (h : RvOwn b w vs vn vp R) : RvRd w vs vn vp R := by
  obtain ⟨N, hN, _⟩ := h.n
  exact ⟨Sl.own h.s, ⟨N, hN.at_⟩, Sl.own h.p⟩
theorem RvRd.zero (w : World) : RvRd w (.slice none 0 0) (.slice none 0 0) (.slice none 0 0) rv0 := (RvOwn.rv0 0 w).rd
def RvFew (R : Rv) : Prop := R.S.length ≤ 1000 ∧ R.N.length ≤ 1000 ∧ R.P.length ≤ 1000
set_option maxRecDepth 100000 in
set_option maxHeartbeats 4000000 in
theorem rsame17_any (R : Rv) (vs vn vp us un up : Value) (w : World) (h : RvRd w vs vn vp R) (k : RvRd w us un up R) (hf : RvFew R) :
    Calls Tryd.prog 38 #[.agg (rvA vs vn vp R), .agg (rvA us un up R)] w (Good w) := by
  obtain ⟨N, hN⟩ := h.n
  obtain ⟨M, hM⟩ := k.n
  obtain ⟨a1, c1, rfl, _⟩ := h.s.any
  obtain ⟨a2, c2, rfl, _⟩ := hN.sl.any
  obtain ⟨a3, c3, rfl, _⟩ := h.p.any
  obtain ⟨b1, d1, rfl, _⟩ := k.s.any
  obtain ⟨b2, d2, rfl, _⟩ := hM.sl.any
  obtain ⟨b3, d3, rfl, _⟩ := k.p.any
  obtain ⟨f1, f2, f3⟩ := hf
  have hNl : N.length = R.N.length := by rw [← hN.is, List.length_map]
  have hMl : M.length = R.N.length := by rw [← hM.is, List.length_map]
  have HNm := Lib.hid (fun (w' : World) (hb : Below w.heap.size w w') => sameNms_any N M _ _ w' (hN.sl.below hb) (hM.sl.below hb) (fun q hq => (hN.ok q hq).bel hb) (fun q hq => (hM.ok q hq).bel hb) (by omega) (by omega))
  have HNe : Hid (decide (N.map (·.2) = M.map (·.2)) = true) := Lib.hid (decide_eq_true (hN.is.trans hM.is.symm))
  rw [HNe.out] at HNm
  have HAd := Lib.hid (fun (w' : World) (hb : Below w.heap.size w w') => sameAds_any R.S R.S _ _ w' (h.s.below hb) (k.s.below hb) (by omega) (by omega))
  rw [decide_eq_true rfl] at HAd
  have HP := Lib.hid h.p
  have KP := Lib.hid k.p
  clear hN hM h k hNl hMl HNe
  go_enter Tryd.func38, Tryd.ntmps38
  go_wp2_with (first
    | ((with_reducible show wpList _ _ _ (⟨some 2, _, _, _, _, _⟩ :: _) _ _); refine wpList_boxB (o := ⟨some 2, _, _, _, _, _⟩) rfl _ _ rfl rfl ?_; intro g2 w1 hg hB1 hb1 hs; have HB1 := Lib.hid hB1; have Hb1 := Lib.hid hb1; clear hg hs hB1 hb1)
    | ((with_reducible show wpList _ _ _ (⟨some 3, _, _, _, _, _⟩ :: _) _ _); refine wpList_boxB (o := ⟨some 3, _, _, _, _, _⟩) rfl _ _ rfl rfl ?_; intro g3 w2 hg hB2 hb2 hs; have HB2 := Lib.hid hB2; have HB1 := Lib.hid (HB1.out.bel hb2); have Hb2 := Lib.hid (bel_tr Hb1.out hb2); clear hg hs hB2 hb2; refine holdL ?_))
  refine Lib.hid ?_
  have p2 : w2.cell? ⟨g2, 2, none⟩ = some (.slice a3 R.P.length c3) := HB1.out.cell 2
  have q2 : w2.cell? ⟨g3, 2, none⟩ = some (.slice b3 R.P.length d3) := HB2.out.cell 2
  have p1 : w2.cell? ⟨g2, 1, none⟩ = some (.slice a2 N.length c2) := HB1.out.cell 1
  have q1 : w2.cell? ⟨g3, 1, none⟩ = some (.slice b2 M.length d2) := HB2.out.cell 1
  have eP : ((R.P.length : Int) != (R.P.length : Int)) = false := by simp
  go_wp2_with (first
    | (go_at_call 34; refine (HNm.out _ Hb2.out).mono ?_; rintro e w3 ⟨rfl, hb3⟩; have HC1 := Lib.hid (HB1.out.bel hb3); have HC2 := Lib.hid (HB2.out.bel hb3); have Hb3 := Lib.hid (bel_tr Hb2.out hb3); clear hb3 p2 q2 p1 q1; have p0 : w3.cell? ⟨g2, 0, none⟩ = some (.slice a1 R.S.length c1) := HC1.out.cell 0; have q0 : w3.cell? ⟨g3, 0, none⟩ = some (.slice b1 R.S.length d1) := HC2.out.cell 0)
    | (go_at_call 32; refine (HAd.out _ Hb3.out).mono ?_; rintro e w4 ⟨rfl, hb4⟩; have HD1 := Lib.hid (HC1.out.bel hb4); have HD2 := Lib.hid (HC2.out.bel hb4); have Hb4 := Lib.hid (bel_tr Hb3.out hb4); clear hb4 p0 q0; refine holdL ?_))
  refine Lib.hid ?_
  go_wp2_with fail
  go_loopw [5] (fun i wr => ∃ k : Nat, k ≤ R.P.length ∧ i = .int .i64 k ∧ Below w4.heap.size w4 wr) (fun i _ => R.P.length - (intOf i).toNat)
  case atStart => exact ⟨0, Nat.zero_le _, rfl, Below.refl _ _⟩
  case round =>
    obtain ⟨k, hk, rfl, hbel⟩ := hrel
    have p2 : wr.cell? ⟨g2, 2, none⟩ = some (.slice a3 R.P.length c3) := (HD1.out.bel hbel).cell 2
    have q2 : wr.cell? ⟨g3, 2, none⟩ = some (.slice b3 R.P.length d3) := (HD2.out.bel hbel).cell 2
    by_cases hlt : k < R.P.length
    · have hltI : (k : Int) < (R.P.length : Int) := by omega
      have hk0 : (0 : Int) ≤ (k : Int) := by omega
      have hbw : Below w.heap.size w wr := Hb4.out.trans (hbel.mono Hb4.out.size)
      obtain ⟨b, off, c, hv, hc, hbl, hcell⟩ := HP.out.pos (by omega)
      injection hv with hv1 _ hv2
      subst hv1 hv2
      obtain ⟨b', off', c', hv, hc', hbl', hcell'⟩ := KP.out.pos (by omega)
      injection hv with hv1 _ hv2
      subst hv1 hv2
      have hR0 := range_of pfL_len hcell hlt
      have hR0' := range_of pfL_len hcell' hlt
      have hR : wr.rangeAt b (off + k * 19) (pfL R.P[k]) := fun j u hu => ((hbw.cell (p := ⟨b, off + k * 19 + j, none⟩) hbl).trans (hR0 j u hu))
      have hR' : wr.rangeAt b' (off' + k * 19) (pfL R.P[k]) := fun j u hu => ((hbw.cell (p := ⟨b', off' + k * 19 + j, none⟩) hbl').trans (hR0' j u hu))
      clear hcell hcell' hR0 hR0' hbw
      generalize R.P[k] = x at *
      have hr : (!decide (x = x)) = false := by simp
      have Hr := Lib.hid hr
      have Hbel := Lib.hid hbel
      clear hr hbel
      go_upto_region 6 with (fail)
      refine wp_region_bel (by kernel_rfl) (by kernel_rfl) ?_
      repeat (first
        | go_big_quiet_skip
        | (go_big_quiet_want; first
            | ((with_reducible show (⟨some 37, _, _, _, _, _⟩ : Oper).quiet _ _ _ _); refine quiet_loadC (o := ⟨some 37, _, _, _, _, _⟩) _ _ rfl rfl p2 Tryd.underlying66 rfl (by simp only [Act.put, List.setIfInBounds_toArray, List.set_cons_succ, List.set_cons_zero]; exact rfl) ?_; go_big_quiet_on)
            | ((with_reducible show (⟨some 42, _, _, _, _, _⟩ : Oper).quiet _ _ _ _); refine quiet_loadC (o := ⟨some 42, _, _, _, _, _⟩) _ _ rfl rfl q2 Tryd.underlying66 rfl (by simp only [Act.put, List.setIfInBounds_toArray, List.set_cons_succ, List.set_cons_zero]; exact rfl) ?_; go_big_quiet_on)
            | ((with_reducible show (⟨some 40, _, _, _, _, _⟩ : Oper).quiet _ _ _ _); refine quiet_loadPfR (o := ⟨some 40, _, _, _, _, _⟩) _ rfl rfl hR (by simp only [Act.put, List.setIfInBounds_toArray, List.set_cons_succ, List.set_cons_zero]; exact rfl) ?_; go_big_quiet_on)
            | ((with_reducible show (⟨some 45, _, _, _, _, _⟩ : Oper).quiet _ _ _ _); refine quiet_loadPfR (o := ⟨some 45, _, _, _, _, _⟩) _ rfl rfl hR' (by simp only [Act.put, List.setIfInBounds_toArray, List.set_cons_succ, List.set_cons_zero]; exact rfl) ?_; go_big_quiet_on)
            | ((with_reducible show (⟨some 46, _, _, _, _, _⟩ : Oper).quiet _ _ _ _); refine quiet_neqPf (o := ⟨some 46, _, _, _, _, _⟩) _ _ rfl rfl rfl Hr.out (by simp only [Act.put, List.setIfInBounds_toArray, List.set_cons_succ, List.set_cons_zero]; exact rfl) ?_; go_big_quiet_on)
            | (go_big_quiet_op; go_big_quiet_on)))
      refine wpQuiet_nil ?_
      rintro _ ⟨x, rfl⟩
      go_wp2
      go_roundw
      case rel => exact ⟨k + 1, by omega, by go_num, Hbel.out.trans (x.bel.mono Hbel.out.size)⟩
      case measure => (simp [intOf]) <;> omega
    · have hltI : ¬ (k : Int) < (R.P.length : Int) := by omega
      have x3 : wr.cell? ⟨g2, 3, none⟩ = some (.int .i64 R.nd) := (HD1.out.bel hbel).cell 3
      have y3 : wr.cell? ⟨g3, 3, none⟩ = some (.int .i64 R.nd) := (HD2.out.bel hbel).cell 3
      have x4 : wr.cell? ⟨g2, 4, none⟩ = some (.int .i64 R.tm) := (HD1.out.bel hbel).cell 4
      have y4 : wr.cell? ⟨g3, 4, none⟩ = some (.int .i64 R.tm) := (HD2.out.bel hbel).cell 4
      have x5 : wr.cell? ⟨g2, 5, none⟩ = some (.int .i64 R.tr) := (HD1.out.bel hbel).cell 5
      have y5 : wr.cell? ⟨g3, 5, none⟩ = some (.int .i64 R.tr) := (HD2.out.bel hbel).cell 5
      have x6 : wr.cell? ⟨g2, 6, none⟩ = some (.bool R.rot) := (HD1.out.bel hbel).cell 6
      have y6 : wr.cell? ⟨g3, 6, none⟩ = some (.bool R.rot) := (HD2.out.bel hbel).cell 6
      have x7 : wr.cell? ⟨g2, 7, none⟩ = some (.bool R.vc) := (HD1.out.bel hbel).cell 7
      have y7 : wr.cell? ⟨g3, 7, none⟩ = some (.bool R.vc) := (HD2.out.bel hbel).cell 7
      have x8 : wr.cell? ⟨g2, 8, none⟩ = some (.bool R.sg) := (HD1.out.bel hbel).cell 8
      have y8 : wr.cell? ⟨g3, 8, none⟩ = some (.bool R.sg) := (HD2.out.bel hbel).cell 8
      have x9 : wr.cell? ⟨g2, 9, none⟩ = some (.bool R.ed) := (HD1.out.bel hbel).cell 9
      have y9 : wr.cell? ⟨g3, 9, none⟩ = some (.bool R.ed) := (HD2.out.bel hbel).cell 9
      have Hbw : Hid (Below w.heap.size w wr) := Lib.hid (Hb4.out.trans (hbel.mono Hb4.out.size))
      clear hbel
      go_wp2
      go_ret
      exact ⟨rfl, Hbw.out⟩
end Go.Proofs.YtgebcifkbldfoaaDoor

/- Plain laws of what files say (17). -/
namespace Go.Proofs.YtgebcifkbldfoaaDoor
open Go.RowKit

theorem foldl_idx {α β γ : Type} (h : γ → α → γ) (f : γ → β → γ) : ∀ (L : List α) (g : Nat → α → β), (∀ R i x, f R (g i x) = h R x) → ∀ R, (L.mapIdx g).foldl f R = L.foldl h R
  | [], _, _, _ => rfl
  | x :: L, g, hg, R => by
    rw [List.mapIdx_cons, List.foldl_cons, List.foldl_cons, hg, foldl_idx h f L _ (fun R i x => hg R (i + 1) x)]
theorem foldl_filter {α γ : Type} (p : α → Bool) (f : γ → α → γ) : ∀ (L : List α) (R : γ), (∀ R x, p x = false → f R x = R) → (L.filter p).foldl f R = L.foldl f R
  | [], _, _ => rfl
  | x :: L, R, h => by
    rw [List.filter_cons]
    by_cases hx : p x = true
    · rw [if_pos hx, List.foldl_cons, List.foldl_cons, foldl_filter p f L _ h]
    · rw [if_neg hx, List.foldl_cons, h R x (by simpa using hx), foldl_filter p f L _ h]
theorem rvP_lin (s : List UInt8) : rvP s = (linL s).foldl (fun R x => lnR R (lnF false x)) rv0 := by
  unfold rvP alL alN numL
  rw [foldl_filter _ _ _ _ (fun R c hc => by
    have h : c.2 = [] := by simpa [alP] using hc
    rw [h]; rfl), List.foldl_map]
  exact foldl_idx (fun R x => lnR R (lnF false x)) (fun R (y : Nat × List UInt8) => lnR R (lnF false y.2)) (linL s) (fun i x => (i + 1, x)) (fun _ _ _ => rfl) rv0
theorem spB_two5 (d : UInt8) (b : List UInt8) : ∀ (a cur : List UInt8), spB d cur (a ++ d :: b) = spB d cur a ++ spB d [] b
  | [], cur => by
    have h : spB d cur (d :: b) = cur :: spB d [] b := by rw [spB]; exact if_pos rfl
    exact h
  | c :: a, cur => by
    rw [List.cons_append, spB, spB]
    split
    · rw [spB_two5 d b a []]; rfl
    · exact spB_two5 d b a _
def rvFrom (R : Rv) (s : List UInt8) : Rv := (linL s).foldl (fun R x => lnR R (lnF false x)) R
theorem rvP_two (a b : List UInt8) : rvP (a ++ 10 :: b) = rvFrom (rvP a) b := by
  rw [rvP_lin, rvP_lin]
  unfold rvFrom linL
  rw [spB_two5, List.foldl_append]
/-- what may be. -/
structure RvOk (R : Rv) : Prop where
  s : R.S.length ≤ 3
  n : R.N.length ≤ 6
  p : R.P.length ≤ 10
  nd : 0 ≤ R.nd ∧ R.nd ≤ 15
  tm : 1 ≤ R.tm ∧ R.tm ≤ 30
  tr : 1 ≤ R.tr ∧ R.tr ≤ 5
  pf : ∀ x ∈ R.P, x.ad.fam = 4 ∧ 0 ≤ x.bits ∧ x.bits ≤ 32
  nm : ∀ x ∈ R.N, x ≠ []
theorem pair_ok {s : List UInt8} {p : Pf} (h : pairP s = some p) : p.ad.fam = 4 ∧ 0 ≤ p.bits ∧ p.bits ≤ 32 := by
  have key : ∀ (a : Ad) (n : Nat) (x : List UInt8), qpA x = some a → p = pfN a n → p.ad.fam = 4 ∧ 0 ≤ p.bits ∧ p.bits ≤ 32 := by
    intro a n x hq hp
    obtain ⟨b0, b1, b2, b3, rfl⟩ := qpA_fam hq
    subst hp
    refine ⟨rfl, ?_, ?_⟩
    · show (0 : Int) ≤ ((min n 32 : Nat) : Int)
      omega
    · show ((min n 32 : Nat) : Int) ≤ 32
      omega
  unfold pairP at h
  split at h
  · obtain ⟨a, hq, hp⟩ := Option.map_eq_some_iff.1 h
    exact key a _ _ hq hp.symm
  · split at h
    · cases h
    · next a hq =>
      obtain ⟨n, _, hp⟩ := Option.map_eq_some_iff.1 h
      exact key a n _ hq hp.symm
theorem newP_ok {F : List (List UInt8)} {P : List Pf} (h : newP F = some P) : P.length ≤ 10 ∧ ∀ x ∈ P, x.ad.fam = 4 ∧ 0 ≤ x.bits ∧ x.bits ≤ 32 := by
  cases F with
  | nil => cases h
  | cons f F =>
    obtain ⟨Q, hQ, rfl⟩ := Option.map_eq_some_iff.1 h
    unfold pairsP at hQ
    split at hQ
    · injection hQ with hQ
      subst hQ
      refine ⟨by rw [List.length_take]; omega, fun x hx => ?_⟩
      obtain ⟨y, _, hy⟩ := List.mem_filterMap.1 (List.mem_of_mem_take hx)
      exact pair_ok hy
    · cases hQ
theorem newN_ok {F : List (List UInt8)} {N : List NmL} (h : newN F = some N) : N.length ≤ 6 ∧ (∀ x ∈ N, x ≠ []) ∧ N ≠ [] := by
  cases F with
  | nil => cases h
  | cons f F =>
    obtain ⟨Q, hQ, rfl⟩ := Option.map_eq_some_iff.1 h
    unfold namesP at hQ
    split at hQ
    · next hall =>
      injection hQ with hQ
      subst hQ
      refine ⟨by rw [List.length_take]; omega, fun x hx => ?_, ?_⟩
      · obtain ⟨y, _, hy⟩ := List.mem_filterMap.1 (List.mem_of_mem_take hx)
        unfold oneN at hy
        split at hy
        · split at hy
          · cases hy
          · next hn => injection hy with hy; rw [← hy]; exact hn
        · cases hy
      · rw [List.all_cons, Bool.and_eq_true] at hall
        obtain ⟨n, hn⟩ := Option.isSome_iff_exists.1 hall.1
        rw [List.filterMap_cons_some hn, List.take_succ_cons]
        exact List.cons_ne_nil _ _
    · cases hQ
theorem newP_ne {F : List (List UInt8)} {P : List Pf} (h : newP F = some P) : P ≠ [] := by
  cases F with
  | nil => cases h
  | cons f F =>
    obtain ⟨Q, hQ, rfl⟩ := Option.map_eq_some_iff.1 h
    unfold pairsP at hQ
    split at hQ
    · next hall =>
      injection hQ with hQ
      subst hQ
      rw [List.all_cons, Bool.and_eq_true] at hall
      obtain ⟨n, hn⟩ := Option.isSome_iff_exists.1 hall.1
      rw [List.filterMap_cons_some hn, List.take_succ_cons]
      exact List.cons_ne_nil _ _
    · cases hQ
theorem domN_new {F : List (List UInt8)} {N : List NmL} (h : domN F = some N) : newN F = some N := by
  match F with
  | [] => cases h
  | [f] => exact h
  | _ :: _ :: _ => cases h
theorem setV_ok {old : Int} {s : List UInt8} {l m : Nat} (hlm : l ≤ m) (h1 : (l : Int) ≤ old) (h2 : old ≤ m) : (l : Int) ≤ setV old s l m ∧ setV old s l m ≤ m := by
  unfold setV
  split
  · split
    · omega
    · omega
  · exact ⟨h1, h2⟩
theorem optN_ok {p : List UInt8} {old : Int} {s : List UInt8} {l m : Nat} (hlm : l ≤ m) (h1 : (l : Int) ≤ old) (h2 : old ≤ m) : (l : Int) ≤ optN p old l m s ∧ optN p old l m s ≤ m := by
  unfold optN
  split
  · exact setV_ok hlm h1 h2
  · exact ⟨h1, h2⟩
theorem opt_ok {R : Rv} (s : List UInt8) (h : RvOk R) : RvOk (optS R s) :=
  ⟨h.s, h.n, h.p, optN_ok (l := 0) (m := 15) (by omega) h.nd.1 h.nd.2, optN_ok (l := 1) (m := 30) (by omega) h.tm.1 h.tm.2, optN_ok (l := 1) (m := 5) (by omega) h.tr.1 h.tr.2, h.pf, h.nm⟩
theorem opts_ok (F : List (List UInt8)) : ∀ {R : Rv}, RvOk R → RvOk (F.foldl optS R) := by
  induction F with
  | nil => exact fun h => h
  | cons f F ih => exact fun h => ih (opt_ok f h)
theorem say_ok {R : Rv} (f : List UInt8) (F : List (List UInt8)) (h : RvOk R) : RvOk (sayS R f F) := by
  unfold sayS
  split
  · exact ⟨addS_few F h.s, h.n, h.p, h.nd, h.tm, h.tr, h.pf, h.nm⟩
  · split
    · cases hd : domN F with
      | none => exact h
      | some N =>
        have hn := newN_ok (domN_new hd)
        exact ⟨h.s, hn.1, h.p, h.nd, h.tm, h.tr, h.pf, hn.2.1⟩
    · split
      · cases hd : newN F with
        | none => exact h
        | some N =>
          have hn := newN_ok hd
          exact ⟨h.s, hn.1, h.p, h.nd, h.tm, h.tr, h.pf, hn.2.1⟩
      · split
        · cases hd : newP F with
          | none => exact h
          | some P =>
            have hn := newP_ok hd
            exact ⟨h.s, h.n, hn.1, h.nd, h.tm, h.tr, hn.2, h.nm⟩
        · split
          · exact opts_ok F h
          · exact h
theorem ln_ok {R : Rv} (F : List (List UInt8)) (h : RvOk R) : RvOk (lnR R F) := by
  cases F with
  | nil => exact h
  | cons f F => exact say_ok f F h
theorem rv0_ok : RvOk rv0 := ⟨by decide, by decide, by decide, by decide, by decide, by decide, fun _ h => (by cases h), fun _ h => (by cases h)⟩
theorem from_ok (s : List UInt8) {R : Rv} (h : RvOk R) : RvOk (rvFrom R s) := by
  have key : ∀ (L : List (List UInt8)) (R : Rv), RvOk R → RvOk (L.foldl (fun R x => lnR R (lnF false x)) R) := by
    intro L
    induction L with
    | nil => exact fun _ h => h
    | cons x L ih => exact fun R h => ih _ (ln_ok _ h)
  exact key _ _ h
theorem rvP_from (s : List UInt8) : rvP s = rvFrom rv0 s := rvP_lin s
theorem rvP_ok (s : List UInt8) : RvOk (rvP s) := by rw [rvP_from]; exact from_ok s rv0_ok
/-- what was said behind x (z) beside what was said alone (y). -/
structure RvJ (x y z : Rv) : Prop where
  s : z.S = (x.S ++ y.S).take 3
  n : z.N = if y.N = [] then x.N else y.N
  p : z.P = if y.P = [] then x.P else y.P
  rot : z.rot = (x.rot || y.rot)
  vc : z.vc = (x.vc || y.vc)
  sg : z.sg = (x.sg || y.sg)
  ed : z.ed = (x.ed || y.ed)
  nd : z.nd = y.nd ∨ (y.nd = 1 ∧ z.nd = x.nd)
  tm : z.tm = y.tm ∨ (y.tm = 5 ∧ z.tm = x.tm)
  tr : z.tr = y.tr ∨ (y.tr = 2 ∧ z.tr = x.tr)
theorem addS_J {X Y Z : List Ad} (F : List (List UInt8)) (hX : X.length ≤ 3) (hY : Y.length ≤ 3) (h : Z = (X ++ Y).take 3) : addS Z F = (X ++ addS Y F).take 3 := by
  match F with
  | [] => exact h
  | _ :: _ :: _ => exact h
  | [f] =>
    show (if Z.length < 3 then (match adrP f with | .inr a => Z ++ [a] | .inl _ => Z) else Z) = (X ++ (if Y.length < 3 then (match adrP f with | .inr a => Y ++ [a] | .inl _ => Y) else Y)).take 3
    have hZ : Z.length = min 3 (X.length + Y.length) := by rw [h, List.length_take, List.length_append]
    cases adrP f with
    | inl e =>
      dsimp only
      rw [ite_self, ite_self]
      exact h
    | inr a =>
      dsimp only
      by_cases h1 : Z.length < 3
      · rw [if_pos h1, if_pos (by omega), ← List.append_assoc, h, List.take_of_length_le (by rw [List.length_append]; omega), List.take_of_length_le (by rw [List.length_append, List.length_append, List.length_singleton]; omega)]
      · rw [if_neg h1]
        by_cases h2 : Y.length < 3
        · rw [if_pos h2, ← List.append_assoc, List.take_append_of_le_length (by rw [List.length_append]; omega)]
          exact h
        · rw [if_neg h2]
          exact h
theorem optN_J {p s : List UInt8} {x y z d : Int} {l m : Nat} (h : z = y ∨ (y = d ∧ z = x)) : optN p z l m s = optN p y l m s ∨ (optN p y l m s = d ∧ optN p z l m s = x) := by
  unfold optN
  split
  · unfold setV
    split
    · exact .inl rfl
    · exact h
  · exact h
theorem opt_J {x y z : Rv} (s : List UInt8) (h : RvJ x y z) : RvJ x (optS y s) (optS z s) :=
  ⟨h.s, h.n, h.p, by show (z.rot || _) = (x.rot || (y.rot || _)); rw [h.rot, Bool.or_assoc], by show (z.vc || _) = (x.vc || (y.vc || _)); rw [h.vc, Bool.or_assoc], by show (z.sg || _) = (x.sg || (y.sg || _)); rw [h.sg, Bool.or_assoc], by show (z.ed || _) = (x.ed || (y.ed || _)); rw [h.ed, Bool.or_assoc],
    optN_J h.nd, optN_J h.tm, optN_J h.tr⟩
theorem opts_J {x : Rv} (F : List (List UInt8)) : ∀ {y z : Rv}, RvJ x y z → RvJ x (F.foldl optS y) (F.foldl optS z) := by
  induction F with
  | nil => exact fun h => h
  | cons f F ih => exact fun h => ih (opt_J f h)
theorem say_J {x y z : Rv} (f : List UInt8) (F : List (List UInt8)) (hx : x.S.length ≤ 3) (hy : y.S.length ≤ 3) (h : RvJ x y z) : RvJ x (sayS y f F) (sayS z f F) := by
  unfold sayS
  by_cases h1 : f = wNs
  · rw [if_pos h1, if_pos h1]
    exact ⟨addS_J F hx hy h.s, h.n, h.p, h.rot, h.vc, h.sg, h.ed, h.nd, h.tm, h.tr⟩
  · rw [if_neg h1, if_neg h1]
    by_cases h2 : f = wDo
    · rw [if_pos h2, if_pos h2]
      cases hd : domN F with
      | none => exact h
      | some N => exact ⟨h.s, by show N = if N = [] then _ else N; rw [if_neg (newN_ok (domN_new hd)).2.2], h.p, h.rot, h.vc, h.sg, h.ed, h.nd, h.tm, h.tr⟩
    · rw [if_neg h2, if_neg h2]
      by_cases h3 : f = wSe
      · rw [if_pos h3, if_pos h3]
        cases hd : newN F with
        | none => exact h
        | some N => exact ⟨h.s, by show N = if N = [] then _ else N; rw [if_neg (newN_ok hd).2.2], h.p, h.rot, h.vc, h.sg, h.ed, h.nd, h.tm, h.tr⟩
      · rw [if_neg h3, if_neg h3]
        by_cases h4 : f = wSo
        · rw [if_pos h4, if_pos h4]
          cases hd : newP F with
          | none => exact h
          | some P => exact ⟨h.s, h.n, by show P = if P = [] then _ else P; rw [if_neg (newP_ne hd)], h.rot, h.vc, h.sg, h.ed, h.nd, h.tm, h.tr⟩
        · rw [if_neg h4, if_neg h4]
          by_cases h5 : f = wOp
          · rw [if_pos h5, if_pos h5]
            exact opts_J F h
          · rw [if_neg h5, if_neg h5]
            exact h
theorem ln_J {x y z : Rv} (F : List (List UInt8)) (hx : x.S.length ≤ 3) (hy : y.S.length ≤ 3) (h : RvJ x y z) : RvJ x (lnR y F) (lnR z F) := by
  cases F with
  | nil => exact h
  | cons f F => exact say_J f F hx hy h
theorem from_J {x : Rv} (hx : x.S.length ≤ 3) (s : List UInt8) : RvJ x (rvP s) (rvFrom x s) := by
  have key : ∀ (L : List (List UInt8)) (y z : Rv), y.S.length ≤ 3 → RvJ x y z → RvJ x (L.foldl (fun R x => lnR R (lnF false x)) y) (L.foldl (fun R x => lnR R (lnF false x)) z) := by
    intro L
    induction L with
    | nil => exact fun _ _ _ h => h
    | cons l L ih => exact fun y z hy h => ih _ _ (ln_few _ hy) (ln_J _ hx hy h)
  rw [rvP_from]
  refine key _ _ _ (by decide) ⟨?_, ?_, ?_, ?_, ?_, ?_, ?_, .inr ⟨rfl, rfl⟩, .inr ⟨rfl, rfl⟩, .inr ⟨rfl, rfl⟩⟩
  · show x.S = (x.S ++ []).take 3
    rw [List.append_nil, List.take_of_length_le hx]
  · rfl
  · rfl
  · exact (Bool.or_false _).symm
  · exact (Bool.or_false _).symm
  · exact (Bool.or_false _).symm
  · exact (Bool.or_false _).symm
theorem rvP_J (a b : List UInt8) : RvJ (rvP a) (rvP b) (rvP (a ++ 10 :: b)) := by
  rw [rvP_two]
  exact from_J (rvP_ok a).s b
end Go.Proofs.YtgebcifkbldfoaaDoor

/- The law's own test of resolv (17); ResolvSkips: the walk. -/
namespace Go.Proofs.YtgebcifkbldfoaaDoor
open Go.RowKit
attribute [local go_sem] ba_get ext_take ext_drop ext_any ba_app

def w17s : List UInt8 := [110, 97, 109, 101, 115, 101, 114, 118, 101, 114, 32, 49, 57, 50, 46, 48, 46, 50, 46, 49, 10, 111, 112, 116, 105, 111, 110, 115, 32, 110, 100, 111, 116, 115, 58, 57, 57]
theorem w17_parse : (rvP w17s).S.length = 1 ∧ (rvP w17s).nd = 15 ∧ (rvP w17s).tm = 5 ∧ (rvP w17s).tr = 2 := by decide +kernel
theorem rvP_few (s : List UInt8) : RvFew (rvP s) := by
  have h := rvP_ok s
  exact ⟨by have := h.s; omega, by have := h.n; omega, by have := h.p; omega⟩
/-- what a file says, handed back. -/
def RslQ (w : World) (R : Rv) (e : Ending) (w' : World) : Prop := ∃ vs vn vp, e = .returned (.agg (rvA vs vn vp R)) ∧ RvRd w' vs vn vp R ∧ Below w.heap.size w w'
theorem rvparse_rd (s : List UInt8) (w : World) (ht : Tab w) (hm : MaxI w) (hl : s.length ≤ 100000) : Calls Tryd.prog 39 #[.string ⟨s.toArray⟩] w (RslQ w (rvP s)) :=
  (rvparse_any s w ht hm hl).mono fun _ _ ⟨vs, vn, vp, he, ho, hb⟩ => ⟨vs, vn, vp, he, ho.rd, hb⟩
theorem plain_rd (w : World) : Calls Tryd.prog 69 #[] w (RslQ w rv0) := (plain_any w).mono fun _ w' ⟨he, hb⟩ => ⟨_, _, _, he, RvRd.zero w', hb⟩
theorem rv17plain_rd (w : World) : Calls Tryd.prog 40 #[] w (RslQ w rv0) := (rv17plain_any w).mono fun _ w' ⟨he, hb⟩ => ⟨_, _, _, he, RvRd.zero w', hb⟩
theorem RvRd.open_ {w : World} {vs vn vp : Value} {R : Rv} (h : RvRd w vs vn vp R) : ∃ a1 c1 a2 c2 a3 c3, vs = .slice a1 R.S.length c1 ∧ vn = .slice a2 R.N.length c2 ∧ vp = .slice a3 R.P.length c3 := by
  obtain ⟨N, hN⟩ := h.n
  obtain ⟨a1, c1, e1, _⟩ := h.s.any
  obtain ⟨a2, c2, e2, _⟩ := hN.sl.any
  obtain ⟨a3, c3, e3, _⟩ := h.p.any
  have hl : N.length = R.N.length := by rw [← hN.is, List.length_map]
  rw [hl] at e2
  exact ⟨a1, c1, a2, c2, a3, c3, e1, e2, e3⟩
set_option maxRecDepth 100000 in
set_option maxHeartbeats 4000000 in
theorem works17_any (w : World) (ht : Tab w) (hm : MaxI w) : Calls Tryd.prog 37 #[] w (Good w) := by
  have HP := Lib.hid (rvparse_rd w17s w ht hm (by decide))
  obtain ⟨q1, q2, q3, q4⟩ := w17_parse
  generalize rvP w17s = R at *
  have Q1 := Lib.hid q1
  have Q2 := Lib.hid q2
  have Q3 := Lib.hid q3
  have Q4 := Lib.hid q4
  clear ht hm q1 q2 q3 q4
  go_enter Tryd.func37, Tryd.ntmps37
  go_wp2_with (first
    | (go_at_call 39; refine HP.out.mono ?_; rintro e w1 ⟨vs, vn, vp, rfl, hrd, hb1⟩; obtain ⟨a1, c1, a2, c2, a3, c3, rfl, rfl, rfl⟩ := hrd.open_; have Hb1 := Lib.hid hb1; clear hrd hb1 HP)
    | ((with_reducible show wpList _ _ _ (⟨some 1, _, _, _, _, _⟩ :: _) _ _); refine wpList_allocZ (o := ⟨some 1, _, _, _, _, _⟩) rfl _ rfl rv_zero ?_; intro g2 w2 hg2 hB2 hb2 hs2; have Hg2 := Lib.hid hg2; have Hb2 := Lib.hid hb2; have HB2 := Lib.hid hB2; clear hg2 hs2 hb2 hB2)
    | ((with_reducible show wpList _ _ _ (⟨none, .store _ _ _, _, _, _, _⟩ :: _) _ _); refine wpList_storeB (o := ⟨none, _, _, _, _, _⟩) rfl _ (.tmp 1) _ rfl rfl rfl HB2.out rv_size rfl (rvA_one _ rfl rfl rfl) ?_; intro w3 hB3 hS3; have HB3 := Lib.hid hB3; have Hb3 := Lib.hid (bel_tr Hb1.out (Hb2.out.trans (hS3.below (Nat.le_of_eq Hg2.out.symm)))); clear hB3 hS3; refine holdL ?_))
  refine Lib.hid ?_
  have c0 : w3.cell? ⟨g2, 0, none⟩ = some (.slice a1 1 c1) := by have h := HB3.out.cell 0; rw [h]; show some (Value.slice a1 R.S.length c1) = _; rw [Q1.out]
  have c3' : w3.cell? ⟨g2, 3, none⟩ = some (.int .i64 15) := by have h := HB3.out.cell 3; rw [h]; show some (Value.int .i64 R.nd) = _; rw [Q2.out]
  have c4' : w3.cell? ⟨g2, 4, none⟩ = some (.int .i64 5) := by have h := HB3.out.cell 4; rw [h]; show some (Value.int .i64 R.tm) = _; rw [Q3.out]
  have c5' : w3.cell? ⟨g2, 5, none⟩ = some (.int .i64 2) := by have h := HB3.out.cell 5; rw [h]; show some (Value.int .i64 R.tr) = _; rw [Q4.out]
  go_wp2_with (first
    | (go_at_call 69; refine (plain_rd _).mono ?_; rintro e w4 ⟨us, un, up, rfl, hrd, hb4⟩; have HR4 := Lib.hid hrd; have Hb4 := Lib.hid hb4; clear hrd hb4 c0 c3' c4' c5')
    | (go_at_call 40; refine (rv17plain_rd _).mono ?_; rintro e w5 ⟨us2, un2, up2, rfl, hrd, hb5⟩; have HR5 := Lib.hid hrd; have HR4b := Lib.hid (HR4.out.bel hb5); have Hb5 := Lib.hid (bel_tr Hb4.out hb5); clear hrd hb5)
    | (go_at_call 38; refine (rsame17_any rv0 _ _ _ _ _ _ _ HR4b.out HR5.out (by unfold RvFew; decide)).mono ?_; rintro e w6 ⟨rfl, hb6⟩; have Hb6 := Lib.hid (bel_tr Hb5.out hb6); clear hb6))
  go_ret
  exact ⟨rfl, Hb3.out.trans (Hb6.out.mono Hb3.out.size)⟩
end Go.Proofs.YtgebcifkbldfoaaDoor

/- ResolvJoins: the walk. -/
namespace Go.Proofs.YtgebcifkbldfoaaDoor
open Go.RowKit
attribute [local go_sem] ba_get ext_take ext_drop ext_any ba_app

def wA (v0 v1 v2 : Value) (nd tm tr : Int) (ro vc sg ed : Bool) : Array Value := #[v0, v1, v2, .int .i64 nd, .int .i64 tm, .int .i64 tr, .bool ro, .bool vc, .bool sg, .bool ed]
theorem sz_intR : (Tryd.prog.info? 3).map (·.size) = some 1 := by kernel_rfl
theorem wpList_sliceHiW {P : Program} {w W : World} {ops : Array Oper} {rest : List Oper} {o : Oper} {a : Act} {Q : Exit → Act → World → Prop} {t e : TypeId} {size bytes n c J : Nat} {A : Option Addr} {xs : List Value} {k : IntKind} {j : Int} (hg : o.guard = none) (x y : Operand) (ho : o.op = .slice t x none (some y) none) (el : Elt P t e size bytes) (hx : a.eval x = .slice A n c) (hy : a.eval y = .int k j) (hj : j = (J : Int)) (hJ : J ≤ n) (hS : Sl W size (.slice A n c) n xs)
    (h : ∀ v', Sl W size v' J (xs.take (J * size)) → wpList P ops Q rest (a.put o.dst v') w) : wpList P ops Q (o :: rest) a w := by
  obtain ⟨i, z, hi, hz, hz1, hz2, hz3⟩ := el.info
  have hc := hS.nilc.2.1
  subst hj
  refine wpList_plain hg fun _ hK => ?_
  have hr : (Instr.sliceAt t (.slice A n c) none (some (.int k (J : Int))) none).run P w = .ok (sliced A 0 J c size) w := by
    have hb : (0 : Int) ≤ (J : Int) ∧ (J : Int) ≤ (c : Int) := ⟨by omega, by omega⟩
    simp [Instr.sliceAt, run_underlying el.under, Instr.slice, Instr.sliceBounds, Instr.sliceBound, asIntOf, hb, sizeOf, typeInfo, hi, sliced]
    omega
  unfold Oper.wp
  simp only [execOp, ho, hx, hy, Option.map_some, Option.map_none, hr, Sem.run_bind, Result.andThen_ok]
  exact hK _ _ (h _ (hS.hiO hJ))
/-- the servers of both, the first three. -/
theorem join_s {w : World} {X Y Z : Rv} {v : Value} (hS : Z.S = (X.S ++ Y.S).take 3) {J : Nat} (hJ : J = min (X.S.length + Y.S.length) 3) (h : Sl w 18 v J ((X.S.flatMap adL ++ Y.S.flatMap adL).take (J * 18))) : Sl w 18 v Z.S.length (Z.S.flatMap adL) := by
  have h1 : Z.S = (X.S ++ Y.S).take J := by
    rw [hS, hJ, Nat.min_comm, ← List.length_append]
    rcases Nat.le_total 3 (X.S ++ Y.S).length with hl | hl
    · rw [Nat.min_eq_left hl]
    · rw [Nat.min_eq_right hl, List.take_of_length_le hl, List.take_of_length_le (Nat.le_refl _)]
  have h2 : Z.S.length = J := by rw [h1, List.length_take, List.length_append]; omega
  rw [h2, h1, ← flatO_take adL_len, List.flatMap_append]
  exact h
theorem beq_or {x y z : Int} (h : z = x ∨ z = y) : ((z == x) = true) ∨ ((z == x) = false ∧ (z == y) = true) := by
  by_cases h1 : z = x
  · exact .inl (by rw [h1]; exact beq_self_eq_true _)
  · rcases h with h | h
    · exact absurd h h1
    · exact .inr ⟨beq_eq_false_iff_ne.2 h1, by rw [h]; exact beq_self_eq_true _⟩
theorem J_or {x y z d : Int} (h : z = y ∨ (y = d ∧ z = x)) : z = x ∨ z = y := by
  rcases h with h | ⟨_, h⟩
  · exact .inr h
  · exact .inl h
set_option maxRecDepth 100000 in
set_option maxHeartbeats 8000000 in
theorem resolvJoins_walk (w : World) (ht : Tab w) (hm : MaxI w) (a : List UInt8) (ha : a.length ≤ 140737488351232) (b : List UInt8) (hb : b.length ≤ 140737488351232) :
    Calls Tryd.prog 10 #[.string ⟨a.toArray⟩, .string ⟨b.toArray⟩] w (Good w) := by
  have Ht := Lib.hid ht
  have Hm := Lib.hid hm
  have HW := Lib.hid (works17_any w ht hm)
  clear ht hm
  have wr1 : IntKind.i64.wrap ((a.length : Int) + (b.length : Int)) = (a.length : Int) + (b.length : Int) := IntWalk.i64_in _ (by omega)
  by_cases hl : 4000 < a.length + b.length
  · have i1 : decide ((4000 : Int) < (a.length : Int) + (b.length : Int)) = true := decide_eq_true (by omega)
    go_enter Tryd.func10, Tryd.ntmps10
    go_wp2_with (first
      | (go_at_call 37; refine HW.out.mono ?_; rintro e w1 ⟨rfl, hb1⟩; have Hb1 := Lib.hid hb1; have HW2 := Lib.hid (works17_any w1 (Ht.out.below hb1) (Hm.out.below hb1)); clear hb1 HW)
      | (go_at_call 37; refine HW2.out.mono ?_; rintro e w2 ⟨rfl, hb2⟩; have Hb2 := Lib.hid (bel_tr Hb1.out hb2); clear hb2))
    go_ret
    exact ⟨rfl, Hb2.out⟩
  · have i1 : decide ((4000 : Int) < (a.length : Int) + (b.length : Int)) = false := decide_eq_false (by omega)
    have HPx := Lib.hid (fun (w' : World) (hb : Below w.heap.size w w') => rvparse_rd a w' (Ht.out.below hb) (Hm.out.below hb) (by omega))
    have HPy := Lib.hid (fun (w' : World) (hb : Below w.heap.size w w') => rvparse_rd b w' (Ht.out.below hb) (Hm.out.below hb) (by omega))
    have HPz := Lib.hid (fun (w' : World) (hb : Below w.heap.size w w') => rvparse_rd (a ++ 10 :: b) w' (Ht.out.below hb) (Hm.out.below hb) (by rw [List.length_append, List.length_cons]; omega))
    have HJ := Lib.hid (rvP_J a b)
    have HFx := Lib.hid (rvP_few a)
    have HFy := Lib.hid (rvP_few b)
    have HFz := Lib.hid (rvP_few (a ++ 10 :: b))
    generalize rvP a = X at *
    generalize rvP b = Y at *
    generalize rvP (a ++ 10 :: b) = Z at *
    clear hl
    go_enter Tryd.func10, Tryd.ntmps10
    go_wp2_with (first
      | (go_at_call 37; refine HW.out.mono ?_; rintro e w1 ⟨rfl, hb1⟩; have Hb1 := Lib.hid hb1; clear hb1 HW; refine holdL ?_))
    refine Lib.hid ?_
    go_wp2_with (first
      | (go_at_call 39; (with_reducible refine (HPx.out _ Hb1.out).mono ?_); rintro e w2 ⟨xs, xn, xp, rfl, hrd, hb2⟩; obtain ⟨xa1, xc1, xa2, xc2, xa3, xc3, rfl, rfl, rfl⟩ := hrd.open_; have HX2 := Lib.hid hrd; have Hb2 := Lib.hid (bel_tr Hb1.out hb2); clear hrd hb2 HPx; refine holdL ?_))
    refine Lib.hid ?_
    go_wp2_with (first
      | (go_at_call 39; (with_reducible refine (HPy.out _ Hb2.out).mono ?_); rintro e w3 ⟨ys, yn, yp, rfl, hrd, hb3⟩; obtain ⟨ya1, yc1, ya2, yc2, ya3, yc3, rfl, rfl, rfl⟩ := hrd.open_; have HX3 := Lib.hid (HX2.out.bel hb3); have HY3 := Lib.hid hrd; have Hb3 := Lib.hid (bel_tr Hb2.out hb3); clear hrd hb3 HPy; refine holdL ?_))
    refine Lib.hid ?_
    go_wp2_with (first
      | (go_at_call 39; (with_reducible refine (HPz.out _ Hb3.out).mono ?_); rintro e w4 ⟨zs, zn, zp, rfl, hrd, hb4⟩; obtain ⟨za1, zc1, za2, zc2, za3, zc3, rfl, rfl, rfl⟩ := hrd.open_; have HX4 := Lib.hid (HX3.out.bel hb4); have HY4 := Lib.hid (HY3.out.bel hb4); have HZ4 := Lib.hid hrd; have Hb4 := Lib.hid (bel_tr Hb3.out hb4); clear hrd hb4 HPz; refine holdL ?_))
    refine Lib.hid ?_
    go_wp2_with (first
      | ((with_reducible show wpList _ _ _ (⟨some 5, _, _, _, _, _⟩ :: _) _ _); refine wpList_allocZ (o := ⟨some 5, _, _, _, _, _⟩) rfl _ rfl rv_zero ?_; intro g5 w5 hg hB hb' hs; have Hg5 := Lib.hid hg; have Hb5 := Lib.hid hb'; have HB5 := Lib.hid hB; clear hg hs hb' hB)
      | ((with_reducible show wpList _ _ _ (⟨some 6, _, _, _, _, _⟩ :: _) _ _); refine wpList_allocZ (o := ⟨some 6, _, _, _, _, _⟩) rfl _ rfl rv_zero ?_; intro g6 w6 hg hB hb' hs; have Hg6 := Lib.hid hg; have HA6 := Lib.hid (HB5.out.bel hb'); have Hb6 := Lib.hid (bel_tr Hb5.out hb'); have HB6 := Lib.hid hB; clear hg hs hb' hB)
      | ((with_reducible show wpList _ _ _ (⟨some 7, _, _, _, _, _⟩ :: _) _ _); refine wpList_allocZ (o := ⟨some 7, _, _, _, _, _⟩) rfl _ rfl rv_zero ?_; intro g7 w7 hg hB hb' hs; have Hg7 := Lib.hid hg; have HA7 := Lib.hid (HA6.out.bel hb'); have HD7 := Lib.hid (HB6.out.bel hb'); have Hb7 := Lib.hid (bel_tr Hb6.out hb'); have HB7 := Lib.hid hB; clear hg hs hb' hB; refine holdL ?_))
    refine Lib.hid ?_
    have h56 : g5 < g6 := by have h := HB5.out.lt; have := Hg6.out; omega
    have h67 : g6 < g7 := by have h := HB6.out.lt; have := Hg7.out; omega
    have h45 : w4.heap.size ≤ g5 := Nat.le_of_eq Hg5.out.symm
    go_wp2_with (first
      | ((with_reducible show wpList _ _ _ (⟨none, .store _ (.tmp 5) _, _, _, _, _⟩ :: _) _ _); refine wpList_storeB (o := ⟨none, _, _, _, _, _⟩) rfl _ (.tmp 5) _ rfl rfl rfl HA7.out rv_size rfl (rvA_one _ rfl rfl rfl) ?_; intro wa hB hS; have HAa := Lib.hid hB; have HDa := Lib.hid (HD7.out.stays hS (by omega)); have HBa := Lib.hid (HB7.out.stays hS (by omega)); have Hba := Lib.hid (Hb7.out.trans (hS.below (B := w4.heap.size) (by omega))); clear hB hS)
      | ((with_reducible show wpList _ _ _ (⟨none, .store _ (.tmp 6) _, _, _, _, _⟩ :: _) _ _); refine wpList_storeB (o := ⟨none, _, _, _, _, _⟩) rfl _ (.tmp 6) _ rfl rfl rfl HDa.out rv_size rfl (rvA_one _ rfl rfl rfl) ?_; intro wb hB hS; have HDb := Lib.hid hB; have HAb := Lib.hid (HAa.out.stays hS (by omega)); have HBb := Lib.hid (HBa.out.stays hS (by omega)); have Hbb := Lib.hid (Hba.out.trans (hS.below (B := w4.heap.size) (by omega))); clear hB hS)
      | ((with_reducible show wpList _ _ _ (⟨none, .store _ (.tmp 7) _, _, _, _, _⟩ :: _) _ _); refine wpList_storeB (o := ⟨none, _, _, _, _, _⟩) rfl _ (.tmp 7) _ rfl rfl rfl HBb.out rv_size rfl (rvA_one _ rfl rfl rfl) ?_; intro wc0 hB hS; have HBc := Lib.hid hB; have HAc := Lib.hid (HAb.out.stays hS (by omega)); have HDc := Lib.hid (HDb.out.stays hS (by omega)); have Hbc := Lib.hid (Hbb.out.trans (hS.below (B := w4.heap.size) (by omega))); clear hB hS; refine holdL ?_))
    refine Lib.hid ?_
    have HXc := Lib.hid (HX4.out.bel (Hbc.out))
    have HYc := Lib.hid (HY4.out.bel (Hbc.out))
    have HZc := Lib.hid (HZ4.out.bel (Hbc.out))
    have lt5 := HAc.out.lt
    have lt6 := HDc.out.lt
    have lt7 := HBc.out.lt
    have Hbw := Lib.hid (bel_tr Hb4.out Hbc.out)
    clear HX2 HX3 HX4 HY3 HY4 HZ4 Hb1 Hb2 Hb3 Hb4 Hb5 Hb6 Hb7 HB5 HB6 HB7 HA6 HA7 HD7 HAa HDa HBa HAb HDb HBb Hba Hbb Hbc Hg5 Hg6 Hg7 h45
    have c50 : wc0.cell? ⟨g5, 0, none⟩ = some (.slice xa1 X.S.length xc1) := HAc.out.cell 0
    have own0 := World.ownsRow_nil wc0 wc0.heap.size 34 18
    have fx := HFx.out.1
    have fy := HFy.out.1
    go_wp2_with (first
      | (at_builtin; refine wpList_app rfl (.tmp 31) (.tmp 33) _ rfl elt_ads (base := wc0.heap.size) rfl own0 rfl HXc.out.s (flat_one adL_one X.S) (Nat.le_refl _) (by omega) (by omega) ?_; intro v3 wd ho3 hb3 hg3; rw [Nat.zero_add, List.nil_append] at ho3; obtain ⟨A3, c3, rfl⟩ := own_any ho3; have Ho3 := Lib.hid ho3; have Hb3 := Lib.hid hb3; have c60 : wd.cell? ⟨g6, 0, none⟩ = some (.slice ya1 Y.S.length yc1) := (HDc.out.bel hb3).cell 0; have HY3 := Lib.hid (HYc.out.bel hb3); clear ho3 hb3 hg3 own0 c50; refine holdL ?_))
    refine Lib.hid ?_
    go_wp2_with (first
      | (at_builtin; refine wpList_app rfl (.tmp 35) (.tmp 37) _ rfl elt_ads (base := wc0.heap.size) rfl Ho3.out rfl HY3.out.s (flat_one adL_one Y.S) Hb3.out.size (by omega) (by omega) ?_; intro v5 we ho5 hb5 hg5; obtain ⟨A5, c5, rfl⟩ := own_any ho5; have Ho5 := Lib.hid ho5; have Hbe := Lib.hid (Hb3.out.trans hb5); clear ho5 hb5 hg5 c60; refine holdL ?_))
    refine Lib.hid ?_
    have HAe := Lib.hid (HAc.out.bel Hbe.out)
    have HDe := Lib.hid (HDc.out.bel Hbe.out)
    have HBe := Lib.hid (HBc.out.bel Hbe.out)
    have HXe := Lib.hid (HXc.out.bel Hbe.out)
    have HYe := Lib.hid (HYc.out.bel Hbe.out)
    have HZe := Lib.hid (HZc.out.bel Hbe.out)
    have Hwe := Lib.hid (bel_tr Hbw.out Hbe.out)
    have hS5 := Sl.own Ho5.out
    have hsz : wc0.heap.size ≤ we.heap.size := Hbe.out.size
    have hRy : we.rangeAt g6 0 (rvL (.slice ya1 Y.S.length yc1) (.slice ya2 Y.N.length yc2) (.slice ya3 Y.P.length yc3) Y) := Bk.rangeL HDe.out 0 _ [] (by simp)
    clear HAc HDc HBc HXc HYc HZc Hbw Hbe HY3 Ho3 Hb3
    go_wp2_with (first
      | ((with_reducible show wpList _ _ _ (⟨some 39, _, _, _, _, _⟩ :: _) _ _); refine wpList_load_mid (op := ⟨some 39, _, _, _, _, _⟩) rfl _ _ rfl _ _ rfl _ _ hRy rv_under rfl rv_size ?_)
      | ((with_reducible show wpList _ _ _ (⟨some 9, _, _, _, _, _⟩ :: _) _ _); refine wpList_allocZ (o := ⟨some 9, _, _, _, _, _⟩) rfl _ rfl rv_zero ?_; intro g9 wf hg hB hb' hs; have Hg9 := Lib.hid (Nat.le_of_eq hg.symm); have Hbf := Lib.hid hb'; have HBf := Lib.hid hB; clear hg hs hb' hB)
      | ((with_reducible show wpList _ _ _ (⟨none, .store _ (.tmp 9) _, _, _, _, _⟩ :: _) _ _); refine wpList_storeB (o := ⟨none, _, _, _, _, _⟩) rfl _ (.tmp 9) _ rfl rfl rfl HBf.out rv_size rfl (rvA_one _ rfl rfl rfl) ?_; intro wh hB hS; have HGh := Lib.hid hB; have Hbh := Lib.hid (Hbf.out.trans (hS.below Hg9.out)); clear hB hS; refine holdL ?_))
    refine Lib.hid ?_
    have h9 := Hg9.out
    obtain ⟨J, hJ⟩ : ∃ J, J = min (X.S.length + Y.S.length) 3 := ⟨_, rfl⟩
    have hJle : J ≤ X.S.length + Y.S.length := by omega
    have hJi : min ((X.S.length : Int) + (Y.S.length : Int)) 3 = (J : Int) := by omega
    have HJd := Lib.hid hJ
    have HJi := Lib.hid hJi
    have HS5 := Lib.hid hS5
    clear hJ hJi hS5
    go_wp2_with (first
      | ((with_reducible show wpList _ _ _ (⟨some 44, _, _, _, _, _⟩ :: _) _ _); refine wpList_sliceHiW (o := ⟨some 44, _, _, _, _, _⟩) rfl _ _ rfl elt_ads rfl rfl HJi.out hJle HS5.out ?_; intro v0 hv0; have Hv0 := Lib.hid hv0; obtain ⟨va, vc, rfl, _⟩ := hv0.any; clear hv0)
      | ((with_reducible show wpList _ _ _ (⟨none, .store _ (.tmp 45) _, _, _, _, _⟩ :: _) _ _); refine wpList_storeR (o := ⟨none, _, _, _, _, _⟩) rfl _ _ _ rfl rfl rfl rfl HGh.out (show 0 < 10 from by decide) sz_adsR ?_; intro wk hB hS; have HGk := Lib.hid hB; have Hbk := Lib.hid (Hbh.out.trans (hS.below Hg9.out)); have HSk := Lib.hid (join_s HJ.out.s HJd.out Hv0.out); clear hB hS; refine holdL ?_))
    refine Lib.hid ?_
    have HZl : Hid (J = Z.S.length) := Lib.hid (by have h1 := congrArg List.length HJ.out.s; rw [List.length_take, List.length_append] at h1; have h2 := HJd.out; omega)
    obtain ⟨Nx, hNx⟩ := HXe.out.n
    obtain ⟨Ny, hNy⟩ := HYe.out.n
    obtain ⟨v1, N1, hv1, hs1⟩ : ∃ (v1 : Value) (N1 : List (Value × NmL)), NmsAt we v1 Z.N N1 ∧ ((Y.N = [] ∧ v1 = .slice xa2 X.N.length xc2) ∨ (Y.N ≠ [] ∧ v1 = .slice ya2 Y.N.length yc2)) := by
      have h := HJ.out.n
      by_cases h0 : Y.N = []
      · rw [if_pos h0] at h
        rw [h]
        exact ⟨_, Nx, hNx, .inl ⟨h0, rfl⟩⟩
      · rw [if_neg h0] at h
        rw [h]
        exact ⟨_, Ny, hNy, .inr ⟨h0, rfl⟩⟩
    obtain ⟨v2, hv2, hs2⟩ : ∃ v2 : Value, Sl we 19 v2 Z.P.length (Z.P.flatMap pfL) ∧ ((Y.P = [] ∧ v2 = .slice xa3 X.P.length xc3) ∨ (Y.P ≠ [] ∧ v2 = .slice ya3 Y.P.length yc3)) := by
      have h := HJ.out.p
      by_cases h0 : Y.P = []
      · rw [if_pos h0] at h
        rw [h]
        exact ⟨_, HXe.out.p, .inl ⟨h0, rfl⟩⟩
      · rw [if_neg h0] at h
        rw [h]
        exact ⟨_, HYe.out.p, .inr ⟨h0, rfl⟩⟩
    have Hv1 := Lib.hid hv1
    have Hv2 := Lib.hid hv2
    have Hs1 := Lib.hid hs1
    have Hs2 := Lib.hid hs2
    have HR : Hid (∀ w', Below we.heap.size we w' → RvRd w' (.slice va J vc) v1 v2 Z) := Lib.hid (fun w' hb => ⟨HSk.out.below hb, ⟨N1, Hv1.out.bel hb⟩, Hv2.out.below hb⟩)
    have HGs : Hid (Bk wk g9 68 (wA (.slice va J vc) (.slice ya2 Y.N.length yc2) (.slice ya3 Y.P.length yc3) Y.nd Y.tm Y.tr Y.rot Y.vc Y.sg Y.ed)) := HGk
    clear hv1 hv2 hs1 hs2 hNx hNy Hv0 HSk HGh HGk Hbf HBf Hbh HS5 Ho5
    have c6 : wk.cell? ⟨g6, 1, none⟩ = some (.slice ya2 Y.N.length yc2) := (HDe.out.bel Hbk.out).cell 1
    have c5' : wk.cell? ⟨g5, 1, none⟩ = some (.slice xa2 X.N.length xc2) := (HAe.out.bel Hbk.out).cell 1
    go_upto_if 49 with (fail)
    go_cut [49] (fun _ wx => Bk wx g9 68 (wA (.slice va J vc) v1 (.slice ya3 Y.P.length yc3) Y.nd Y.tm Y.tr Y.rot Y.vc Y.sg Y.ed) ∧ Below we.heap.size we wx)
    case first => as_aux_lemma =>
      rcases Hs1.out with ⟨h0, hv⟩ | ⟨h0, hv⟩
      · have hz : ((Y.N.length : Int) == 0) = true := by rw [h0]; rfl
        have Hv := Lib.hid hv
        clear h0 hv
        go_wp2_with (first
          | ((with_reducible show wpList _ _ _ (⟨none, .store _ (.tmp 52) _, _, _, _, _⟩ :: _) _ _); refine wpList_storeR (o := ⟨none, _, _, _, _, _⟩) rfl _ _ _ rfl rfl rfl rfl HGs.out (show 1 < 10 from by decide) sz_nmsR ?_; intro wy hB hS; have HBy := Lib.hid hB; have Hby := Lib.hid (Hbk.out.trans (hS.below Hg9.out)); clear hB hS))
        go_meet
        rw [Hv.out]
        exact ⟨HBy.out, Hby.out⟩
      · have hz : ((Y.N.length : Int) == 0) = false := by
          rw [beq_eq_false_iff_ne]
          have := List.length_pos_iff.2 h0
          omega
        have Hv := Lib.hid hv
        clear h0 hv
        go_wp2
        go_meet
        rw [Hv.out]
        exact ⟨HGs.out, Hbk.out⟩
    case rest => as_aux_lemma =>
      obtain ⟨w1q, rfl⟩ : ∃ wz, wz = wc := ⟨_, rfl⟩
      obtain ⟨hcut1, hcut2⟩ := hcut
      have HG1 := Lib.hid hcut1
      have Hb1q := Lib.hid hcut2
      clear hcut1 hcut2 c6 c5'
      have c6 : w1q.cell? ⟨g6, 2, none⟩ = some (.slice ya3 Y.P.length yc3) := (HDe.out.bel Hb1q.out).cell 2
      have c5' : w1q.cell? ⟨g5, 2, none⟩ = some (.slice xa3 X.P.length xc3) := (HAe.out.bel Hb1q.out).cell 2
      go_upto_if 56 with (fail)
      go_cut [56] (fun _ wx => Bk wx g9 68 (wA (.slice va J vc) v1 v2 Y.nd Y.tm Y.tr Y.rot Y.vc Y.sg Y.ed) ∧ Below we.heap.size we wx)
      case first => as_aux_lemma =>
        rcases Hs2.out with ⟨h0, hv⟩ | ⟨h0, hv⟩
        · have hz : ((Y.P.length : Int) == 0) = true := by rw [h0]; rfl
          have Hv := Lib.hid hv
          clear h0 hv
          go_wp2_with (first
            | ((with_reducible show wpList _ _ _ (⟨none, .store _ (.tmp 59) _, _, _, _, _⟩ :: _) _ _); refine wpList_storeR (o := ⟨none, _, _, _, _, _⟩) rfl _ _ _ rfl rfl rfl rfl HG1.out (show 2 < 10 from by decide) sz_pfsR ?_; intro wy hB hS; have HBy := Lib.hid hB; have Hby := Lib.hid (Hb1q.out.trans (hS.below Hg9.out)); clear hB hS))
          go_meet
          rw [Hv.out]
          exact ⟨HBy.out, Hby.out⟩
        · have hz : ((Y.P.length : Int) == 0) = false := by
            rw [beq_eq_false_iff_ne]
            have := List.length_pos_iff.2 h0
            omega
          have Hv := Lib.hid hv
          clear h0 hv
          go_wp2
          go_meet
          rw [Hv.out]
          exact ⟨HG1.out, Hb1q.out⟩
      case rest => as_aux_lemma =>
        obtain ⟨w2q, rfl⟩ : ∃ wz, wz = wc := ⟨_, rfl⟩
        obtain ⟨hcut1, hcut2⟩ := hcut
        have HG2 := Lib.hid hcut1
        have Hb2q := Lib.hid hcut2
        clear hcut1 hcut2 c6 c5'
        have HE := Lib.hid HJ.out.rot
        go_upto_region 13 with (fail)
        go_cut [66] (fun _ wx => Bk wx g9 68 (wA (.slice va J vc) v1 v2 Y.nd Y.tm Y.tr Z.rot Y.vc Y.sg Y.ed) ∧ Below we.heap.size we wx)
        case first => as_aux_lemma =>
          have c5' : w2q.cell? ⟨g5, 6, none⟩ = some (.bool X.rot) := (HAe.out.bel Hb2q.out).cell 6
          have c6 : w2q.cell? ⟨g6, 6, none⟩ = some (.bool Y.rot) := (HDe.out.bel Hb2q.out).cell 6
          obtain ⟨y, hy⟩ : ∃ y, y = Y.rot := ⟨_, rfl⟩
          rw [← hy] at c6 HE
          cases hx : X.rot with
          | true =>
            rw [hx] at c5' HE
            clear hx hy
            go_wp2_with (first
              | ((with_reducible show wpList _ _ _ (⟨none, .store _ (.tmp 66) _, _, _, _, _⟩ :: _) _ _); refine wpList_storeR (o := ⟨none, _, _, _, _, _⟩) rfl _ _ _ rfl rfl rfl rfl HG2.out (show 6 < 10 from by decide) sz_bool ?_; intro wy hB hS; have HBy := Lib.hid hB; have Hby := Lib.hid (Hb2q.out.trans (hS.below Hg9.out)); clear hB hS))
            go_meet
            rw [HE.out]
            exact ⟨HBy.out, Hby.out⟩
          | false =>
            rw [hx, Bool.false_or] at HE
            rw [hx] at c5'
            clear hx hy
            go_wp2_with (first
              | ((with_reducible show wpList _ _ _ (⟨none, .store _ (.tmp 66) _, _, _, _, _⟩ :: _) _ _); refine wpList_storeR (o := ⟨none, _, _, _, _, _⟩) rfl _ _ _ rfl rfl rfl rfl HG2.out (show 6 < 10 from by decide) sz_bool ?_; intro wy hB hS; have HBy := Lib.hid hB; have Hby := Lib.hid (Hb2q.out.trans (hS.below Hg9.out)); clear hB hS))
            go_meet
            rw [HE.out]
            exact ⟨HBy.out, Hby.out⟩
        case rest => as_aux_lemma =>
          obtain ⟨w3q, rfl⟩ : ∃ wz, wz = wc := ⟨_, rfl⟩
          obtain ⟨hcut1, hcut2⟩ := hcut
          have HG3 := Lib.hid hcut1
          have Hb3q := Lib.hid hcut2
          clear hcut1 hcut2
          have HE := Lib.hid HJ.out.vc
          go_upto_region 14 with (fail)
          go_cut [73] (fun _ wx => Bk wx g9 68 (wA (.slice va J vc) v1 v2 Y.nd Y.tm Y.tr Z.rot Z.vc Y.sg Y.ed) ∧ Below we.heap.size we wx)
          case first => as_aux_lemma =>
            have c5' : w3q.cell? ⟨g5, 7, none⟩ = some (.bool X.vc) := (HAe.out.bel Hb3q.out).cell 7
            have c6 : w3q.cell? ⟨g6, 7, none⟩ = some (.bool Y.vc) := (HDe.out.bel Hb3q.out).cell 7
            obtain ⟨y, hy⟩ : ∃ y, y = Y.vc := ⟨_, rfl⟩
            rw [← hy] at c6 HE
            cases hx : X.vc with
            | true =>
              rw [hx] at c5' HE
              clear hx hy
              go_wp2_with (first
                | ((with_reducible show wpList _ _ _ (⟨none, .store _ (.tmp 73) _, _, _, _, _⟩ :: _) _ _); refine wpList_storeR (o := ⟨none, _, _, _, _, _⟩) rfl _ _ _ rfl rfl rfl rfl HG3.out (show 7 < 10 from by decide) sz_bool ?_; intro wy hB hS; have HBy := Lib.hid hB; have Hby := Lib.hid (Hb3q.out.trans (hS.below Hg9.out)); clear hB hS))
              go_meet
              rw [HE.out]
              exact ⟨HBy.out, Hby.out⟩
            | false =>
              rw [hx, Bool.false_or] at HE
              rw [hx] at c5'
              clear hx hy
              go_wp2_with (first
                | ((with_reducible show wpList _ _ _ (⟨none, .store _ (.tmp 73) _, _, _, _, _⟩ :: _) _ _); refine wpList_storeR (o := ⟨none, _, _, _, _, _⟩) rfl _ _ _ rfl rfl rfl rfl HG3.out (show 7 < 10 from by decide) sz_bool ?_; intro wy hB hS; have HBy := Lib.hid hB; have Hby := Lib.hid (Hb3q.out.trans (hS.below Hg9.out)); clear hB hS))
              go_meet
              rw [HE.out]
              exact ⟨HBy.out, Hby.out⟩
          case rest => as_aux_lemma =>
            obtain ⟨w4q, rfl⟩ : ∃ wz, wz = wc := ⟨_, rfl⟩
            obtain ⟨hcut1, hcut2⟩ := hcut
            have HG4 := Lib.hid hcut1
            have Hb4q := Lib.hid hcut2
            clear hcut1 hcut2
            have HE := Lib.hid HJ.out.sg
            go_upto_region 15 with (fail)
            go_cut [80] (fun _ wx => Bk wx g9 68 (wA (.slice va J vc) v1 v2 Y.nd Y.tm Y.tr Z.rot Z.vc Z.sg Y.ed) ∧ Below we.heap.size we wx)
            case first => as_aux_lemma =>
              have c5' : w4q.cell? ⟨g5, 8, none⟩ = some (.bool X.sg) := (HAe.out.bel Hb4q.out).cell 8
              have c6 : w4q.cell? ⟨g6, 8, none⟩ = some (.bool Y.sg) := (HDe.out.bel Hb4q.out).cell 8
              obtain ⟨y, hy⟩ : ∃ y, y = Y.sg := ⟨_, rfl⟩
              rw [← hy] at c6 HE
              cases hx : X.sg with
              | true =>
                rw [hx] at c5' HE
                clear hx hy
                go_wp2_with (first
                  | ((with_reducible show wpList _ _ _ (⟨none, .store _ (.tmp 80) _, _, _, _, _⟩ :: _) _ _); refine wpList_storeR (o := ⟨none, _, _, _, _, _⟩) rfl _ _ _ rfl rfl rfl rfl HG4.out (show 8 < 10 from by decide) sz_bool ?_; intro wy hB hS; have HBy := Lib.hid hB; have Hby := Lib.hid (Hb4q.out.trans (hS.below Hg9.out)); clear hB hS))
                go_meet
                rw [HE.out]
                exact ⟨HBy.out, Hby.out⟩
              | false =>
                rw [hx, Bool.false_or] at HE
                rw [hx] at c5'
                clear hx hy
                go_wp2_with (first
                  | ((with_reducible show wpList _ _ _ (⟨none, .store _ (.tmp 80) _, _, _, _, _⟩ :: _) _ _); refine wpList_storeR (o := ⟨none, _, _, _, _, _⟩) rfl _ _ _ rfl rfl rfl rfl HG4.out (show 8 < 10 from by decide) sz_bool ?_; intro wy hB hS; have HBy := Lib.hid hB; have Hby := Lib.hid (Hb4q.out.trans (hS.below Hg9.out)); clear hB hS))
                go_meet
                rw [HE.out]
                exact ⟨HBy.out, Hby.out⟩
            case rest => as_aux_lemma =>
              obtain ⟨w5q, rfl⟩ : ∃ wz, wz = wc := ⟨_, rfl⟩
              obtain ⟨hcut1, hcut2⟩ := hcut
              have HG5 := Lib.hid hcut1
              have Hb5q := Lib.hid hcut2
              clear hcut1 hcut2
              have HE := Lib.hid HJ.out.ed
              go_upto_region 16 with (fail)
              go_cut [87] (fun _ wx => Bk wx g9 68 (wA (.slice va J vc) v1 v2 Y.nd Y.tm Y.tr Z.rot Z.vc Z.sg Z.ed) ∧ Below we.heap.size we wx)
              case first => as_aux_lemma =>
                have c5' : w5q.cell? ⟨g5, 9, none⟩ = some (.bool X.ed) := (HAe.out.bel Hb5q.out).cell 9
                have c6 : w5q.cell? ⟨g6, 9, none⟩ = some (.bool Y.ed) := (HDe.out.bel Hb5q.out).cell 9
                obtain ⟨y, hy⟩ : ∃ y, y = Y.ed := ⟨_, rfl⟩
                rw [← hy] at c6 HE
                cases hx : X.ed with
                | true =>
                  rw [hx] at c5' HE
                  clear hx hy
                  go_wp2_with (first
                    | ((with_reducible show wpList _ _ _ (⟨none, .store _ (.tmp 87) _, _, _, _, _⟩ :: _) _ _); refine wpList_storeR (o := ⟨none, _, _, _, _, _⟩) rfl _ _ _ rfl rfl rfl rfl HG5.out (show 9 < 10 from by decide) sz_bool ?_; intro wy hB hS; have HBy := Lib.hid hB; have Hby := Lib.hid (Hb5q.out.trans (hS.below Hg9.out)); clear hB hS))
                  go_meet
                  rw [HE.out]
                  exact ⟨HBy.out, Hby.out⟩
                | false =>
                  rw [hx, Bool.false_or] at HE
                  rw [hx] at c5'
                  clear hx hy
                  go_wp2_with (first
                    | ((with_reducible show wpList _ _ _ (⟨none, .store _ (.tmp 87) _, _, _, _, _⟩ :: _) _ _); refine wpList_storeR (o := ⟨none, _, _, _, _, _⟩) rfl _ _ _ rfl rfl rfl rfl HG5.out (show 9 < 10 from by decide) sz_bool ?_; intro wy hB hS; have HBy := Lib.hid hB; have Hby := Lib.hid (Hb5q.out.trans (hS.below Hg9.out)); clear hB hS))
                  go_meet
                  rw [HE.out]
                  exact ⟨HBy.out, Hby.out⟩
              case rest => as_aux_lemma =>
                obtain ⟨w6q, rfl⟩ : ∃ wz, wz = wc := ⟨_, rfl⟩
                obtain ⟨hcut1, hcut2⟩ := hcut
                have HG6 := Lib.hid hcut1
                have Hb6q := Lib.hid hcut2
                clear hcut1 hcut2
                go_upto_if 93 with (first
                  | (go_at_call 40; refine (rv17plain_any _).mono ?_; rintro e wp ⟨rfl, hbp⟩; have HGp := Lib.hid (HG6.out.bel hbp); have Hbp := Lib.hid (Hb6q.out.trans (hbp.mono Hb6q.out.size)); clear hbp)
                  | ((with_reducible show wpList _ _ _ (⟨some 10, _, _, _, _, _⟩ :: _) _ _); refine wpList_allocZ (o := ⟨some 10, _, _, _, _, _⟩) rfl _ rfl rv_zero ?_; intro g10 wq hg hB hb' hs; have Hg10 := Lib.hid hg; have hgp9 := HGp.out.lt; have HGq := Lib.hid (HGp.out.bel hb'); have hbq := Hbp.out.trans (hb'.mono Hbp.out.size); have Hbq := Lib.hid hbq; have HBq := Lib.hid hB; clear hg hs hb' hB hbq)
                  | ((with_reducible show wpList _ _ _ (⟨none, .store _ (.tmp 10) _, _, _, _, _⟩ :: _) _ _); refine wpList_storeB (o := ⟨none, _, _, _, _, _⟩) rfl _ (.tmp 10) _ rfl rfl rfl HBq.out rv_size rfl (rvA_one _ rfl rfl rfl) ?_; intro w10 hB hS; have hne : g10 ≠ g9 := (by have := Hg10.out; omega); have h10e : we.heap.size ≤ g10 := (by have h1 := Hg10.out; have h2 := Hbp.out.size; omega); have HTr := Lib.hid hB; have HGr := Lib.hid (HGq.out.stays hS (Ne.symm hne)); have Hbr := Lib.hid (Hbq.out.trans (hS.below h10e)); clear hB hS; refine holdL ?_))
                refine Lib.hid ?_
                have c6 : w10.cell? ⟨g6, 3, none⟩ = some (.int .i64 Y.nd) := (HDe.out.bel Hbr.out).cell 3
                have c10 : w10.cell? ⟨g10, 3, none⟩ = some (.int .i64 1) := HTr.out.cell 3
                have c7 : w10.cell? ⟨g7, 3, none⟩ = some (.int .i64 Z.nd) := (HBe.out.bel Hbr.out).cell 3
                go_upto_if 93 with (fail)
                go_cut [93] (fun _ wx => Bk wx g9 68 (wA (.slice va J vc) v1 v2 Z.nd Y.tm Y.tr Z.rot Z.vc Z.sg Z.ed) ∧ Below we.heap.size we wx ∧ Bk wx g10 68 rvP0)
                case first => as_aux_lemma =>
                  by_cases hd : Y.nd = 1
                  · have hz : (Y.nd == 1) = true := beq_iff_eq.2 hd
                    clear hd
                    go_wp2_with (first
                      | ((with_reducible show wpList _ _ _ (⟨none, .store _ (.tmp 96) _, _, _, _, _⟩ :: _) _ _); refine wpList_storeR (o := ⟨none, _, _, _, _, _⟩) rfl _ _ _ rfl rfl rfl rfl HGr.out (show 3 < 10 from by decide) sz_intR ?_; intro wy hB hS; have HBy := Lib.hid hB; have Hby := Lib.hid (Hbr.out.trans (hS.below Hg9.out)); have HTy := Lib.hid (HTr.out.stays hS hne); clear hB hS))
                    go_meet
                    exact ⟨HBy.out, Hby.out, HTy.out⟩
                  · have hz : (Y.nd == 1) = false := beq_eq_false_iff_ne.2 hd
                    have he : Hid (Z.nd = Y.nd) := Lib.hid (by rcases HJ.out.nd with h | h; exact h; exact absurd h.1 hd)
                    clear hd
                    go_wp2
                    go_meet
                    rw [he.out]
                    exact ⟨HGr.out, Hbr.out, HTr.out⟩
                case rest => as_aux_lemma =>
                  obtain ⟨wn0, rfl⟩ : ∃ wz, wz = wc := ⟨_, rfl⟩
                  obtain ⟨hcut1, hcut2, hcut3⟩ := hcut
                  have HGn0 := Lib.hid hcut1
                  have Hbn0 := Lib.hid hcut2
                  have HTn0 := Lib.hid hcut3
                  clear hcut1 hcut2 hcut3 c6 c7 c10
                  have c6 : wn0.cell? ⟨g6, 4, none⟩ = some (.int .i64 Y.tm) := (HDe.out.bel Hbn0.out).cell 4
                  have c10 : wn0.cell? ⟨g10, 4, none⟩ = some (.int .i64 5) := HTn0.out.cell 4
                  have c7 : wn0.cell? ⟨g7, 4, none⟩ = some (.int .i64 Z.tm) := (HBe.out.bel Hbn0.out).cell 4
                  go_upto_if 101 with (fail)
                  go_cut [101] (fun _ wx => Bk wx g9 68 (wA (.slice va J vc) v1 v2 Z.nd Z.tm Y.tr Z.rot Z.vc Z.sg Z.ed) ∧ Below we.heap.size we wx ∧ Bk wx g10 68 rvP0)
                  case first => as_aux_lemma =>
                    by_cases hd : Y.tm = 5
                    · have hz : (Y.tm == 5) = true := beq_iff_eq.2 hd
                      clear hd
                      go_wp2_with (first
                        | ((with_reducible show wpList _ _ _ (⟨none, .store _ (.tmp 104) _, _, _, _, _⟩ :: _) _ _); refine wpList_storeR (o := ⟨none, _, _, _, _, _⟩) rfl _ _ _ rfl rfl rfl rfl HGn0.out (show 4 < 10 from by decide) sz_intR ?_; intro wy hB hS; have HBy := Lib.hid hB; have Hby := Lib.hid (Hbn0.out.trans (hS.below Hg9.out)); have HTy := Lib.hid (HTn0.out.stays hS hne); clear hB hS))
                      go_meet
                      exact ⟨HBy.out, Hby.out, HTy.out⟩
                    · have hz : (Y.tm == 5) = false := beq_eq_false_iff_ne.2 hd
                      have he : Hid (Z.tm = Y.tm) := Lib.hid (by rcases HJ.out.tm with h | h; exact h; exact absurd h.1 hd)
                      clear hd
                      go_wp2
                      go_meet
                      rw [he.out]
                      exact ⟨HGn0.out, Hbn0.out, HTn0.out⟩
                  case rest => as_aux_lemma =>
                    obtain ⟨wn1, rfl⟩ : ∃ wz, wz = wc := ⟨_, rfl⟩
                    obtain ⟨hcut1, hcut2, hcut3⟩ := hcut
                    have HGn1 := Lib.hid hcut1
                    have Hbn1 := Lib.hid hcut2
                    have HTn1 := Lib.hid hcut3
                    clear hcut1 hcut2 hcut3 c6 c7 c10
                    have c6 : wn1.cell? ⟨g6, 5, none⟩ = some (.int .i64 Y.tr) := (HDe.out.bel Hbn1.out).cell 5
                    have c10 : wn1.cell? ⟨g10, 5, none⟩ = some (.int .i64 2) := HTn1.out.cell 5
                    have c7 : wn1.cell? ⟨g7, 5, none⟩ = some (.int .i64 Z.tr) := (HBe.out.bel Hbn1.out).cell 5
                    go_upto_if 109 with (fail)
                    go_cut [109] (fun _ wx => Bk wx g9 68 (wA (.slice va J vc) v1 v2 Z.nd Z.tm Z.tr Z.rot Z.vc Z.sg Z.ed) ∧ Below we.heap.size we wx ∧ Bk wx g10 68 rvP0)
                    case first => as_aux_lemma =>
                      by_cases hd : Y.tr = 2
                      · have hz : (Y.tr == 2) = true := beq_iff_eq.2 hd
                        clear hd
                        go_wp2_with (first
                          | ((with_reducible show wpList _ _ _ (⟨none, .store _ (.tmp 112) _, _, _, _, _⟩ :: _) _ _); refine wpList_storeR (o := ⟨none, _, _, _, _, _⟩) rfl _ _ _ rfl rfl rfl rfl HGn1.out (show 5 < 10 from by decide) sz_intR ?_; intro wy hB hS; have HBy := Lib.hid hB; have Hby := Lib.hid (Hbn1.out.trans (hS.below Hg9.out)); have HTy := Lib.hid (HTn1.out.stays hS hne); clear hB hS))
                        go_meet
                        exact ⟨HBy.out, Hby.out, HTy.out⟩
                      · have hz : (Y.tr == 2) = false := beq_eq_false_iff_ne.2 hd
                        have he : Hid (Z.tr = Y.tr) := Lib.hid (by rcases HJ.out.tr with h | h; exact h; exact absurd h.1 hd)
                        clear hd
                        go_wp2
                        go_meet
                        rw [he.out]
                        exact ⟨HGn1.out, Hbn1.out, HTn1.out⟩
                    case rest => as_aux_lemma =>
                      obtain ⟨wn2, rfl⟩ : ∃ wz, wz = wc := ⟨_, rfl⟩
                      obtain ⟨hcut1, hcut2, hcut3⟩ := hcut
                      have HGn2 := Lib.hid hcut1
                      have Hbn2 := Lib.hid hcut2
                      have HTn2 := Lib.hid hcut3
                      clear hcut1 hcut2 hcut3 c6 c7 c10
                      have hRz : wn2.rangeAt g7 0 (rvL (.slice za1 Z.S.length zc1) (.slice za2 Z.N.length zc2) (.slice za3 Z.P.length zc3) Z) := Bk.rangeL (HBe.out.bel Hbn2.out) 0 _ [] (by simp)
                      have hRw : wn2.rangeAt g9 0 (rvL (.slice va J vc) v1 v2 Z) := Bk.rangeL (show Bk wn2 g9 68 (rvL (.slice va J vc) v1 v2 Z).toArray from HGn2.out) 0 _ [] (by simp)
                      have HSame := Lib.hid (rsame17_any Z _ _ _ _ _ _ wn2 (HZe.out.bel Hbn2.out) (HR.out wn2 Hbn2.out) HFz.out)
                      have Hwn := Lib.hid (bel_tr Hwe.out Hbn2.out)
                      go_wp2_with (first
                        | ((with_reducible show wpList _ _ _ (⟨some 113, _, _, _, _, _⟩ :: _) _ _); refine wpList_load_mid (op := ⟨some 113, _, _, _, _, _⟩) rfl _ _ rfl _ _ rfl _ _ hRz rv_under rfl rv_size ?_)
                        | ((with_reducible show wpList _ _ _ (⟨some 114, _, _, _, _, _⟩ :: _) _ _); refine wpList_load_mid (op := ⟨some 114, _, _, _, _, _⟩) rfl _ _ rfl _ _ rfl _ _ hRw rv_under rfl rv_size ?_)
                        | (go_at_call 38; refine HSame.out.mono ?_; rintro e wz ⟨rfl, hbz⟩; have HAz := Lib.hid ((HAe.out.bel Hbn2.out).bel hbz); have HDz := Lib.hid ((HDe.out.bel Hbn2.out).bel hbz); have HBz := Lib.hid ((HBe.out.bel Hbn2.out).bel hbz); have Hbz := Lib.hid (bel_tr Hwn.out hbz); clear hbz hRz hRw; refine holdL ?_))
                      refine Lib.hid ?_
                      have p3 : wz.cell? ⟨g5, 3, none⟩ = some (.int .i64 X.nd) := HAz.out.cell 3
                      have p4 : wz.cell? ⟨g5, 4, none⟩ = some (.int .i64 X.tm) := HAz.out.cell 4
                      have p5 : wz.cell? ⟨g5, 5, none⟩ = some (.int .i64 X.tr) := HAz.out.cell 5
                      have q3 : wz.cell? ⟨g6, 3, none⟩ = some (.int .i64 Y.nd) := HDz.out.cell 3
                      have q4 : wz.cell? ⟨g6, 4, none⟩ = some (.int .i64 Y.tm) := HDz.out.cell 4
                      have q5 : wz.cell? ⟨g6, 5, none⟩ = some (.int .i64 Y.tr) := HDz.out.cell 5
                      have r3 : wz.cell? ⟨g7, 3, none⟩ = some (.int .i64 Z.nd) := HBz.out.cell 3
                      have r4 : wz.cell? ⟨g7, 4, none⟩ = some (.int .i64 Z.tm) := HBz.out.cell 4
                      have r5 : wz.cell? ⟨g7, 5, none⟩ = some (.int .i64 Z.tr) := HBz.out.cell 5
                      have o3 := beq_or (J_or HJ.out.nd)
                      have o4 := beq_or (J_or HJ.out.tm)
                      have o5 := beq_or (J_or HJ.out.tr)
                      rcases o3 with o3 | ⟨o3, o3'⟩
                      all_goals
                        rcases o4 with o4 | ⟨o4, o4'⟩
                      all_goals
                        rcases o5 with o5 | ⟨o5, o5'⟩
                      all_goals
                        go_wp2
                        go_ret
                        exact ⟨rfl, Hbz.out⟩
end Go.Proofs.YtgebcifkbldfoaaDoor
