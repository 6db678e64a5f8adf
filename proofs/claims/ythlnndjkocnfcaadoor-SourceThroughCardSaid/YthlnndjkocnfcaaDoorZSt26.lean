/- Contracts and plain lemmas of our own, merged. -/
import Derived.Test.YthlnndjkocnfcaaDoorZSt1
import Derived.Test.YthlnndjkocnfcaaDoorZSt12
import Derived.Test.YthlnndjkocnfcaaDoorZSt13
import Derived.Test.YthlnndjkocnfcaaDoorZSt21
import Derived.Test.YthlnndjkocnfcaaDoorZSt23
import Derived.Test.YthlnndjkocnfcaaDoorZSt24
import Derived.Test.YthlnndjkocnfcaaDoorZSt25
/- source.better, source.Better (printed by mk_srh.py). -/
namespace Go.Proofs.YthlnndjkocnfcaaDoor
open Go.RowKit
attribute [local go_sem] ba_get ext_take ext_drop ext_any ba_app

def giA (l : List Int) : Array Value := (l.map (fun n => Value.int .i64 n)).toArray
theorem giA_size (l : List Int) : (giA l).size = l.length := by simp [giA]
theorem giA_at {l : List Int} {k : Nat} (h : k < l.length) : (giA l)[k]? = some (.int .i64 l[k]) := by
  unfold giA
  rw [List.getElem?_toArray, List.getElem?_map, List.getElem?_eq_getElem h]
  rfl
theorem giA_one (l : List Int) : (giA l).all (·.oneCell') = true := by
  refine all_oneCell_toArray fun v hv => ?_
  obtain ⟨x, _, rfl⟩ := List.mem_map.1 hv
  rfl
theorem i8_under : Tryd.prog.underlying 62 = some (.array 8 3) := by kernel_rfl
theorem i8_size : (Tryd.prog.info? 62).map (·.size) = some 8 := by kernel_rfl
theorem i8_zero : ZeroIs Tryd.prog 62 (giA [0, 0, 0, 0, 0, 0, 0, 0]) := by unfold ZeroIs; kernel_rfl
theorem built_i8 (a b c d e f g h : Int) : Tryd.prog.built 62 [(0, .int .i64 a), (1, .int .i64 b), (2, .int .i64 c), (3, .int .i64 d), (4, .int .i64 e), (5, .int .i64 f), (6, .int .i64 g), (7, .int .i64 h)] = some (giA [a, b, c, d, e, f, g, h]) := by kernel_rfl
theorem run_idxI {l : List Int} (h8 : l.length = 8) {k : Nat} (hk : k < l.length) (w : World) : (Instr.index 62 (.agg (giA l)) (.int .i64 (k : Int))).run Tryd.prog w = .ok (.int .i64 l[k]) w := by
  have hs : (sizeOf 3).run Tryd.prog w = .ok 1 w := size_run (by kernel_rfl) w
  have hi : (0 : Int) ≤ (k : Int) ∧ (k : Int) < ((8 : Nat) : Int) := by omega
  have ha : (isAgg 3).run Tryd.prog w = .ok false w := by simp [isAgg, run_underlying Tryd.underlying3]
  simp only [Instr.index, asIntOf, Sem.run_bind, Sem.run_pure, Result.andThen_ok, run_underlying i8_under, if_pos hi, hs, part, ha, Bool.false_eq_true, if_false, Int.toNat_natCast, Nat.mul_one, giA_at hk]
theorem wpList_idxI {w : World} {ops : Array Oper} {rest : List Oper} {o : Oper} {a : Act} {Q : Exit → Act → World → Prop} (hgd : o.guard = none) (x y : Operand) (ho : o.op = .index 62 x y) {l : List Int} {k : Nat} (hx : a.eval x = .agg (giA l)) (hy : a.eval y = .int .i64 (k : Int)) (h8 : l.length = 8) (hk : k < l.length)
    (h : wpList Tryd.prog ops Q rest (a.put o.dst (.int .i64 l[k])) w) : wpList Tryd.prog ops Q (o :: rest) a w := by
  refine wpList_plain hgd fun _ hK => ?_
  unfold Oper.wp execOp
  simp only [ho, hx, hy, Sem.run_bind, run_idxI h8 hk, Result.andThen_ok]
  exact hK _ _ h
theorem fst1_cons (x : Int) (l : List Int) (h : x = 0) : fst1 (x :: l) = fst1 l := by rw [fst1, if_pos h]
theorem fst1_hit (x : Int) (l : List Int) (h : x ≠ 0) : fst1 (x :: l) = x := by rw [fst1, if_neg h]
theorem fstI_cons (x : Int) (l : List Int) (k : Nat) (h : x = 0) : fstI (x :: l) k = fstI l (k + 1) := by rw [fstI, if_pos h]
theorem fstI_hit (x : Int) (l : List Int) (k : Nat) (h : x ≠ 0) : fstI (x :: l) k = (k : Int) + 1 := by rw [fstI, if_neg h]
def BetPost (w : World) (l : List Int) (e : Ending) (w' : World) : Prop := e = .returned (.tuple #[.int .i64 (fst1 l), .int .i64 (fstI l 0)]) ∧ Below w.heap.size w w'
set_option maxRecDepth 100000 in
set_option maxHeartbeats 4000000 in
theorem sbetter_any (t : Aim) (a b : Wor) (w : World) : Calls Tryd.prog 10 #[.agg (aimA t), .agg (worA a), .agg (worA b)] w (BetPost w (telL t a b)) := by
  obtain ⟨L, hL⟩ : ∃ L, L = telL t a b := ⟨_, rfl⟩
  have HL : Hid (telL t a b = L) := Lib.hid hL.symm
  have H0 : Hid (∀ w', Calls Tryd.prog 16 #[.bool a.same, .bool b.same] w' (InPost w' (ordB a.same b.same))) := Lib.hid (sorder_any a.same b.same)
  have H1 : Hid (∀ w', Calls Tryd.prog 17 #[.int .i64 a.sco, .int .i64 b.sco, .int .i64 t.sco] w' (InPost w' (scoI a.sco b.sco t.sco))) := Lib.hid (scopes_any a.sco b.sco t.sco)
  have H2 : Hid (∀ w', Calls Tryd.prog 16 #[.bool a.cur, .bool b.cur] w' (InPost w' (ordB a.cur b.cur))) := Lib.hid (sorder_any a.cur b.cur)
  have H3 : Hid (∀ w', Calls Tryd.prog 16 #[.bool a.hom, .bool b.hom] w' (InPost w' (ordB a.hom b.hom))) := Lib.hid (sorder_any a.hom b.hom)
  have H4 : Hid (∀ w', Calls Tryd.prog 16 #[.bool a.nea, .bool b.nea] w' (InPost w' (ordB a.nea b.nea))) := Lib.hid (sorder_any a.nea b.nea)
  have H5 : Hid (∀ w', Calls Tryd.prog 16 #[.bool a.lab, .bool b.lab] w' (InPost w' (ordB a.lab b.lab))) := Lib.hid (sorder_any a.lab b.lab)
  have H6 : Hid (∀ w', Calls Tryd.prog 16 #[.bool a.tem, .bool b.tem] w' (InPost w' (ordB a.tem b.tem))) := Lib.hid (sorder_any a.tem b.tem)
  have H7 : Hid (∀ w', Calls Tryd.prog 18 #[.int .i64 a.com, .int .i64 b.com] w' (InPost w' (cmpI a.com b.com))) := Lib.hid (cmp_any a.com b.com)
  generalize ho0 : ordB a.same b.same = o0 at *
  generalize ho1 : scoI a.sco b.sco t.sco = o1 at *
  generalize ho2 : ordB a.cur b.cur = o2 at *
  generalize ho3 : ordB a.hom b.hom = o3 at *
  generalize ho4 : ordB a.nea b.nea = o4 at *
  generalize ho5 : ordB a.lab b.lab = o5 at *
  generalize ho6 : ordB a.tem b.tem = o6 at *
  generalize ho7 : cmpI a.com b.com = o7 at *
  have HE : Hid (L = [o0, o1, o2, o3, o4, o5, o6, o7]) := Lib.hid (by rw [hL]; unfold telL; rw [ho0, ho1, ho2, ho3, ho4, ho5, ho6, ho7])
  rw [HL.out]
  clear hL HL ho0 ho1 ho2 ho3 ho4 ho5 ho6 ho7
  go_enter Tryd.func10, Tryd.ntmps10
  go_wp2_with (first
    | ((with_reducible refine wpList_boxB (o := ⟨some 3, _, _, _, _, _⟩) rfl _ _ rfl rfl ?_); intro g3 w1 hg hB3 hb1 hs; have hg3 : w.heap.size ≤ g3 := Nat.le_of_eq hg.symm; clear hg hs)
    | ((with_reducible refine wpList_boxB (o := ⟨some 4, _, _, _, _, _⟩) rfl _ _ rfl rfl ?_); intro g4 w2 hg hB4 hb2 hs; have hB32 := hB3.bel hb2; have hb02 := bel_tr hb1 hb2; clear hg hs)
    | ((with_reducible refine wpList_boxB (o := ⟨some 5, _, _, _, _, _⟩) rfl _ _ rfl rfl ?_); intro g5 w3 hg hB5 hb3 hs; have hB33 := hB32.bel hb3; have hB43 := hB4.bel hb3; have hb03 := bel_tr hb02 hb3; clear hg hs))
  have a0 : Hid (∀ w', Below w3.heap.size w3 w' → w'.cell? ⟨g4, 0, none⟩ = some (.bool a.same)) := Lib.hid (fun w' h => by have := (hB43.bel h).cell 0; rw [worA_0] at this; exact this)
  have b0 : Hid (∀ w', Below w3.heap.size w3 w' → w'.cell? ⟨g5, 0, none⟩ = some (.bool b.same)) := Lib.hid (fun w' h => by have := (hB5.bel h).cell 0; rw [worA_0] at this; exact this)
  have a1 : Hid (∀ w', Below w3.heap.size w3 w' → w'.cell? ⟨g4, 1, none⟩ = some (.int .i64 a.sco)) := Lib.hid (fun w' h => by have := (hB43.bel h).cell 1; rw [worA_1] at this; exact this)
  have b1 : Hid (∀ w', Below w3.heap.size w3 w' → w'.cell? ⟨g5, 1, none⟩ = some (.int .i64 b.sco)) := Lib.hid (fun w' h => by have := (hB5.bel h).cell 1; rw [worA_1] at this; exact this)
  have a2 : Hid (∀ w', Below w3.heap.size w3 w' → w'.cell? ⟨g4, 2, none⟩ = some (.bool a.cur)) := Lib.hid (fun w' h => by have := (hB43.bel h).cell 2; rw [worA_2] at this; exact this)
  have b2 : Hid (∀ w', Below w3.heap.size w3 w' → w'.cell? ⟨g5, 2, none⟩ = some (.bool b.cur)) := Lib.hid (fun w' h => by have := (hB5.bel h).cell 2; rw [worA_2] at this; exact this)
  have a3 : Hid (∀ w', Below w3.heap.size w3 w' → w'.cell? ⟨g4, 3, none⟩ = some (.bool a.hom)) := Lib.hid (fun w' h => by have := (hB43.bel h).cell 3; rw [worA_3] at this; exact this)
  have b3 : Hid (∀ w', Below w3.heap.size w3 w' → w'.cell? ⟨g5, 3, none⟩ = some (.bool b.hom)) := Lib.hid (fun w' h => by have := (hB5.bel h).cell 3; rw [worA_3] at this; exact this)
  have a4 : Hid (∀ w', Below w3.heap.size w3 w' → w'.cell? ⟨g4, 4, none⟩ = some (.bool a.nea)) := Lib.hid (fun w' h => by have := (hB43.bel h).cell 4; rw [worA_4] at this; exact this)
  have b4 : Hid (∀ w', Below w3.heap.size w3 w' → w'.cell? ⟨g5, 4, none⟩ = some (.bool b.nea)) := Lib.hid (fun w' h => by have := (hB5.bel h).cell 4; rw [worA_4] at this; exact this)
  have a5 : Hid (∀ w', Below w3.heap.size w3 w' → w'.cell? ⟨g4, 5, none⟩ = some (.bool a.lab)) := Lib.hid (fun w' h => by have := (hB43.bel h).cell 5; rw [worA_5] at this; exact this)
  have b5 : Hid (∀ w', Below w3.heap.size w3 w' → w'.cell? ⟨g5, 5, none⟩ = some (.bool b.lab)) := Lib.hid (fun w' h => by have := (hB5.bel h).cell 5; rw [worA_5] at this; exact this)
  have a6 : Hid (∀ w', Below w3.heap.size w3 w' → w'.cell? ⟨g4, 6, none⟩ = some (.bool a.tem)) := Lib.hid (fun w' h => by have := (hB43.bel h).cell 6; rw [worA_6] at this; exact this)
  have b6 : Hid (∀ w', Below w3.heap.size w3 w' → w'.cell? ⟨g5, 6, none⟩ = some (.bool b.tem)) := Lib.hid (fun w' h => by have := (hB5.bel h).cell 6; rw [worA_6] at this; exact this)
  have a7 : Hid (∀ w', Below w3.heap.size w3 w' → w'.cell? ⟨g4, 7, none⟩ = some (.int .i64 a.com)) := Lib.hid (fun w' h => by have := (hB43.bel h).cell 7; rw [worA_7] at this; exact this)
  have b7 : Hid (∀ w', Below w3.heap.size w3 w' → w'.cell? ⟨g5, 7, none⟩ = some (.int .i64 b.com)) := Lib.hid (fun w' h => by have := (hB5.bel h).cell 7; rw [worA_7] at this; exact this)
  have t1 : Hid (∀ w', Below w3.heap.size w3 w' → w'.cell? ⟨g3, 18, none⟩ = some (.int .i64 t.sco)) := Lib.hid (fun w' h => by have := (hB33.bel h).cell 18; rw [aimA_18] at this; exact this)
  have Hb := Lib.hid hb03
  have HB := Lib.hid (built_i8 o0 o1 o2 o3 o4 o5 o6 o7)
  rw [← HE.out] at HB
  have HLn : Hid (L.length = 8) := Lib.hid (by rw [HE.out]; rfl)
  have HLs : Hid ((giA L).size = 8) := Lib.hid (by rw [giA_size, HLn.out])
  have HLz : Hid ((Tryd.prog.info? 62).map (·.size) = some (giA L).size) := Lib.hid (by rw [HLs.out]; exact i8_size)
  clear hB3 hB32 hB33 hB4 hB43 hB5 hb1 hb2 hb3 hb02 hb03 HE
  apply region_cut (R := fun g w' => Bk w' g 62 (giA L) ∧ w3.heap.size ≤ g ∧ Below w3.heap.size w3 w')
  case h =>
    refine wp_region_held (S := fun w' => Below w3.heap.size w3 w') (by kernel_rfl) ?_
    refine wpAnyH_take (i := 0) (oi := ⟨some 11, Op.fieldAddr 50 (Operand.tmp 4) 0, _, _, _, none⟩) (v := Value.pointer (some ⟨g4, 0, none⟩)) rfl (by kernel_rfl) (by kernel_rfl) (by kernel_rfl) (fun _ _ _ h => nomatch h.1) (Or.inl ⟨by rfl, fun w' hS' => by go_simp⟩) (Below.refl _ _).drew ?_
    simp only [Act.put, List.setIfInBounds_toArray, List.set_cons_zero, List.set_cons_succ]
    refine wpAnyH_take (i := 1) (oi := ⟨some 12, Op.load 4 (Operand.tmp 11), _, _, _, none⟩) (v := Value.bool a.same) rfl (by kernel_rfl) (by kernel_rfl) (by kernel_rfl) (fun _ _ _ h => nomatch h.1) (yieldsIf_loadC (by rfl) _ _ rfl rfl a0.out Tryd.underlying4 rfl) (Below.refl _ _).drew ?_
    simp only [Act.put, List.setIfInBounds_toArray, List.set_cons_zero, List.set_cons_succ]
    refine wpAnyH_take (i := 2) (oi := ⟨some 13, Op.fieldAddr 50 (Operand.tmp 5) 0, _, _, _, none⟩) (v := Value.pointer (some ⟨g5, 0, none⟩)) rfl (by kernel_rfl) (by kernel_rfl) (by kernel_rfl) (fun _ _ _ h => nomatch h.1) (Or.inl ⟨by rfl, fun w' hS' => by go_simp⟩) (Below.refl _ _).drew ?_
    simp only [Act.put, List.setIfInBounds_toArray, List.set_cons_zero, List.set_cons_succ]
    refine wpAnyH_take (i := 3) (oi := ⟨some 14, Op.load 4 (Operand.tmp 13), _, _, _, none⟩) (v := Value.bool b.same) rfl (by kernel_rfl) (by kernel_rfl) (by kernel_rfl) (fun _ _ _ h => nomatch h.1) (yieldsIf_loadC (by rfl) _ _ rfl rfl b0.out Tryd.underlying4 rfl) (Below.refl _ _).drew ?_
    simp only [Act.put, List.setIfInBounds_toArray, List.set_cons_zero, List.set_cons_succ]
    refine wpAnyH_take (i := 5) (oi := ⟨some 16, Op.fieldAddr 50 (Operand.tmp 4) 1, _, _, _, none⟩) (v := Value.pointer (some ⟨g4, 1, none⟩)) rfl (by kernel_rfl) (by kernel_rfl) (by kernel_rfl) (fun _ _ _ h => nomatch h.1) (Or.inl ⟨by rfl, fun w' hS' => by go_simp⟩) (Below.refl _ _).drew ?_
    simp only [Act.put, List.setIfInBounds_toArray, List.set_cons_zero, List.set_cons_succ]
    refine wpAnyH_take (i := 6) (oi := ⟨some 17, Op.load 3 (Operand.tmp 16), _, _, _, none⟩) (v := Value.int .i64 a.sco) rfl (by kernel_rfl) (by kernel_rfl) (by kernel_rfl) (fun _ _ _ h => nomatch h.1) (yieldsIf_loadC (by rfl) _ _ rfl rfl a1.out Tryd.underlying3 rfl) (Below.refl _ _).drew ?_
    simp only [Act.put, List.setIfInBounds_toArray, List.set_cons_zero, List.set_cons_succ]
    refine wpAnyH_take (i := 7) (oi := ⟨some 18, Op.fieldAddr 50 (Operand.tmp 5) 1, _, _, _, none⟩) (v := Value.pointer (some ⟨g5, 1, none⟩)) rfl (by kernel_rfl) (by kernel_rfl) (by kernel_rfl) (fun _ _ _ h => nomatch h.1) (Or.inl ⟨by rfl, fun w' hS' => by go_simp⟩) (Below.refl _ _).drew ?_
    simp only [Act.put, List.setIfInBounds_toArray, List.set_cons_zero, List.set_cons_succ]
    refine wpAnyH_take (i := 8) (oi := ⟨some 19, Op.load 3 (Operand.tmp 18), _, _, _, none⟩) (v := Value.int .i64 b.sco) rfl (by kernel_rfl) (by kernel_rfl) (by kernel_rfl) (fun _ _ _ h => nomatch h.1) (yieldsIf_loadC (by rfl) _ _ rfl rfl b1.out Tryd.underlying3 rfl) (Below.refl _ _).drew ?_
    simp only [Act.put, List.setIfInBounds_toArray, List.set_cons_zero, List.set_cons_succ]
    refine wpAnyH_take (i := 9) (oi := ⟨some 20, Op.fieldAddr 46 (Operand.tmp 3) 1, _, _, _, none⟩) (v := Value.pointer (some ⟨g3, 18, none⟩)) rfl (by kernel_rfl) (by kernel_rfl) (by kernel_rfl) (fun _ _ _ h => nomatch h.1) (Or.inl ⟨by rfl, fun w' hS' => by go_simp⟩) (Below.refl _ _).drew ?_
    simp only [Act.put, List.setIfInBounds_toArray, List.set_cons_zero, List.set_cons_succ]
    refine wpAnyH_take (i := 10) (oi := ⟨some 21, Op.load 3 (Operand.tmp 20), _, _, _, none⟩) (v := Value.int .i64 t.sco) rfl (by kernel_rfl) (by kernel_rfl) (by kernel_rfl) (fun _ _ _ h => nomatch h.1) (yieldsIf_loadC (by rfl) _ _ rfl rfl t1.out Tryd.underlying3 rfl) (Below.refl _ _).drew ?_
    simp only [Act.put, List.setIfInBounds_toArray, List.set_cons_zero, List.set_cons_succ]
    refine wpAnyH_take (i := 12) (oi := ⟨some 23, Op.fieldAddr 50 (Operand.tmp 4) 2, _, _, _, none⟩) (v := Value.pointer (some ⟨g4, 2, none⟩)) rfl (by kernel_rfl) (by kernel_rfl) (by kernel_rfl) (fun _ _ _ h => nomatch h.1) (Or.inl ⟨by rfl, fun w' hS' => by go_simp⟩) (Below.refl _ _).drew ?_
    simp only [Act.put, List.setIfInBounds_toArray, List.set_cons_zero, List.set_cons_succ]
    refine wpAnyH_take (i := 13) (oi := ⟨some 24, Op.load 4 (Operand.tmp 23), _, _, _, none⟩) (v := Value.bool a.cur) rfl (by kernel_rfl) (by kernel_rfl) (by kernel_rfl) (fun _ _ _ h => nomatch h.1) (yieldsIf_loadC (by rfl) _ _ rfl rfl a2.out Tryd.underlying4 rfl) (Below.refl _ _).drew ?_
    simp only [Act.put, List.setIfInBounds_toArray, List.set_cons_zero, List.set_cons_succ]
    refine wpAnyH_take (i := 14) (oi := ⟨some 25, Op.fieldAddr 50 (Operand.tmp 5) 2, _, _, _, none⟩) (v := Value.pointer (some ⟨g5, 2, none⟩)) rfl (by kernel_rfl) (by kernel_rfl) (by kernel_rfl) (fun _ _ _ h => nomatch h.1) (Or.inl ⟨by rfl, fun w' hS' => by go_simp⟩) (Below.refl _ _).drew ?_
    simp only [Act.put, List.setIfInBounds_toArray, List.set_cons_zero, List.set_cons_succ]
    refine wpAnyH_take (i := 15) (oi := ⟨some 26, Op.load 4 (Operand.tmp 25), _, _, _, none⟩) (v := Value.bool b.cur) rfl (by kernel_rfl) (by kernel_rfl) (by kernel_rfl) (fun _ _ _ h => nomatch h.1) (yieldsIf_loadC (by rfl) _ _ rfl rfl b2.out Tryd.underlying4 rfl) (Below.refl _ _).drew ?_
    simp only [Act.put, List.setIfInBounds_toArray, List.set_cons_zero, List.set_cons_succ]
    refine wpAnyH_take (i := 17) (oi := ⟨some 28, Op.fieldAddr 50 (Operand.tmp 4) 3, _, _, _, none⟩) (v := Value.pointer (some ⟨g4, 3, none⟩)) rfl (by kernel_rfl) (by kernel_rfl) (by kernel_rfl) (fun _ _ _ h => nomatch h.1) (Or.inl ⟨by rfl, fun w' hS' => by go_simp⟩) (Below.refl _ _).drew ?_
    simp only [Act.put, List.setIfInBounds_toArray, List.set_cons_zero, List.set_cons_succ]
    refine wpAnyH_take (i := 18) (oi := ⟨some 29, Op.load 4 (Operand.tmp 28), _, _, _, none⟩) (v := Value.bool a.hom) rfl (by kernel_rfl) (by kernel_rfl) (by kernel_rfl) (fun _ _ _ h => nomatch h.1) (yieldsIf_loadC (by rfl) _ _ rfl rfl a3.out Tryd.underlying4 rfl) (Below.refl _ _).drew ?_
    simp only [Act.put, List.setIfInBounds_toArray, List.set_cons_zero, List.set_cons_succ]
    refine wpAnyH_take (i := 19) (oi := ⟨some 30, Op.fieldAddr 50 (Operand.tmp 5) 3, _, _, _, none⟩) (v := Value.pointer (some ⟨g5, 3, none⟩)) rfl (by kernel_rfl) (by kernel_rfl) (by kernel_rfl) (fun _ _ _ h => nomatch h.1) (Or.inl ⟨by rfl, fun w' hS' => by go_simp⟩) (Below.refl _ _).drew ?_
    simp only [Act.put, List.setIfInBounds_toArray, List.set_cons_zero, List.set_cons_succ]
    refine wpAnyH_take (i := 20) (oi := ⟨some 31, Op.load 4 (Operand.tmp 30), _, _, _, none⟩) (v := Value.bool b.hom) rfl (by kernel_rfl) (by kernel_rfl) (by kernel_rfl) (fun _ _ _ h => nomatch h.1) (yieldsIf_loadC (by rfl) _ _ rfl rfl b3.out Tryd.underlying4 rfl) (Below.refl _ _).drew ?_
    simp only [Act.put, List.setIfInBounds_toArray, List.set_cons_zero, List.set_cons_succ]
    refine wpAnyH_take (i := 22) (oi := ⟨some 33, Op.fieldAddr 50 (Operand.tmp 4) 4, _, _, _, none⟩) (v := Value.pointer (some ⟨g4, 4, none⟩)) rfl (by kernel_rfl) (by kernel_rfl) (by kernel_rfl) (fun _ _ _ h => nomatch h.1) (Or.inl ⟨by rfl, fun w' hS' => by go_simp⟩) (Below.refl _ _).drew ?_
    simp only [Act.put, List.setIfInBounds_toArray, List.set_cons_zero, List.set_cons_succ]
    refine wpAnyH_take (i := 23) (oi := ⟨some 34, Op.load 4 (Operand.tmp 33), _, _, _, none⟩) (v := Value.bool a.nea) rfl (by kernel_rfl) (by kernel_rfl) (by kernel_rfl) (fun _ _ _ h => nomatch h.1) (yieldsIf_loadC (by rfl) _ _ rfl rfl a4.out Tryd.underlying4 rfl) (Below.refl _ _).drew ?_
    simp only [Act.put, List.setIfInBounds_toArray, List.set_cons_zero, List.set_cons_succ]
    refine wpAnyH_take (i := 24) (oi := ⟨some 35, Op.fieldAddr 50 (Operand.tmp 5) 4, _, _, _, none⟩) (v := Value.pointer (some ⟨g5, 4, none⟩)) rfl (by kernel_rfl) (by kernel_rfl) (by kernel_rfl) (fun _ _ _ h => nomatch h.1) (Or.inl ⟨by rfl, fun w' hS' => by go_simp⟩) (Below.refl _ _).drew ?_
    simp only [Act.put, List.setIfInBounds_toArray, List.set_cons_zero, List.set_cons_succ]
    refine wpAnyH_take (i := 25) (oi := ⟨some 36, Op.load 4 (Operand.tmp 35), _, _, _, none⟩) (v := Value.bool b.nea) rfl (by kernel_rfl) (by kernel_rfl) (by kernel_rfl) (fun _ _ _ h => nomatch h.1) (yieldsIf_loadC (by rfl) _ _ rfl rfl b4.out Tryd.underlying4 rfl) (Below.refl _ _).drew ?_
    simp only [Act.put, List.setIfInBounds_toArray, List.set_cons_zero, List.set_cons_succ]
    refine wpAnyH_take (i := 27) (oi := ⟨some 38, Op.fieldAddr 50 (Operand.tmp 4) 5, _, _, _, none⟩) (v := Value.pointer (some ⟨g4, 5, none⟩)) rfl (by kernel_rfl) (by kernel_rfl) (by kernel_rfl) (fun _ _ _ h => nomatch h.1) (Or.inl ⟨by rfl, fun w' hS' => by go_simp⟩) (Below.refl _ _).drew ?_
    simp only [Act.put, List.setIfInBounds_toArray, List.set_cons_zero, List.set_cons_succ]
    refine wpAnyH_take (i := 28) (oi := ⟨some 39, Op.load 4 (Operand.tmp 38), _, _, _, none⟩) (v := Value.bool a.lab) rfl (by kernel_rfl) (by kernel_rfl) (by kernel_rfl) (fun _ _ _ h => nomatch h.1) (yieldsIf_loadC (by rfl) _ _ rfl rfl a5.out Tryd.underlying4 rfl) (Below.refl _ _).drew ?_
    simp only [Act.put, List.setIfInBounds_toArray, List.set_cons_zero, List.set_cons_succ]
    refine wpAnyH_take (i := 29) (oi := ⟨some 40, Op.fieldAddr 50 (Operand.tmp 5) 5, _, _, _, none⟩) (v := Value.pointer (some ⟨g5, 5, none⟩)) rfl (by kernel_rfl) (by kernel_rfl) (by kernel_rfl) (fun _ _ _ h => nomatch h.1) (Or.inl ⟨by rfl, fun w' hS' => by go_simp⟩) (Below.refl _ _).drew ?_
    simp only [Act.put, List.setIfInBounds_toArray, List.set_cons_zero, List.set_cons_succ]
    refine wpAnyH_take (i := 30) (oi := ⟨some 41, Op.load 4 (Operand.tmp 40), _, _, _, none⟩) (v := Value.bool b.lab) rfl (by kernel_rfl) (by kernel_rfl) (by kernel_rfl) (fun _ _ _ h => nomatch h.1) (yieldsIf_loadC (by rfl) _ _ rfl rfl b5.out Tryd.underlying4 rfl) (Below.refl _ _).drew ?_
    simp only [Act.put, List.setIfInBounds_toArray, List.set_cons_zero, List.set_cons_succ]
    refine wpAnyH_take (i := 32) (oi := ⟨some 43, Op.fieldAddr 50 (Operand.tmp 4) 6, _, _, _, none⟩) (v := Value.pointer (some ⟨g4, 6, none⟩)) rfl (by kernel_rfl) (by kernel_rfl) (by kernel_rfl) (fun _ _ _ h => nomatch h.1) (Or.inl ⟨by rfl, fun w' hS' => by go_simp⟩) (Below.refl _ _).drew ?_
    simp only [Act.put, List.setIfInBounds_toArray, List.set_cons_zero, List.set_cons_succ]
    refine wpAnyH_take (i := 33) (oi := ⟨some 44, Op.load 4 (Operand.tmp 43), _, _, _, none⟩) (v := Value.bool a.tem) rfl (by kernel_rfl) (by kernel_rfl) (by kernel_rfl) (fun _ _ _ h => nomatch h.1) (yieldsIf_loadC (by rfl) _ _ rfl rfl a6.out Tryd.underlying4 rfl) (Below.refl _ _).drew ?_
    simp only [Act.put, List.setIfInBounds_toArray, List.set_cons_zero, List.set_cons_succ]
    refine wpAnyH_take (i := 34) (oi := ⟨some 45, Op.fieldAddr 50 (Operand.tmp 5) 6, _, _, _, none⟩) (v := Value.pointer (some ⟨g5, 6, none⟩)) rfl (by kernel_rfl) (by kernel_rfl) (by kernel_rfl) (fun _ _ _ h => nomatch h.1) (Or.inl ⟨by rfl, fun w' hS' => by go_simp⟩) (Below.refl _ _).drew ?_
    simp only [Act.put, List.setIfInBounds_toArray, List.set_cons_zero, List.set_cons_succ]
    refine wpAnyH_take (i := 35) (oi := ⟨some 46, Op.load 4 (Operand.tmp 45), _, _, _, none⟩) (v := Value.bool b.tem) rfl (by kernel_rfl) (by kernel_rfl) (by kernel_rfl) (fun _ _ _ h => nomatch h.1) (yieldsIf_loadC (by rfl) _ _ rfl rfl b6.out Tryd.underlying4 rfl) (Below.refl _ _).drew ?_
    simp only [Act.put, List.setIfInBounds_toArray, List.set_cons_zero, List.set_cons_succ]
    refine wpAnyH_take (i := 37) (oi := ⟨some 48, Op.fieldAddr 50 (Operand.tmp 4) 7, _, _, _, none⟩) (v := Value.pointer (some ⟨g4, 7, none⟩)) rfl (by kernel_rfl) (by kernel_rfl) (by kernel_rfl) (fun _ _ _ h => nomatch h.1) (Or.inl ⟨by rfl, fun w' hS' => by go_simp⟩) (Below.refl _ _).drew ?_
    simp only [Act.put, List.setIfInBounds_toArray, List.set_cons_zero, List.set_cons_succ]
    refine wpAnyH_take (i := 38) (oi := ⟨some 49, Op.load 3 (Operand.tmp 48), _, _, _, none⟩) (v := Value.int .i64 a.com) rfl (by kernel_rfl) (by kernel_rfl) (by kernel_rfl) (fun _ _ _ h => nomatch h.1) (yieldsIf_loadC (by rfl) _ _ rfl rfl a7.out Tryd.underlying3 rfl) (Below.refl _ _).drew ?_
    simp only [Act.put, List.setIfInBounds_toArray, List.set_cons_zero, List.set_cons_succ]
    refine wpAnyH_take (i := 39) (oi := ⟨some 50, Op.fieldAddr 50 (Operand.tmp 5) 7, _, _, _, none⟩) (v := Value.pointer (some ⟨g5, 7, none⟩)) rfl (by kernel_rfl) (by kernel_rfl) (by kernel_rfl) (fun _ _ _ h => nomatch h.1) (Or.inl ⟨by rfl, fun w' hS' => by go_simp⟩) (Below.refl _ _).drew ?_
    simp only [Act.put, List.setIfInBounds_toArray, List.set_cons_zero, List.set_cons_succ]
    refine wpAnyH_take (i := 40) (oi := ⟨some 51, Op.load 3 (Operand.tmp 50), _, _, _, none⟩) (v := Value.int .i64 b.com) rfl (by kernel_rfl) (by kernel_rfl) (by kernel_rfl) (fun _ _ _ h => nomatch h.1) (yieldsIf_loadC (by rfl) _ _ rfl rfl b7.out Tryd.underlying3 rfl) (Below.refl _ _).drew ?_
    simp only [Act.put, List.setIfInBounds_toArray, List.set_cons_zero, List.set_cons_succ]
    refine wpAnyH_all (rs := [4, 43]) (by kernel_rfl) (by decide) ?_
    intro i hi
    simp only [List.mem_cons, List.not_mem_nil, or_false] at hi
    rcases hi with rfl | rfl
    · skip
      refine wpOp_callM (o := ⟨some 15, Op.call { callee := Callee.value (Operand.func 16), args := #[Operand.tmp 12, Operand.tmp 14], argTypes := #[4, 4] }, _, _, _, none⟩) rfl (by rfl) (by go_simp) (H0.out _) ?_
      rintro e x1 ⟨rfl, hy1⟩
      have hx1 := bel_drew hy1
      refine ⟨_, rfl, ?_⟩
      show _ ∧ _
      refine ⟨hx1, ?_⟩
      simp only [Act.put, List.setIfInBounds_toArray, List.set_cons_zero, List.set_cons_succ]
      refine wpAnyH_all (rs := [11, 43]) (by kernel_rfl) (by decide) ?_
      intro i hi
      simp only [List.mem_cons, List.not_mem_nil, or_false] at hi
      rcases hi with rfl | rfl
      · skip
        refine wpOp_callM (o := ⟨some 22, Op.call { callee := Callee.value (Operand.func 17), args := #[Operand.tmp 17, Operand.tmp 19, Operand.tmp 21], argTypes := #[3, 3, 3] }, _, _, _, none⟩) rfl (by rfl) (by go_simp) (H1.out _) ?_
        rintro e x2 ⟨rfl, hy2⟩
        have hx2 := bel_tr hx1 hy2
        refine ⟨_, rfl, ?_⟩
        show _ ∧ _
        refine ⟨hx2, ?_⟩
        simp only [Act.put, List.setIfInBounds_toArray, List.set_cons_zero, List.set_cons_succ]
        refine wpAnyH_all (rs := [16, 43]) (by kernel_rfl) (by decide) ?_
        intro i hi
        simp only [List.mem_cons, List.not_mem_nil, or_false] at hi
        rcases hi with rfl | rfl
        · skip
          refine wpOp_callM (o := ⟨some 27, Op.call { callee := Callee.value (Operand.func 16), args := #[Operand.tmp 24, Operand.tmp 26], argTypes := #[4, 4] }, _, _, _, none⟩) rfl (by rfl) (by go_simp) (H2.out _) ?_
          rintro e x3 ⟨rfl, hy3⟩
          have hx3 := bel_tr hx2 hy3
          refine ⟨_, rfl, ?_⟩
          show _ ∧ _
          refine ⟨hx3, ?_⟩
          simp only [Act.put, List.setIfInBounds_toArray, List.set_cons_zero, List.set_cons_succ]
          refine wpAnyH_all (rs := [21, 43]) (by kernel_rfl) (by decide) ?_
          intro i hi
          simp only [List.mem_cons, List.not_mem_nil, or_false] at hi
          rcases hi with rfl | rfl
          · skip
            refine wpOp_callM (o := ⟨some 32, Op.call { callee := Callee.value (Operand.func 16), args := #[Operand.tmp 29, Operand.tmp 31], argTypes := #[4, 4] }, _, _, _, none⟩) rfl (by rfl) (by go_simp) (H3.out _) ?_
            rintro e x4 ⟨rfl, hy4⟩
            have hx4 := bel_tr hx3 hy4
            refine ⟨_, rfl, ?_⟩
            show _ ∧ _
            refine ⟨hx4, ?_⟩
            simp only [Act.put, List.setIfInBounds_toArray, List.set_cons_zero, List.set_cons_succ]
            refine wpAnyH_all (rs := [26, 43]) (by kernel_rfl) (by decide) ?_
            intro i hi
            simp only [List.mem_cons, List.not_mem_nil, or_false] at hi
            rcases hi with rfl | rfl
            · skip
              refine wpOp_callM (o := ⟨some 37, Op.call { callee := Callee.value (Operand.func 16), args := #[Operand.tmp 34, Operand.tmp 36], argTypes := #[4, 4] }, _, _, _, none⟩) rfl (by rfl) (by go_simp) (H4.out _) ?_
              rintro e x5 ⟨rfl, hy5⟩
              have hx5 := bel_tr hx4 hy5
              refine ⟨_, rfl, ?_⟩
              show _ ∧ _
              refine ⟨hx5, ?_⟩
              simp only [Act.put, List.setIfInBounds_toArray, List.set_cons_zero, List.set_cons_succ]
              refine wpAnyH_all (rs := [31, 43]) (by kernel_rfl) (by decide) ?_
              intro i hi
              simp only [List.mem_cons, List.not_mem_nil, or_false] at hi
              rcases hi with rfl | rfl
              · skip
                refine wpOp_callM (o := ⟨some 42, Op.call { callee := Callee.value (Operand.func 16), args := #[Operand.tmp 39, Operand.tmp 41], argTypes := #[4, 4] }, _, _, _, none⟩) rfl (by rfl) (by go_simp) (H5.out _) ?_
                rintro e x6 ⟨rfl, hy6⟩
                have hx6 := bel_tr hx5 hy6
                refine ⟨_, rfl, ?_⟩
                show _ ∧ _
                refine ⟨hx6, ?_⟩
                simp only [Act.put, List.setIfInBounds_toArray, List.set_cons_zero, List.set_cons_succ]
                refine wpAnyH_all (rs := [36, 43]) (by kernel_rfl) (by decide) ?_
                intro i hi
                simp only [List.mem_cons, List.not_mem_nil, or_false] at hi
                rcases hi with rfl | rfl
                · skip
                  refine wpOp_callM (o := ⟨some 47, Op.call { callee := Callee.value (Operand.func 16), args := #[Operand.tmp 44, Operand.tmp 46], argTypes := #[4, 4] }, _, _, _, none⟩) rfl (by rfl) (by go_simp) (H6.out _) ?_
                  rintro e x7 ⟨rfl, hy7⟩
                  have hx7 := bel_tr hx6 hy7
                  refine ⟨_, rfl, ?_⟩
                  show _ ∧ _
                  refine ⟨hx7, ?_⟩
                  simp only [Act.put, List.setIfInBounds_toArray, List.set_cons_zero, List.set_cons_succ]
                  refine wpAnyH_all (rs := [41, 43]) (by kernel_rfl) (by decide) ?_
                  intro i hi
                  simp only [List.mem_cons, List.not_mem_nil, or_false] at hi
                  rcases hi with rfl | rfl
                  · skip
                    refine wpOp_callM (o := ⟨some 52, Op.call { callee := Callee.value (Operand.func 18), args := #[Operand.tmp 49, Operand.tmp 51], argTypes := #[3, 3] }, _, _, _, none⟩) rfl (by rfl) (by go_simp) (H7.out _) ?_
                    rintro e x8 ⟨rfl, hy8⟩
                    have hx8 := bel_tr hx7 hy8
                    refine ⟨_, rfl, ?_⟩
                    show _ ∧ _
                    refine ⟨hx8, ?_⟩
                    simp only [Act.put, List.setIfInBounds_toArray, List.set_cons_zero, List.set_cons_succ]
                    refine wpAnyH_take (i := 42) (oi := ⟨some 53, Op.build 62 #[(0 , Operand.tmp 15), (1 , Operand.tmp 22), (2 , Operand.tmp 27), (3 , Operand.tmp 32), (4 , Operand.tmp 37), (5 , Operand.tmp 42), (6 , Operand.tmp 47), (7 , Operand.tmp 52)], _, _, _, none⟩) (v := Value.agg (giA L)) rfl (by kernel_rfl) (by kernel_rfl) (by kernel_rfl) (fun _ _ _ h => nomatch h.1) (yieldsIf_buildL (by rfl) 62 _ rfl HB.out rfl) hx8 ?_
                    simp only [Act.put, List.setIfInBounds_toArray, List.set_cons_zero, List.set_cons_succ]
                    refine wpAnyH_all (rs := [43]) (by kernel_rfl) (by decide) ?_
                    intro i hi
                    obtain rfl := List.mem_singleton.1 hi
                    refine wpOp_of_list (o := ⟨some 8, Op.alloc 62, _, _, _, none⟩) rfl ?_
                    refine wpList_allocZ rfl _ rfl i8_zero ?_
                    intro g8 x9 hgg8 hBg8 hy9 hs
                    have hlg8 : w3.heap.size ≤ g8 := Nat.le_trans (hx8 : Below w3.heap.size w3 _).size (Nat.le_of_eq hgg8.symm)
                    clear hgg8 hs
                    have hx9 := bel_tr hx8 hy9
                    show _ ∧ _
                    refine ⟨hx9, ?_⟩
                    simp only [Act.put, List.setIfInBounds_toArray, List.set_cons_zero, List.set_cons_succ]
                    refine wpAnyH_all (rs := [44]) (by kernel_rfl) (by decide) ?_
                    intro i hi
                    obtain rfl := List.mem_singleton.1 hi
                    refine wpOp_of_list (o := ⟨none, Op.store 62 (Operand.tmp 8) (Operand.tmp 53), _, _, _, none⟩) rfl ?_
                    refine wpList_storeB rfl _ _ _ rfl rfl rfl hBg8 HLz.out (by rw [HLs.out]; rfl) (giA_one L) ?_
                    intro x10 hBz hSz
                    have hx10 := (hx9 : Below w3.heap.size w3 _).trans (hSz.below hlg8)
                    show _ ∧ _
                    refine ⟨hx10, ?_⟩
                    simp only [Act.put]
                    refine wpAnyH_done (by kernel_rfl) ?_ _
                    exact ⟨rfl, g8, rfl, hBz, hlg8, hx10⟩
                  · skip
                    refine wpOp_of_list (o := ⟨some 8, Op.alloc 62, _, _, _, none⟩) rfl ?_
                    refine wpList_allocZ rfl _ rfl i8_zero ?_
                    intro g8 x8 hgg8 hBg8 hy8 hs
                    have hlg8 : w3.heap.size ≤ g8 := Nat.le_trans (hx7 : Below w3.heap.size w3 _).size (Nat.le_of_eq hgg8.symm)
                    clear hgg8 hs
                    have hx8 := bel_tr hx7 hy8
                    show _ ∧ _
                    refine ⟨hx8, ?_⟩
                    simp only [Act.put, List.setIfInBounds_toArray, List.set_cons_zero, List.set_cons_succ]
                    refine wpAnyH_all (rs := [41]) (by kernel_rfl) (by decide) ?_
                    intro i hi
                    obtain rfl := List.mem_singleton.1 hi
                    refine wpOp_callM (o := ⟨some 52, Op.call { callee := Callee.value (Operand.func 18), args := #[Operand.tmp 49, Operand.tmp 51], argTypes := #[3, 3] }, _, _, _, none⟩) rfl (by rfl) (by go_simp) (H7.out _) ?_
                    rintro e x9 ⟨rfl, hy9⟩
                    have hx9 := bel_tr hx8 hy9
                    have hBg8 := hBg8.bel hy9
                    refine ⟨_, rfl, ?_⟩
                    show _ ∧ _
                    refine ⟨hx9, ?_⟩
                    simp only [Act.put, List.setIfInBounds_toArray, List.set_cons_zero, List.set_cons_succ]
                    refine wpAnyH_take (i := 42) (oi := ⟨some 53, Op.build 62 #[(0 , Operand.tmp 15), (1 , Operand.tmp 22), (2 , Operand.tmp 27), (3 , Operand.tmp 32), (4 , Operand.tmp 37), (5 , Operand.tmp 42), (6 , Operand.tmp 47), (7 , Operand.tmp 52)], _, _, _, none⟩) (v := Value.agg (giA L)) rfl (by kernel_rfl) (by kernel_rfl) (by kernel_rfl) (fun _ _ _ h => nomatch h.1) (yieldsIf_buildL (by rfl) 62 _ rfl HB.out rfl) hx9 ?_
                    simp only [Act.put, List.setIfInBounds_toArray, List.set_cons_zero, List.set_cons_succ]
                    refine wpAnyH_all (rs := [44]) (by kernel_rfl) (by decide) ?_
                    intro i hi
                    obtain rfl := List.mem_singleton.1 hi
                    refine wpOp_of_list (o := ⟨none, Op.store 62 (Operand.tmp 8) (Operand.tmp 53), _, _, _, none⟩) rfl ?_
                    refine wpList_storeB rfl _ _ _ rfl rfl rfl hBg8 HLz.out (by rw [HLs.out]; rfl) (giA_one L) ?_
                    intro x10 hBz hSz
                    have hx10 := (hx9 : Below w3.heap.size w3 _).trans (hSz.below hlg8)
                    show _ ∧ _
                    refine ⟨hx10, ?_⟩
                    simp only [Act.put]
                    refine wpAnyH_done (by kernel_rfl) ?_ _
                    exact ⟨rfl, g8, rfl, hBz, hlg8, hx10⟩
                · skip
                  refine wpOp_of_list (o := ⟨some 8, Op.alloc 62, _, _, _, none⟩) rfl ?_
                  refine wpList_allocZ rfl _ rfl i8_zero ?_
                  intro g8 x7 hgg8 hBg8 hy7 hs
                  have hlg8 : w3.heap.size ≤ g8 := Nat.le_trans (hx6 : Below w3.heap.size w3 _).size (Nat.le_of_eq hgg8.symm)
                  clear hgg8 hs
                  have hx7 := bel_tr hx6 hy7
                  show _ ∧ _
                  refine ⟨hx7, ?_⟩
                  simp only [Act.put, List.setIfInBounds_toArray, List.set_cons_zero, List.set_cons_succ]
                  refine wpAnyH_all (rs := [36]) (by kernel_rfl) (by decide) ?_
                  intro i hi
                  obtain rfl := List.mem_singleton.1 hi
                  refine wpOp_callM (o := ⟨some 47, Op.call { callee := Callee.value (Operand.func 16), args := #[Operand.tmp 44, Operand.tmp 46], argTypes := #[4, 4] }, _, _, _, none⟩) rfl (by rfl) (by go_simp) (H6.out _) ?_
                  rintro e x8 ⟨rfl, hy8⟩
                  have hx8 := bel_tr hx7 hy8
                  have hBg8 := hBg8.bel hy8
                  refine ⟨_, rfl, ?_⟩
                  show _ ∧ _
                  refine ⟨hx8, ?_⟩
                  simp only [Act.put, List.setIfInBounds_toArray, List.set_cons_zero, List.set_cons_succ]
                  refine wpAnyH_all (rs := [41]) (by kernel_rfl) (by decide) ?_
                  intro i hi
                  obtain rfl := List.mem_singleton.1 hi
                  refine wpOp_callM (o := ⟨some 52, Op.call { callee := Callee.value (Operand.func 18), args := #[Operand.tmp 49, Operand.tmp 51], argTypes := #[3, 3] }, _, _, _, none⟩) rfl (by rfl) (by go_simp) (H7.out _) ?_
                  rintro e x9 ⟨rfl, hy9⟩
                  have hx9 := bel_tr hx8 hy9
                  have hBg8 := hBg8.bel hy9
                  refine ⟨_, rfl, ?_⟩
                  show _ ∧ _
                  refine ⟨hx9, ?_⟩
                  simp only [Act.put, List.setIfInBounds_toArray, List.set_cons_zero, List.set_cons_succ]
                  refine wpAnyH_take (i := 42) (oi := ⟨some 53, Op.build 62 #[(0 , Operand.tmp 15), (1 , Operand.tmp 22), (2 , Operand.tmp 27), (3 , Operand.tmp 32), (4 , Operand.tmp 37), (5 , Operand.tmp 42), (6 , Operand.tmp 47), (7 , Operand.tmp 52)], _, _, _, none⟩) (v := Value.agg (giA L)) rfl (by kernel_rfl) (by kernel_rfl) (by kernel_rfl) (fun _ _ _ h => nomatch h.1) (yieldsIf_buildL (by rfl) 62 _ rfl HB.out rfl) hx9 ?_
                  simp only [Act.put, List.setIfInBounds_toArray, List.set_cons_zero, List.set_cons_succ]
                  refine wpAnyH_all (rs := [44]) (by kernel_rfl) (by decide) ?_
                  intro i hi
                  obtain rfl := List.mem_singleton.1 hi
                  refine wpOp_of_list (o := ⟨none, Op.store 62 (Operand.tmp 8) (Operand.tmp 53), _, _, _, none⟩) rfl ?_
                  refine wpList_storeB rfl _ _ _ rfl rfl rfl hBg8 HLz.out (by rw [HLs.out]; rfl) (giA_one L) ?_
                  intro x10 hBz hSz
                  have hx10 := (hx9 : Below w3.heap.size w3 _).trans (hSz.below hlg8)
                  show _ ∧ _
                  refine ⟨hx10, ?_⟩
                  simp only [Act.put]
                  refine wpAnyH_done (by kernel_rfl) ?_ _
                  exact ⟨rfl, g8, rfl, hBz, hlg8, hx10⟩
              · skip
                refine wpOp_of_list (o := ⟨some 8, Op.alloc 62, _, _, _, none⟩) rfl ?_
                refine wpList_allocZ rfl _ rfl i8_zero ?_
                intro g8 x6 hgg8 hBg8 hy6 hs
                have hlg8 : w3.heap.size ≤ g8 := Nat.le_trans (hx5 : Below w3.heap.size w3 _).size (Nat.le_of_eq hgg8.symm)
                clear hgg8 hs
                have hx6 := bel_tr hx5 hy6
                show _ ∧ _
                refine ⟨hx6, ?_⟩
                simp only [Act.put, List.setIfInBounds_toArray, List.set_cons_zero, List.set_cons_succ]
                refine wpAnyH_all (rs := [31]) (by kernel_rfl) (by decide) ?_
                intro i hi
                obtain rfl := List.mem_singleton.1 hi
                refine wpOp_callM (o := ⟨some 42, Op.call { callee := Callee.value (Operand.func 16), args := #[Operand.tmp 39, Operand.tmp 41], argTypes := #[4, 4] }, _, _, _, none⟩) rfl (by rfl) (by go_simp) (H5.out _) ?_
                rintro e x7 ⟨rfl, hy7⟩
                have hx7 := bel_tr hx6 hy7
                have hBg8 := hBg8.bel hy7
                refine ⟨_, rfl, ?_⟩
                show _ ∧ _
                refine ⟨hx7, ?_⟩
                simp only [Act.put, List.setIfInBounds_toArray, List.set_cons_zero, List.set_cons_succ]
                refine wpAnyH_all (rs := [36]) (by kernel_rfl) (by decide) ?_
                intro i hi
                obtain rfl := List.mem_singleton.1 hi
                refine wpOp_callM (o := ⟨some 47, Op.call { callee := Callee.value (Operand.func 16), args := #[Operand.tmp 44, Operand.tmp 46], argTypes := #[4, 4] }, _, _, _, none⟩) rfl (by rfl) (by go_simp) (H6.out _) ?_
                rintro e x8 ⟨rfl, hy8⟩
                have hx8 := bel_tr hx7 hy8
                have hBg8 := hBg8.bel hy8
                refine ⟨_, rfl, ?_⟩
                show _ ∧ _
                refine ⟨hx8, ?_⟩
                simp only [Act.put, List.setIfInBounds_toArray, List.set_cons_zero, List.set_cons_succ]
                refine wpAnyH_all (rs := [41]) (by kernel_rfl) (by decide) ?_
                intro i hi
                obtain rfl := List.mem_singleton.1 hi
                refine wpOp_callM (o := ⟨some 52, Op.call { callee := Callee.value (Operand.func 18), args := #[Operand.tmp 49, Operand.tmp 51], argTypes := #[3, 3] }, _, _, _, none⟩) rfl (by rfl) (by go_simp) (H7.out _) ?_
                rintro e x9 ⟨rfl, hy9⟩
                have hx9 := bel_tr hx8 hy9
                have hBg8 := hBg8.bel hy9
                refine ⟨_, rfl, ?_⟩
                show _ ∧ _
                refine ⟨hx9, ?_⟩
                simp only [Act.put, List.setIfInBounds_toArray, List.set_cons_zero, List.set_cons_succ]
                refine wpAnyH_take (i := 42) (oi := ⟨some 53, Op.build 62 #[(0 , Operand.tmp 15), (1 , Operand.tmp 22), (2 , Operand.tmp 27), (3 , Operand.tmp 32), (4 , Operand.tmp 37), (5 , Operand.tmp 42), (6 , Operand.tmp 47), (7 , Operand.tmp 52)], _, _, _, none⟩) (v := Value.agg (giA L)) rfl (by kernel_rfl) (by kernel_rfl) (by kernel_rfl) (fun _ _ _ h => nomatch h.1) (yieldsIf_buildL (by rfl) 62 _ rfl HB.out rfl) hx9 ?_
                simp only [Act.put, List.setIfInBounds_toArray, List.set_cons_zero, List.set_cons_succ]
                refine wpAnyH_all (rs := [44]) (by kernel_rfl) (by decide) ?_
                intro i hi
                obtain rfl := List.mem_singleton.1 hi
                refine wpOp_of_list (o := ⟨none, Op.store 62 (Operand.tmp 8) (Operand.tmp 53), _, _, _, none⟩) rfl ?_
                refine wpList_storeB rfl _ _ _ rfl rfl rfl hBg8 HLz.out (by rw [HLs.out]; rfl) (giA_one L) ?_
                intro x10 hBz hSz
                have hx10 := (hx9 : Below w3.heap.size w3 _).trans (hSz.below hlg8)
                show _ ∧ _
                refine ⟨hx10, ?_⟩
                simp only [Act.put]
                refine wpAnyH_done (by kernel_rfl) ?_ _
                exact ⟨rfl, g8, rfl, hBz, hlg8, hx10⟩
            · skip
              refine wpOp_of_list (o := ⟨some 8, Op.alloc 62, _, _, _, none⟩) rfl ?_
              refine wpList_allocZ rfl _ rfl i8_zero ?_
              intro g8 x5 hgg8 hBg8 hy5 hs
              have hlg8 : w3.heap.size ≤ g8 := Nat.le_trans (hx4 : Below w3.heap.size w3 _).size (Nat.le_of_eq hgg8.symm)
              clear hgg8 hs
              have hx5 := bel_tr hx4 hy5
              show _ ∧ _
              refine ⟨hx5, ?_⟩
              simp only [Act.put, List.setIfInBounds_toArray, List.set_cons_zero, List.set_cons_succ]
              refine wpAnyH_all (rs := [26]) (by kernel_rfl) (by decide) ?_
              intro i hi
              obtain rfl := List.mem_singleton.1 hi
              refine wpOp_callM (o := ⟨some 37, Op.call { callee := Callee.value (Operand.func 16), args := #[Operand.tmp 34, Operand.tmp 36], argTypes := #[4, 4] }, _, _, _, none⟩) rfl (by rfl) (by go_simp) (H4.out _) ?_
              rintro e x6 ⟨rfl, hy6⟩
              have hx6 := bel_tr hx5 hy6
              have hBg8 := hBg8.bel hy6
              refine ⟨_, rfl, ?_⟩
              show _ ∧ _
              refine ⟨hx6, ?_⟩
              simp only [Act.put, List.setIfInBounds_toArray, List.set_cons_zero, List.set_cons_succ]
              refine wpAnyH_all (rs := [31]) (by kernel_rfl) (by decide) ?_
              intro i hi
              obtain rfl := List.mem_singleton.1 hi
              refine wpOp_callM (o := ⟨some 42, Op.call { callee := Callee.value (Operand.func 16), args := #[Operand.tmp 39, Operand.tmp 41], argTypes := #[4, 4] }, _, _, _, none⟩) rfl (by rfl) (by go_simp) (H5.out _) ?_
              rintro e x7 ⟨rfl, hy7⟩
              have hx7 := bel_tr hx6 hy7
              have hBg8 := hBg8.bel hy7
              refine ⟨_, rfl, ?_⟩
              show _ ∧ _
              refine ⟨hx7, ?_⟩
              simp only [Act.put, List.setIfInBounds_toArray, List.set_cons_zero, List.set_cons_succ]
              refine wpAnyH_all (rs := [36]) (by kernel_rfl) (by decide) ?_
              intro i hi
              obtain rfl := List.mem_singleton.1 hi
              refine wpOp_callM (o := ⟨some 47, Op.call { callee := Callee.value (Operand.func 16), args := #[Operand.tmp 44, Operand.tmp 46], argTypes := #[4, 4] }, _, _, _, none⟩) rfl (by rfl) (by go_simp) (H6.out _) ?_
              rintro e x8 ⟨rfl, hy8⟩
              have hx8 := bel_tr hx7 hy8
              have hBg8 := hBg8.bel hy8
              refine ⟨_, rfl, ?_⟩
              show _ ∧ _
              refine ⟨hx8, ?_⟩
              simp only [Act.put, List.setIfInBounds_toArray, List.set_cons_zero, List.set_cons_succ]
              refine wpAnyH_all (rs := [41]) (by kernel_rfl) (by decide) ?_
              intro i hi
              obtain rfl := List.mem_singleton.1 hi
              refine wpOp_callM (o := ⟨some 52, Op.call { callee := Callee.value (Operand.func 18), args := #[Operand.tmp 49, Operand.tmp 51], argTypes := #[3, 3] }, _, _, _, none⟩) rfl (by rfl) (by go_simp) (H7.out _) ?_
              rintro e x9 ⟨rfl, hy9⟩
              have hx9 := bel_tr hx8 hy9
              have hBg8 := hBg8.bel hy9
              refine ⟨_, rfl, ?_⟩
              show _ ∧ _
              refine ⟨hx9, ?_⟩
              simp only [Act.put, List.setIfInBounds_toArray, List.set_cons_zero, List.set_cons_succ]
              refine wpAnyH_take (i := 42) (oi := ⟨some 53, Op.build 62 #[(0 , Operand.tmp 15), (1 , Operand.tmp 22), (2 , Operand.tmp 27), (3 , Operand.tmp 32), (4 , Operand.tmp 37), (5 , Operand.tmp 42), (6 , Operand.tmp 47), (7 , Operand.tmp 52)], _, _, _, none⟩) (v := Value.agg (giA L)) rfl (by kernel_rfl) (by kernel_rfl) (by kernel_rfl) (fun _ _ _ h => nomatch h.1) (yieldsIf_buildL (by rfl) 62 _ rfl HB.out rfl) hx9 ?_
              simp only [Act.put, List.setIfInBounds_toArray, List.set_cons_zero, List.set_cons_succ]
              refine wpAnyH_all (rs := [44]) (by kernel_rfl) (by decide) ?_
              intro i hi
              obtain rfl := List.mem_singleton.1 hi
              refine wpOp_of_list (o := ⟨none, Op.store 62 (Operand.tmp 8) (Operand.tmp 53), _, _, _, none⟩) rfl ?_
              refine wpList_storeB rfl _ _ _ rfl rfl rfl hBg8 HLz.out (by rw [HLs.out]; rfl) (giA_one L) ?_
              intro x10 hBz hSz
              have hx10 := (hx9 : Below w3.heap.size w3 _).trans (hSz.below hlg8)
              show _ ∧ _
              refine ⟨hx10, ?_⟩
              simp only [Act.put]
              refine wpAnyH_done (by kernel_rfl) ?_ _
              exact ⟨rfl, g8, rfl, hBz, hlg8, hx10⟩
          · skip
            refine wpOp_of_list (o := ⟨some 8, Op.alloc 62, _, _, _, none⟩) rfl ?_
            refine wpList_allocZ rfl _ rfl i8_zero ?_
            intro g8 x4 hgg8 hBg8 hy4 hs
            have hlg8 : w3.heap.size ≤ g8 := Nat.le_trans (hx3 : Below w3.heap.size w3 _).size (Nat.le_of_eq hgg8.symm)
            clear hgg8 hs
            have hx4 := bel_tr hx3 hy4
            show _ ∧ _
            refine ⟨hx4, ?_⟩
            simp only [Act.put, List.setIfInBounds_toArray, List.set_cons_zero, List.set_cons_succ]
            refine wpAnyH_all (rs := [21]) (by kernel_rfl) (by decide) ?_
            intro i hi
            obtain rfl := List.mem_singleton.1 hi
            refine wpOp_callM (o := ⟨some 32, Op.call { callee := Callee.value (Operand.func 16), args := #[Operand.tmp 29, Operand.tmp 31], argTypes := #[4, 4] }, _, _, _, none⟩) rfl (by rfl) (by go_simp) (H3.out _) ?_
            rintro e x5 ⟨rfl, hy5⟩
            have hx5 := bel_tr hx4 hy5
            have hBg8 := hBg8.bel hy5
            refine ⟨_, rfl, ?_⟩
            show _ ∧ _
            refine ⟨hx5, ?_⟩
            simp only [Act.put, List.setIfInBounds_toArray, List.set_cons_zero, List.set_cons_succ]
            refine wpAnyH_all (rs := [26]) (by kernel_rfl) (by decide) ?_
            intro i hi
            obtain rfl := List.mem_singleton.1 hi
            refine wpOp_callM (o := ⟨some 37, Op.call { callee := Callee.value (Operand.func 16), args := #[Operand.tmp 34, Operand.tmp 36], argTypes := #[4, 4] }, _, _, _, none⟩) rfl (by rfl) (by go_simp) (H4.out _) ?_
            rintro e x6 ⟨rfl, hy6⟩
            have hx6 := bel_tr hx5 hy6
            have hBg8 := hBg8.bel hy6
            refine ⟨_, rfl, ?_⟩
            show _ ∧ _
            refine ⟨hx6, ?_⟩
            simp only [Act.put, List.setIfInBounds_toArray, List.set_cons_zero, List.set_cons_succ]
            refine wpAnyH_all (rs := [31]) (by kernel_rfl) (by decide) ?_
            intro i hi
            obtain rfl := List.mem_singleton.1 hi
            refine wpOp_callM (o := ⟨some 42, Op.call { callee := Callee.value (Operand.func 16), args := #[Operand.tmp 39, Operand.tmp 41], argTypes := #[4, 4] }, _, _, _, none⟩) rfl (by rfl) (by go_simp) (H5.out _) ?_
            rintro e x7 ⟨rfl, hy7⟩
            have hx7 := bel_tr hx6 hy7
            have hBg8 := hBg8.bel hy7
            refine ⟨_, rfl, ?_⟩
            show _ ∧ _
            refine ⟨hx7, ?_⟩
            simp only [Act.put, List.setIfInBounds_toArray, List.set_cons_zero, List.set_cons_succ]
            refine wpAnyH_all (rs := [36]) (by kernel_rfl) (by decide) ?_
            intro i hi
            obtain rfl := List.mem_singleton.1 hi
            refine wpOp_callM (o := ⟨some 47, Op.call { callee := Callee.value (Operand.func 16), args := #[Operand.tmp 44, Operand.tmp 46], argTypes := #[4, 4] }, _, _, _, none⟩) rfl (by rfl) (by go_simp) (H6.out _) ?_
            rintro e x8 ⟨rfl, hy8⟩
            have hx8 := bel_tr hx7 hy8
            have hBg8 := hBg8.bel hy8
            refine ⟨_, rfl, ?_⟩
            show _ ∧ _
            refine ⟨hx8, ?_⟩
            simp only [Act.put, List.setIfInBounds_toArray, List.set_cons_zero, List.set_cons_succ]
            refine wpAnyH_all (rs := [41]) (by kernel_rfl) (by decide) ?_
            intro i hi
            obtain rfl := List.mem_singleton.1 hi
            refine wpOp_callM (o := ⟨some 52, Op.call { callee := Callee.value (Operand.func 18), args := #[Operand.tmp 49, Operand.tmp 51], argTypes := #[3, 3] }, _, _, _, none⟩) rfl (by rfl) (by go_simp) (H7.out _) ?_
            rintro e x9 ⟨rfl, hy9⟩
            have hx9 := bel_tr hx8 hy9
            have hBg8 := hBg8.bel hy9
            refine ⟨_, rfl, ?_⟩
            show _ ∧ _
            refine ⟨hx9, ?_⟩
            simp only [Act.put, List.setIfInBounds_toArray, List.set_cons_zero, List.set_cons_succ]
            refine wpAnyH_take (i := 42) (oi := ⟨some 53, Op.build 62 #[(0 , Operand.tmp 15), (1 , Operand.tmp 22), (2 , Operand.tmp 27), (3 , Operand.tmp 32), (4 , Operand.tmp 37), (5 , Operand.tmp 42), (6 , Operand.tmp 47), (7 , Operand.tmp 52)], _, _, _, none⟩) (v := Value.agg (giA L)) rfl (by kernel_rfl) (by kernel_rfl) (by kernel_rfl) (fun _ _ _ h => nomatch h.1) (yieldsIf_buildL (by rfl) 62 _ rfl HB.out rfl) hx9 ?_
            simp only [Act.put, List.setIfInBounds_toArray, List.set_cons_zero, List.set_cons_succ]
            refine wpAnyH_all (rs := [44]) (by kernel_rfl) (by decide) ?_
            intro i hi
            obtain rfl := List.mem_singleton.1 hi
            refine wpOp_of_list (o := ⟨none, Op.store 62 (Operand.tmp 8) (Operand.tmp 53), _, _, _, none⟩) rfl ?_
            refine wpList_storeB rfl _ _ _ rfl rfl rfl hBg8 HLz.out (by rw [HLs.out]; rfl) (giA_one L) ?_
            intro x10 hBz hSz
            have hx10 := (hx9 : Below w3.heap.size w3 _).trans (hSz.below hlg8)
            show _ ∧ _
            refine ⟨hx10, ?_⟩
            simp only [Act.put]
            refine wpAnyH_done (by kernel_rfl) ?_ _
            exact ⟨rfl, g8, rfl, hBz, hlg8, hx10⟩
        · skip
          refine wpOp_of_list (o := ⟨some 8, Op.alloc 62, _, _, _, none⟩) rfl ?_
          refine wpList_allocZ rfl _ rfl i8_zero ?_
          intro g8 x3 hgg8 hBg8 hy3 hs
          have hlg8 : w3.heap.size ≤ g8 := Nat.le_trans (hx2 : Below w3.heap.size w3 _).size (Nat.le_of_eq hgg8.symm)
          clear hgg8 hs
          have hx3 := bel_tr hx2 hy3
          show _ ∧ _
          refine ⟨hx3, ?_⟩
          simp only [Act.put, List.setIfInBounds_toArray, List.set_cons_zero, List.set_cons_succ]
          refine wpAnyH_all (rs := [16]) (by kernel_rfl) (by decide) ?_
          intro i hi
          obtain rfl := List.mem_singleton.1 hi
          refine wpOp_callM (o := ⟨some 27, Op.call { callee := Callee.value (Operand.func 16), args := #[Operand.tmp 24, Operand.tmp 26], argTypes := #[4, 4] }, _, _, _, none⟩) rfl (by rfl) (by go_simp) (H2.out _) ?_
          rintro e x4 ⟨rfl, hy4⟩
          have hx4 := bel_tr hx3 hy4
          have hBg8 := hBg8.bel hy4
          refine ⟨_, rfl, ?_⟩
          show _ ∧ _
          refine ⟨hx4, ?_⟩
          simp only [Act.put, List.setIfInBounds_toArray, List.set_cons_zero, List.set_cons_succ]
          refine wpAnyH_all (rs := [21]) (by kernel_rfl) (by decide) ?_
          intro i hi
          obtain rfl := List.mem_singleton.1 hi
          refine wpOp_callM (o := ⟨some 32, Op.call { callee := Callee.value (Operand.func 16), args := #[Operand.tmp 29, Operand.tmp 31], argTypes := #[4, 4] }, _, _, _, none⟩) rfl (by rfl) (by go_simp) (H3.out _) ?_
          rintro e x5 ⟨rfl, hy5⟩
          have hx5 := bel_tr hx4 hy5
          have hBg8 := hBg8.bel hy5
          refine ⟨_, rfl, ?_⟩
          show _ ∧ _
          refine ⟨hx5, ?_⟩
          simp only [Act.put, List.setIfInBounds_toArray, List.set_cons_zero, List.set_cons_succ]
          refine wpAnyH_all (rs := [26]) (by kernel_rfl) (by decide) ?_
          intro i hi
          obtain rfl := List.mem_singleton.1 hi
          refine wpOp_callM (o := ⟨some 37, Op.call { callee := Callee.value (Operand.func 16), args := #[Operand.tmp 34, Operand.tmp 36], argTypes := #[4, 4] }, _, _, _, none⟩) rfl (by rfl) (by go_simp) (H4.out _) ?_
          rintro e x6 ⟨rfl, hy6⟩
          have hx6 := bel_tr hx5 hy6
          have hBg8 := hBg8.bel hy6
          refine ⟨_, rfl, ?_⟩
          show _ ∧ _
          refine ⟨hx6, ?_⟩
          simp only [Act.put, List.setIfInBounds_toArray, List.set_cons_zero, List.set_cons_succ]
          refine wpAnyH_all (rs := [31]) (by kernel_rfl) (by decide) ?_
          intro i hi
          obtain rfl := List.mem_singleton.1 hi
          refine wpOp_callM (o := ⟨some 42, Op.call { callee := Callee.value (Operand.func 16), args := #[Operand.tmp 39, Operand.tmp 41], argTypes := #[4, 4] }, _, _, _, none⟩) rfl (by rfl) (by go_simp) (H5.out _) ?_
          rintro e x7 ⟨rfl, hy7⟩
          have hx7 := bel_tr hx6 hy7
          have hBg8 := hBg8.bel hy7
          refine ⟨_, rfl, ?_⟩
          show _ ∧ _
          refine ⟨hx7, ?_⟩
          simp only [Act.put, List.setIfInBounds_toArray, List.set_cons_zero, List.set_cons_succ]
          refine wpAnyH_all (rs := [36]) (by kernel_rfl) (by decide) ?_
          intro i hi
          obtain rfl := List.mem_singleton.1 hi
          refine wpOp_callM (o := ⟨some 47, Op.call { callee := Callee.value (Operand.func 16), args := #[Operand.tmp 44, Operand.tmp 46], argTypes := #[4, 4] }, _, _, _, none⟩) rfl (by rfl) (by go_simp) (H6.out _) ?_
          rintro e x8 ⟨rfl, hy8⟩
          have hx8 := bel_tr hx7 hy8
          have hBg8 := hBg8.bel hy8
          refine ⟨_, rfl, ?_⟩
          show _ ∧ _
          refine ⟨hx8, ?_⟩
          simp only [Act.put, List.setIfInBounds_toArray, List.set_cons_zero, List.set_cons_succ]
          refine wpAnyH_all (rs := [41]) (by kernel_rfl) (by decide) ?_
          intro i hi
          obtain rfl := List.mem_singleton.1 hi
          refine wpOp_callM (o := ⟨some 52, Op.call { callee := Callee.value (Operand.func 18), args := #[Operand.tmp 49, Operand.tmp 51], argTypes := #[3, 3] }, _, _, _, none⟩) rfl (by rfl) (by go_simp) (H7.out _) ?_
          rintro e x9 ⟨rfl, hy9⟩
          have hx9 := bel_tr hx8 hy9
          have hBg8 := hBg8.bel hy9
          refine ⟨_, rfl, ?_⟩
          show _ ∧ _
          refine ⟨hx9, ?_⟩
          simp only [Act.put, List.setIfInBounds_toArray, List.set_cons_zero, List.set_cons_succ]
          refine wpAnyH_take (i := 42) (oi := ⟨some 53, Op.build 62 #[(0 , Operand.tmp 15), (1 , Operand.tmp 22), (2 , Operand.tmp 27), (3 , Operand.tmp 32), (4 , Operand.tmp 37), (5 , Operand.tmp 42), (6 , Operand.tmp 47), (7 , Operand.tmp 52)], _, _, _, none⟩) (v := Value.agg (giA L)) rfl (by kernel_rfl) (by kernel_rfl) (by kernel_rfl) (fun _ _ _ h => nomatch h.1) (yieldsIf_buildL (by rfl) 62 _ rfl HB.out rfl) hx9 ?_
          simp only [Act.put, List.setIfInBounds_toArray, List.set_cons_zero, List.set_cons_succ]
          refine wpAnyH_all (rs := [44]) (by kernel_rfl) (by decide) ?_
          intro i hi
          obtain rfl := List.mem_singleton.1 hi
          refine wpOp_of_list (o := ⟨none, Op.store 62 (Operand.tmp 8) (Operand.tmp 53), _, _, _, none⟩) rfl ?_
          refine wpList_storeB rfl _ _ _ rfl rfl rfl hBg8 HLz.out (by rw [HLs.out]; rfl) (giA_one L) ?_
          intro x10 hBz hSz
          have hx10 := (hx9 : Below w3.heap.size w3 _).trans (hSz.below hlg8)
          show _ ∧ _
          refine ⟨hx10, ?_⟩
          simp only [Act.put]
          refine wpAnyH_done (by kernel_rfl) ?_ _
          exact ⟨rfl, g8, rfl, hBz, hlg8, hx10⟩
      · skip
        refine wpOp_of_list (o := ⟨some 8, Op.alloc 62, _, _, _, none⟩) rfl ?_
        refine wpList_allocZ rfl _ rfl i8_zero ?_
        intro g8 x2 hgg8 hBg8 hy2 hs
        have hlg8 : w3.heap.size ≤ g8 := Nat.le_trans (hx1 : Below w3.heap.size w3 _).size (Nat.le_of_eq hgg8.symm)
        clear hgg8 hs
        have hx2 := bel_tr hx1 hy2
        show _ ∧ _
        refine ⟨hx2, ?_⟩
        simp only [Act.put, List.setIfInBounds_toArray, List.set_cons_zero, List.set_cons_succ]
        refine wpAnyH_all (rs := [11]) (by kernel_rfl) (by decide) ?_
        intro i hi
        obtain rfl := List.mem_singleton.1 hi
        refine wpOp_callM (o := ⟨some 22, Op.call { callee := Callee.value (Operand.func 17), args := #[Operand.tmp 17, Operand.tmp 19, Operand.tmp 21], argTypes := #[3, 3, 3] }, _, _, _, none⟩) rfl (by rfl) (by go_simp) (H1.out _) ?_
        rintro e x3 ⟨rfl, hy3⟩
        have hx3 := bel_tr hx2 hy3
        have hBg8 := hBg8.bel hy3
        refine ⟨_, rfl, ?_⟩
        show _ ∧ _
        refine ⟨hx3, ?_⟩
        simp only [Act.put, List.setIfInBounds_toArray, List.set_cons_zero, List.set_cons_succ]
        refine wpAnyH_all (rs := [16]) (by kernel_rfl) (by decide) ?_
        intro i hi
        obtain rfl := List.mem_singleton.1 hi
        refine wpOp_callM (o := ⟨some 27, Op.call { callee := Callee.value (Operand.func 16), args := #[Operand.tmp 24, Operand.tmp 26], argTypes := #[4, 4] }, _, _, _, none⟩) rfl (by rfl) (by go_simp) (H2.out _) ?_
        rintro e x4 ⟨rfl, hy4⟩
        have hx4 := bel_tr hx3 hy4
        have hBg8 := hBg8.bel hy4
        refine ⟨_, rfl, ?_⟩
        show _ ∧ _
        refine ⟨hx4, ?_⟩
        simp only [Act.put, List.setIfInBounds_toArray, List.set_cons_zero, List.set_cons_succ]
        refine wpAnyH_all (rs := [21]) (by kernel_rfl) (by decide) ?_
        intro i hi
        obtain rfl := List.mem_singleton.1 hi
        refine wpOp_callM (o := ⟨some 32, Op.call { callee := Callee.value (Operand.func 16), args := #[Operand.tmp 29, Operand.tmp 31], argTypes := #[4, 4] }, _, _, _, none⟩) rfl (by rfl) (by go_simp) (H3.out _) ?_
        rintro e x5 ⟨rfl, hy5⟩
        have hx5 := bel_tr hx4 hy5
        have hBg8 := hBg8.bel hy5
        refine ⟨_, rfl, ?_⟩
        show _ ∧ _
        refine ⟨hx5, ?_⟩
        simp only [Act.put, List.setIfInBounds_toArray, List.set_cons_zero, List.set_cons_succ]
        refine wpAnyH_all (rs := [26]) (by kernel_rfl) (by decide) ?_
        intro i hi
        obtain rfl := List.mem_singleton.1 hi
        refine wpOp_callM (o := ⟨some 37, Op.call { callee := Callee.value (Operand.func 16), args := #[Operand.tmp 34, Operand.tmp 36], argTypes := #[4, 4] }, _, _, _, none⟩) rfl (by rfl) (by go_simp) (H4.out _) ?_
        rintro e x6 ⟨rfl, hy6⟩
        have hx6 := bel_tr hx5 hy6
        have hBg8 := hBg8.bel hy6
        refine ⟨_, rfl, ?_⟩
        show _ ∧ _
        refine ⟨hx6, ?_⟩
        simp only [Act.put, List.setIfInBounds_toArray, List.set_cons_zero, List.set_cons_succ]
        refine wpAnyH_all (rs := [31]) (by kernel_rfl) (by decide) ?_
        intro i hi
        obtain rfl := List.mem_singleton.1 hi
        refine wpOp_callM (o := ⟨some 42, Op.call { callee := Callee.value (Operand.func 16), args := #[Operand.tmp 39, Operand.tmp 41], argTypes := #[4, 4] }, _, _, _, none⟩) rfl (by rfl) (by go_simp) (H5.out _) ?_
        rintro e x7 ⟨rfl, hy7⟩
        have hx7 := bel_tr hx6 hy7
        have hBg8 := hBg8.bel hy7
        refine ⟨_, rfl, ?_⟩
        show _ ∧ _
        refine ⟨hx7, ?_⟩
        simp only [Act.put, List.setIfInBounds_toArray, List.set_cons_zero, List.set_cons_succ]
        refine wpAnyH_all (rs := [36]) (by kernel_rfl) (by decide) ?_
        intro i hi
        obtain rfl := List.mem_singleton.1 hi
        refine wpOp_callM (o := ⟨some 47, Op.call { callee := Callee.value (Operand.func 16), args := #[Operand.tmp 44, Operand.tmp 46], argTypes := #[4, 4] }, _, _, _, none⟩) rfl (by rfl) (by go_simp) (H6.out _) ?_
        rintro e x8 ⟨rfl, hy8⟩
        have hx8 := bel_tr hx7 hy8
        have hBg8 := hBg8.bel hy8
        refine ⟨_, rfl, ?_⟩
        show _ ∧ _
        refine ⟨hx8, ?_⟩
        simp only [Act.put, List.setIfInBounds_toArray, List.set_cons_zero, List.set_cons_succ]
        refine wpAnyH_all (rs := [41]) (by kernel_rfl) (by decide) ?_
        intro i hi
        obtain rfl := List.mem_singleton.1 hi
        refine wpOp_callM (o := ⟨some 52, Op.call { callee := Callee.value (Operand.func 18), args := #[Operand.tmp 49, Operand.tmp 51], argTypes := #[3, 3] }, _, _, _, none⟩) rfl (by rfl) (by go_simp) (H7.out _) ?_
        rintro e x9 ⟨rfl, hy9⟩
        have hx9 := bel_tr hx8 hy9
        have hBg8 := hBg8.bel hy9
        refine ⟨_, rfl, ?_⟩
        show _ ∧ _
        refine ⟨hx9, ?_⟩
        simp only [Act.put, List.setIfInBounds_toArray, List.set_cons_zero, List.set_cons_succ]
        refine wpAnyH_take (i := 42) (oi := ⟨some 53, Op.build 62 #[(0 , Operand.tmp 15), (1 , Operand.tmp 22), (2 , Operand.tmp 27), (3 , Operand.tmp 32), (4 , Operand.tmp 37), (5 , Operand.tmp 42), (6 , Operand.tmp 47), (7 , Operand.tmp 52)], _, _, _, none⟩) (v := Value.agg (giA L)) rfl (by kernel_rfl) (by kernel_rfl) (by kernel_rfl) (fun _ _ _ h => nomatch h.1) (yieldsIf_buildL (by rfl) 62 _ rfl HB.out rfl) hx9 ?_
        simp only [Act.put, List.setIfInBounds_toArray, List.set_cons_zero, List.set_cons_succ]
        refine wpAnyH_all (rs := [44]) (by kernel_rfl) (by decide) ?_
        intro i hi
        obtain rfl := List.mem_singleton.1 hi
        refine wpOp_of_list (o := ⟨none, Op.store 62 (Operand.tmp 8) (Operand.tmp 53), _, _, _, none⟩) rfl ?_
        refine wpList_storeB rfl _ _ _ rfl rfl rfl hBg8 HLz.out (by rw [HLs.out]; rfl) (giA_one L) ?_
        intro x10 hBz hSz
        have hx10 := (hx9 : Below w3.heap.size w3 _).trans (hSz.below hlg8)
        show _ ∧ _
        refine ⟨hx10, ?_⟩
        simp only [Act.put]
        refine wpAnyH_done (by kernel_rfl) ?_ _
        exact ⟨rfl, g8, rfl, hBz, hlg8, hx10⟩
    · skip
      refine wpOp_of_list (o := ⟨some 8, Op.alloc 62, _, _, _, none⟩) rfl ?_
      refine wpList_allocZ rfl _ rfl i8_zero ?_
      intro g8 x1 hgg8 hBg8 hy1 hs
      have hlg8 : w3.heap.size ≤ g8 := Nat.le_trans ((Below.refl _ _).drew : Below w3.heap.size w3 _).size (Nat.le_of_eq hgg8.symm)
      clear hgg8 hs
      have hx1 := bel_drew hy1
      show _ ∧ _
      refine ⟨hx1, ?_⟩
      simp only [Act.put, List.setIfInBounds_toArray, List.set_cons_zero, List.set_cons_succ]
      refine wpAnyH_all (rs := [4]) (by kernel_rfl) (by decide) ?_
      intro i hi
      obtain rfl := List.mem_singleton.1 hi
      refine wpOp_callM (o := ⟨some 15, Op.call { callee := Callee.value (Operand.func 16), args := #[Operand.tmp 12, Operand.tmp 14], argTypes := #[4, 4] }, _, _, _, none⟩) rfl (by rfl) (by go_simp) (H0.out _) ?_
      rintro e x2 ⟨rfl, hy2⟩
      have hx2 := bel_tr hx1 hy2
      have hBg8 := hBg8.bel hy2
      refine ⟨_, rfl, ?_⟩
      show _ ∧ _
      refine ⟨hx2, ?_⟩
      simp only [Act.put, List.setIfInBounds_toArray, List.set_cons_zero, List.set_cons_succ]
      refine wpAnyH_all (rs := [11]) (by kernel_rfl) (by decide) ?_
      intro i hi
      obtain rfl := List.mem_singleton.1 hi
      refine wpOp_callM (o := ⟨some 22, Op.call { callee := Callee.value (Operand.func 17), args := #[Operand.tmp 17, Operand.tmp 19, Operand.tmp 21], argTypes := #[3, 3, 3] }, _, _, _, none⟩) rfl (by rfl) (by go_simp) (H1.out _) ?_
      rintro e x3 ⟨rfl, hy3⟩
      have hx3 := bel_tr hx2 hy3
      have hBg8 := hBg8.bel hy3
      refine ⟨_, rfl, ?_⟩
      show _ ∧ _
      refine ⟨hx3, ?_⟩
      simp only [Act.put, List.setIfInBounds_toArray, List.set_cons_zero, List.set_cons_succ]
      refine wpAnyH_all (rs := [16]) (by kernel_rfl) (by decide) ?_
      intro i hi
      obtain rfl := List.mem_singleton.1 hi
      refine wpOp_callM (o := ⟨some 27, Op.call { callee := Callee.value (Operand.func 16), args := #[Operand.tmp 24, Operand.tmp 26], argTypes := #[4, 4] }, _, _, _, none⟩) rfl (by rfl) (by go_simp) (H2.out _) ?_
      rintro e x4 ⟨rfl, hy4⟩
      have hx4 := bel_tr hx3 hy4
      have hBg8 := hBg8.bel hy4
      refine ⟨_, rfl, ?_⟩
      show _ ∧ _
      refine ⟨hx4, ?_⟩
      simp only [Act.put, List.setIfInBounds_toArray, List.set_cons_zero, List.set_cons_succ]
      refine wpAnyH_all (rs := [21]) (by kernel_rfl) (by decide) ?_
      intro i hi
      obtain rfl := List.mem_singleton.1 hi
      refine wpOp_callM (o := ⟨some 32, Op.call { callee := Callee.value (Operand.func 16), args := #[Operand.tmp 29, Operand.tmp 31], argTypes := #[4, 4] }, _, _, _, none⟩) rfl (by rfl) (by go_simp) (H3.out _) ?_
      rintro e x5 ⟨rfl, hy5⟩
      have hx5 := bel_tr hx4 hy5
      have hBg8 := hBg8.bel hy5
      refine ⟨_, rfl, ?_⟩
      show _ ∧ _
      refine ⟨hx5, ?_⟩
      simp only [Act.put, List.setIfInBounds_toArray, List.set_cons_zero, List.set_cons_succ]
      refine wpAnyH_all (rs := [26]) (by kernel_rfl) (by decide) ?_
      intro i hi
      obtain rfl := List.mem_singleton.1 hi
      refine wpOp_callM (o := ⟨some 37, Op.call { callee := Callee.value (Operand.func 16), args := #[Operand.tmp 34, Operand.tmp 36], argTypes := #[4, 4] }, _, _, _, none⟩) rfl (by rfl) (by go_simp) (H4.out _) ?_
      rintro e x6 ⟨rfl, hy6⟩
      have hx6 := bel_tr hx5 hy6
      have hBg8 := hBg8.bel hy6
      refine ⟨_, rfl, ?_⟩
      show _ ∧ _
      refine ⟨hx6, ?_⟩
      simp only [Act.put, List.setIfInBounds_toArray, List.set_cons_zero, List.set_cons_succ]
      refine wpAnyH_all (rs := [31]) (by kernel_rfl) (by decide) ?_
      intro i hi
      obtain rfl := List.mem_singleton.1 hi
      refine wpOp_callM (o := ⟨some 42, Op.call { callee := Callee.value (Operand.func 16), args := #[Operand.tmp 39, Operand.tmp 41], argTypes := #[4, 4] }, _, _, _, none⟩) rfl (by rfl) (by go_simp) (H5.out _) ?_
      rintro e x7 ⟨rfl, hy7⟩
      have hx7 := bel_tr hx6 hy7
      have hBg8 := hBg8.bel hy7
      refine ⟨_, rfl, ?_⟩
      show _ ∧ _
      refine ⟨hx7, ?_⟩
      simp only [Act.put, List.setIfInBounds_toArray, List.set_cons_zero, List.set_cons_succ]
      refine wpAnyH_all (rs := [36]) (by kernel_rfl) (by decide) ?_
      intro i hi
      obtain rfl := List.mem_singleton.1 hi
      refine wpOp_callM (o := ⟨some 47, Op.call { callee := Callee.value (Operand.func 16), args := #[Operand.tmp 44, Operand.tmp 46], argTypes := #[4, 4] }, _, _, _, none⟩) rfl (by rfl) (by go_simp) (H6.out _) ?_
      rintro e x8 ⟨rfl, hy8⟩
      have hx8 := bel_tr hx7 hy8
      have hBg8 := hBg8.bel hy8
      refine ⟨_, rfl, ?_⟩
      show _ ∧ _
      refine ⟨hx8, ?_⟩
      simp only [Act.put, List.setIfInBounds_toArray, List.set_cons_zero, List.set_cons_succ]
      refine wpAnyH_all (rs := [41]) (by kernel_rfl) (by decide) ?_
      intro i hi
      obtain rfl := List.mem_singleton.1 hi
      refine wpOp_callM (o := ⟨some 52, Op.call { callee := Callee.value (Operand.func 18), args := #[Operand.tmp 49, Operand.tmp 51], argTypes := #[3, 3] }, _, _, _, none⟩) rfl (by rfl) (by go_simp) (H7.out _) ?_
      rintro e x9 ⟨rfl, hy9⟩
      have hx9 := bel_tr hx8 hy9
      have hBg8 := hBg8.bel hy9
      refine ⟨_, rfl, ?_⟩
      show _ ∧ _
      refine ⟨hx9, ?_⟩
      simp only [Act.put, List.setIfInBounds_toArray, List.set_cons_zero, List.set_cons_succ]
      refine wpAnyH_take (i := 42) (oi := ⟨some 53, Op.build 62 #[(0 , Operand.tmp 15), (1 , Operand.tmp 22), (2 , Operand.tmp 27), (3 , Operand.tmp 32), (4 , Operand.tmp 37), (5 , Operand.tmp 42), (6 , Operand.tmp 47), (7 , Operand.tmp 52)], _, _, _, none⟩) (v := Value.agg (giA L)) rfl (by kernel_rfl) (by kernel_rfl) (by kernel_rfl) (fun _ _ _ h => nomatch h.1) (yieldsIf_buildL (by rfl) 62 _ rfl HB.out rfl) hx9 ?_
      simp only [Act.put, List.setIfInBounds_toArray, List.set_cons_zero, List.set_cons_succ]
      refine wpAnyH_all (rs := [44]) (by kernel_rfl) (by decide) ?_
      intro i hi
      obtain rfl := List.mem_singleton.1 hi
      refine wpOp_of_list (o := ⟨none, Op.store 62 (Operand.tmp 8) (Operand.tmp 53), _, _, _, none⟩) rfl ?_
      refine wpList_storeB rfl _ _ _ rfl rfl rfl hBg8 HLz.out (by rw [HLs.out]; rfl) (giA_one L) ?_
      intro x10 hBz hSz
      have hx10 := (hx9 : Below w3.heap.size w3 _).trans (hSz.below hlg8)
      show _ ∧ _
      refine ⟨hx10, ?_⟩
      simp only [Act.put]
      refine wpAnyH_done (by kernel_rfl) ?_ _
      exact ⟨rfl, g8, rfl, hBz, hlg8, hx10⟩
  case k =>
    rintro g8 w8 ⟨hB8, hlg8, hb8⟩
    have hb08 := bel_tr Hb.out hb8
    go_wp2_with (first
      | (with_reducible refine wpList_loadB (o := ⟨some 54, _, _, _, _, _⟩) rfl _ _ rfl rfl hB8 i8_under rfl HLz.out ?_))
    go_loopw [55] (fun i wr => ∃ k : Nat, k ≤ 8 ∧ i = .int .i64 k ∧ fst1 L = fst1 (L.drop k) ∧ fstI L 0 = fstI (L.drop k) k ∧ wr = w8) (fun i _ => 8 - (intOf i).toNat)
    case atStart => exact ⟨0, by omega, rfl, rfl, rfl, rfl⟩
    case round =>
      obtain ⟨k, hk, rfl, h1, h2, rfl⟩ := hrel
      by_cases hlt : k < 8
      · have hkL : k < L.length := by rw [HLn.out]; exact hlt
        obtain ⟨x, hd, HX⟩ : ∃ x : Int, L.drop k = x :: L.drop (k + 1) ∧ Hid (∀ {o : Oper} {ops : Array Oper} {rest : List Oper} {a : Act} {Q : Exit → Act → World → Prop} (hgd : o.guard = none) (x1 y1 : Operand) (ho : o.op = .index 62 x1 y1) (hx : a.eval x1 = .agg (giA L)) (hy : a.eval y1 = .int .i64 (k : Int)) (h : wpList Tryd.prog ops Q rest (a.put o.dst (.int .i64 x)) wr), wpList Tryd.prog ops Q (o :: rest) a wr) :=
          ⟨L[k], List.drop_eq_getElem_cons hkL, Lib.hid (fun hgd x y ho hx hy h => wpList_idxI hgd x y ho hx hy HLn.out hkL h)⟩
        rw [hd] at h1 h2
        have j0 : (k : Int) < 8 := by omega
        by_cases hx : x = 0
        · rw [fst1_cons _ _ hx] at h1
          rw [fstI_cons _ _ _ hx] at h2
          have G1 := Lib.hid h1
          have G2 := Lib.hid h2
          have i0 : (x != 0) = false := by simp [hx]
          clear h1 h2 hd
          clear hx hkL
          go_wp2_with (first
            | (refine HX.out (o := ⟨some 58, _, _, _, _, _⟩) rfl _ _ rfl rfl rfl ?_))
          go_roundw
          case rel => exact ⟨k + 1, by omega, by go_num, G1.out, G2.out, by trivial⟩
          case measure => simp [intOf]; omega
        · rw [fst1_hit _ _ hx] at h1
          rw [fstI_hit _ _ _ hx] at h2
          have G1 := Lib.hid h1
          have G2 := Lib.hid h2
          have i0 : (x != 0) = true := by simpa using hx
          clear h1 h2 hd
          clear hx hkL
          go_wp2_with (first
            | (refine HX.out (o := ⟨some 58, _, _, _, _, _⟩) rfl _ _ rfl rfl rfl ?_))
          go_ret2
          exact ⟨by rw [G1.out, G2.out]; rfl, hb08⟩
      · have hk8 : k = 8 := by omega
        subst hk8
        have hd : L.drop 8 = [] := List.drop_eq_nil_of_le (by rw [HLn.out]; omega)
        rw [hd] at h1 h2
        have G1 := Lib.hid h1
        have G2 := Lib.hid h2
        clear h1 h2 hd
        go_wp2_with (fail)
        go_ret2
        exact ⟨by rw [G1.out, G2.out]; rfl, hb08⟩
end Go.Proofs.YthlnndjkocnfcaaDoor

/- source.Better. -/
namespace Go.Proofs.YthlnndjkocnfcaaDoor
open Go.RowKit
attribute [local go_sem] ba_get ext_take ext_drop ext_any ba_app

theorem quiet_loadK {w : World} {o : Oper} {a a' : Act} {K : Act → Prop} (ty : TypeId) (x : Operand) (ho : o.op = .load ty x) {g off : Nat} (hx : a.eval x = .pointer (some ⟨g, off, none⟩)) {l : List Value} {cs : Array Value} (hcs : l.toArray = cs) (hB : w.rangeAt g off l)
    {d : TypeDesc} (hu : Tryd.prog.underlying ty = some d) (hd : d.isRow = true) (hi : (Tryd.prog.info? ty).map (·.size) = some l.length)
    (ha : a.put o.dst (.agg cs) = a') (hk : K a') : o.quiet Tryd.prog a (fun w' => ∃ y : BelT w, w' = y.at_) K := by
  subst hcs
  exact quiet_loadL ty x ho hx hB hu hd hi ha hk
/-- which of two own addresses is better: what tells. -/
def betL (N : Nt) (d : Ad) (a b : Ifc) : List Int := telL (aimN N d) (worN N (aimN N d) a) (worN N (aimN N d) b)
set_option maxRecDepth 100000 in
set_option maxHeartbeats 4000000 in
theorem betterS_any (vi vr vp : Value) (N : Nt) (d : Ad) (a b : Ifc) (w : World) (hN : NetRaw w vi vr vp N) (hE : EnvS w) (hlP : N.P.length ≤ 1000000) (hlR : N.R.length ≤ 1000000) :
    Calls Tryd.prog 6 #[.agg #[vi, vr, vp], .agg (adA d), .agg (ifcA a), .agg (ifcA b)] w (BetPost w (betL N d a b)) := by
  have HN := Lib.hid hN
  have HE := Lib.hid hE
  have Hns := Lib.hid (show (Tryd.prog.info? 26).map (·.size) = some (#[vi, vr, vp] : Array Value).size from net_size)
  have HA : Hid (∀ w', NetRaw w' vi vr vp N → EnvS w' → Calls Tryd.prog 9 #[.agg #[vi, vr, vp], .agg (adA d)] w' (AimPost w' (aimN N d))) := Lib.hid (fun w' h k => aimof_any vi vr vp N d w' h k hlP hlR)
  have HW : Hid (∀ f w', NetRaw w' vi vr vp N → EnvS w' → Calls Tryd.prog 11 #[.agg #[vi, vr, vp], .agg (aimA (aimN N d)), .agg (ifcA f)] w' (WorPost w' (worN N (aimN N d) f))) := Lib.hid (fun f w' h k => worthof_any vi vr vp N (aimN N d) f w' h k hlP)
  have HB : Hid (∀ w', Calls Tryd.prog 10 #[.agg (aimA (aimN N d)), .agg (worA (worN N (aimN N d) a)), .agg (worA (worN N (aimN N d) b))] w' (BetPost w' (betL N d a b))) := Lib.hid (fun w' => sbetter_any _ _ _ w')
  have HWa := Lib.hid (HW.out a)
  have HWb := Lib.hid (HW.out b)
  clear hN hE hlP hlR HW
  generalize betL N d a b = L at *
  generalize worN N (aimN N d) a = Wa at *
  generalize worN N (aimN N d) b = Wb at *
  generalize aimN N d = T at *
  go_enter Tryd.func6, Tryd.ntmps6
  go_wp2_with (first
    | ((with_reducible refine wpList_boxB (o := ⟨some 4, _, _, _, _, _⟩) rfl _ _ rfl rfl ?_); intro g4 w1 hg hB4 hb1 hs; clear hg hs)
    | ((with_reducible refine wpList_boxB (o := ⟨some 5, _, _, _, _, _⟩) rfl _ _ rfl rfl ?_); intro g5 w2 hg hB5 hb2 hs; have hB42 := hB4.bel hb2; have hb02 := bel_tr hb1 hb2; clear hg hs)
    | ((with_reducible refine wpList_boxB (o := ⟨some 6, _, _, _, _, _⟩) rfl _ _ rfl rfl ?_); intro g6 w3 hg hB6 hb3 hs; have hB43 := hB42.bel hb3; have hB53 := hB5.bel hb3; have hb03 := bel_tr hb02 hb3; clear hg hs)
    | ((with_reducible refine wpList_boxB (o := ⟨some 7, _, _, _, _, _⟩) rfl _ _ rfl rfl ?_); intro g7 w4 hg hB7 hb4 hs; have hB44 := hB43.bel hb4; have hB54 := hB53.bel hb4; have hB64 := hB6.bel hb4; have hb04 := bel_tr hb03 hb4; clear hg hs)
    | (with_reducible refine wpList_loadB (o := ⟨some 11, _, _, _, _, _⟩) rfl _ _ rfl rfl hB44 net_under rfl Hns.out ?_)
    | (with_reducible refine wpList_loadAd (o := ⟨some 12, _, _, _, _, _⟩) rfl _ rfl rfl hB54 ?_)
    | (go_at_call 9; refine (HA.out _ (HN.out.below hb04) (HE.out.below hb04)).mono ?_; rintro e w5 ⟨rfl, hb5⟩; have hB45 := hB44.bel hb5; have hB65 := hB64.bel hb5; have hB75 := hB7.bel hb5; have hb05 := bel_tr hb04 hb5)
    | ((with_reducible refine wpList_alloc_aim (o := ⟨some 10, _, _, _, _, _⟩) rfl rfl ?_); intro g10 w6 hg hB10 hb6 hs; have hg10 : w5.heap.size ≤ g10 := Nat.le_of_eq hg.symm; have hB46 := hB45.bel hb6; have hB66 := hB65.bel hb6; have hB76 := hB75.bel hb6; have hb06 := bel_tr hb05 hb6; clear hg hs)
    | ((with_reducible refine wpList_store_aim (o := ⟨none, _, _, _, _, _⟩) rfl (.tmp 10) _ rfl rfl rfl hB10 ?_); intro w7 hB107 hS7
       have hB47 := hB46.stays hS7 (by have := hB45.lt; omega)
       have hB67 := hB66.stays hS7 (by have := hB65.lt; omega)
       have hB77 := hB76.stays hS7 (by have := hB75.lt; omega)
       have hb07 : Below w.heap.size w w7 := hb06.trans (hS7.below (Nat.le_trans hb05.size hg10))))
  have R4 := Lib.hid hB47.rangeNet
  have R6 := Lib.hid hB67.range_ifc
  have R7 := Lib.hid hB77.range_ifc
  have R10 := Lib.hid hB107.range_aim
  have Hb := Lib.hid hb07
  have HAs : Hid ((Tryd.prog.info? 46).map (·.size) = some (aimL T).length) := Lib.hid (by rw [aimL_len]; exact aim_size)
  have HIa : Hid ((Tryd.prog.info? 31).map (·.size) = some (ifcL a).length) := Lib.hid (by rw [ifcL_len]; exact ifc_size)
  have HIb : Hid ((Tryd.prog.info? 31).map (·.size) = some (ifcL b).length) := Lib.hid (by rw [ifcL_len]; exact ifc_size)
  clear hB4 hB42 hB43 hB44 hB45 hB46 hB47 hB5 hB53 hB54 hB6 hB64 hB65 hB66 hB67 hB7 hB75 hB76 hB77 hB10 hB107 hS7 hb1 hb2 hb3 hb4 hb5 hb6 hb02 hb03 hb04 hb05 hb06 hb07
  simp only [Act.put, List.setIfInBounds_toArray, List.set_cons_succ, List.set_cons_zero]
  refine wp_region_bel (by kernel_rfl) (by kernel_rfl) ?_
  repeat (first
    | go_big_quiet_skip
    | (go_big_quiet_want; first
        | (refine quiet_loadK (o := ⟨some 15, _, _, _, _, _⟩) 26 _ rfl rfl (cs := #[vi, vr, vp]) rfl R4.out net_under rfl net_size (by simp only [Act.put, List.setIfInBounds_toArray, List.set_cons_succ, List.set_cons_zero]; exact rfl) ?_; go_big_quiet_on)
        | (refine quiet_loadK (o := ⟨some 19, _, _, _, _, _⟩) 26 _ rfl rfl (cs := #[vi, vr, vp]) rfl R4.out net_under rfl net_size (by simp only [Act.put, List.setIfInBounds_toArray, List.set_cons_succ, List.set_cons_zero]; exact rfl) ?_; go_big_quiet_on)
        | (refine quiet_loadK (o := ⟨some 14, _, _, _, _, _⟩) 46 _ rfl rfl (cs := aimA T) rfl R10.out aim_under rfl HAs.out (by simp only [Act.put, List.setIfInBounds_toArray, List.set_cons_succ, List.set_cons_zero]; exact rfl) ?_; go_big_quiet_on)
        | (refine quiet_loadK (o := ⟨some 16, _, _, _, _, _⟩) 46 _ rfl rfl (cs := aimA T) rfl R10.out aim_under rfl HAs.out (by simp only [Act.put, List.setIfInBounds_toArray, List.set_cons_succ, List.set_cons_zero]; exact rfl) ?_; go_big_quiet_on)
        | (refine quiet_loadK (o := ⟨some 20, _, _, _, _, _⟩) 46 _ rfl rfl (cs := aimA T) rfl R10.out aim_under rfl HAs.out (by simp only [Act.put, List.setIfInBounds_toArray, List.set_cons_succ, List.set_cons_zero]; exact rfl) ?_; go_big_quiet_on)
        | (refine quiet_loadK (o := ⟨some 17, _, _, _, _, _⟩) 31 _ rfl rfl (cs := ifcA a) rfl R6.out ifc_under rfl HIa.out (by simp only [Act.put, List.setIfInBounds_toArray, List.set_cons_succ, List.set_cons_zero]; exact rfl) ?_; go_big_quiet_on)
        | (refine quiet_loadK (o := ⟨some 21, _, _, _, _, _⟩) 31 _ rfl rfl (cs := ifcA b) rfl R7.out ifc_under rfl HIb.out (by simp only [Act.put, List.setIfInBounds_toArray, List.set_cons_succ, List.set_cons_zero]; exact rfl) ?_; go_big_quiet_on)
        | (go_big_quiet_op; first | go_big_quiet_on | go_big_quiet_call ((go_at_call 11; (first | (with_reducible refine bel_call (HWa.out _ (HN.out.below (bel_tr Hb.out (BelT.bel _))) (HE.out.below (bel_tr Hb.out (BelT.bel _))))) | (with_reducible refine bel_call (HWb.out _ (HN.out.below (bel_tr Hb.out (BelT.bel _))) (HE.out.below (bel_tr Hb.out (BelT.bel _)))))))) | go_big_quiet_call ((go_at_call 10; with_reducible refine bel_call (HB.out _))))))
  refine wpQuiet_nil ?_
  rintro _ ⟨x, rfl⟩
  have hbx := bel_tr Hb.out x.bel
  go_wp2
  go_ret2
  exact ⟨rfl, hbx⟩
end Go.Proofs.YthlnndjkocnfcaaDoor

/- route.Ifaces (printed by mk_srj.py). -/
namespace Go.Proofs.YthlnndjkocnfcaaDoor
open Go.RowKit
attribute [local go_sem] ba_get ext_take ext_drop ext_any ba_app

set_option maxRecDepth 100000 in
set_option maxHeartbeats 4000000 in
theorem ifaces_any (vi vr vp : Value) (N : Nt) (w : World) (hN : NetRaw w vi vr vp N) (hl : N.I.length ≤ 1000000) : Calls Tryd.prog 20 #[.agg #[vi, vr, vp]] w (IfcsPost w (ifcN N.I)) := by
  have h0 := hN.i
  clear hN
  generalize N.I = L at *
  obtain ⟨A, c, rfl, hc⟩ := h0.any
  have H := Lib.hid h0
  clear h0 hc
  go_enter Tryd.func20, Tryd.ntmps20
  go_wp2_with (first
    | ((with_reducible refine wpList_boxB rfl _ _ rfl rfl ?_); intro g1 w1 hg hB1 hb1 hs; have c2 : w1.cell? ⟨g1, 0, none⟩ = some (.slice A L.length c) := hB1.cell 0; clear hg hs))
  have H1 := Lib.hid (H.out.below hb1)
  go_loopw [3, 9] (fun v i wr => ∃ k : Nat, k ≤ L.length ∧ i = .int .i64 k ∧ FltRel w1 31 23 ifcL okI 32 L k v wr) (fun _ i _ => L.length - (intOf i).toNat)
  case atStart => exact ⟨0, Nat.zero_le _, rfl, by simp, by simpa using World.ownsRow_nil w1 w1.heap.size 31 23, Below.refl _ _⟩
  case round =>
    obtain ⟨k, hk, rfl, hcnt, hown, hbel⟩ := hrel
    obtain ⟨ao, co, rfl⟩ := own_anyF hown
    have Hown := Lib.hid hown
    clear hown c2
    by_cases hlt : k < L.length
    · obtain ⟨b, off, c, hv, hc, hbl, hcell⟩ := H1.out.pos (by omega)
      injection hv with hv1 _ hv2
      subst hv1 hv2
      have hR := range_of ifcL_len hcell hlt
      have HR : Hid (wr.rangeAt b (off + k * 23) (ifcL L[k])) := Lib.hid (fun j u hu => ((hbel.cell (p := ⟨b, off + k * 23 + j, none⟩) hbl).trans (hR j u hu)))
      clear hR hcell hbl
      have hltI : (k : Int) < (L.length : Int) := by omega
      by_cases hst : 32 ≤ ((L.take k).filter okI).length
      · have hfin : leftF okI 32 L = (L.take k).filter okI := by rw [leftF_stop hst, List.take_of_length_le hcnt]
        have Hfin : Hid (ifcN L = (L.take k).filter okI) := Lib.hid hfin
        clear hfin
        generalize (L.take k).filter okI = Q at *
        have i15 : ((Q.length : Int) == 32) = true := by rw [beq_iff_eq]; omega
        generalize hql : Q.length = q at *
        go_wp2_with (first
          | (with_reducible refine wpList_loadM_ifc rfl _ rfl rfl HR.out ?_)
          | ((with_reducible refine wpList_alloc_ifc rfl rfl ?_); intro g2 w2 hg hB2 hb2 hs; have hg2 : wr.heap.size ≤ g2 := Nat.le_of_eq hg.symm; clear hg hs)
          | ((with_reducible refine wpList_store_ifc rfl _ _ rfl rfl rfl hB2 ?_); intro w4 hB4 hS4))
        go_ret
        have hb4 : Below wr.heap.size wr w4 := hb2.trans (hS4.below (by omega))
        refine ⟨_, rfl, ?_, bel_tr hb1 (hbel.trans (hb4.mono hbel.size))⟩
        rw [Hfin.out, hql]
        exact own_base (own_below Hown.out hb4) hb1.size
      · have hst2 : ((L.take k).filter okI).length < 32 := by omega
        have hnx := filt_next (p := okI) hlt
        have Hnx := Lib.hid hnx
        clear hnx hst
        generalize hp : L[k] = p at *
        generalize hQ : (L.take k).filter okI = Q at *
        have i15 : ((Q.length : Int) == 32) = false := by rw [beq_eq_false_iff_ne]; omega
        have Hbd : Hid (Q.length < 32) := Lib.hid hst2
        have hok : (chkA p.ad == 0) = false ∧ okI p = false ∨ ((chkA p.ad == 0) = true ∧ mulA p.ad = true ∧ okI p = false) ∨ ((chkA p.ad == 0) = true ∧ mulA p.ad = false ∧ decide (0 ≤ p.bits) = false ∧ okI p = false) ∨
            ((chkA p.ad == 0) = true ∧ mulA p.ad = false ∧ decide (0 ≤ p.bits) = true ∧ decide (p.bits ≤ bitsA p.ad) = false ∧ okI p = false) ∨ ((chkA p.ad == 0) = true ∧ mulA p.ad = false ∧ decide (0 ≤ p.bits) = true ∧ decide (p.bits ≤ bitsA p.ad) = true ∧ okI p = true) := by
          unfold okI
          cases (chkA p.ad == 0) <;> cases mulA p.ad <;> cases decide (0 ≤ p.bits) <;> cases decide (p.bits ≤ bitsA p.ad) <;> simp
        clear hst2 hp hQ
        have HH : Hid (∀ w, Calls Tryd.prog 21 #[.agg (adA p.ad)] w fun e w' => e = .returned (.int .i64 (chkA p.ad)) ∧ Below w.heap.size w w') := Lib.hid (acheck_any p.ad)
        have HM : Hid (∀ w, Calls Tryd.prog 30 #[.agg (adA p.ad)] w (BoPost w (mulA p.ad))) := Lib.hid (multi_any p.ad)
        have HT : Hid (∀ w, Calls Tryd.prog 22 #[.agg (adA p.ad)] w fun e w' => e = .returned (.int .i64 (bitsA p.ad)) ∧ Below w.heap.size w w') := Lib.hid (abits_any p.ad)
        generalize chkA p.ad = ch at *
        generalize mulA p.ad = mu at *
        generalize bitsA p.ad = bt at *
        go_wp2_with (first
          | (with_reducible refine wpList_loadM_ifc rfl _ rfl rfl HR.out ?_)
          | ((with_reducible refine wpList_alloc_ifc rfl rfl ?_); intro g2 w2 hg hB2 hb2 hs; have hg2 : wr.heap.size ≤ g2 := Nat.le_of_eq hg.symm; clear hg hs)
          | ((with_reducible refine wpList_store_ifc (o := ⟨none, _, _, _, _, _⟩) rfl _ _ rfl rfl rfl hB2 ?_); intro w4 hB4 hS4; have hb4 : Below wr.heap.size wr w4 := hb2.trans (hS4.below (by omega)); have hq4 := Lib.hid hB4.rangehd_ifc; have c19 := hB4.cell 19; rw [ifcA_19] at c19; have HX : Hid (Bk w4 g2 31 (ifcA p) ∧ Below wr.heap.size wr w4) := Lib.hid ⟨hB4, hb4⟩; clear hB4 hb4 hB2 hb2 hS4 hg2))
        have x19 := fun x : BelT w4 => x.cell c19
        clear c19
        rcases hok with ⟨i0, ho⟩ | ⟨i0, im, ho⟩ | ⟨i0, im, id0, ho⟩ | ⟨i0, im, id0, id1, ho⟩ | ⟨i0, im, id0, id1, ho⟩
        all_goals
          have Ho := Lib.hid ho
          clear ho
          refine wp_region_bel (by kernel_rfl) (by kernel_rfl) ?_
          repeat (first
            | go_big_quiet_skip
            | (go_big_quiet_want; first
                | (refine quiet_loadAd _ rfl rfl hq4.out (by simp only [Act.put, List.setIfInBounds_toArray, List.set_cons_succ, List.set_cons_zero]; exact rfl) ?_; go_big_quiet_on)
                | (go_big_quiet_op; first | go_big_quiet_on | go_big_quiet_call ((go_at_call 21; with_reducible refine bel_call (HH.out _))) | go_big_quiet_call ((go_at_call 30; with_reducible refine bel_call (HM.out _))) | go_big_quiet_call ((go_at_call 22; with_reducible refine bel_call (HT.out _))))))
          refine wpQuiet_nil ?_
          rintro _ ⟨x, rfl⟩
          have HX5 : Hid (Bk x.at_ g2 31 (ifcA p) ∧ Below wr.heap.size wr x.at_) := Lib.hid ⟨HX.out.1.bel x.bel, bel_tr HX.out.2 x.bel⟩
          clear HX x19 hq4
          have HX := HX5
          clear HX5
          go_wp2_with (first
            | (with_reducible refine wpList_load_ifc (o := ⟨some 40, _, _, _, _, _⟩) rfl _ rfl rfl HX.out.1 ?_)
            | ((with_reducible show wpList _ _ _ (⟨some 41, _, _, _, _, _⟩ :: _) _ _); refine wpList_lit (o := ⟨some 41, _, _, _, _, _⟩) rfl _ _ rfl elt_ifc [.agg (ifcA p)] rfl (by decide) (by decide) (fun v hv => by rw [List.mem_singleton.1 hv]; exact ifcA_size _) rfl ?_; intro w6 hB6 hx6 hb6 hs6; clear hx6 hs6; have hb06 := bel_tr HX.out.2 hb6; have hB6 := bk_list (l := ifcL p) hB6 rfl)
            | (at_builtin; refine wpList_app rfl (.tmp 39) (.tmp 41) _ rfl elt_ifc rfl (own_below Hown.out hb06) rfl (hB6.sl (size := 23) (n := 1) (ifcL_len _) 1 (Nat.le_refl _)) (ifcL_one _) (Nat.le_trans hbel.size hb06.size) (by have := Hbd.out; omega) (by have := Hbd.out; omega) ?_; intro v7 w7 ho7 hb7 hg7; clear hg7))
          skip
        · go_roundw
          case rel =>
            refine ⟨k + 1, by omega, by go_num, ?_⟩
            unfold FltRel
            rw [Hnx.out, if_neg (by rw [Ho.out]; decide), List.append_nil]
            exact ⟨Nat.le_of_lt Hbd.out, own_below Hown.out HX.out.2, hbel.trans (HX.out.2.mono hbel.size)⟩
          case measure => simp [intOf]; omega
        · go_roundw
          case rel =>
            refine ⟨k + 1, by omega, by go_num, ?_⟩
            unfold FltRel
            rw [Hnx.out, if_neg (by rw [Ho.out]; decide), List.append_nil]
            exact ⟨Nat.le_of_lt Hbd.out, own_below Hown.out HX.out.2, hbel.trans (HX.out.2.mono hbel.size)⟩
          case measure => simp [intOf]; omega
        · go_roundw
          case rel =>
            refine ⟨k + 1, by omega, by go_num, ?_⟩
            unfold FltRel
            rw [Hnx.out, if_neg (by rw [Ho.out]; decide), List.append_nil]
            exact ⟨Nat.le_of_lt Hbd.out, own_below Hown.out HX.out.2, hbel.trans (HX.out.2.mono hbel.size)⟩
          case measure => simp [intOf]; omega
        · go_roundw
          case rel =>
            refine ⟨k + 1, by omega, by go_num, ?_⟩
            unfold FltRel
            rw [Hnx.out, if_neg (by rw [Ho.out]; decide), List.append_nil]
            exact ⟨Nat.le_of_lt Hbd.out, own_below Hown.out HX.out.2, hbel.trans (HX.out.2.mono hbel.size)⟩
          case measure => simp [intOf]; omega
        · go_roundw
          case rel =>
            refine ⟨k + 1, by omega, by go_num, ?_⟩
            unfold FltRel
            rw [Hnx.out, if_pos Ho.out, List.length_append, List.flatMap_append]
            refine ⟨by have := Hbd.out; simp; omega, ?_, (hbel.trans (hb06.mono hbel.size)).trans hb7⟩
            simpa using ho7
          case measure => simp [intOf]; omega
    · have hkl : k = L.length := by omega
      subst hkl
      have hfin : leftF okI 32 L = (L.take L.length).filter okI := by rw [leftF, List.take_length, List.take_of_length_le (by rw [List.take_length] at hcnt; exact hcnt)]
      have Hfin : Hid (ifcN L = (L.take L.length).filter okI) := Lib.hid hfin
      clear hfin
      generalize (L.take L.length).filter okI = Q at *
      generalize hql : Q.length = q at *
      go_wp2
      go_ret
      refine ⟨_, rfl, ?_, bel_tr hb1 hbel⟩
      rw [Hfin.out, hql]
      exact own_base Hown.out hb1.size
end Go.Proofs.YthlnndjkocnfcaaDoor

/- route.Own at any net. -/
namespace Go.Proofs.YthlnndjkocnfcaaDoor
open Go.RowKit
attribute [local go_sem] ba_get ext_take ext_drop ext_any ba_app

def okO (f x : Int) (i : Ifc) : Bool := (i.ad.fam == f) && (i.idx == x)
/-- the own addresses on the way to an address. -/
def ownN (N : Nt) (a : Ad) : List Ifc := if (wayP a (rtN N.R)).2 = true then (ifcN N.I).filter (okO a.fam (wayP a (rtN N.R)).1.idx) else []
theorem ifcN_len (I : List Ifc) : (ifcN I).length ≤ 32 := by unfold ifcN leftF; rw [List.length_take]; omega
set_option maxRecDepth 100000 in
set_option maxHeartbeats 4000000 in
theorem ownS_any (vi vr vp : Value) (N : Nt) (a : Ad) (w : World) (hN : NetRaw w vi vr vp N) (hlI : N.I.length ≤ 1000000) (hlR : N.R.length ≤ 1000000) :
    Calls Tryd.prog 12 #[.agg #[vi, vr, vp], .agg (adA a)] w (IfcsPost w (ownN N a)) := by
  have HN := Lib.hid hN
  have Hns := Lib.hid (show (Tryd.prog.info? 26).map (·.size) = some (#[vi, vr, vp] : Array Value).size from net_size)
  have HW : Hid (∀ w', NetRaw w' vi vr vp N → Calls Tryd.prog 13 #[.agg #[vi, vr, vp], .agg (adA a)] w' (WayPost w' (wayP a (rtN N.R)))) := Lib.hid (fun w' h' => way_any vi vr vp N a w' h' hlR)
  have HI : Hid (∀ w', NetRaw w' vi vr vp N → Calls Tryd.prog 20 #[.agg #[vi, vr, vp]] w' (IfcsPost w' (ifcN N.I))) := Lib.hid (fun w' h' => ifaces_any vi vr vp N w' h' hlI)
  have Hof : Hid (ownN N a = if (wayP a (rtN N.R)).2 = true then (ifcN N.I).filter (okO a.fam (wayP a (rtN N.R)).1.idx) else []) := Lib.hid rfl
  have HRl := Lib.hid (ifcN_len N.I)
  clear hN hlI hlR
  generalize ownN N a = O at *
  generalize ifcN N.I = R at *
  generalize wayP a (rtN N.R) = wv at *
  obtain ⟨r, wb⟩ := wv
  cases wb with
  | false =>
    have Hf : Hid (O = []) := Lib.hid (by rw [Hof.out]; rfl)
    clear Hof HI
    go_enter Tryd.func12, Tryd.ntmps12
    go_wp2_with (first
      | ((with_reducible refine wpList_boxB (o := ⟨some 2, _, _, _, _, _⟩) rfl _ _ rfl rfl ?_); intro g2 w1 hg hB2 hb1 hs; clear hg hs)
      | ((with_reducible refine wpList_boxB (o := ⟨some 3, _, _, _, _, _⟩) rfl _ _ rfl rfl ?_); intro g3 w2 hg hB3 hb2 hs; have hB22 := hB2.bel hb2; have hb02 := bel_tr hb1 hb2; clear hg hs)
      | (with_reducible refine wpList_loadB (o := ⟨some 11, _, _, _, _, _⟩) rfl _ _ rfl rfl hB22 net_under rfl Hns.out ?_)
      | (with_reducible refine wpList_loadAd (o := ⟨some 12, _, _, _, _, _⟩) rfl _ rfl rfl hB3 ?_)
      | (go_at_call 13; refine (HW.out _ (HN.out.below hb02)).mono ?_; rintro e w4 ⟨rfl, hb4⟩; have hb04 := bel_tr hb02 hb4)
      | ((with_reducible refine wpList_alloc_rt (o := ⟨some 5, _, _, _, _, _⟩) rfl rfl ?_); intro g5 w5 hg hB5 hb5 hs; have hg5 : w4.heap.size ≤ g5 := Nat.le_of_eq hg.symm; have hb05 := bel_tr hb04 hb5; clear hg hs)
      | ((with_reducible refine wpList_store_rt (o := ⟨none, _, _, _, _, _⟩) rfl (.tmp 5) _ rfl rfl rfl hB5 ?_); intro w6 hB56 hS6; have hb06 : Below w.heap.size w w6 := hb05.trans (hS6.below (Nat.le_trans hb04.size hg5))))
    go_ret
    refine ⟨_, rfl, ?_, hb06⟩
    rw [Hf.out]
    simpa using World.ownsRow_nil w6 w.heap.size 31 23
  | true =>
    have Hf : Hid (O = R.filter (okO a.fam r.idx)) := Lib.hid (by rw [Hof.out]; rfl)
    clear Hof
    go_enter Tryd.func12, Tryd.ntmps12
    go_wp2_with (first
      | ((with_reducible refine wpList_boxB (o := ⟨some 2, _, _, _, _, _⟩) rfl _ _ rfl rfl ?_); intro g2 w1 hg hB2 hb1 hs; clear hg hs)
      | ((with_reducible refine wpList_boxB (o := ⟨some 3, _, _, _, _, _⟩) rfl _ _ rfl rfl ?_); intro g3 w2 hg hB3 hb2 hs; have hB22 := hB2.bel hb2; have hb02 := bel_tr hb1 hb2; clear hg hs)
      | (with_reducible refine wpList_loadB (o := ⟨some 11, _, _, _, _, _⟩) rfl _ _ rfl rfl hB22 net_under rfl Hns.out ?_)
      | (with_reducible refine wpList_loadAd (o := ⟨some 12, _, _, _, _, _⟩) rfl _ rfl rfl hB3 ?_)
      | (go_at_call 13; refine (HW.out _ (HN.out.below hb02)).mono ?_; rintro e w4 ⟨rfl, hb4⟩; have hB24 := hB22.bel hb4; have hB34 := hB3.bel hb4; have hb04 := bel_tr hb02 hb4)
      | ((with_reducible refine wpList_alloc_rt (o := ⟨some 5, _, _, _, _, _⟩) rfl rfl ?_); intro g5 w5 hg hB5 hb5 hs; have hg5 : w4.heap.size ≤ g5 := Nat.le_of_eq hg.symm; have hB25 := hB24.bel hb5; have hB35 := hB34.bel hb5; have hb05 := bel_tr hb04 hb5; clear hg hs)
      | ((with_reducible refine wpList_store_rt (o := ⟨none, _, _, _, _, _⟩) rfl (.tmp 5) _ rfl rfl rfl hB5 ?_); intro w6 hB56 hS6
         have hB26 := hB25.stays hS6 (by have := hB24.lt; omega)
         have hB36 := hB35.stays hS6 (by have := hB34.lt; omega)
         have hb06 : Below w.heap.size w w6 := hb05.trans (hS6.below (Nat.le_trans hb04.size hg5)))
      | (with_reducible refine wpList_loadB (o := ⟨some 18, _, _, _, _, _⟩) rfl _ _ rfl rfl hB26 net_under rfl Hns.out ?_)
      | (go_at_call 20; refine (HI.out _ (HN.out.below hb06)).mono ?_; rintro e w8 ⟨v8, rfl, ho8, hb8⟩; obtain ⟨A8, c8, rfl, hc8⟩ := (Sl.own ho8).any; have HR8 := Lib.hid (SRow.own ifcL_len ho8); have H3 := Lib.hid (hB36.bel hb8); have H5 := Lib.hid (hB56.bel hb8); have Hb8 := Lib.hid (bel_tr hb06 hb8)))
    clear hB2 hB22 hB24 hB25 hB26 hB3 hB34 hB35 hB36 hB5 hB56 hS6 hb1 hb2 hb4 hb5 hb8 hb02 hb04 hb05 hb06 ho8
    go_loopw [7, 21] (fun v i wr => ∃ k : Nat, k ≤ R.length ∧ i = .int .i64 k ∧ FltRel w8 31 23 ifcL (okO a.fam r.idx) 32 R k v wr) (fun _ i _ => R.length - (intOf i).toNat)
    case atStart => exact ⟨0, Nat.zero_le _, rfl, by simp, by simpa using World.ownsRow_nil w8 w8.heap.size 31 23, Below.refl _ _⟩
    case round =>
      obtain ⟨k, hk, rfl, hcnt, hown, hbel⟩ := hrel
      obtain ⟨ao, co, rfl⟩ := own_anyF hown
      have Hown := Lib.hid hown
      have hRb := HRl.out
      clear hown
      by_cases hlt : k < R.length
      · obtain ⟨b, off, hA, hblo, hblt, hrg⟩ := HR8.out.bel hbel k hlt
        subst hA
        have HRg := Lib.hid hrg
        clear hrg hblo hblt
        have hltI : (k : Int) < (R.length : Int) := by omega
        have hnx := filt_next (p := okO a.fam r.idx) hlt
        have Hnx := Lib.hid hnx
        have hcnt2 : ((R.take k).filter (okO a.fam r.idx)).length < 32 := by
          have h1 := List.length_filter_le (okO a.fam r.idx) (R.take k)
          rw [List.length_take] at h1
          have := HRl.out
          omega
        clear hnx hcnt
        generalize hp : R[k] = p at *
        generalize hQ : (R.take k).filter (okO a.fam r.idx) = Q at *
        have Hbd : Hid (Q.length < 32) := Lib.hid hcnt2
        have hok : ∀ x y : Bool, (p.ad.fam == a.fam) = x → (p.idx == r.idx) = y → okO a.fam r.idx p = (x && y) := by intro x y hx hy; unfold okO; rw [hx, hy]
        have Hok := Lib.hid hok
        clear hok hcnt2 hp hQ
        have c3 := (H3.out.bel hbel).cell 0
        rw [adA_0] at c3
        have c5 := (H5.out.bel hbel).cell 19
        rw [rtA_19] at c5
        cases i6 : (p.ad.fam == a.fam) <;> cases i0 : (p.idx == r.idx)
        all_goals
          have Ho := Lib.hid (Hok.out _ _ i6 i0)
          clear Hok
          go_wp2_with (first
            | (with_reducible refine wpList_loadM_ifc rfl _ rfl rfl HRg.out ?_)
            | ((with_reducible refine wpList_alloc_ifc rfl rfl ?_); intro g9 w9 hg hB9 hb9 hs; have hg9 : wr.heap.size ≤ g9 := Nat.le_of_eq hg.symm; clear hg hs)
            | ((with_reducible refine wpList_store_ifc (o := ⟨none, _, _, _, _, _⟩) rfl _ _ rfl rfl rfl hB9 ?_); intro wa hBa hSa; have hba : Below wr.heap.size wr wa := hb9.trans (hSa.below hg9); have d0 := hBa.cell 0; rw [ifcA_0] at d0; have d18 := hBa.cell 18; rw [ifcA_18] at d18; have d3 := (H3.out.bel (hbel.trans (hba.mono hbel.size))).cell 0; rw [adA_0] at d3; have d5 := (H5.out.bel (hbel.trans (hba.mono hbel.size))).cell 19; rw [rtA_19] at d5; have HX : Hid (Bk wa g9 31 (ifcA p) ∧ Below wr.heap.size wr wa) := Lib.hid ⟨hBa, hba⟩; clear hBa hba hB9 hb9 hSa hg9 c3 c5)
            | (with_reducible refine wpList_load_ifc (o := ⟨some 39, _, _, _, _, _⟩) rfl _ rfl rfl HX.out.1 ?_)
            | ((with_reducible show wpList _ _ _ (⟨some 40, _, _, _, _, _⟩ :: _) _ _); refine wpList_lit (o := ⟨some 40, _, _, _, _, _⟩) rfl _ _ rfl elt_ifc [.agg (ifcA p)] rfl (by decide) (by decide) (fun v hv => by rw [List.mem_singleton.1 hv]; exact ifcA_size _) rfl ?_; intro w6 hB6 hx6 hb6 hs6; clear hx6 hs6; have hb06 := bel_tr HX.out.2 hb6; have hB6 := bk_list (l := ifcL p) hB6 rfl)
            | (at_builtin; refine wpList_app rfl (.tmp 38) (.tmp 40) _ rfl elt_ifc rfl (own_below Hown.out hb06) rfl (hB6.sl (size := 23) (n := 1) (ifcL_len _) 1 (Nat.le_refl _)) (ifcL_one _) (Nat.le_trans hbel.size hb06.size) (by have := Hbd.out; omega) (by have := Hbd.out; omega) ?_; intro v7 w7 ho7 hb7 hg7; clear hg7))
          skip
        · go_roundw
          case rel =>
            refine ⟨k + 1, by omega, by go_num, ?_⟩
            unfold FltRel
            rw [Hnx.out, if_neg (by rw [Ho.out]; decide), List.append_nil]
            exact ⟨Nat.le_of_lt Hbd.out, own_below Hown.out HX.out.2, hbel.trans (HX.out.2.mono hbel.size)⟩
          case measure => simp [intOf]; omega
        · go_roundw
          case rel =>
            refine ⟨k + 1, by omega, by go_num, ?_⟩
            unfold FltRel
            rw [Hnx.out, if_neg (by rw [Ho.out]; decide), List.append_nil]
            exact ⟨Nat.le_of_lt Hbd.out, own_below Hown.out HX.out.2, hbel.trans (HX.out.2.mono hbel.size)⟩
          case measure => simp [intOf]; omega
        · go_roundw
          case rel =>
            refine ⟨k + 1, by omega, by go_num, ?_⟩
            unfold FltRel
            rw [Hnx.out, if_neg (by rw [Ho.out]; decide), List.append_nil]
            exact ⟨Nat.le_of_lt Hbd.out, own_below Hown.out HX.out.2, hbel.trans (HX.out.2.mono hbel.size)⟩
          case measure => simp [intOf]; omega
        · go_roundw
          case rel =>
            refine ⟨k + 1, by omega, by go_num, ?_⟩
            unfold FltRel
            rw [Hnx.out, if_pos (show okO a.fam r.idx p = true from Ho.out), List.length_append, List.flatMap_append]
            refine ⟨by have := Hbd.out; simp; omega, ?_, (hbel.trans (hb06.mono hbel.size)).trans hb7⟩
            simpa using ho7
          case measure => simp [intOf]; omega
      · have hkl : k = R.length := by omega
        subst hkl
        have Hf2 : Hid (O = (R.take R.length).filter (okO a.fam r.idx)) := Lib.hid (by rw [List.take_length]; exact Hf.out)
        clear Hf
        generalize (R.take R.length).filter (okO a.fam r.idx) = Q at *
        generalize hql : Q.length = q at *
        go_wp2
        go_ret
        refine ⟨_, rfl, ?_, bel_tr Hb8.out hbel⟩
        rw [Hf2.out, hql]
        exact own_base Hown.out Hb8.out.size
end Go.Proofs.YthlnndjkocnfcaaDoor

/- source.Pick at any net. -/
namespace Go.Proofs.YthlnndjkocnfcaaDoor
open Go.RowKit
attribute [local go_sem] ba_get ext_take ext_drop ext_any ba_app

theorem ret_ifcE {fn : Func} {p q : Tmp} (h : fn.results = #[.cell p 31, .tmp q]) {R : Ending → World → Prop} {a : Act} {w : World} {g : Nat} {t : TypeId} {b : Ifc} {v : Value}
    (hp : a.tmps.getD p undef = .pointer (some ⟨g, 0, none⟩)) (hq : a.tmps.getD q undef = v) (hB : Bk w g t (ifcA b)) (hd : a.defers = []) (hR : R (.returned (.tuple #[.agg (ifcA b), v])) w) : bodyPost Tryd.prog fn R .ret a w := by
  refine bodyPost_ret_by (v := .tuple #[.agg (ifcA b), v]) ?_ hd hR
  have hp' : a.tmps[p]?.getD undef = .pointer (some ⟨g, 0, none⟩) := by simpa using hp
  have hq' : a.tmps[q]?.getD undef = v := by simpa using hq
  simp [results, h, hp', hq', asAddr, run_loadVar_row (P := Tryd.prog) w g t 31 (ifcA b) (0, 0) _ hB ifc_under rfl (ifc_size' b)]
/-- the better of the best so far and the next. -/
def pstep (N : Nt) (t : Aim) (best f : Ifc) : Ifc := if 0 < fst1 (telL t (worN N t f) (worN N t best)) then f else best
/-- the own address from which one speaks. -/
def pickN (N : Nt) (d : Ad) : Ifc × Bool := match ownN N d with
  | [] => (ifc0, false)
  | x :: l => (l.foldl (pstep N (aimN N d)) x, true)
def PickPost (w : World) (x : Ifc × Bool) (e : Ending) (w' : World) : Prop := e = .returned (.tuple #[.agg (ifcA x.1), .bool x.2]) ∧ Below w.heap.size w w'
theorem built_ifc0 : Tryd.prog.built 31 [] = some (ifcA ifc0) := by kernel_rfl
set_option maxRecDepth 100000 in
set_option maxHeartbeats 4000000 in
theorem pick_none (vi vr vp : Value) (N : Nt) (d : Ad) (w : World) (hN : NetRaw w vi vr vp N) (hlI : N.I.length ≤ 1000000) (hlR : N.R.length ≤ 1000000) (h0 : ownN N d = []) :
    Calls Tryd.prog 8 #[.agg #[vi, vr, vp], .agg (adA d)] w (PickPost w (pickN N d)) := by
  have HN := Lib.hid hN
  have Hns := Lib.hid (show (Tryd.prog.info? 26).map (·.size) = some (#[vi, vr, vp] : Array Value).size from net_size)
  have HO : Hid (∀ w', NetRaw w' vi vr vp N → Calls Tryd.prog 12 #[.agg #[vi, vr, vp], .agg (adA d)] w' (IfcsPost w' [])) := Lib.hid (fun w' h' => by rw [← h0]; exact ownS_any vi vr vp N d w' h' hlI hlR)
  have Hf : Hid (pickN N d = (ifc0, false)) := Lib.hid (by unfold pickN; rw [h0])
  clear hN hlI hlR h0
  go_enter Tryd.func8, Tryd.ntmps8
  go_wp2_with (first
    | ((with_reducible refine wpList_boxB (o := ⟨some 2, _, _, _, _, _⟩) rfl _ _ rfl rfl ?_); intro g2 w1 hg hB2 hb1 hs; clear hg hs)
    | ((with_reducible refine wpList_boxB (o := ⟨some 3, _, _, _, _, _⟩) rfl _ _ rfl rfl ?_); intro g3 w2 hg hB3 hb2 hs; have hB22 := hB2.bel hb2; have hb02 := bel_tr hb1 hb2; clear hg hs)
    | ((with_reducible refine wpList_alloc_ifc (o := ⟨some 4, _, _, _, _, _⟩) rfl rfl ?_); intro g4 w3 hg hB4 hb3 hs; have hw4 : w.heap.size ≤ g4 := Nat.le_trans hb02.size (Nat.le_of_eq hg.symm); have hB23 := hB22.bel hb3; have hB33 := hB3.bel hb3; have hb03 := bel_tr hb02 hb3; clear hg hs)
    | (with_reducible refine wpList_loadB (o := ⟨some 15, _, _, _, _, _⟩) rfl _ _ rfl rfl hB23 net_under rfl Hns.out ?_)
    | (with_reducible refine wpList_loadAd (o := ⟨some 16, _, _, _, _, _⟩) rfl _ rfl rfl hB33 ?_)
    | (go_at_call 12; refine (HO.out _ (HN.out.below hb03)).mono ?_; rintro e w4 ⟨v4, rfl, ho4, hb4⟩; obtain ⟨A4, c4, rfl, hc4⟩ := (Sl.own ho4).any; have hB44 := hB4.bel hb4; have hb04 := bel_tr hb03 hb4)
    | (with_reducible refine wpList_buildL (o := ⟨some 21, _, _, _, _, _⟩) rfl 31 _ rfl built_ifc0 rfl ?_)
    | ((with_reducible refine wpList_store_ifc (o := ⟨none, _, _, _, _, _⟩) rfl (.tmp 4) _ rfl rfl rfl hB44 ?_); intro wc hBc hSc))
  exact ret_ifcE Tryd.results8 rfl rfl hBc rfl ⟨by rw [Hf.out]; rfl, hb04.trans (hSc.below hw4)⟩
theorem SRow.stays2 {α : Type} {f : α → List Value} {s : Nat} {w w' : World} {b off : Nat} {R : List α} {lo g : Nat} (h : SRow f s w (some ⟨b, off, none⟩) R lo) (hs : Stays g w w') (hg : b ≠ g) : SRow f s w' (some ⟨b, off, none⟩) R lo := fun k hk => by
  obtain ⟨b', off', h1, h2, h3, h4⟩ := h k hk
  injection h1 with h1
  injection h1 with h1a h1b
  subst h1a h1b
  refine ⟨_, _, rfl, h2, by rw [hs.size]; exact h3, fun j v hv => ?_⟩
  rw [← h4 j v hv]
  have := hs.block _ hg
  unfold World.cell?
  rw [this]
theorem SRow.rng {α : Type} {f : α → List Value} {s : Nat} {w : World} {b off : Nat} {R : List α} {lo : Nat} (h : SRow f s w (some ⟨b, off, none⟩) R lo) {k : Nat} (hk : k < R.length) : b < w.heap.size ∧ w.rangeAt b (off + k * s) (f R[k]) := by
  obtain ⟨b', off', h1, h2, h3, h4⟩ := h k hk
  injection h1 with h1
  injection h1 with h1a h1b
  subst h1a h1b
  exact ⟨h3, h4⟩
structure PickRel (w : World) (g2 g4 g7 g8 g9 : Nat) (vi vr vp : Value) (N : Nt) (t : Aim) (b off : Nat) (R : List Ifc) (lo : Nat) (best : Ifc) (wr : World) : Prop where
  b2 : Bk wr g2 26 #[vi, vr, vp]
  b4 : Bk wr g4 31 (ifcA ifc0)
  b7 : Bk wr g7 46 (aimA t)
  b8 : Bk wr g8 31 (ifcA best)
  b9 : Bk wr g9 50 (worA (worN N t best))
  r : SRow ifcL 23 wr (some ⟨b, off, none⟩) R lo
  b : Below w.heap.size w wr
set_option maxRecDepth 100000 in
set_option maxHeartbeats 4000000 in
theorem pick_some (vi vr vp : Value) (N : Nt) (d : Ad) (w : World) (hN : NetRaw w vi vr vp N) (hE : EnvS w) (hlI : N.I.length ≤ 1000000) (hlR : N.R.length ≤ 1000000) (hlP : N.P.length ≤ 1000000) (x : Ifc) (l : List Ifc) (h0 : ownN N d = x :: l) :
    Calls Tryd.prog 8 #[.agg #[vi, vr, vp], .agg (adA d)] w (PickPost w (pickN N d)) := by
  have HN := Lib.hid hN
  have HE := Lib.hid hE
  have Hns := Lib.hid (show (Tryd.prog.info? 26).map (·.size) = some (#[vi, vr, vp] : Array Value).size from net_size)
  have HO : Hid (∀ w', NetRaw w' vi vr vp N → Calls Tryd.prog 12 #[.agg #[vi, vr, vp], .agg (adA d)] w' (IfcsPost w' (x :: l))) := Lib.hid (fun w' h' => by rw [← h0]; exact ownS_any vi vr vp N d w' h' hlI hlR)
  have Hf : Hid (pickN N d = (l.foldl (pstep N (aimN N d)) x, true)) := Lib.hid (by unfold pickN; rw [h0])
  have hlen : l.length + 1 ≤ 32 := by
    have h1 : (ownN N d).length ≤ 32 := by
      unfold ownN
      split
      · exact Nat.le_trans (List.length_filter_le _ _) (ifcN_len _)
      · simp
    rw [h0] at h1
    simpa using h1
  have HA : Hid (∀ w', NetRaw w' vi vr vp N → EnvS w' → Calls Tryd.prog 9 #[.agg #[vi, vr, vp], .agg (adA d)] w' (AimPost w' (aimN N d))) := Lib.hid (fun w' h k => aimof_any vi vr vp N d w' h k hlP hlR)
  have HW : Hid (∀ t f w', NetRaw w' vi vr vp N → EnvS w' → Calls Tryd.prog 11 #[.agg #[vi, vr, vp], .agg (aimA t), .agg (ifcA f)] w' (WorPost w' (worN N t f))) := Lib.hid (fun t f w' h k => worthof_any vi vr vp N t f w' h k hlP)
  clear hN hE hlI hlR hlP h0
  generalize pickN N d = PV at *
  generalize aimN N d = t at *
  go_enter Tryd.func8, Tryd.ntmps8
  go_wp2_with (first
    | ((with_reducible refine wpList_boxB (o := ⟨some 2, _, _, _, _, _⟩) rfl _ _ rfl rfl ?_); intro g2 w1 hg hB2 hb1 hs; have hg2 : w.heap.size ≤ g2 := Nat.le_of_eq hg.symm; clear hg hs)
    | ((with_reducible refine wpList_boxB (o := ⟨some 3, _, _, _, _, _⟩) rfl _ _ rfl rfl ?_); intro g3 w2 hg hB3 hb2 hs; have hB22 := hB2.bel hb2; have hb02 := bel_tr hb1 hb2; clear hg hs)
    | ((with_reducible refine wpList_alloc_ifc (o := ⟨some 4, _, _, _, _, _⟩) rfl rfl ?_); intro g4 w3 hg hB4 hb3 hs; have hg4 : w2.heap.size ≤ g4 := Nat.le_of_eq hg.symm; have hB23 := hB22.bel hb3; have hB33 := hB3.bel hb3; have hb03 := bel_tr hb02 hb3; clear hg hs)
    | (with_reducible refine wpList_loadB (o := ⟨some 15, _, _, _, _, _⟩) rfl _ _ rfl rfl hB23 net_under rfl Hns.out ?_)
    | (with_reducible refine wpList_loadAd (o := ⟨some 16, _, _, _, _, _⟩) rfl _ rfl rfl hB33 ?_)
    | (go_at_call 12; refine (HO.out _ (HN.out.below hb03)).mono ?_; rintro e w4 ⟨v4, rfl, ho4, hb4⟩; obtain ⟨A4, c4, rfl, hc4⟩ := (Sl.own ho4).any; have hr4 := SRow.own ifcL_len ho4; obtain ⟨b, off, rfl, hblo, hblt, hrg⟩ := hr4 0 (by simp); have HC4 : Hid ((x :: l).length ≤ c4) := Lib.hid hc4; have hB24 := hB23.bel hb4; have hB34 := hB33.bel hb4; have hB44 := hB4.bel hb4; have hb04 := bel_tr hb03 hb4; have hlw : w3.heap.size ≤ w3.heap.size := Nat.le_refl _; refine hold ?_))
  refine Lib.hid ?_
  have hl3 : g2 < w3.heap.size ∧ g4 < w3.heap.size ∧ w.heap.size ≤ g2 ∧ g2 < g4 := ⟨hB23.lt, hB4.lt, hg2, by have := hB22.lt; omega⟩
  have hl4 := hb4.size
  generalize w3.heap.size = lo at *
  have HR4 := Lib.hid hr4
  have HB2 := Lib.hid hB24
  have HB3 := Lib.hid hB34
  have HB4 := Lib.hid hB44
  have Hb4 := Lib.hid hb04
  have hc1 : l.length + 1 ≤ c4 := by simpa using HC4.out
  clear hB2 hB22 hB23 hB24 hB3 hB33 hB34 hB4 hB44 hb1 hb2 hb3 hb4 hb02 hb03 hb04 hr4 hrg hg2 hg4 hlw ho4 HO
  generalize hm : l.length = m at *
  go_wp2_with (first
    | (with_reducible refine wpList_loadB (o := ⟨some 22, _, _, _, _, _⟩) rfl _ _ rfl rfl HB2.out net_under rfl Hns.out ?_)
    | (with_reducible refine wpList_loadAd (o := ⟨some 23, _, _, _, _, _⟩) rfl _ rfl rfl HB3.out ?_)
    | (go_at_call 9; refine (HA.out _ (HN.out.below Hb4.out) (HE.out.below Hb4.out)).mono ?_; rintro e w5 ⟨rfl, hb5⟩; have hb05 := Lib.hid (bel_tr Hb4.out hb5); have hB25 := Lib.hid (HB2.out.bel hb5); have hB45 := Lib.hid (HB4.out.bel hb5); have HR5 := Lib.hid (HR4.out.bel hb5); have hl5 := hb5.size; clear hb5; refine hold ?_))
  refine Lib.hid ?_
  clear HB2 HB3 HB4 HR4 Hb4
  go_wp2_with (first
    | ((with_reducible refine wpList_alloc_aim (o := ⟨some 7, _, _, _, _, _⟩) rfl rfl ?_); intro g7 w6 hg hB7 hb6 hs; have hg7 : w5.heap.size ≤ g7 := Nat.le_of_eq hg.symm; clear hg hs)
    | ((with_reducible refine wpList_store_aim (o := ⟨none, _, _, _, _, _⟩) rfl (.tmp 7) _ rfl rfl rfl hB7 ?_); intro w7 hB77 hS7
       have hbx : Below w5.heap.size w5 w7 := hb6.trans (hS7.below hg7)
       have X2 := Lib.hid (hB25.out.bel hbx)
       have X4 := Lib.hid (hB45.out.bel hbx)
       have XR := Lib.hid (HR5.out.bel hbx)
       have Xb := Lib.hid (bel_tr hb05.out hbx)
       have X7 := Lib.hid hB77
       have hl7 := hbx.size
       have hg7w := hB77.lt
       clear hB25 hB45 HR5 hb05 hB77 hS7 hb6 hB7 hbx
       refine hold ?_))
  refine Lib.hid ?_
  have r0 := (XR.out.rng (k := 0) (by simp)).2
  rw [Nat.zero_mul, Nat.add_zero] at r0
  have hbw5 : b < w5.heap.size := by omega
  go_wp2_with (first
    | (with_reducible refine wpList_loadM_ifc (o := ⟨some 27, _, _, _, _, _⟩) rfl _ rfl rfl r0 ?_)
    | ((with_reducible refine wpList_alloc_ifc (o := ⟨some 8, _, _, _, _, _⟩) rfl rfl ?_); intro g8 w8 hg hB8 hb8 hs; have hg8 : w7.heap.size ≤ g8 := Nat.le_of_eq hg.symm; clear hg hs)
    | ((with_reducible refine wpList_store_ifc (o := ⟨none, _, _, _, _, _⟩) rfl (.tmp 8) _ rfl rfl rfl hB8 ?_); intro w9 hB89 hS9
       have hbx : Below w7.heap.size w7 w9 := hb8.trans (hS9.below hg8)
       have Y2 := Lib.hid (X2.out.bel hbx)
       have Y4 := Lib.hid (X4.out.bel hbx)
       have YR := Lib.hid (XR.out.bel hbx)
       have Yb := Lib.hid (bel_tr Xb.out hbx)
       have Y7 := Lib.hid (X7.out.bel hbx)
       have Y8 := Lib.hid hB89
       have hl9 := hbx.size
       have hg8w := hB89.lt
       clear X2 X4 XR Xb X7 hB89 hS9 hb8 hB8 hbx r0
       refine hold ?_))
  refine Lib.hid ?_
  have HWx := Lib.hid (HW.out t x)
  generalize hWx : worN N t x = Wx at *
  go_wp2_with (first
    | (with_reducible refine wpList_loadB (o := ⟨some 28, _, _, _, _, _⟩) rfl _ _ rfl rfl Y2.out net_under rfl Hns.out ?_)
    | (with_reducible refine wpList_load_aim (o := ⟨some 29, _, _, _, _, _⟩) rfl _ rfl rfl Y7.out ?_)
    | (with_reducible refine wpList_load_ifc (o := ⟨some 30, _, _, _, _, _⟩) rfl _ rfl rfl Y8.out ?_)
    | (go_at_call 11; refine (HWx.out _ (HN.out.below Yb.out) (HE.out.below Yb.out)).mono ?_; rintro e wa ⟨rfl, hba⟩; have hla := hba.size)
    | ((with_reducible refine wpList_alloc_wor (o := ⟨some 9, _, _, _, _, _⟩) rfl rfl ?_); intro g9 wb hg hB9 hbb hs; have hg9 : wa.heap.size ≤ g9 := Nat.le_of_eq hg.symm; clear hg hs)
    | ((with_reducible refine wpList_store_wor (o := ⟨none, _, _, _, _, _⟩) rfl (.tmp 9) _ rfl rfl rfl hB9 ?_); intro wc hB9c hSc
       have hbx : Below w9.heap.size w9 wc := hba.trans ((hbb.trans (hSc.below hg9)).mono hba.size)
       have Z2 := Lib.hid (Y2.out.bel hbx)
       have Z4 := Lib.hid (Y4.out.bel hbx)
       have ZR := Lib.hid (YR.out.bel hbx)
       have Zb := Lib.hid (bel_tr Yb.out hbx)
       have Z7 := Lib.hid (Y7.out.bel hbx)
       have Z8 := Lib.hid (Y8.out.bel hbx)
       have Z9 := Lib.hid hB9c
       clear Y2 Y4 YR Yb Y7 Y8 hB9c hSc hbb hB9 hbx hba
       refine hold ?_))
  refine Lib.hid ?_
  subst hWx
  have hne : g2 < g4 ∧ g4 < lo ∧ lo ≤ b ∧ b < g7 ∧ g7 < g8 ∧ g8 < g9 ∧ w.heap.size ≤ g2 := by omega
  have R0 : PickRel w g2 g4 g7 g8 g9 vi vr vp N t b off (x :: l) lo x wc := ⟨Z2.out, Z4.out, Z7.out, Z8.out, Z9.out, ZR.out, Zb.out⟩
  clear Z2 Z4 ZR Zb Z7 Z8 Z9 HWx hl3 hl4 hl7 hl9 hg7 hg8 hg9 hg7w hg8w hla hbw5 hblo hblt HA
  subst hm
  by_cases hcc : c4 = 1
  · subst hcc
    have hl0 : l = [] := List.eq_nil_of_length_eq_zero (by omega)
    subst hl0
    have hw4 : w.heap.size ≤ g4 := by omega
    have Q0 := Lib.hid R0
    clear R0 hne
    go_wp2_with (fail)
    go_loopw [35] (fun i wr => i = .int .i64 0 ∧ wr = wc) (fun _ _ => 0)
    case atStart => exact ⟨rfl, rfl⟩
    case round =>
      obtain ⟨rfl, rfl⟩ := hrel
      go_wp2_with (first
        | (with_reducible refine wpList_load_ifc (o := ⟨some 55, _, _, _, _, _⟩) rfl _ rfl rfl Q0.out.b8 ?_)
        | ((with_reducible refine wpList_store_ifc (o := ⟨none, _, _, _, _, _⟩) rfl (.tmp 4) _ rfl rfl rfl Q0.out.b4 ?_); intro wz hB4z hSz))
      exact ret_ifcE Tryd.results8 rfl rfl hB4z rfl ⟨by rw [Hf.out]; rfl, Q0.out.b.trans (hSz.below hw4)⟩
  go_wp2_with (fail)
  go_loopw [35] (fun i wr => ∃ (k : Nat) (best : Ifc), k ≤ l.length ∧ i = .int .i64 k ∧ best = (l.take k).foldl (pstep N t) x ∧ PickRel w g2 g4 g7 g8 g9 vi vr vp N t b off (x :: l) lo best wr) (fun i _ => l.length - (intOf i).toNat)
  case atStart => exact ⟨0, x, by omega, rfl, rfl, R0⟩
  case round =>
    obtain ⟨k, best, hk, rfl, hbst, r2, r4, r7, r8, r9, rr, rb⟩ := hrel
    clear R0
    by_cases hlt : k < l.length
    · have hrg := (rr.rng (k := k + 1) (by simpa using hlt)).2
      have hbwr := (rr.rng (k := k + 1) (by simpa using hlt)).1
      have hel : (x :: l)[k + 1]'(by simpa using hlt) = l[k] := rfl
      rw [hel, show off + (k + 1) * 23 = off + 23 + k * 23 by omega] at hrg
      have hbn : (l.take (k + 1)).foldl (pstep N t) x = pstep N t best l[k] := by
        rw [List.take_succ_eq_append_getElem hlt, List.foldl_append, ← hbst]; rfl
      generalize l[k] = f at *
      have Hbn := Lib.hid hbn
      have j0 : (k : Int) < (l.length : Int) := by omega
      clear hbn hbst hel
      have HWf := Lib.hid (HW.out t f)
      have HBt : Hid (∀ w', Calls Tryd.prog 10 #[.agg (aimA t), .agg (worA (worN N t f)), .agg (worA (worN N t best))] w' (BetPost w' (telL t (worN N t f) (worN N t best)))) := Lib.hid (fun w' => sbetter_any _ _ _ w')
      have hps : pstep N t best f = if 0 < fst1 (telL t (worN N t f) (worN N t best)) then f else best := rfl
      have Hps := Lib.hid hps
      clear hps
      generalize hWf : worN N t f = Wf at *
      generalize hWb : worN N t best = Wb at *
      generalize telL t Wf Wb = T at *
      have l9 := r9.lt
      have hgn : g9 < wr.heap.size := l9
      have R2 := Lib.hid r2
      have R7 := Lib.hid r7
      have R9 := Lib.hid r9
      have Rb := Lib.hid rb
      go_wp2_with (first
        | (with_reducible refine wpList_loadM_ifc (o := ⟨some 38, _, _, _, _, _⟩) rfl _ rfl rfl hrg ?_)
        | ((with_reducible refine wpList_alloc_ifc (o := ⟨some 11, _, _, _, _, _⟩) rfl rfl ?_); intro g11 wa hg hB11 hba hs; have hg11 : wr.heap.size ≤ g11 := Nat.le_of_eq hg.symm; clear hg hs)
        | ((with_reducible refine wpList_store_ifc (o := ⟨none, _, _, _, _, _⟩) rfl (.tmp 11) _ rfl rfl rfl hB11 ?_); intro wb' hB11b hSb
           have hb1 : Below wr.heap.size wr wb' := hba.trans (hSb.below hg11)
           have B11 := Lib.hid hB11b
           have Hb1 := Lib.hid hb1
           clear hB11 hB11b hSb hba hb1 hrg
           refine hold ?_))
      refine Lib.hid ?_
      go_wp2_with (first
        | (with_reducible refine wpList_loadB (o := ⟨some 39, _, _, _, _, _⟩) rfl _ _ rfl rfl (R2.out.bel Hb1.out) net_under rfl Hns.out ?_)
        | (with_reducible refine wpList_load_aim (o := ⟨some 40, _, _, _, _, _⟩) rfl _ rfl rfl (R7.out.bel Hb1.out) ?_)
        | (with_reducible refine wpList_load_ifc (o := ⟨some 41, _, _, _, _, _⟩) rfl _ rfl rfl B11.out ?_)
        | (go_at_call 11; refine (HWf.out _ (HN.out.below (bel_tr Rb.out Hb1.out)) (HE.out.below (bel_tr Rb.out Hb1.out))).mono ?_; rintro e wc' ⟨rfl, hbc⟩; have Hb2 := Lib.hid (bel_tr Hb1.out hbc); have hlc : wr.heap.size ≤ wc'.heap.size := (bel_tr Hb1.out hbc).size; have B11c := Lib.hid (B11.out.bel hbc); clear hbc)
        | ((with_reducible refine wpList_alloc_wor (o := ⟨some 12, _, _, _, _, _⟩) rfl rfl ?_); intro g12 wd hg hB12 hbd hs; have hg12 : wc'.heap.size ≤ g12 := Nat.le_of_eq hg.symm; clear hg hs)
        | ((with_reducible refine wpList_store_wor (o := ⟨none, _, _, _, _, _⟩) rfl (.tmp 12) _ rfl rfl rfl hB12 ?_); intro we hB12e hSe
           have hb3 := hbd.trans (hSe.below hg12)
           have B11e := Lib.hid (B11c.out.bel hb3)
           have B12e := Lib.hid hB12e
           have Hb3 := Lib.hid (bel_tr Hb2.out hb3)
           clear hB12 hB12e hSe hbd hb3 B11c Hb2
           refine hold ?_))
      refine Lib.hid ?_
      go_wp2_with (first
        | (with_reducible refine wpList_load_aim (o := ⟨some 44, _, _, _, _, _⟩) rfl _ rfl rfl (R7.out.bel Hb3.out) ?_)
        | (with_reducible refine wpList_load_wor (o := ⟨some 45, _, _, _, _, _⟩) rfl _ rfl rfl B12e.out ?_)
        | (with_reducible refine wpList_load_wor (o := ⟨some 46, _, _, _, _, _⟩) rfl _ rfl rfl (R9.out.bel Hb3.out) ?_)
        | (go_at_call 10; refine (HBt.out _).mono ?_; rintro e wf ⟨rfl, hbf⟩; have Hb4 := Lib.hid (bel_tr Hb3.out hbf); have B11f := Lib.hid (B11e.out.bel hbf); have B12f := Lib.hid (B12e.out.bel hbf); clear hbf; refine hold ?_))
      refine Lib.hid ?_
      have Q2 := Lib.hid (r2.bel Hb4.out)
      have Q4 := Lib.hid (r4.bel Hb4.out)
      have Q7 := Lib.hid (r7.bel Hb4.out)
      have Q8 := Lib.hid (r8.bel Hb4.out)
      have Q9 := Lib.hid (r9.bel Hb4.out)
      have QR := Lib.hid (rr.bel Hb4.out)
      have Qb := Lib.hid (bel_tr Rb.out Hb4.out)
      clear r2 r4 r7 r8 r9 rr rb R2 R7 R9 Rb Hb1 Hb3 Hb4 B11 B11e B12e
      by_cases hpos : 0 < fst1 T
      · have Hst : Hid (pstep N t best f = f) := Lib.hid (by rw [Hps.out, if_pos hpos])
        have ip : decide (fst1 T > 0) = true := decide_eq_true hpos
        have ip2 : decide (0 < fst1 T) = true := decide_eq_true hpos
        generalize fst1 T = z at *
        clear hpos Hps
        go_wp2_with (fail)
        have n1 : g2 ≠ g8 ∧ g2 ≠ g9 ∧ g4 ≠ g8 ∧ g4 ≠ g9 ∧ g7 ≠ g8 ∧ g7 ≠ g9 ∧ g8 ≠ g9 ∧ b ≠ g8 ∧ b ≠ g9 ∧ w.heap.size ≤ g8 ∧ w.heap.size ≤ g9 := by omega
        have n2 : g11 ≠ g8 ∧ g11 ≠ g9 ∧ g12 ≠ g8 ∧ g12 ≠ g9 := by omega
        have HIf : Hid ((Tryd.prog.info? 31).map (·.size) = some (ifcL f).length) := Lib.hid (by rw [ifcL_len]; exact ifc_size)
        have HWf2 : Hid ((Tryd.prog.info? 50).map (·.size) = some (worL Wf).length) := Lib.hid (by rw [worL_len]; exact wor_size)
        have hdr : Below wf.heap.size wf wf.drew := (Below.refl _ _).drew
        apply region_cut0 (R := fun w' => ∃ wg, Stays g8 wf.drew wg ∧ Stays g9 wg w' ∧ Bk wg g8 31 (ifcA f) ∧ Bk w' g9 50 (worA Wf))
        case h =>
          have b11 := B11f.out.bel hdr
          have b12 := B12f.out.bel hdr
          have q8 := Q8.out.bel hdr
          have q9 := Q9.out.bel hdr
          refine wp_region_held (S := fun w' => w'.rangeAt g11 0 (ifcL f) ∧ w'.rangeAt g12 0 (worL Wf)) (by kernel_rfl) ?_
          refine wpAnyH_take (i := 0) (oi := ⟨some 52, Op.load 31 (Operand.tmp 11), _, _, _, none⟩) (v := Value.agg (ifcA f)) rfl (by kernel_rfl) (by kernel_rfl) (by kernel_rfl) (fun _ _ _ h => nomatch h.1) (yieldsIf_load_mid (by rfl) _ _ rfl _ _ rfl (ifcL f) _ (fun w' h => h.1) ifc_under rfl HIf.out) ⟨b11.range_ifc, b12.range_wor⟩ ?_
          simp only [Act.put, List.setIfInBounds_toArray, List.set_cons_zero, List.set_cons_succ]
          refine wpAnyH_take (i := 1) (oi := ⟨some 53, Op.load 50 (Operand.tmp 12), _, _, _, none⟩) (v := Value.agg (worA Wf)) rfl (by kernel_rfl) (by kernel_rfl) (by kernel_rfl) (fun _ _ _ h => nomatch h.1) (yieldsIf_load_mid (by rfl) _ _ rfl _ _ rfl (worL Wf) _ (fun w' h => h.2) wor_under rfl HWf2.out) ⟨b11.range_ifc, b12.range_wor⟩ ?_
          simp only [Act.put, List.setIfInBounds_toArray, List.set_cons_zero, List.set_cons_succ]
          refine wpAnyH_all (rs := [2]) (by kernel_rfl) (by decide) ?_
          intro i hi
          obtain rfl := List.mem_singleton.1 hi
          refine wpOp_of_list (o := ⟨none, Op.store 31 (Operand.tmp 8) (Operand.tmp 52), _, _, _, none⟩) rfl ?_
          refine wpList_store_ifc rfl _ _ rfl rfl rfl q8 ?_
          intro wg hB8g hSg
          have b11g := b11.stays hSg n2.1
          have b12g := b12.stays hSg n2.2.2.1
          have q9g := q9.stays hSg (Ne.symm n1.2.2.2.2.2.2.1)
          show _ ∧ _
          refine ⟨⟨b11g.range_ifc, b12g.range_wor⟩, ?_⟩
          simp only [Act.put]
          refine wpAnyH_all (rs := [3]) (by kernel_rfl) (by decide) ?_
          intro i hi
          obtain rfl := List.mem_singleton.1 hi
          refine wpOp_of_list (o := ⟨none, Op.store 50 (Operand.tmp 9) (Operand.tmp 53), _, _, _, none⟩) rfl ?_
          refine wpList_store_wor rfl _ _ rfl rfl rfl q9g ?_
          intro wh hB9h hSh
          show _ ∧ _
          refine ⟨⟨(b11g.stays hSh n2.2.1).range_ifc, (b12g.stays hSh n2.2.2.2).range_wor⟩, ?_⟩
          simp only [Act.put]
          refine wpAnyH_done (by kernel_rfl) ?_ _
          exact ⟨rfl, rfl, wg, hSg, hSh, hB8g, hB9h⟩
        case k =>
        rintro wh ⟨wg, hSg, hSh, hB8g, hB9h⟩
        go_wp2_with (fail)
        go_roundw
        case rel =>
          refine ⟨k + 1, f, by omega, by go_num, (Hbn.out.trans Hst.out).symm, ((Q2.out.bel hdr).stays hSg n1.1).stays hSh n1.2.1, ((Q4.out.bel hdr).stays hSg n1.2.2.1).stays hSh n1.2.2.2.1, ((Q7.out.bel hdr).stays hSg n1.2.2.2.2.1).stays hSh n1.2.2.2.2.2.1, hB8g.stays hSh n1.2.2.2.2.2.2.1, ?_, ((QR.out.bel hdr).stays2 hSg n1.2.2.2.2.2.2.2.1).stays2 hSh n1.2.2.2.2.2.2.2.2.1, ((bel_tr Qb.out hdr).trans (hSg.below n1.2.2.2.2.2.2.2.2.2.1)).trans (hSh.below n1.2.2.2.2.2.2.2.2.2.2)⟩
          rw [hWf]; exact hB9h
        case measure => simp [intOf]; omega
      · have Hst : Hid (pstep N t best f = best) := Lib.hid (by rw [Hps.out, if_neg hpos])
        have ip2 : decide (0 < fst1 T) = false := decide_eq_false hpos
        generalize fst1 T = z at *
        clear hpos Hps
        go_wp2_with (fail)
        go_roundw
        case rel =>
          refine ⟨k + 1, best, by omega, by go_num, (Hbn.out.trans Hst.out).symm, Q2.out, Q4.out, Q7.out, Q8.out, ?_, QR.out, Qb.out⟩
          rw [hWb]; exact Q9.out
        case measure => simp [intOf]; omega
    · have hkl : k = l.length := by omega
      subst hkl
      rw [List.take_length] at hbst
      rw [← hbst] at Hf
      have j0 : ¬ (l.length : Int) < (l.length : Int) := by omega
      have hw4 : w.heap.size ≤ g4 := by omega
      clear hbst
      go_wp2_with (first
        | (with_reducible refine wpList_load_ifc (o := ⟨some 55, _, _, _, _, _⟩) rfl _ rfl rfl r8 ?_)
        | ((with_reducible refine wpList_store_ifc (o := ⟨none, _, _, _, _, _⟩) rfl (.tmp 4) _ rfl rfl rfl r4 ?_); intro wz hB4z hSz))
      exact ret_ifcE Tryd.results8 rfl rfl hB4z rfl ⟨by rw [Hf.out]; rfl, rb.trans (hSz.below hw4)⟩
theorem pickS_any (vi vr vp : Value) (N : Nt) (d : Ad) (w : World) (hN : NetRaw w vi vr vp N) (hE : EnvS w) (hlI : N.I.length ≤ 1000000) (hlR : N.R.length ≤ 1000000) (hlP : N.P.length ≤ 1000000) :
    Calls Tryd.prog 8 #[.agg #[vi, vr, vp], .agg (adA d)] w (PickPost w (pickN N d)) := by
  cases h : ownN N d with
  | nil => exact pick_none vi vr vp N d w hN hlI hlR h
  | cons x l => exact pick_some vi vr vp N d w hN hE hlI hlR hlP x l h
end Go.Proofs.YthlnndjkocnfcaaDoor
