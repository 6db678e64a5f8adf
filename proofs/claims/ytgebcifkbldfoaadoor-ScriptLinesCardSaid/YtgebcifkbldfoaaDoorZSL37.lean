/- Contracts and plain lemmas of our own, merged. -/
import Derived.Test.YtgebcifkbldfoaaDoorZSL19
import Derived.Test.YtgebcifkbldfoaaDoorZSL25
import Derived.Test.YtgebcifkbldfoaaDoorZSL28
import Derived.Test.YtgebcifkbldfoaaDoorZSL29
import Derived.Test.YtgebcifkbldfoaaDoorZSL32
import Derived.Test.YtgebcifkbldfoaaDoorZSL34
import Derived.Test.YtgebcifkbldfoaaDoorZSL35
import Derived.Test.YtgebcifkbldfoaaDoorZSL36
import Derived.Test.YtgebcifkbldfoaaDoorZSL4
import Derived.Test.YtgebcifkbldfoaaDoorZSL9
/- script: events compared; the reference's Same; the law's own test. -/
namespace Go.Proofs.YtgebcifkbldfoaaDoor
open Go.RowKit
attribute [local go_sem] ba_get ext_take ext_drop ext_any ba_app

/-- the fields of two structs, one by one. -/
inductive EqFe (P : Program) (w : World) (d : Nat) (xs ys : Array Value) : List (Bool × TypeId × Nat) → Bool → Prop
  | nil : EqFe P w d xs ys [] true
  | cons {t : TypeId} {o : Nat} {x y : Value} {b c : Bool} {l : List (Bool × TypeId × Nat)} (p : (part t xs o).run P w = .ok x w) (q : (part t ys o).run P w = .ok y w) (e : (Op.equalIn d t x y).run P w = .ok b w) (h : EqFe P w d xs ys l c) : EqFe P w d xs ys ((false, t, o) :: l) (b && c)
theorem eqFe_run {P : Program} {w : World} {d : Nat} {xs ys : Array Value} {l : List (Bool × TypeId × Nat)} {c : Bool} (h : EqFe P w d xs ys l c) : ∀ fs : List Field, fs.map (fun f => (f.name == "_", f.type, f.offset)) = l → (Op.eqFields d xs ys fs).run P w = .ok c w := by
  induction h with
  | nil => intro fs hl; cases fs with | nil => rfl | cons _ _ => cases hl
  | @cons t o x y b c l p q e h ih =>
    intro fs hl
    cases fs with
    | nil => cases hl
    | cons f fs =>
      rw [List.map_cons, List.cons.injEq, Prod.mk.injEq, Prod.mk.injEq] at hl
      obtain ⟨⟨hn, ht, ho⟩, hl⟩ := hl
      have hn' : f.name ≠ "_" := by simpa using hn
      have ih' := ih fs hl
      subst ht ho
      cases b
      · simp [Op.eqFields, hn', p, q, e]
      · simp [Op.eqFields, hn', p, q, e, ih']
theorem ev_fields : (Tryd.prog.fieldsOf 36).toList.map (fun f => (f.name == "_", f.type, f.offset)) = [(false, 3, 0), (false, 34, 1), (false, 3, 19), (false, 3, 20), (false, 9, 21)] := by kernel_rfl
theorem ev_sizeof {t : TypeId} {n : Nat} (h : (Tryd.prog.info? t).map (·.size) = some n) (w : World) : (sizeOf t).run Tryd.prog w = .ok n w := by
  cases hq : Tryd.prog.info? t with
  | none => rw [hq] at h; cases h
  | some i => rw [hq] at h; simp [sizeOf, typeInfo, hq]; simpa using h
theorem evA_ex (x : Ev) : (evA x).extract 1 (1 + 18) = adA x.a := by
  unfold evA adA evL
  rw [List.extract_toArray]
  have := adL_len x.a
  simp [this]
theorem evA_0 (x : Ev) : (evA x)[0]? = some (.int .i64 x.k) := rfl
theorem evA_19 (x : Ev) : (evA x)[19]? = some (.int .i64 x.fp) := by
  obtain ⟨c0, c1, c2, c3, c4, c5, c6, c7, c8, c9, c10, c11, c12, c13, c14, c15, c16, c17, h⟩ := evT x
  unfold evA evL; rw [h]; rfl
theorem evA_20 (x : Ev) : (evA x)[20]? = some (.int .i64 x.p) := by
  obtain ⟨c0, c1, c2, c3, c4, c5, c6, c7, c8, c9, c10, c11, c12, c13, c14, c15, c16, c17, h⟩ := evT x
  unfold evA evL; rw [h]; rfl
theorem evA_21 (x : Ev) : (evA x)[21]? = some (.string ⟨x.d.toArray⟩) := by
  obtain ⟨c0, c1, c2, c3, c4, c5, c6, c7, c8, c9, c10, c11, c12, c13, c14, c15, c16, c17, h⟩ := evT x
  unfold evA evL; rw [h]; rfl
theorem part_ev_a (w : World) (x : Ev) : (part 34 (evA x) 1).run Tryd.prog w = .ok (.agg (adA x.a)) w := by
  simp only [part, isAgg, Sem.run_bind, run_underlying ad_under, Result.andThen_ok, Sem.run_pure, if_true, ev_sizeof ad_size, evA_ex]
theorem part_ev_k (w : World) (x : Ev) : (part 3 (evA x) 0).run Tryd.prog w = .ok (.int .i64 x.k) w := by
  simp [part, isAgg, run_underlying Tryd.underlying3, evA_0]
theorem part_ev_fp (w : World) (x : Ev) : (part 3 (evA x) 19).run Tryd.prog w = .ok (.int .i64 x.fp) w := by
  simp [part, isAgg, run_underlying Tryd.underlying3, evA_19]
theorem part_ev_p (w : World) (x : Ev) : (part 3 (evA x) 20).run Tryd.prog w = .ok (.int .i64 x.p) w := by
  simp [part, isAgg, run_underlying Tryd.underlying3, evA_20]
theorem part_ev_d (w : World) (x : Ev) : (part 9 (evA x) 21).run Tryd.prog w = .ok (.string ⟨x.d.toArray⟩) w := by
  simp [part, isAgg, run_underlying Tryd.underlying9, evA_21]
theorem run_ev_eq (w : World) (d : Nat) (x : Ev) : (Op.equalIn (d + 5) 36 (.agg (evA x)) (.agg (evA x))).run Tryd.prog w = .ok true w := by
  rw [run_equalIn_struct w (d + 4) _ _ _ ev_under Tryd.stoodInHeld36]
  rw [eqFe_run (EqFe.cons (part_ev_k w x) (part_ev_k w x) (run_equalIn_int w (d + 3) 3 .i64 .i64 x.k x.k Tryd.underlying3) (EqFe.cons (part_ev_a w x) (part_ev_a w x) (run_ad_eq w (d + 1) x.a x.a) (EqFe.cons (part_ev_fp w x) (part_ev_fp w x) (run_equalIn_int w (d + 3) 3 .i64 .i64 x.fp x.fp Tryd.underlying3) (EqFe.cons (part_ev_p w x) (part_ev_p w x) (run_equalIn_int w (d + 3) 3 .i64 .i64 x.p x.p Tryd.underlying3) (EqFe.cons (part_ev_d w x) (part_ev_d w x) (run_equalIn_string w (d + 3) 9 _ _ Tryd.underlying9) .nil))))) _ ev_fields]
  refine congrArg (fun c => Result.ok c w) ?_
  simp
theorem ev_eql (w : World) (x : Ev) : (binOp .eql 36 (.agg (evA x)) (.agg (evA x))).run Tryd.prog w = .ok (.bool true) w := by
  rw [run_eql_struct, run_ev_eq w 9995 x]; rfl
theorem ev_neq (w : World) (x : Ev) : (binOp .neq 36 (.agg (evA x)) (.agg (evA x))).run Tryd.prog w = .ok (.bool false) w := by
  rw [run_neq_struct, run_ev_eq w 9995 x]; rfl
theorem wpList_eqlEv {w : World} {ops : Array Oper} {rest : List Oper} {o : Oper} {a : Act} {Q : Exit → Act → World → Prop} (hgd : o.guard = none) (x y : Operand) {t : TypeId} (ho : o.op = .binOp .eql 36 x y t) {b : Ev} (hx : a.eval x = .agg (evA b)) (hy : a.eval y = .agg (evA b))
    (h : wpList Tryd.prog ops Q rest (a.put o.dst (.bool true)) w) : wpList Tryd.prog ops Q (o :: rest) a w := by
  refine wpList_plain hgd fun _ hK => ?_
  unfold Oper.wp execOp
  simp only [ho, hx, hy, Sem.run_bind, run_eqGuard_agg w .eql 36 x y _ _ Tryd.eqGuardType36, Result.andThen_ok, ev_eql]
  exact hK _ _ h
theorem quiet_loadEv {w : World} {o : Oper} {a a' : Act} {K : Act → Prop} (x : Operand) (ho : o.op = .load 36 x) {g off : Nat} (hx : a.eval x = .pointer (some ⟨g, off, none⟩)) {b : Ev} (hB : w.rangeAt g off (evL b))
    (ha : a.put o.dst (.agg (evA b)) = a') (hk : K a') : o.quiet Tryd.prog a (fun w' => ∃ y : BelT w, w' = y.at_) K := by
  subst ha
  refine ⟨_, ?_, hk⟩
  rintro _ ⟨y, rfl⟩
  unfold Oper.quietAt execOp
  have hr : y.at_.rangeAt g off (evL b) := fun j v hv => y.cell (hB j v hv)
  simp only [ho, hx, Instr.loadAt, Instr.sureAddr, Sem.run_bind, Sem.run_pure, Result.andThen_ok, run_loadVar_mid y.at_ g off 36 (evL b) _ hr ev_under rfl (by rw [evL_len]; exact ev_size)]
  exact ⟨rfl, rfl⟩
theorem quiet_neqEv {w : World} {o : Oper} {a a' : Act} {K : Act → Prop} (x y : Operand) {t : TypeId} (ho : o.op = .binOp .neq 36 x y t) {b : Ev} (hx : a.eval x = .agg (evA b)) (hy : a.eval y = .agg (evA b))
    (ha : a.put o.dst (.bool false) = a') (hk : K a') : o.quiet Tryd.prog a (fun w' => ∃ y : BelT w, w' = y.at_) K := by
  subst ha
  refine ⟨_, ?_, hk⟩
  rintro _ ⟨z, rfl⟩
  unfold Oper.quietAt execOp
  simp only [ho, hx, hy, Sem.run_bind, run_eqGuard_agg z.at_ .neq 36 x y _ _ Tryd.eqGuardType36, Result.andThen_ok, ev_neq]
  exact ⟨rfl, rfl⟩
theorem quiet_eqlEv {w : World} {o : Oper} {a a' : Act} {K : Act → Prop} (x y : Operand) {t : TypeId} (ho : o.op = .binOp .eql 36 x y t) {b : Ev} (hx : a.eval x = .agg (evA b)) (hy : a.eval y = .agg (evA b))
    (ha : a.put o.dst (.bool true) = a') (hk : K a') : o.quiet Tryd.prog a (fun w' => ∃ y : BelT w, w' = y.at_) K := by
  subst ha
  refine ⟨_, ?_, hk⟩
  rintro _ ⟨z, rfl⟩
  unfold Oper.quietAt execOp
  simp only [ho, hx, hy, Sem.run_bind, run_eqGuard_agg z.at_ .eql 36 x y _ _ Tryd.eqGuardType36, Result.andThen_ok, ev_eql]
  exact ⟨rfl, rfl⟩
theorem quiet_bldE {w : World} {o : Oper} {a a' : Act} {K : Act → Prop} (t : TypeId) (l : List (Nat × Operand)) (ho : o.op = .build t l.toArray)
    {vals : List (Nat × Value)} {cs : Array Value} (hb : Tryd.prog.built t vals = some cs) (hv : l.map (fun p => (p.1, a.eval p.2)) = vals)
    (ha : a.put o.dst (.agg cs) = a') (hk : K a') : o.quiet Tryd.prog a (fun w' => ∃ y : BelT w, w' = y.at_) K := by
  subst ha hv
  refine ⟨_, ?_, hk⟩
  rintro _ ⟨y, rfl⟩
  have hb' : Tryd.prog.built t (l.toArray.map fun (i, x) => (i, a.eval x)).toList = some cs := by rw [← hb]; simp
  unfold Oper.quietAt execOp
  simp only [ho, Sem.run_bind, run_build y.at_ t _ cs hb', Result.andThen_ok]
  exact ⟨rfl, rfl⟩
set_option maxRecDepth 100000 in
set_option maxHeartbeats 1000000 in
theorem sameEvs_any (L : List Ev) (va vb : Value) (w : World) (ha : Sl w 22 va L.length (L.flatMap evL)) (hb : Sl w 22 vb L.length (L.flatMap evL)) (hl : L.length ≤ 1000000) :
    Calls Tryd.prog 22 #[va, vb] w (Good w) := by
  obtain ⟨a1, c1, rfl, hc1⟩ := ha.any
  obtain ⟨a2, c2, rfl, hc2⟩ := hb.any
  have Ha := Lib.hid ha
  have Hb := Lib.hid hb
  clear ha hb
  have i1 : ((L.length : Int) != (L.length : Int)) = false := by simp
  have i2 : (L.length != L.length) = false := by simp
  go_enter Tryd.func22, Tryd.ntmps22
  go_wp2
  go_loopw [5] (fun i wr => ∃ k : Nat, k ≤ L.length ∧ i = .int .i64 k ∧ Below w.heap.size w wr) (fun i _ => L.length - (intOf i).toNat)
  case atStart => exact ⟨0, Nat.zero_le _, rfl, Below.refl _ _⟩
  case round =>
    obtain ⟨k, hk, rfl, hbel⟩ := hrel
    by_cases hlt : k < L.length
    · have hltI : (k : Int) < (L.length : Int) := by omega
      have hk0 : (0 : Int) ≤ (k : Int) := by omega
      obtain ⟨b, off, c, hv, hc, hbl, hcell⟩ := Ha.out.pos (by omega)
      injection hv with hv1 _ hv2
      subst hv1 hv2
      obtain ⟨b2, off2, c3, hv, hc3, hbl2, hcell2⟩ := Hb.out.pos (by omega)
      injection hv with hv1 _ hv2
      subst hv1 hv2
      have hR := range_of evL_len hcell hlt
      have hR2 := range_of evL_len hcell2 hlt
      have HR : wr.rangeAt b (off + k * 22) (evL L[k]) := fun j u hu => ((hbel.cell (p := ⟨b, off + k * 22 + j, none⟩) hbl).trans (hR j u hu))
      have HR2 : wr.rangeAt b2 (off2 + k * 22) (evL L[k]) := fun j u hu => ((hbel.cell (p := ⟨b2, off2 + k * 22 + j, none⟩) hbl2).trans (hR2 j u hu))
      clear hR hR2 hcell hcell2
      go_wp2
      refine wp_region_bel (by kernel_rfl) (by kernel_rfl) ?_
      repeat (first
        | go_big_quiet_skip
        | (go_big_quiet_want; first
            | ((with_reducible show (⟨some 20, _, _, _, _, _⟩ : Oper).quiet _ _ _ _); refine quiet_loadEv (o := ⟨some 20, _, _, _, _, _⟩) _ rfl rfl HR (by simp only [Act.put, List.setIfInBounds_toArray, List.set_cons_succ, List.set_cons_zero]; exact rfl) ?_; go_big_quiet_on)
            | ((with_reducible show (⟨some 24, _, _, _, _, _⟩ : Oper).quiet _ _ _ _); refine quiet_loadEv (o := ⟨some 24, _, _, _, _, _⟩) _ rfl rfl HR2 (by simp only [Act.put, List.setIfInBounds_toArray, List.set_cons_succ, List.set_cons_zero]; exact rfl) ?_; go_big_quiet_on)
            | ((with_reducible show (⟨some 25, _, _, _, _, _⟩ : Oper).quiet _ _ _ _); refine quiet_neqEv (o := ⟨some 25, _, _, _, _, _⟩) _ _ rfl rfl rfl (by simp only [Act.put, List.setIfInBounds_toArray, List.set_cons_succ, List.set_cons_zero]; exact rfl) ?_; go_big_quiet_on)
            | (go_big_quiet_op; go_big_quiet_on)))
      refine wpQuiet_nil ?_
      rintro _ ⟨x, rfl⟩
      go_wp2
      go_roundw
      case rel => exact ⟨k + 1, by omega, by go_num, hbel.trans (x.bel.mono hbel.size)⟩
      case measure => (simp [intOf]) <;> omega
    · have hltI : ¬ (k : Int) < (L.length : Int) := by omega
      go_wp2
      go_ret
      exact ⟨rfl, hbel⟩
/-! ### the law's own test -/
def w44s : List UInt8 := [112, 97, 99, 107, 101, 116, 32, 49, 57, 50, 46, 48, 46, 50, 46, 53, 51, 32, 53, 51, 32, 49, 48, 50, 52, 32, 48, 48, 102, 102]
def w44e : Ev := ⟨2, adOf 192 0 2 53, 53, 1024, [0, 255]⟩
theorem w44_parse : evP w44s = .inr w44e := by kernel_rfl
theorem built_w44 : Tryd.prog.built 36 [(0, .int .i64 2), (1, .agg (adA (adOf 192 0 2 53))), (2, .int .i64 53), (3, .int .i64 1024), (4, .string ⟨#[0, 255]⟩)] = some (evA w44e) := by kernel_rfl
theorem rof_w44 (w : World) : Calls Tryd.prog 48 #[.int .i64 192, .int .i64 0, .int .i64 2, .int .i64 53] w (AdPost w (adOf 192 0 2 53)) := rof_any 192 0 2 53 w
theorem w44_any (w : World) (ht : Tab w) (hm : MaxI w) : Calls Tryd.prog 18 #[.string ⟨#[112, 97, 99, 107, 101, 116, 32, 49, 57, 50, 46, 48, 46, 50, 46, 53, 51, 32, 53, 51, 32, 49, 48, 50, 52, 32, 48, 48, 102, 102]⟩] w fun e w' => e = .returned (.tuple #[.agg (evA w44e), .int .i64 0]) ∧ Below w.heap.size w w' := by
  have h := scparse_any w44s w ht hm (by decide)
  rw [w44_parse] at h
  exact h
set_option maxRecDepth 100000 in
set_option maxHeartbeats 4000000 in
theorem works44_any (w : World) (ht : Tab w) (hm : MaxI w) : Calls Tryd.prog 17 #[] w (Good w) := by
  have HP := Lib.hid (w44_any w ht hm)
  clear ht hm
  go_enter Tryd.func17, Tryd.ntmps17
  go_wp2_with (first
    | (go_at_call 18; refine HP.out.mono ?_; rintro e w2 ⟨rfl, hb2⟩; have Hb2 := Lib.hid hb2; clear hb2)
    | ((with_reducible show wpList _ _ _ (⟨some 1, _, _, _, _, _⟩ :: _) _ _); refine wpList_allocZ (o := ⟨some 1, _, _, _, _, _⟩) rfl _ rfl ev_zero ?_; intro g1 w3 hg3 hB3 hb3 hs3; have Hg3 := Lib.hid (Nat.le_of_eq hg3.symm); have HB3 := Lib.hid hB3; have Hb3 := Lib.hid (bel_tr Hb2.out hb3); clear hg3 hs3 hB3 hb3)
    | ((with_reducible show wpList _ _ _ (⟨none, .store _ (.tmp 1) _, _, _, _, _⟩ :: _) _ _); refine wpList_storeB (o := ⟨none, _, _, _, _, _⟩) rfl _ (.tmp 1) _ rfl rfl rfl HB3.out (ev_size' w44e) ((evA_size ev0).trans (evA_size w44e).symm) (evL_one _) ?_; intro w4 hB4 hS4; have Hb4 := Lib.hid (Hb3.out.trans (hS4.below (Nat.le_trans Hb2.out.size Hg3.out))); have R4 := Bk.rangeL (cs := evL w44e) hB4 0 (evL w44e) [] (by simp); clear hB4 hS4))
  refine wp_region_bel (by kernel_rfl) (by kernel_rfl) ?_
  repeat (first
    | go_big_quiet_skip
    | (go_big_quiet_want; first
        | ((with_reducible show (⟨some 10, _, _, _, _, _⟩ : Oper).quiet _ _ _ _); refine quiet_loadEv (o := ⟨some 10, _, _, _, _, _⟩) _ rfl rfl R4 (by simp only [Act.put, List.setIfInBounds_toArray, List.set_cons_succ, List.set_cons_zero]; exact rfl) ?_; go_big_quiet_on)
        | ((with_reducible show (⟨some 12, _, _, _, _, _⟩ : Oper).quiet _ _ _ _); refine quiet_bldE (o := ⟨some 12, _, _, _, _, _⟩) _ [(0, .const (.int .i64 2)), (1, .tmp 11), (2, .const (.int .i64 53)), (3, .const (.int .i64 1024)), (4, .const (.string ⟨#[0, 255]⟩))] rfl built_w44 rfl (by simp only [Act.put, List.setIfInBounds_toArray, List.set_cons_succ, List.set_cons_zero]; exact rfl) ?_; go_big_quiet_on)
        | ((with_reducible show (⟨some 13, _, _, _, _, _⟩ : Oper).quiet _ _ _ _); refine quiet_eqlEv (o := ⟨some 13, _, _, _, _, _⟩) _ _ rfl rfl rfl (by simp only [Act.put, List.setIfInBounds_toArray, List.set_cons_succ, List.set_cons_zero]; exact rfl) ?_; go_big_quiet_on)
        | (go_big_quiet_op; first | go_big_quiet_on | go_big_quiet_call ((go_at_call 48; refine bel_call (rof_w44 _))))))
  refine wpQuiet_nil ?_
  rintro _ ⟨x, rfl⟩
  go_wp2
  go_ret
  exact ⟨rfl, bel_tr Hb4.out x.bel⟩
end Go.Proofs.YtgebcifkbldfoaaDoor

/- ScriptLines: the walk. -/
namespace Go.Proofs.YtgebcifkbldfoaaDoor
open Go.RowKit
attribute [local go_sem] ba_get ext_take ext_drop ext_any ba_app

def evX (r : Int ⊕ Ev) : Ev := match r with | .inl _ => ev0 | .inr x => x
theorem evR_X (r : Int ⊕ Ev) : evR r = .tuple #[.agg (evA (evX r)), .int .i64 (codeR r)] := by cases r <;> rfl
def rdX (r : Int ⊕ List Ev) : List Ev := match r with | .inl _ => [] | .inr l => l
theorem readL_len : ∀ L : List (List UInt8), (rdX (readL L)).length ≤ L.length
  | [] => Nat.le_refl _
  | t :: r => by
    have ih := readL_len r
    rw [readL]
    split
    · rw [List.length_cons]; omega
    · cases evP (Lib.trimSuffix t [13]) with
      | inl e => simp [bindR, rdX]
      | inr x =>
        cases hr : readL r with
        | inl e => simp [bindR, rdX]
        | inr l => rw [hr] at ih; simp [bindR, rdX] at ih ⊢; omega
theorem RdsPost.open_ {w w' : World} {r : Int ⊕ List Ev} {e : Ending} (h : RdsPost w r e w') : ∃ v, e = .returned (.tuple #[v, .int .i64 (codeR r)]) ∧ Sl w' 22 v (rdX r).length ((rdX r).flatMap evL) ∧ Below w.heap.size w w' := by
  cases r with
  | inl c => exact ⟨_, h.1, Sl.nil _ _, h.2⟩
  | inr l =>
    obtain ⟨v, he, ho, hb⟩ := h
    exact ⟨v, he, Sl.own ho, hb⟩
set_option maxRecDepth 100000 in
set_option maxHeartbeats 4000000 in
theorem scriptLines_walk (w : World) (ht : Tab w) (hm : MaxI w) (s : List UInt8) (hl : s.length ≤ 140737488351232) : Calls Tryd.prog 4 #[.string ⟨s.toArray⟩] w (Good w) := by
  by_cases hbig : 5000 < s.length
  · have b0 : (5000 : Int) < (s.length : Int) := by omega
    have HW := Lib.hid (works44_any w ht hm)
    clear ht hm
    go_enter Tryd.func4, Tryd.ntmps4
    go_wp2_with (first
      | (go_at_call 17; refine HW.out.mono ?_; rintro e w2 ⟨rfl, hb2⟩; have Hb2 := Lib.hid hb2; clear hb2))
    go_ret
    exact ⟨rfl, Hb2.out⟩
  · have b0 : ¬ (5000 : Int) < (s.length : Int) := by omega
    have Ht := Lib.hid ht
    have Hm := Lib.hid hm
    have HA : Hid (∀ w', Below w.heap.size w w' → Calls Tryd.prog 18 #[.string ⟨s.toArray⟩] w' fun e w'' => e = .returned (.tuple #[.agg (evA (evX (evP s))), .int .i64 (codeR (evP s))]) ∧ Below w'.heap.size w' w'') := Lib.hid (fun w' h => (scparse_any s w' (ht.below h) (hm.below h) (by omega)).mono fun e w'' ⟨he, hb⟩ => ⟨by rw [he, evR_X], hb⟩)
    have HB : Hid (∀ w', Calls Tryd.prog 19 #[.string ⟨s.toArray⟩] w' fun e w'' => e = .returned (.tuple #[.agg (evA (evX (evP s))), .int .i64 (codeR (evP s))]) ∧ Below w'.heap.size w' w'') := Lib.hid (fun w' => (rscparse_any s w' (by omega)).mono fun e w'' ⟨he, hb⟩ => ⟨by rw [he, evR_X], hb⟩)
    have HC := Lib.hid (fun (w' : World) (h : Below w.heap.size w w') => (scread_any s w' (ht.below h) (hm.below h) (by omega)).mono fun e w'' h => h.open_)
    have HD := Lib.hid (fun (w' : World) => (rscread_any s w' (by omega)).mono fun e w'' h => h.open_)
    have HW := Lib.hid (fun (w' : World) (h : Below w.heap.size w w') => works44_any w' (ht.below h) (hm.below h))
    have hll : (rdX (readL (linL s))).length ≤ 1000000 := by
      have h1 := readL_len (linL s)
      have h2 := linL_len 10 s []
      have h3 : (linL s).length = (spB 10 [] s).length := rfl
      omega
    generalize evX (evP s) = x at *
    generalize codeR (evP s) = c at *
    generalize rdX (readL (linL s)) = l at *
    generalize codeR (readL (linL s)) = d at *
    have ec : (c == c) = true := by simp
    have ed : (d == d) = true := by simp
    clear ht hm hl hbig
    go_enter Tryd.func4, Tryd.ntmps4
    go_wp2_with (first
      | (go_at_call 18; refine (HA.out _ (Below.refl _ _)).mono ?_; rintro e w2 ⟨rfl, hb2⟩; have Hb2 := Lib.hid hb2; clear hb2)
      | ((with_reducible show wpList _ _ _ (⟨some 3, _, _, _, _, _⟩ :: _) _ _); refine wpList_allocZ (o := ⟨some 3, _, _, _, _, _⟩) rfl _ rfl ev_zero ?_; intro g3 w3 hg3 hB3 hb3 hs3; have Hg3 := Lib.hid (Nat.le_of_eq hg3.symm); have HB3 := Lib.hid hB3; have Hb3 := Lib.hid (bel_tr Hb2.out hb3); clear hg3 hs3 hB3 hb3)
      | ((with_reducible show wpList _ _ _ (⟨none, .store _ (.tmp 3) _, _, _, _, _⟩ :: _) _ _); refine wpList_storeB (o := ⟨none, _, _, _, _, _⟩) rfl _ (.tmp 3) _ rfl rfl rfl HB3.out (ev_size' x) ((evA_size ev0).trans (evA_size x).symm) (evL_one _) ?_; intro w4 hB4 hS4; have HB4 := Lib.hid hB4; have Hb4 := Lib.hid (Hb3.out.trans (hS4.below (Nat.le_trans Hb2.out.size Hg3.out))); clear hB4 hS4; refine holdL ?_))
    refine Lib.hid ?_
    go_wp2_with (first
      | (go_at_call 19; refine (HB.out _).mono ?_; rintro e w5 ⟨rfl, hb5⟩; have HB5 := Lib.hid (HB4.out.bel hb5); have Hb5 := Lib.hid hb5; clear hb5)
      | ((with_reducible show wpList _ _ _ (⟨some 5, _, _, _, _, _⟩ :: _) _ _); refine wpList_allocZ (o := ⟨some 5, _, _, _, _, _⟩) rfl _ rfl ev_zero ?_; intro g5 w6 hg6 hB6 hb6 hs6; have Hg6 := Lib.hid (Nat.le_of_eq hg6.symm); have HC6 := Lib.hid hB6; have HB6 := Lib.hid (HB5.out.bel hb6); have Hb6 := Lib.hid (bel_tr Hb5.out hb6); clear hg6 hs6 hB6 hb6)
      | ((with_reducible show wpList _ _ _ (⟨none, .store _ (.tmp 5) _, _, _, _, _⟩ :: _) _ _); refine wpList_storeB (o := ⟨none, _, _, _, _, _⟩) rfl _ (.tmp 5) _ rfl rfl rfl HC6.out (ev_size' x) ((evA_size ev0).trans (evA_size x).symm) (evL_one _) ?_; intro w7 hB7 hS7; have HC7 := Lib.hid hB7; have HB7 := Lib.hid (HB6.out.stays hS7 (by have := HB5.out.lt; have := Hg6.out; omega)); have Hb7 := Lib.hid (bel_tr Hb4.out (Hb6.out.trans (hS7.below (Nat.le_trans Hb5.out.size Hg6.out)))); clear hB7 hS7; refine holdL ?_))
    refine Lib.hid ?_
    go_wp2_with (first
      | (go_at_call 20; refine (HC.out _ Hb7.out).mono ?_; rintro e w8 ⟨v8, rfl, hs8, hb8⟩; have HB8 := Lib.hid (HB7.out.bel hb8); have HC8 := Lib.hid (HC7.out.bel hb8); have Hs8 := Lib.hid hs8; have Hb8 := Lib.hid (bel_tr Hb7.out hb8); obtain ⟨A8, q8, rfl, _⟩ := hs8.any; clear hs8 hb8)
      | (go_at_call 21; refine (HD.out _).mono ?_; rintro e w9 ⟨v9, rfl, hs9, hb9⟩; have HB9 := Lib.hid (HB8.out.bel hb9); have HC9 := Lib.hid (HC8.out.bel hb9); have Hs9 := Lib.hid (Hs8.out.below hb9); have Ht9 := Lib.hid hs9; have Hb9 := Lib.hid (bel_tr Hb8.out hb9); obtain ⟨A9, q9, rfl, _⟩ := hs9.any; clear hs9 hb9)
      | (go_at_call 17; refine (HW.out _ Hb9.out).mono ?_; rintro e w10 ⟨rfl, hb10⟩; have HB10 := Lib.hid (HB9.out.bel hb10); have HC10 := Lib.hid (HC9.out.bel hb10); have Hs10 := Lib.hid (Hs9.out.below hb10); have Ht10 := Lib.hid (Ht9.out.below hb10); have Hb10 := Lib.hid (bel_tr Hb9.out hb10); clear hb10)
      | ((with_reducible show wpList _ _ _ (⟨some 37, _, _, _, _, some _⟩ :: _) _ _); refine wpList_guarded (o := ⟨some 37, _, _, _, _, _⟩) rfl ?_)
      | ((with_reducible show wpList _ _ _ (⟨some 38, _, _, _, _, some _⟩ :: _) _ _); refine wpList_guarded (o := ⟨some 38, _, _, _, _, _⟩) rfl ?_)
      | ((with_reducible show wpList _ _ _ (⟨some 39, _, _, _, _, some _⟩ :: _) _ _); refine wpList_guarded (o := ⟨some 39, _, _, _, _, _⟩) rfl ?_)
      | ((with_reducible show wpList _ _ _ (⟨some 37, _, _, _, _, none⟩ :: _) _ _); refine wpList_loadB (o := ⟨some 37, _, _, _, _, _⟩) rfl _ _ rfl rfl HB10.out ev_under rfl (ev_size' x) ?_)
      | ((with_reducible show wpList _ _ _ (⟨some 38, _, _, _, _, none⟩ :: _) _ _); refine wpList_loadB (o := ⟨some 38, _, _, _, _, _⟩) rfl _ _ rfl rfl HC10.out ev_under rfl (ev_size' x) ?_)
      | ((with_reducible show wpList _ _ _ (⟨some 39, _, _, _, _, none⟩ :: _) _ _); refine wpList_eqlEv (o := ⟨some 39, _, _, _, _, _⟩) rfl _ _ rfl rfl rfl ?_)
      | (go_at_call 22; refine (sameEvs_any l _ _ _ Hs10.out Ht10.out hll).mono ?_; rintro e w11 ⟨rfl, hb11⟩; have Hb11 := Lib.hid (bel_tr Hb10.out hb11); clear hb11))
    go_ret
    exact ⟨rfl, Hb11.out⟩
end Go.Proofs.YtgebcifkbldfoaaDoor
