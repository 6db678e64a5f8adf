/- Contracts and plain lemmas of our own, merged. -/
import Derived.Test.YtgbdhfjblebeiaaDoorZPp1
import Derived.Test.YtgbdhfjblebeiaaDoorZPp12
import Derived.Test.YtgbdhfjblebeiaaDoorZPp13
import Derived.Test.YtgbdhfjblebeiaaDoorZPp24
/- Policies: the rows of the policy table as values of twenty-one cells, with their laws. -/
namespace Go.Proofs.YtgbdhfjblebeiaaDoor
open Go.RowKit

theorem Pf.same_iff {a b : Pf} : (a.ad = b.ad ∧ a.bits = b.bits) ↔ a = b := ⟨fun ⟨h1, h2⟩ => by cases a; cases b; simp only at h1 h2; subst h1 h2; rfl, fun h => by rw [h]; exact ⟨rfl, rfl⟩⟩
instance : DecidableEq Pf := fun _ _ => decidable_of_iff _ Pf.same_iff
structure Pol where
  pf : Pf
  prec : Int
  lab : Int
  ok : (-9223372036854775808 ≤ prec ∧ prec ≤ 9223372036854775807) ∧ (-9223372036854775808 ≤ lab ∧ lab ≤ 9223372036854775807)
theorem Pol.same_iff {a b : Pol} : (a.pf = b.pf ∧ a.prec = b.prec ∧ a.lab = b.lab) ↔ a = b := ⟨fun ⟨h1, h2, h3⟩ => by cases a; cases b; simp only at h1 h2 h3; subst h1 h2 h3; rfl, fun h => by rw [h]; exact ⟨rfl, rfl, rfl⟩⟩
instance : DecidableEq Pol := fun _ _ => decidable_of_iff _ Pol.same_iff
def polL (p : Pol) : List Value := pfL p.pf ++ [.int .i64 p.prec, .int .i64 p.lab]
def polA (p : Pol) : Array Value := (polL p).toArray
theorem polL_len (p : Pol) : (polL p).length = 21 := by unfold polL; rw [List.length_append, pfL_len]; rfl
theorem polA_size (p : Pol) : (polA p).size = 21 := by unfold polA; rw [List.size_toArray, polL_len]
theorem polL_pf (p : Pol) {i : Nat} (h : i < 19) : (polL p)[i]? = (pfL p.pf)[i]? := by unfold polL; rw [List.getElem?_append_left (by rw [pfL_len]; exact h)]
theorem polL_18 (p : Pol) : (polL p)[18]? = some (.int .i64 p.pf.bits) := by rw [polL_pf p (by omega)]; unfold pfL; rw [List.getElem?_append_right (by rw [adL_len]; omega), adL_len]; rfl
theorem polL_19 (p : Pol) : (polL p)[19]? = some (.int .i64 p.prec) := by unfold polL; rw [List.getElem?_append_right (by rw [pfL_len]; omega), pfL_len]; rfl
theorem polL_20 (p : Pol) : (polL p)[20]? = some (.int .i64 p.lab) := by unfold polL; rw [List.getElem?_append_right (by rw [pfL_len]; omega), pfL_len]; rfl
theorem polA_18 (p : Pol) : (polA p)[18]? = some (.int .i64 p.pf.bits) := by unfold polA; rw [List.getElem?_toArray]; exact polL_18 p
theorem polA_19 (p : Pol) : (polA p)[19]? = some (.int .i64 p.prec) := by unfold polA; rw [List.getElem?_toArray]; exact polL_19 p
theorem polA_20 (p : Pol) : (polA p)[20]? = some (.int .i64 p.lab) := by unfold polA; rw [List.getElem?_toArray]; exact polL_20 p
theorem polL_one (p : Pol) : ∀ v ∈ polL p, v.oneCell' = true := by
  intro v hv
  unfold polL at hv
  rw [List.mem_append] at hv
  rcases hv with hv | hv
  · exact pfL_one p.pf v hv
  · simp at hv; rcases hv with rfl | rfl <;> rfl
theorem polA_one (p : Pol) : (polA p).all (·.oneCell') = true := all_oneCell_toArray (polL_one p)
theorem Bk.rangePol {w : World} {g : Nat} {t : TypeId} {p : Pol} (h : Bk w g t (polA p)) : w.rangeAt g 0 (polL p) := h.rangeL (cs := polL p) 0 (polL p) [] (by simp)
theorem Bk.rangePolPf {w : World} {g : Nat} {t : TypeId} {p : Pol} (h : Bk w g t (polA p)) : w.rangeAt g 0 (pfL p.pf) := h.rangeL (cs := polL p) 0 (pfL p.pf) [.int .i64 p.prec, .int .i64 p.lab] rfl
theorem range_polPf {w : World} {g off : Nat} {p : Pol} (h : w.rangeAt g off (polL p)) : w.rangeAt g off (pfL p.pf) := fun j v hv => by
  refine h j v ?_
  have hj := (List.getElem?_eq_some_iff.1 hv).1
  rw [pfL_len] at hj
  rw [polL_pf p hj]
  exact hv
theorem pol_under : Tryd.prog.underlying 35 = some (.struct (Tryd.prog.fieldsOf 35)) := by kernel_rfl
theorem pol_size : (Tryd.prog.info? 35).map (·.size) = some 21 := by kernel_rfl
theorem pol_size' (p : Pol) : (Tryd.prog.info? 35).map (·.size) = some (polA p).size := by rw [polA_size]; exact pol_size
def pf0 : Pf := ⟨ad0, 0, by decide⟩
def pol0 : Pol := ⟨pf0, 0, 0, by decide⟩
theorem pol_zero : ZeroIs Tryd.prog 35 (polA pol0) := by unfold ZeroIs; kernel_rfl
theorem elt_pols : Elt Tryd.prog 39 35 21 56 := Elt.mk' (z := .agg (polA pol0)) Tryd.underlying39 (by kernel_rfl) (by kernel_rfl) (by decide)

/-! ### built -/
theorem built_pf (a : Ad) (z : Int) (h : -9223372036854775808 ≤ z ∧ z ≤ 9223372036854775807) : Tryd.prog.built 33 [(0, .agg (adA a)), (1, .int .i64 z)] = some (pfA ⟨a, z, h⟩) := by
  obtain ⟨fam, ip, zone, ok⟩ := a
  obtain ⟨c0, c1, c2, c3, c4, c5, c6, c7, c8, c9, c10, c11, c12, c13, c14, c15, rfl⟩ := len16 ok.1
  kernel_rfl
theorem built_pol (p : Pf) (x y : Int) (h : (-9223372036854775808 ≤ x ∧ x ≤ 9223372036854775807) ∧ (-9223372036854775808 ≤ y ∧ y ≤ 9223372036854775807)) : Tryd.prog.built 35 [(0, .agg (pfA p)), (1, .int .i64 x), (2, .int .i64 y)] = some (polA ⟨p, x, y, h⟩) := by
  obtain ⟨⟨fam, ip, zone, ok⟩, bits, okb⟩ := p
  obtain ⟨c0, c1, c2, c3, c4, c5, c6, c7, c8, c9, c10, c11, c12, c13, c14, c15, rfl⟩ := len16 ok.1
  kernel_rfl
def polD : Pol := ⟨pf0, 40, 1, by decide⟩
theorem built_polD : Tryd.prog.built 35 [(1, .int .i64 40), (2, .int .i64 1)] = some (polA polD) := by kernel_rfl

/-! ### single operations -/
theorem wpList_allocPol {w : World} {ops : Array Oper} {rest : List Oper} {o : Oper} {a : Act} {Q : Exit → Act → World → Prop} (hgd : o.guard = none) (ho : o.op = .alloc 35)
    (h : ∀ g w', g = w.heap.size → Bk w' g 35 (polA pol0) → Below w.heap.size w w' → w'.heap.size = g + 1 → wpList Tryd.prog ops Q rest (a.put o.dst (.pointer (some ⟨g, 0, none⟩))) w') : wpList Tryd.prog ops Q (o :: rest) a w :=
  wpList_allocZ hgd _ ho pol_zero h
theorem wpList_loadPol {w : World} {ops : Array Oper} {rest : List Oper} {o : Oper} {a : Act} {Q : Exit → Act → World → Prop} (hgd : o.guard = none) (x : Operand) (ho : o.op = .load 35 x) {g : Nat} (hx : a.eval x = .pointer (some ⟨g, 0, none⟩))
    {t : TypeId} {b : Pol} (hB : Bk w g t (polA b)) (h : wpList Tryd.prog ops Q rest (a.put o.dst (.agg (polA b))) w) : wpList Tryd.prog ops Q (o :: rest) a w :=
  wpList_loadB hgd _ x ho hx hB pol_under rfl (pol_size' b) h
theorem wpList_storePol {w : World} {ops : Array Oper} {rest : List Oper} {o : Oper} {a : Act} {Q : Exit → Act → World → Prop} (hgd : o.guard = none) (x y : Operand) (ho : o.op = .store 35 x y) {g : Nat} {b c : Pol} (hx : a.eval x = .pointer (some ⟨g, 0, none⟩)) (hy : a.eval y = .agg (polA b))
    {t : TypeId} (hB : Bk w g t (polA c)) (h : ∀ w', Bk w' g t (polA b) → Stays g w w' → wpList Tryd.prog ops Q rest (a.put o.dst undef) w') : wpList Tryd.prog ops Q (o :: rest) a w :=
  wpList_storeB hgd _ x y ho hx hy hB (pol_size' b) (by rw [polA_size, polA_size]) (polA_one b) h
/-- a policy, a prefix in the midst of a block. -/
theorem wpList_loadPolM {w : World} {ops : Array Oper} {rest : List Oper} {o : Oper} {a : Act} {Q : Exit → Act → World → Prop} (hgd : o.guard = none) (x : Operand) (ho : o.op = .load 35 x) {g off : Nat} (hx : a.eval x = .pointer (some ⟨g, off, none⟩))
    {b : Pol} (hB : w.rangeAt g off (polL b)) (h : wpList Tryd.prog ops Q rest (a.put o.dst (.agg (polA b))) w) : wpList Tryd.prog ops Q (o :: rest) a w :=
  wpList_load_mid hgd _ x ho g off hx (polL b) _ hB pol_under rfl (by rw [polL_len]; exact pol_size) h
theorem wpList_loadPfM {w : World} {ops : Array Oper} {rest : List Oper} {o : Oper} {a : Act} {Q : Exit → Act → World → Prop} (hgd : o.guard = none) (x : Operand) (ho : o.op = .load 33 x) {g off : Nat} (hx : a.eval x = .pointer (some ⟨g, off, none⟩))
    {b : Pf} (hB : w.rangeAt g off (pfL b)) (h : wpList Tryd.prog ops Q rest (a.put o.dst (.agg (pfA b))) w) : wpList Tryd.prog ops Q (o :: rest) a w :=
  wpList_load_mid hgd _ x ho g off hx (pfL b) _ hB pf_under2 rfl (by rw [pfL_len]; exact pf_size2) h

/-! ### equality -/
theorem list2 {α β : Type} {f : α → β} {l : List α} {x y : β} (h : l.map f = [x, y]) : ∃ a b, l = [a, b] ∧ f a = x ∧ f b = y := by
  match l, h with
  | [a, b], h => simp at h; exact ⟨a, b, rfl, h⟩
theorem eqf2 {P : Program} (w : World) (d : Nat) (xs ys : Array Value) (f0 f1 : Field) (m0 : f0.name ≠ "_") (m1 : f1.name ≠ "_") {x0 x1 y0 y1 : Value} {b0 b1 : Bool}
    (p0 : (part f0.type xs f0.offset).run P w = .ok x0 w) (q0 : (part f0.type ys f0.offset).run P w = .ok y0 w) (e0 : (Op.equalIn d f0.type x0 y0).run P w = .ok b0 w)
    (p1 : (part f1.type xs f1.offset).run P w = .ok x1 w) (q1 : (part f1.type ys f1.offset).run P w = .ok y1 w) (e1 : (Op.equalIn d f1.type x1 y1).run P w = .ok b1 w) :
    (Op.eqFields d xs ys [f0, f1]).run P w = .ok (b0 && b1) w := by
  cases b0
  · simp [Op.eqFields, m0, p0, q0, e0]
  · cases b1 <;> simp [Op.eqFields, m0, m1, p0, q0, e0, p1, q1, e1]
theorem pf_fields : (Tryd.prog.fieldsOf 33).toList.map (fun f => (f.name == "_", f.type, f.offset)) = [(false, 25, 0), (false, 3, 18)] := by kernel_rfl
theorem pol_fields : (Tryd.prog.fieldsOf 35).toList.map (fun f => (f.name == "_", f.type, f.offset)) = [(false, 33, 0), (false, 3, 19), (false, 3, 20)] := by kernel_rfl
theorem size_of {t : TypeId} {n : Nat} (h : (Tryd.prog.info? t).map (·.size) = some n) (w : World) : (sizeOf t).run Tryd.prog w = .ok n w := by
  cases hq : Tryd.prog.info? t with
  | none => rw [hq] at h; cases h
  | some i => rw [hq] at h; simp [sizeOf, typeInfo, hq]; simpa using h
theorem pfA_ad (p : Pf) : (pfA p).extract 0 (0 + 18) = adA p.ad := by
  unfold pfA adA pfL
  rw [List.extract_toArray]
  have := adL_len p.ad
  simp [this]
theorem polA_pf (p : Pol) : (polA p).extract 0 (0 + 19) = pfA p.pf := by
  unfold polA pfA polL
  rw [List.extract_toArray]
  have := pfL_len p.pf
  simp [this]
theorem part_pfAd (w : World) (x : Pf) : (part 25 (pfA x) 0).run Tryd.prog w = .ok (.agg (adA x.ad)) w := by
  simp only [part, isAgg, Sem.run_bind, run_underlying ad_under, Result.andThen_ok, Sem.run_pure, if_true, size_of ad_size, pfA_ad]
theorem part_pfBits (w : World) (x : Pf) : (part 3 (pfA x) 18).run Tryd.prog w = .ok (.int .i64 x.bits) w := by
  simp [part, isAgg, run_underlying Tryd.underlying3, pfA_18]
theorem run_pf_eq (w : World) (d : Nat) (a b : Pf) : (Op.equalIn (d + 4) 33 (.agg (pfA a)) (.agg (pfA b))).run Tryd.prog w = .ok (decide (a = b)) w := by
  rw [run_equalIn_struct w (d + 3) _ _ _ pf_under2 Tryd.stoodInHeld33]
  obtain ⟨f0, f1, hl, h0, h1⟩ := list2 pf_fields
  rw [hl]
  simp only [Prod.mk.injEq] at h0 h1
  obtain ⟨n0, t0, o0⟩ := h0
  obtain ⟨n1, t1, o1⟩ := h1
  rw [eqf2 w (d + 3) (pfA a) (pfA b) f0 f1 (by simpa using n0) (by simpa using n1)
    (by rw [t0, o0]; exact part_pfAd w a) (by rw [t0, o0]; exact part_pfAd w b) (by rw [t0]; exact run_ad_eq w d a.ad b.ad)
    (by rw [t1, o1]; exact part_pfBits w a) (by rw [t1, o1]; exact part_pfBits w b) (by rw [t1]; exact run_equalIn_int w (d + 2) 3 .i64 .i64 a.bits b.bits Tryd.underlying3)]
  have hb : (decide (a.ad = b.ad) && (a.bits == b.bits)) = decide (a = b) := by
    rw [Bool.eq_iff_iff]
    simp [← Pf.same_iff]
  rw [hb]
theorem part_polPf (w : World) (x : Pol) : (part 33 (polA x) 0).run Tryd.prog w = .ok (.agg (pfA x.pf)) w := by
  simp only [part, isAgg, Sem.run_bind, run_underlying pf_under2, Result.andThen_ok, Sem.run_pure, if_true, size_of pf_size2, polA_pf]
theorem part_polPrec (w : World) (x : Pol) : (part 3 (polA x) 19).run Tryd.prog w = .ok (.int .i64 x.prec) w := by
  simp [part, isAgg, run_underlying Tryd.underlying3, polA_19]
theorem part_polLab (w : World) (x : Pol) : (part 3 (polA x) 20).run Tryd.prog w = .ok (.int .i64 x.lab) w := by
  simp [part, isAgg, run_underlying Tryd.underlying3, polA_20]
theorem run_pol_eq (w : World) (d : Nat) (a b : Pol) : (Op.equalIn (d + 5) 35 (.agg (polA a)) (.agg (polA b))).run Tryd.prog w = .ok (decide (a = b)) w := by
  rw [run_equalIn_struct w (d + 4) _ _ _ pol_under Tryd.stoodInHeld35]
  obtain ⟨f0, f1, f2, hl, h0, h1, h2⟩ := list3 pol_fields
  rw [hl]
  simp only [Prod.mk.injEq] at h0 h1 h2
  obtain ⟨n0, t0, o0⟩ := h0
  obtain ⟨n1, t1, o1⟩ := h1
  obtain ⟨n2, t2, o2⟩ := h2
  rw [eqf3 w (d + 4) (polA a) (polA b) f0 f1 f2 (by simpa using n0) (by simpa using n1) (by simpa using n2)
    (by rw [t0, o0]; exact part_polPf w a) (by rw [t0, o0]; exact part_polPf w b) (by rw [t0]; exact run_pf_eq w d a.pf b.pf)
    (by rw [t1, o1]; exact part_polPrec w a) (by rw [t1, o1]; exact part_polPrec w b) (by rw [t1]; exact run_equalIn_int w (d + 3) 3 .i64 .i64 a.prec b.prec Tryd.underlying3)
    (by rw [t2, o2]; exact part_polLab w a) (by rw [t2, o2]; exact part_polLab w b) (by rw [t2]; exact run_equalIn_int w (d + 3) 3 .i64 .i64 a.lab b.lab Tryd.underlying3)]
  have hb : (decide (a.pf = b.pf) && ((a.prec == b.prec) && (a.lab == b.lab))) = decide (a = b) := by
    rw [Bool.eq_iff_iff]
    simp [← Pol.same_iff]
  rw [hb]
theorem pol_neq (w : World) (a b : Pol) : (binOp .neq 35 (.agg (polA a)) (.agg (polA b))).run Tryd.prog w = .ok (.bool (!decide (a = b))) w := by
  rw [run_neq_struct, run_pol_eq w 9995 a b]; rfl

/-! ### in a region that draws its order -/
theorem quiet_loadPol {w : World} {o : Oper} {a a' : Act} {K : Act → Prop} (x : Operand) (ho : o.op = .load 35 x) {g off : Nat} (hx : a.eval x = .pointer (some ⟨g, off, none⟩)) {b : Pol} (hB : w.rangeAt g off (polL b))
    (ha : a.put o.dst (.agg (polA b)) = a') (hk : K a') : o.quiet Tryd.prog a (fun w' => ∃ y : BelT w, w' = y.at_) K := by
  subst ha
  refine ⟨_, ?_, hk⟩
  rintro _ ⟨y, rfl⟩
  unfold Oper.quietAt execOp
  have hr : y.at_.rangeAt g off (polL b) := fun j v hv => y.cell (hB j v hv)
  simp only [ho, hx, Instr.loadAt, Instr.sureAddr, Sem.run_bind, Sem.run_pure, Result.andThen_ok, run_loadVar_mid y.at_ g off 35 (polL b) _ hr pol_under rfl (by rw [polL_len]; exact pol_size)]
  exact ⟨rfl, rfl⟩
theorem quiet_neqPol {w : World} {o : Oper} {a a' : Act} {K : Act → Prop} (x y : Operand) {t : TypeId} (ho : o.op = .binOp .neq 35 x y t) {b c : Pol} (hx : a.eval x = .agg (polA b)) (hy : a.eval y = .agg (polA c)) {r : Bool} (hr : (!decide (b = c)) = r)
    (ha : a.put o.dst (.bool r) = a') (hk : K a') : o.quiet Tryd.prog a (fun w' => ∃ y : BelT w, w' = y.at_) K := by
  subst ha hr
  refine ⟨_, ?_, hk⟩
  rintro _ ⟨z, rfl⟩
  unfold Oper.quietAt execOp
  simp only [ho, hx, hy, Sem.run_bind, run_eqGuard_agg z.at_ .neq 35 x y _ _ Tryd.eqGuardType35, Result.andThen_ok, pol_neq]
  exact ⟨rfl, rfl⟩
end Go.Proofs.YtgbdhfjblebeiaaDoor

/- The plain policy table: policy.row, policy.Plain. -/
namespace Go.Proofs.YtgbdhfjblebeiaaDoor
open Go.RowKit
attribute [local go_sem] ba_get ext_take ext_drop ext_any ba_app

theorem ret_pol {fn : Func} {p : Tmp} (h : fn.results = #[.cell p 35]) {R : Ending → World → Prop} {a : Act} {w : World} {g : Nat} {t : TypeId} {b : Pol}
    (hp : a.tmps.getD p undef = .pointer (some ⟨g, 0, none⟩)) (hB : Bk w g t (polA b)) (hd : a.defers = []) (hR : R (.returned (.agg (polA b))) w) : bodyPost Tryd.prog fn R .ret a w :=
  bodyPost_ret_by (results_cell_row h a.tmps w g t (polA b) (0, 0) _ hp hB pol_under rfl (pol_size' b)) hd hR
def mk6 (l : List UInt8) (h : l.length = 16) : Ad := ⟨6, l, 0, h, by decide, by decide⟩
def al1 : Ad := mk6 [0, 0, 0, 0, 0, 0, 0, 0, 0, 0, 0, 0, 0, 0, 0, 1] rfl
def al0 : Ad := mk6 [0, 0, 0, 0, 0, 0, 0, 0, 0, 0, 0, 0, 0, 0, 0, 0] rfl
def alm : Ad := mk6 [0, 0, 0, 0, 0, 0, 0, 0, 0, 0, 255, 255, 0, 0, 0, 0] rfl
def al2 : Ad := mk6 [32, 2, 0, 0, 0, 0, 0, 0, 0, 0, 0, 0, 0, 0, 0, 0] rfl
def alt : Ad := mk6 [32, 1, 0, 0, 0, 0, 0, 0, 0, 0, 0, 0, 0, 0, 0, 0] rfl
def alf : Ad := mk6 [252, 0, 0, 0, 0, 0, 0, 0, 0, 0, 0, 0, 0, 0, 0, 0] rfl
def als : Ad := mk6 [254, 192, 0, 0, 0, 0, 0, 0, 0, 0, 0, 0, 0, 0, 0, 0] rfl
def al3 : Ad := mk6 [63, 254, 0, 0, 0, 0, 0, 0, 0, 0, 0, 0, 0, 0, 0, 0] rfl
theorem cp1 : colP [58, 58, 49] = .inr al1 := by decide +kernel
theorem cp0 : colP [58, 58] = .inr al0 := by decide +kernel
theorem cpm : colP [58, 58, 102, 102, 102, 102, 58, 48, 58, 48] = .inr alm := by decide +kernel
theorem cp2 : colP [50, 48, 48, 50, 58, 58] = .inr al2 := by decide +kernel
theorem cpt : colP [50, 48, 48, 49, 58, 58] = .inr alt := by decide +kernel
theorem cpf : colP [102, 99, 48, 48, 58, 58] = .inr alf := by decide +kernel
theorem cps : colP [102, 101, 99, 48, 58, 58] = .inr als := by decide +kernel
theorem cp3 : colP [51, 102, 102, 101, 58, 58] = .inr al3 := by decide +kernel
def pl0 : Pol := ⟨⟨al1, 128, by decide⟩, 50, 0, by decide⟩
def pl1 : Pol := ⟨⟨al0, 0, by decide⟩, 40, 1, by decide⟩
def pl2 : Pol := ⟨⟨alm, 96, by decide⟩, 35, 4, by decide⟩
def pl3 : Pol := ⟨⟨al2, 16, by decide⟩, 30, 2, by decide⟩
def pl4 : Pol := ⟨⟨alt, 32, by decide⟩, 5, 5, by decide⟩
def pl5 : Pol := ⟨⟨alf, 7, by decide⟩, 3, 13, by decide⟩
def pl6 : Pol := ⟨⟨al0, 96, by decide⟩, 1, 3, by decide⟩
def pl7 : Pol := ⟨⟨als, 10, by decide⟩, 1, 11, by decide⟩
def pl8 : Pol := ⟨⟨al3, 16, by decide⟩, 1, 12, by decide⟩
def plainP : List Pol := [pl0, pl1, pl2, pl3, pl4, pl5, pl6, pl7, pl8]
/-- what is kept from call to call. -/
structure PRowInv (w0 w : World) : Prop where
  t : Tab w
  m : MaxI w
  b : Below w0.heap.size w0 w
def PRowPost (w0 : World) (p : Pol) (e : Ending) (w' : World) : Prop := e = .returned (.agg (polA p)) ∧ PRowInv w0 w'
theorem PRowInv.bel {w0 w w' : World} (h : PRowInv w0 w) (k : Below w.heap.size w w') : PRowInv w0 w' := ⟨h.t.below k, h.m.below k, bel_tr h.b k⟩
set_option maxRecDepth 100000 in
set_option maxHeartbeats 1000000 in
theorem polrow_any {w0 w : World} {s : List UInt8} {x : Ad} {b p l : Int} (hb : -9223372036854775808 ≤ b ∧ b ≤ 9223372036854775807) (hp : (-9223372036854775808 ≤ p ∧ p ≤ 9223372036854775807) ∧ (-9223372036854775808 ≤ l ∧ l ≤ 9223372036854775807)) (hs : s.length ≤ 1000000000) (h : colP s = .inr x) (hi : PRowInv w0 w) :
    Calls Tryd.prog 74 #[.string ⟨s.toArray⟩, .int .i64 b, .int .i64 p, .int .i64 l] w (PRowPost w0 ⟨⟨x, b, hb⟩, p, l, hp⟩) := by
  have Hi := Lib.hid hi
  have H := Lib.hid h
  have H1 := Lib.hid (built_pf x b hb)
  have H2 := Lib.hid (built_pol ⟨x, b, hb⟩ p l hp)
  generalize hP : (⟨⟨x, b, hb⟩, p, l, hp⟩ : Pol) = P at *
  generalize hF : (⟨x, b, hb⟩ : Pf) = F at *
  clear hi h hP hF hb hp
  go_enter Tryd.func74, Tryd.ntmps74
  go_wp2_with (first
    | ((with_reducible refine wpList_allocPol (o := ⟨some 8, _, _, _, _, _⟩) rfl rfl ?_); intro g8 w1 hg hB8 hb1 hs1; have hg8 : w.heap.size ≤ g8 := Nat.le_of_eq hg.symm; clear hg hs1)
    | (go_at_call 9; refine (cparse_yes (Hi.out.t.below hb1) (Hi.out.m.below hb1) (by omega) H.out).mono ?_; rintro e w2 ⟨rfl, hb2⟩; have hb02 := bel_tr hb1 hb2; have hB82 := hB8.bel hb2)
    | ((with_reducible refine wpList_allocAd (o := ⟨some 9, _, _, _, _, _⟩) rfl rfl ?_); intro g9 w3 hg hB9 hb3 hs3; have hg9 : w2.heap.size ≤ g9 := Nat.le_of_eq hg.symm; have hB83 := hB82.bel hb3; clear hg hs3)
    | ((with_reducible refine wpList_storeAd rfl (.tmp 9) _ rfl rfl rfl hB9 ?_); intro w4 hB94 hS4; have hB84 := hB83.stays hS4 (by have := hB82.lt; omega); have hb04 := bel_tr hb02 (hb3.trans (hS4.below hg9)))
    | (with_reducible refine wpList_loadAd (o := ⟨some 16, _, _, _, _, _⟩) rfl _ rfl rfl hB94 ?_)
    | (with_reducible refine wpList_buildL rfl 33 _ rfl H1.out rfl ?_)
    | (with_reducible refine wpList_buildL rfl 35 _ rfl H2.out rfl ?_)
    | ((with_reducible refine wpList_storePol rfl (.tmp 8) _ rfl rfl rfl hB84 ?_); intro w5 hB85 hS5; have hb45 := hS5.below hg8))
  exact ret_pol Tryd.results74 rfl hB85 rfl ⟨rfl, ⟨Hi.out.t.below (hb04.trans hb45), Hi.out.m.below (hb04.trans hb45), bel_tr Hi.out.b (hb04.trans hb45)⟩⟩
def PolsPost (w : World) (L : List Pol) (e : Ending) (w' : World) : Prop := ∃ v, e = .returned v ∧ w'.ownsRow w.heap.size 35 21 v L.length (L.flatMap polL) ∧ Below w.heap.size w w'
theorem pols_cells (L : List Pol) : ((L.map fun p => Value.agg (polA p)).flatMap fun v => v.cells.toList) = L.flatMap polL := by
  induction L with
  | nil => rfl
  | cons x l ih => rw [List.map_cons, List.flatMap_cons, List.flatMap_cons, ih]; rfl
set_option maxRecDepth 100000 in
set_option maxHeartbeats 4000000 in
theorem polplain_any (w : World) (ht : Tab w) (hm : MaxI w) : Calls Tryd.prog 46 #[] w (PolsPost w plainP) := by
  have RI := Lib.hid (show PRowInv w w from ⟨ht, hm, Below.refl _ _⟩)
  clear ht hm
  go_enter Tryd.func46, Tryd.ntmps46
  go_wp2_with (first
    | (go_at_call 74
       first
        | (with_reducible refine (polrow_any (by decide) (by decide) (by decide) cp1 RI.out).mono ?_)
        | (with_reducible refine (polrow_any (by decide) (by decide) (by decide) cp0 RI.out).mono ?_)
        | (with_reducible refine (polrow_any (by decide) (by decide) (by decide) cpm RI.out).mono ?_)
        | (with_reducible refine (polrow_any (by decide) (by decide) (by decide) cp2 RI.out).mono ?_)
        | (with_reducible refine (polrow_any (by decide) (by decide) (by decide) cpt RI.out).mono ?_)
        | (with_reducible refine (polrow_any (by decide) (by decide) (by decide) cpf RI.out).mono ?_)
        | (with_reducible refine (polrow_any (by decide) (by decide) (by decide) cps RI.out).mono ?_)
        | (with_reducible refine (polrow_any (by decide) (by decide) (by decide) cp3 RI.out).mono ?_)
       rintro e w' ⟨rfl, hr⟩
       clear RI
       have RI := Lib.hid hr
       clear hr)
    | (refine wpList_lit rfl _ _ rfl elt_pols (plainP.map fun p => Value.agg (polA p)) rfl (by decide) (by decide) (fun v hv => ?_) rfl ?_
       · obtain ⟨p, _, rfl⟩ := List.mem_map.1 hv; exact polA_size p
       intro w'' hB ho hb hs))
  go_ret
  refine ⟨_, rfl, ?_, bel_tr RI.out.b hb⟩
  rw [pols_cells] at ho
  exact own_base ho RI.out.b.size
end Go.Proofs.YtgbdhfjblebeiaaDoor

/- The plain policy table: the reference's Plain (36). -/
namespace Go.Proofs.YtgbdhfjblebeiaaDoor
open Go.RowKit
attribute [local go_sem] ba_get ext_take ext_drop ext_any ba_app

theorem yieldsIf_buildL {P : Program} {ops : Array Oper} {S : World → Prop} {o : Oper} {a : Act} (hw : Region.wanted o (yielded ops a.tmps) = true) (t : TypeId) (l : List (Nat × Operand)) (ho : o.op = .build t l.toArray)
    {vals : List (Nat × Value)} {cs : Array Value} (hb : P.built t vals = some cs) (hv : l.map (fun p => (p.1, a.eval p.2)) = vals) : YieldsIf P ops S o (.agg cs) a := by
  subst hv
  refine .inl ⟨hw, fun w _ => ?_⟩
  have hb' : P.built t (l.toArray.map fun (i, x) => (i, a.eval x)).toList = some cs := by rw [← hb]; simp
  unfold execOp
  simp only [ho, Sem.run_bind, run_build w t _ cs hb', Result.andThen_ok]
  rfl
theorem elt_int : Elt Tryd.prog 69 3 1 8 := Elt.mk' (z := .int .i64 0) Tryd.underlying69 (by kernel_rfl) rfl (by decide)
def plS : List (List UInt8) := [[58, 58, 49], [58, 58], [58, 58, 102, 102, 102, 102, 58, 48, 58, 48], [50, 48, 48, 50, 58, 58], [50, 48, 48, 49, 58, 58], [102, 99, 48, 48, 58, 58], [58, 58], [102, 101, 99, 48, 58, 58], [51, 102, 102, 101, 58, 58]]
def plN : List Int := [128, 50, 0, 0, 40, 1, 96, 35, 4, 16, 30, 2, 32, 5, 5, 7, 3, 13, 96, 1, 3, 10, 1, 11, 16, 1, 12]
theorem ints_cells (L : List Int) : ((L.map fun x => Value.int .i64 x).flatMap fun v => v.cells.toList) = L.map fun x => Value.int .i64 x := by
  induction L with
  | nil => rfl
  | cons x l ih => rw [List.map_cons, List.flatMap_cons, ih]; rfl
theorem strs_cells (L : List (List UInt8)) : ((L.map stv).flatMap fun v => v.cells.toList) = L.map stv := by
  induction L with
  | nil => rfl
  | cons x l ih => rw [List.map_cons, List.flatMap_cons, ih]; rfl
/-- a row of the table, as the reference finds it. -/
theorem pl_at {k : Nat} (h : k < 9) : ∃ (s : List UInt8) (p : Pol), plS[k]? = some s ∧ plainP[k]? = some p ∧ s.length ≤ 1000 ∧ colP s = .inr p.pf.ad ∧ plN[3 * k]? = some p.pf.bits ∧ plN[3 * k + 1]? = some p.prec ∧ plN[3 * k + 2]? = some p.lab := by
  match k, h with
  | 0, _ => exact ⟨_, pl0, rfl, rfl, by decide, cp1, rfl, rfl, rfl⟩
  | 1, _ => exact ⟨_, pl1, rfl, rfl, by decide, cp0, rfl, rfl, rfl⟩
  | 2, _ => exact ⟨_, pl2, rfl, rfl, by decide, cpm, rfl, rfl, rfl⟩
  | 3, _ => exact ⟨_, pl3, rfl, rfl, by decide, cp2, rfl, rfl, rfl⟩
  | 4, _ => exact ⟨_, pl4, rfl, rfl, by decide, cpt, rfl, rfl, rfl⟩
  | 5, _ => exact ⟨_, pl5, rfl, rfl, by decide, cpf, rfl, rfl, rfl⟩
  | 6, _ => exact ⟨_, pl6, rfl, rfl, by decide, cp0, rfl, rfl, rfl⟩
  | 7, _ => exact ⟨_, pl7, rfl, rfl, by decide, cps, rfl, rfl, rfl⟩
  | 8, _ => exact ⟨_, pl8, rfl, rfl, by decide, cp3, rfl, rfl, rfl⟩
theorem rcparse_yes {s : List UInt8} {x : Ad} {w : World} (hl : s.length ≤ 1000000000) (h : colP s = .inr x) : Calls Tryd.prog 10 #[.string ⟨s.toArray⟩] w fun e w' => e = .returned (.tuple #[.agg (adA x), .int .i64 0]) ∧ Below w.heap.size w w' :=
  (rcparse_any s w hl).mono fun e w' ⟨he, hb⟩ => by rw [h] at he; exact ⟨he, hb⟩
theorem bk_cellL {w : World} {g : Nat} {t : TypeId} {cs : List Value} (h : Bk w g t cs.toArray) (k : Nat) : w.cell? ⟨g, k, none⟩ = cs[k]? := by rw [h.cell k, List.getElem?_toArray]
theorem bk_bel {w w' : World} {g B : Nat} {t : TypeId} {cs : Array Value} (h : Bk w g t cs) (hb : Below B w w') (hg : g < B) : Bk w' g t cs := (hb.block g hg).trans h
theorem built_pol' (p : Pol) : Tryd.prog.built 35 [(0, .agg (pfA p.pf)), (1, .int .i64 p.prec), (2, .int .i64 p.lab)] = some (polA p) := built_pol p.pf p.prec p.lab p.ok
theorem built_pf' (p : Pf) : Tryd.prog.built 33 [(0, .agg (adA p.ad)), (1, .int .i64 p.bits)] = some (pfA p) := built_pf p.ad p.bits p.ok
theorem pol_cells (p : Pol) : (([Value.agg (polA p)]).flatMap fun v => v.cells.toList) = polL p := by
  rw [List.flatMap_cons, List.flatMap_nil, List.append_nil]
  rfl
theorem own_neS {w : World} {base g size : Nat} {e : TypeId} {v : Value} {n : Nat} {xs : List Value} (h : w.ownsRow base e size v n xs) (hg : g < base ∨ w.heap.size ≤ g) : some g ≠ v.ownBlock := by
  intro e
  have := h.lt g e.symm
  omega
structure PlRel (w : World) (g1 g2 k : Nat) (v : Value) (wr : World) : Prop where
  b1 : Bk wr g1 9 (plS.map stv).toArray
  b2 : Bk wr g2 3 (plN.map fun x => Value.int .i64 x).toArray
  o : wr.ownsRow (max w.heap.size (g2 + 1)) 35 21 v k ((plainP.take k).flatMap polL)
  b : Below w.heap.size w wr
  lt : g1 < g2 ∧ g2 < wr.heap.size ∧ w.heap.size ≤ wr.heap.size
set_option maxRecDepth 100000 in
set_option maxHeartbeats 4000000 in
theorem rpolplain_any (w : World) : Calls Tryd.prog 17 #[] w (PolsPost w plainP) := by
  go_enter Tryd.func17, Tryd.ntmps17
  go_wp2_with (first
    | (refine wpList_lit (o := ⟨some 7, _, _, _, _, _⟩) rfl _ _ rfl elt_strs (plS.map stv) rfl (by decide) (by decide) (fun v hv => ?_) rfl ?_
       · obtain ⟨p, _, rfl⟩ := List.mem_map.1 hv; rfl
       rw [strs_cells]
       obtain ⟨g1, hg1⟩ : ∃ g, g = w.heap.size := ⟨_, rfl⟩
       rw [← hg1]
       intro w1 hB1 ho1 hb1 hs1
       have hg1a : w.heap.size ≤ g1 := Nat.le_of_eq hg1.symm
       have hg1b : g1 ≤ w.heap.size := Nat.le_of_eq hg1
       have hs1a : g1 + 1 ≤ w1.heap.size := Nat.le_of_eq hs1.symm
       have hs1b : w1.heap.size ≤ g1 + 1 := Nat.le_of_eq hs1
       clear ho1 hg1 hs1)
    | (refine wpList_lit (o := ⟨some 8, _, _, _, _, _⟩) rfl _ _ rfl elt_int (plN.map fun x => Value.int .i64 x) rfl (by decide) (by decide) (fun v hv => ?_) rfl ?_
       · obtain ⟨p, _, rfl⟩ := List.mem_map.1 hv; rfl
       rw [ints_cells]
       obtain ⟨g2, hg2⟩ : ∃ g, g = w1.heap.size := ⟨_, rfl⟩
       rw [← hg2]
       intro w2 hB2 ho2 hb2 hs2
       have hg2a : w1.heap.size ≤ g2 := Nat.le_of_eq hg2.symm
       have hg2b : g2 ≤ w1.heap.size := Nat.le_of_eq hg2
       have hs2a : g2 + 1 ≤ w2.heap.size := Nat.le_of_eq hs2.symm
       clear ho2 hg2 hs2))
  have R0 : PlRel w g1 g2 0 (.slice none 0 0) w2 := ⟨bk_bel hB1 hb2 (by omega), hB2, World.ownsRow_nil _ _ _ _, (hb1.mono (by omega)).trans (hb2.mono (by omega)), by omega⟩
  clear hB1 hB2 hb1 hb2 hs1a hs1b hs2a hg1a hg1b hg2a hg2b
  go_loopw [3, 4] (fun v i wr => ∃ k : Nat, k ≤ 9 ∧ i = .int .i64 k ∧ PlRel w g1 g2 k v wr) (fun _ i _ => 9 - (intOf i).toNat)
  case atStart => exact ⟨0, by omega, rfl, R0⟩
  case round =>
    obtain ⟨k, hk, rfl, hr⟩ := hrel
    clear R0
    by_cases hlt : k < 9
    · obtain ⟨s, p, hs, hp, hl, hc, n0, n1, n2⟩ := pl_at hlt
      have i0 : (k : Int) < 9 := by omega
      obtain ⟨J, hJ⟩ : ∃ J, 3 * k = J := ⟨_, rfl⟩
      rw [hJ] at n0 n1 n2
      have i1 : (3 : Int) * (k : Int) = (J : Int) := by omega
      have i2 : J ≤ 24 := by omega
      have c1 := bk_cellL hr.b1 k
      rw [List.getElem?_map, hs] at c1
      have c1 : wr.cell? ⟨g1, k, none⟩ = some (.string ⟨s.toArray⟩) := c1
      have hB2 := hr.b2
      obtain ⟨Av, cv, rfl, hcv⟩ := (Sl.own hr.o).any
      have HR := Lib.hid hr
      have Hc := Lib.hid hc
      have Hp := Lib.hid hp
      have HJ := Lib.hid hJ
      have hg1 : g1 < g2 := hr.lt.1
      have hwr : w.heap.size ≤ wr.heap.size ∧ g2 < wr.heap.size := ⟨hr.lt.2.2, hr.lt.2.1⟩
      clear hr hs hc hp hJ
      go_wp2_with (first
        | (go_at_call 10; refine (rcparse_yes (by omega) Hc.out).mono ?_; rintro e w3 ⟨rfl, hb3⟩)
        | ((with_reducible refine wpList_allocAd (o := ⟨some 5, _, _, _, _, _⟩) rfl rfl ?_); intro g5 w4 hg hB5 hb4 hs4; have hg5 : w3.heap.size ≤ g5 := Nat.le_of_eq hg.symm; clear hg hs4)
        | ((with_reducible refine wpList_storeAd rfl (.tmp 5) _ rfl rfl rfl hB5 ?_); intro w5 hB55 hS5; have hb35 : Below w3.heap.size w3 w5 := hb4.trans (hS5.below hg5); have hb5 := bel_tr hb3 hb35))
      obtain ⟨B, hBB⟩ : ∃ B, max w.heap.size (g2 + 1) = B := ⟨_, rfl⟩
      have hB1 : w.heap.size ≤ B ∧ g2 < B ∧ B ≤ wr.heap.size := by omega
      have hsz5 := hb5.size
      have hg53 : wr.heap.size ≤ g5 := by have := hb3.size; omega
      have hne5 : some g5 ≠ (Value.slice Av k cv).ownBlock := own_neS HR.out.o (.inr hg53)
      have hR5 : ∀ w', (Below B w5 w' ∧ w'.rangeAt g5 0 (adL p.pf.ad)) → w'.rangeAt g5 0 (adL p.pf.ad) := fun w' hb => hb.2
      have hS0 : Below B w5 w5.drew ∧ w5.drew.rangeAt g5 0 (adL p.pf.ad) := ⟨(Below.refl _ _).drew, hB55.rangeAd⟩
      have hB25 := hB2.bel hb5
      have hB15 := HR.out.b1.bel hb5
      have m0 : ∀ w', (Below B w5 w' ∧ w'.rangeAt g5 0 (adL p.pf.ad)) → w'.cell? ⟨g2, J, none⟩ = some (.int .i64 p.pf.bits) := fun w' hb => by rw [bk_cellL (bk_bel hB25 hb.1 hB1.2.1), List.getElem?_map, n0]; rfl
      have m1 : ∀ w', (Below B w5 w' ∧ w'.rangeAt g5 0 (adL p.pf.ad)) → w'.cell? ⟨g2, J + 1, none⟩ = some (.int .i64 p.prec) := fun w' hb => by rw [bk_cellL (bk_bel hB25 hb.1 hB1.2.1), List.getElem?_map, n1]; rfl
      have m2 : ∀ w', (Below B w5 w' ∧ w'.rangeAt g5 0 (adL p.pf.ad)) → w'.cell? ⟨g2, J + 2, none⟩ = some (.int .i64 p.lab) := fun w' hb => by rw [bk_cellL (bk_bel hB25 hb.1 hB1.2.1), List.getElem?_map, n2]; rfl
      have Ho := Lib.hid (own_below (hBB ▸ HR.out.o) hb5)
      have h05 := Lib.hid (bel_tr HR.out.b hb5)
      clear hB2 hB5 hb3 hb4 hb35 hS5 c1 n0 n1 n2
      have w0 : IntKind.i64.wrap (J : Int) = (J : Int) := by simp [IntKind.wrap, IntKind.signed, IntKind.bits]; omega
      have w1' : IntKind.i64.wrap ((J : Int) + 1) = (J : Int) + 1 := by simp [IntKind.wrap, IntKind.signed, IntKind.bits]; omega
      have w2' : IntKind.i64.wrap ((J : Int) + 2) = (J : Int) + 2 := by simp [IntKind.wrap, IntKind.signed, IntKind.bits]; omega
      have t0 : ((J : Int)).toNat = J := by omega
      have t1 : ((J : Int) + 1).toNat = J + 1 := by omega
      have t2 : ((J : Int) + 2).toNat = J + 2 := by omega
      have j0 : (J : Int) < 27 := by omega
      have j1 : (J : Int) + 1 < 27 := by omega
      have j2 : (J : Int) + 2 < 27 := by omega
      have j3 : (0 : Int) ≤ (J : Int) + 1 := by omega
      have j4 : (0 : Int) ≤ (J : Int) + 2 := by omega
      refine wp_region_held (S := fun w' => Below B w5 w' ∧ w'.rangeAt g5 0 (adL p.pf.ad)) (by kernel_rfl) ?_
      refine wpAnyH_take (i := 0) (oi := ⟨some 23, .move (.tmp 3), _, _, _, none⟩) (v := .slice Av k cv) rfl (by kernel_rfl) (by kernel_rfl) (by kernel_rfl) (fun _ _ _ h => h) (Or.inl ⟨by rfl, fun w' hS' => by go_simp⟩) hS0 ?_
      simp only [Act.put, List.setIfInBounds_toArray, List.set_cons_zero, List.set_cons_succ]
      refine wpAnyH_take (i := 1) (oi := ⟨some 24, .load 25 (.tmp 5), _, _, _, none⟩) (v := .agg (adA p.pf.ad)) rfl (by kernel_rfl) (by kernel_rfl) (by kernel_rfl) (fun _ _ _ h => h) (yieldsIf_loadAd (by rfl) _ rfl rfl hR5) hS0 ?_
      simp only [Act.put, List.setIfInBounds_toArray, List.set_cons_zero, List.set_cons_succ]
      refine wpAnyH_take (i := 2) (oi := ⟨some 25, .move (.tmp 2), _, _, _, none⟩) (v := .slice (some ⟨g2, 0, none⟩) 27 27) rfl (by kernel_rfl) (by kernel_rfl) (by kernel_rfl) (fun _ _ _ h => h) (Or.inl ⟨by rfl, fun w' hS' => by go_simp⟩) hS0 ?_
      simp only [Act.put, List.setIfInBounds_toArray, List.set_cons_zero, List.set_cons_succ]
      refine wpAnyH_take (i := 3) (oi := ⟨some 26, .move (.tmp 4), _, _, _, none⟩) (v := .int .i64 k) rfl (by kernel_rfl) (by kernel_rfl) (by kernel_rfl) (fun _ _ _ h => h) (Or.inl ⟨by rfl, fun w' hS' => by go_simp⟩) hS0 ?_
      simp only [Act.put, List.setIfInBounds_toArray, List.set_cons_zero, List.set_cons_succ]
      refine wpAnyH_take (i := 4) (oi := ⟨some 27, .binOp .mul 3 (.const (.int .i64 3)) (.tmp 26) 3, _, _, _, none⟩) (v := .int .i64 J) rfl (by kernel_rfl) (by kernel_rfl) (by kernel_rfl) (fun _ _ _ h => h) (Or.inl ⟨by rfl, fun w' hS' => by go_simp⟩) hS0 ?_
      simp only [Act.put, List.setIfInBounds_toArray, List.set_cons_zero, List.set_cons_succ]
      refine wpAnyH_take (i := 5) (oi := ⟨some 28, .indexAddr 69 (.tmp 25) (.tmp 27), _, _, _, none⟩) (v := .pointer (some ⟨g2, J, none⟩)) rfl (by kernel_rfl) (by kernel_rfl) (by kernel_rfl) (fun _ _ _ h => h) (Or.inl ⟨by rfl, fun w' hS' => by go_simp⟩) hS0 ?_
      simp only [Act.put, List.setIfInBounds_toArray, List.set_cons_zero, List.set_cons_succ]
      refine wpAnyH_take (i := 6) (oi := ⟨some 29, .load 3 (.tmp 28), _, _, _, none⟩) (v := .int .i64 p.pf.bits) rfl (by kernel_rfl) (by kernel_rfl) (by kernel_rfl) (fun _ _ _ h => h) (yieldsIf_loadC (by rfl) _ _ rfl rfl m0 Tryd.underlying3 rfl) hS0 ?_
      simp only [Act.put, List.setIfInBounds_toArray, List.set_cons_zero, List.set_cons_succ]
      refine wpAnyH_take (i := 7) (oi := ⟨some 30, .build 33 #[(0, .tmp 24), (1, .tmp 29)], _, _, _, none⟩) (v := .agg (pfA p.pf)) rfl (by kernel_rfl) (by kernel_rfl) (by kernel_rfl) (fun _ _ _ h => h) (yieldsIf_buildL (by rfl) _ [(0, .tmp 24), (1, .tmp 29)] rfl (built_pf' p.pf) rfl) hS0 ?_
      simp only [Act.put, List.setIfInBounds_toArray, List.set_cons_zero, List.set_cons_succ]
      refine wpAnyH_take (i := 8) (oi := ⟨some 31, .move (.tmp 2), _, _, _, none⟩) (v := .slice (some ⟨g2, 0, none⟩) 27 27) rfl (by kernel_rfl) (by kernel_rfl) (by kernel_rfl) (fun _ _ _ h => h) (Or.inl ⟨by rfl, fun w' hS' => by go_simp⟩) hS0 ?_
      simp only [Act.put, List.setIfInBounds_toArray, List.set_cons_zero, List.set_cons_succ]
      refine wpAnyH_take (i := 9) (oi := ⟨some 32, .move (.tmp 4), _, _, _, none⟩) (v := .int .i64 k) rfl (by kernel_rfl) (by kernel_rfl) (by kernel_rfl) (fun _ _ _ h => h) (Or.inl ⟨by rfl, fun w' hS' => by go_simp⟩) hS0 ?_
      simp only [Act.put, List.setIfInBounds_toArray, List.set_cons_zero, List.set_cons_succ]
      refine wpAnyH_take (i := 10) (oi := ⟨some 33, .binOp .mul 3 (.const (.int .i64 3)) (.tmp 32) 3, _, _, _, none⟩) (v := .int .i64 J) rfl (by kernel_rfl) (by kernel_rfl) (by kernel_rfl) (fun _ _ _ h => h) (Or.inl ⟨by rfl, fun w' hS' => by go_simp⟩) hS0 ?_
      simp only [Act.put, List.setIfInBounds_toArray, List.set_cons_zero, List.set_cons_succ]
      refine wpAnyH_take (i := 11) (oi := ⟨some 34, .binOp .add 3 (.tmp 33) (.const (.int .i64 1)) 3, _, _, _, none⟩) (v := .int .i64 ((J : Int) + 1)) rfl (by kernel_rfl) (by kernel_rfl) (by kernel_rfl) (fun _ _ _ h => h) (Or.inl ⟨by rfl, fun w' hS' => by go_simp⟩) hS0 ?_
      simp only [Act.put, List.setIfInBounds_toArray, List.set_cons_zero, List.set_cons_succ]
      refine wpAnyH_take (i := 12) (oi := ⟨some 35, .indexAddr 69 (.tmp 31) (.tmp 34), _, _, _, none⟩) (v := .pointer (some ⟨g2, J + 1, none⟩)) rfl (by kernel_rfl) (by kernel_rfl) (by kernel_rfl) (fun _ _ _ h => h) (Or.inl ⟨by rfl, fun w' hS' => by go_simp⟩) hS0 ?_
      simp only [Act.put, List.setIfInBounds_toArray, List.set_cons_zero, List.set_cons_succ]
      refine wpAnyH_take (i := 13) (oi := ⟨some 36, .load 3 (.tmp 35), _, _, _, none⟩) (v := .int .i64 p.prec) rfl (by kernel_rfl) (by kernel_rfl) (by kernel_rfl) (fun _ _ _ h => h) (yieldsIf_loadC (by rfl) _ _ rfl rfl m1 Tryd.underlying3 rfl) hS0 ?_
      simp only [Act.put, List.setIfInBounds_toArray, List.set_cons_zero, List.set_cons_succ]
      refine wpAnyH_take (i := 14) (oi := ⟨some 37, .move (.tmp 2), _, _, _, none⟩) (v := .slice (some ⟨g2, 0, none⟩) 27 27) rfl (by kernel_rfl) (by kernel_rfl) (by kernel_rfl) (fun _ _ _ h => h) (Or.inl ⟨by rfl, fun w' hS' => by go_simp⟩) hS0 ?_
      simp only [Act.put, List.setIfInBounds_toArray, List.set_cons_zero, List.set_cons_succ]
      refine wpAnyH_take (i := 15) (oi := ⟨some 38, .move (.tmp 4), _, _, _, none⟩) (v := .int .i64 k) rfl (by kernel_rfl) (by kernel_rfl) (by kernel_rfl) (fun _ _ _ h => h) (Or.inl ⟨by rfl, fun w' hS' => by go_simp⟩) hS0 ?_
      simp only [Act.put, List.setIfInBounds_toArray, List.set_cons_zero, List.set_cons_succ]
      refine wpAnyH_take (i := 16) (oi := ⟨some 39, .binOp .mul 3 (.const (.int .i64 3)) (.tmp 38) 3, _, _, _, none⟩) (v := .int .i64 J) rfl (by kernel_rfl) (by kernel_rfl) (by kernel_rfl) (fun _ _ _ h => h) (Or.inl ⟨by rfl, fun w' hS' => by go_simp⟩) hS0 ?_
      simp only [Act.put, List.setIfInBounds_toArray, List.set_cons_zero, List.set_cons_succ]
      refine wpAnyH_take (i := 17) (oi := ⟨some 40, .binOp .add 3 (.tmp 39) (.const (.int .i64 2)) 3, _, _, _, none⟩) (v := .int .i64 ((J : Int) + 2)) rfl (by kernel_rfl) (by kernel_rfl) (by kernel_rfl) (fun _ _ _ h => h) (Or.inl ⟨by rfl, fun w' hS' => by go_simp⟩) hS0 ?_
      simp only [Act.put, List.setIfInBounds_toArray, List.set_cons_zero, List.set_cons_succ]
      refine wpAnyH_take (i := 18) (oi := ⟨some 41, .indexAddr 69 (.tmp 37) (.tmp 40), _, _, _, none⟩) (v := .pointer (some ⟨g2, J + 2, none⟩)) rfl (by kernel_rfl) (by kernel_rfl) (by kernel_rfl) (fun _ _ _ h => h) (Or.inl ⟨by rfl, fun w' hS' => by go_simp⟩) hS0 ?_
      simp only [Act.put, List.setIfInBounds_toArray, List.set_cons_zero, List.set_cons_succ]
      refine wpAnyH_take (i := 19) (oi := ⟨some 42, .load 3 (.tmp 41), _, _, _, none⟩) (v := .int .i64 p.lab) rfl (by kernel_rfl) (by kernel_rfl) (by kernel_rfl) (fun _ _ _ h => h) (yieldsIf_loadC (by rfl) _ _ rfl rfl m2 Tryd.underlying3 rfl) hS0 ?_
      simp only [Act.put, List.setIfInBounds_toArray, List.set_cons_zero, List.set_cons_succ]
      refine wpAnyH_take (i := 20) (oi := ⟨some 43, .build 35 #[(0, .tmp 30), (1, .tmp 36), (2, .tmp 42)], _, _, _, none⟩) (v := .agg (polA p)) rfl (by kernel_rfl) (by kernel_rfl) (by kernel_rfl) (fun _ _ _ h => h) (yieldsIf_buildL (by rfl) _ [(0, .tmp 30), (1, .tmp 36), (2, .tmp 42)] rfl (built_pol' p) rfl) hS0 ?_
      simp only [Act.put, List.setIfInBounds_toArray, List.set_cons_zero, List.set_cons_succ]
      clear w0 w1' w2' t0 t1 t2 j0 j1 j2 j3 j4 m0 m1 m2 hR5
      refine wpAnyH_all (rs := [21]) (by kernel_rfl) (by decide) ?_
      intro i hi9
      obtain rfl := List.mem_singleton.1 hi9
      refine wpOp_of_list (o := ⟨some 44, .buildSlice 39 1 #[(0, .tmp 43)], _, _, _, none⟩) rfl ?_
      refine wpList_lit rfl _ _ rfl elt_pols [.agg (polA p)] rfl (by decide) (by decide) (fun v hv => by simp at hv; subst hv; exact polA_size p) rfl ?_
      rw [pol_cells]
      intro w8 hB8 hx8 hb8 hs8
      have hb8' := bel_drew hb8
      have Hx8 := Lib.hid (Sl.own hx8)
      have Ho8 := Lib.hid (own_below Ho.out hb8')
      have hsz8 := Nat.le_trans hsz5 hb8'.size
      have hB18 := hB15.bel hb8'
      have hB28 := hB25.bel hb8'
      clear hB8 hx8 hs8
      show _ ∧ _
      refine ⟨⟨hb8'.mono (by omega), (hB55.bel hb8').rangeAd⟩, ?_⟩
      simp only [Act.put, List.setIfInBounds_toArray, List.set_cons_zero, List.set_cons_succ]
      refine wpAnyH_all (rs := [22]) (by kernel_rfl) (by decide) ?_
      intro i hi9
      obtain rfl := List.mem_singleton.1 hi9
      refine wpOp_of_list (o := ⟨some 45, .call { callee := .builtin .append, args := #[.tmp 23, .tmp 44], argTypes := #[39, 39] }, _, _, _, none⟩) rfl ?_
      refine wpList_app rfl (.tmp 23) (.tmp 44) _ rfl elt_pols rfl Ho8.out rfl Hx8.out (polL_one p) (by omega) (by omega) (by omega) ?_
      intro v9 w9 ho9 hb9 hg9
      have hB19 := hB18.grown hg9 (own_neS Ho8.out (.inl (by omega)))
      have hB29 := hB28.grown hg9 (own_neS Ho8.out (.inl (by omega)))
      have hb09 : Below w.heap.size w w9 := (bel_tr h05.out hb8').trans (hb9.mono (by omega))
      have hsz9 := Nat.le_trans hsz8 hb9.size
      obtain ⟨a9, c9, rfl, hc9⟩ := (Sl.own ho9).any
      show _ ∧ _
      refine ⟨⟨(hb8'.mono (by omega)).trans hb9, ((hB55.bel hb8').grown hg9 hne5).rangeAd⟩, ?_⟩
      simp only [Act.put, List.setIfInBounds_toArray, List.set_cons_zero, List.set_cons_succ]
      refine wpAnyH_take (i := 23) (oi := ⟨some 3, .assign (.tmp 45), _, _, _, none⟩) (v := .slice a9 (k + 1) c9) rfl (by kernel_rfl) (by kernel_rfl) (by kernel_rfl) (fun _ _ _ h => h) (Or.inl ⟨by rfl, fun w' hS' => by go_simp⟩) ⟨(hb8'.mono (by omega)).trans hb9, ((hB55.bel hb8').grown hg9 hne5).rangeAd⟩ ?_
      simp only [Act.put, List.setIfInBounds_toArray, List.set_cons_zero, List.set_cons_succ]
      refine wpAnyH_done (by kernel_rfl) ?_ _
      go_wp2
      go_roundw
      case rel =>
        refine ⟨k + 1, by omega, by go_num, ⟨hB19, hB29, ?_, hb09, by omega⟩⟩
        rw [hBB, List.take_add_one, Hp.out]
        simp only [Option.toList, List.flatMap_append, List.flatMap_cons, List.flatMap_nil, List.append_nil]
        exact ho9
      case measure => simp [intOf]; omega
    · have hk9 : k = 9 := by omega
      subst hk9
      have HR := Lib.hid hr
      obtain ⟨Av, cv, rfl, hcv⟩ := (Sl.own hr.o).any
      clear hr
      have i0 : ¬ ((9 : Nat) : Int) < 9 := by omega
      go_wp2
      go_ret
      exact ⟨_, rfl, own_base HR.out.o (by omega), HR.out.b⟩
end Go.Proofs.YtgbdhfjblebeiaaDoor

/- policy.Rows of the empty net; policy.Of. -/
namespace Go.Proofs.YtgbdhfjblebeiaaDoor
open Go.RowKit
attribute [local go_sem] ba_get ext_take ext_drop ext_any ba_app

/-- a row of policies, one by one, in blocks not below lo. -/
def PolRow (w : World) (A : Option Addr) (R : List Pol) (lo : Nat) : Prop := ∀ k (hk : k < R.length), ∃ b off, A = some ⟨b, off, none⟩ ∧ lo ≤ b ∧ b < w.heap.size ∧ w.rangeAt b (off + k * 21) (polL R[k])
theorem PolRow.own {w : World} {B : Nat} {A : Option Addr} {c : Nat} {R : List Pol} (h : w.ownsRow B 35 21 (.slice A R.length c) R.length (R.flatMap polL)) : PolRow w A R B := fun k hk => by
  obtain ⟨b, off, c', hv, hc, hb, hcell⟩ := (Sl.own h).pos (by omega)
  injection hv with e1
  subst e1
  have hlt := h.lt
  have hb0 : off = 0 := by
    obtain ⟨_, h2⟩ := h
    rcases h2 with ⟨h2, _⟩ | ⟨g, cap, cur, h2, _⟩
    · cases h2
    · injection h2 with e
      injection e with e
      injection e
  subst hb0
  exact ⟨b, 0, rfl, (hlt b rfl).1, hb, range_of polL_len hcell hk⟩
theorem PolRow.bel {w w' : World} {A : Option Addr} {R : List Pol} {lo : Nat} (h : PolRow w A R lo) (hb : Below w.heap.size w w') : PolRow w' A R lo := fun k hk => by
  obtain ⟨b, off, h1, h2, h3, h4⟩ := h k hk
  exact ⟨b, off, h1, h2, Nat.lt_of_lt_of_le h3 hb.size, fun j v hv => (bel_cells hb h3 _).trans (h4 j v hv)⟩
theorem PolRow.stays {w w' : World} {A : Option Addr} {R : List Pol} {lo g : Nat} (h : PolRow w A R lo) (hs : Stays g w w') (hg : g < lo) : PolRow w' A R lo := fun k hk => by
  obtain ⟨b, off, h1, h2, h3, h4⟩ := h k hk
  refine ⟨b, off, h1, h2, by rw [hs.size]; exact h3, fun j v hv => ?_⟩
  rw [← h4 j v hv]
  have := hs.block b (by omega)
  unfold World.cell?
  rw [this]
def net0 : Array Value := #[.slice none 0 0, .slice none 0 0, .slice none 0 0]
theorem net_under : Tryd.prog.underlying 41 = some (.struct (Tryd.prog.fieldsOf 41)) := by kernel_rfl
theorem net_size : (Tryd.prog.info? 41).map (·.size) = some 3 := by kernel_rfl
theorem built_net0 : Tryd.prog.built 41 [] = some net0 := by kernel_rfl
set_option maxRecDepth 100000 in
set_option maxHeartbeats 2000000 in
theorem prows0_any (w : World) (ht : Tab w) (hm : MaxI w) : Calls Tryd.prog 43 #[.agg net0] w (PolsPost w plainP) := by
  have Ht := Lib.hid ht
  have Hm := Lib.hid hm
  clear ht hm
  go_enter Tryd.func43, Tryd.ntmps43
  go_wp2_with (first
    | ((with_reducible refine wpList_boxB rfl _ _ rfl rfl ?_); intro g1 w1 hg hB1 hb1 hs; have c2 : w1.cell? ⟨g1, 2, none⟩ = some (.slice none 0 0) := hB1.cell 2; clear hg hs))
  go_loopw [3, 9] (fun v i wr => v = .slice none 0 0 ∧ i = .int .i64 0 ∧ wr = w1) (fun _ _ _ => 0)
  case atStart => exact ⟨rfl, rfl, rfl⟩
  case round =>
    obtain ⟨rfl, rfl, rfl⟩ := hrel
    go_wp2_with (first
      | (go_at_call 46; refine (polplain_any _ (Ht.out.below hb1) (Hm.out.below hb1)).mono ?_; rintro e w2 ⟨v, rfl, ho, hb2⟩))
    go_ret
    exact ⟨_, rfl, own_base ho hb1.size, bel_tr hb1 hb2⟩
set_option maxRecDepth 100000 in
set_option maxHeartbeats 2000000 in
theorem rprows0_any (w : World) : Calls Tryd.prog 47 #[.agg net0] w (PolsPost w plainP) := by
  go_enter Tryd.func47, Tryd.ntmps47
  go_wp2_with (first
    | ((with_reducible refine wpList_boxB rfl _ _ rfl rfl ?_); intro g1 w1 hg hB1 hb1 hs; have c2 : w1.cell? ⟨g1, 2, none⟩ = some (.slice none 0 0) := hB1.cell 2; clear hg hs))
  go_loopw [3, 4] (fun v i wr => v = .slice none 0 0 ∧ i = .int .i64 0 ∧ wr = w1) (fun _ _ _ => 0)
  case atStart => exact ⟨rfl, rfl, rfl⟩
  case round =>
    obtain ⟨rfl, rfl, rfl⟩ := hrel
    go_wp2_with (first
      | (go_at_call 17; refine (rpolplain_any _).mono ?_; rintro e w2 ⟨v, rfl, ho, hb2⟩))
    go_ret
    exact ⟨_, rfl, own_base ho hb1.size, bel_tr hb1 hb2⟩
def fW (a : Ad) (p : Pol) : Bool := withB a p.pf
def gW (p : Pol) : Int := p.pf.bits
def zerA (a : Ad) : Ad := (mpA a).setZ 0 (by decide)
/-- the policy of an address. -/
def ofP (a : Ad) (R : List Pol) : Pol := (bst (fW (zerA a)) gW R).getD polD
theorem bst_take {a : Ad} {R : List Pol} {k : Nat} (hk : k < R.length) : bst (fW a) gW (R.take (k + 1)) = bstp (fW a) gW (bst (fW a) gW (R.take k)) R[k] := by
  rw [List.take_add_one, List.getElem?_eq_getElem hk]
  exact bst_snoc _ _ _ _
structure OfRel (w : World) (g3 g4 g5 : Nat) (A : Ad) (An : Option Addr) (R : List Pol) (lo : Nat) (o : Option Pol) (wr : World) : Prop where
  b3 : Bk wr g3 25 (adA A)
  b4 : Bk wr g4 35 (polA pol0)
  b5 : Bk wr g5 35 (polA (o.getD polD))
  r : PolRow wr An R lo
  b : Below w.heap.size w wr
def PolPost (w : World) (p : Pol) (e : Ending) (w' : World) : Prop := e = .returned (.agg (polA p)) ∧ Below w.heap.size w w'
set_option maxRecDepth 100000 in
set_option maxHeartbeats 40000000 in
theorem pof_any (cs : Array Value) (hcs : cs.size = 3) (R : List Pol) (a : Ad) (w : World) (hRl : R.length ≤ 1000000) (hRows : ∀ w', Below w.heap.size w w' → Calls Tryd.prog 43 #[.agg cs] w' (PolsPost w' R)) :
    Calls Tryd.prog 13 #[.agg cs, .agg (adA a)] w (PolPost w (ofP a R)) := by
  have HRows := Lib.hid hRows
  have Hns := Lib.hid (show (Tryd.prog.info? 41).map (·.size) = some cs.size by rw [hcs]; exact net_size)
  have Hof : Hid (ofP a R = (bst (fW (zerA a)) gW R).getD polD) := Lib.hid rfl
  have HzerA : Hid (zerA a = (mpA a).setZ 0 (by decide)) := Lib.hid rfl
  clear hRows hcs
  go_enter Tryd.func13, Tryd.ntmps13
  go_wp2_with (first
    | ((with_reducible refine wpList_boxB (o := ⟨some 2, _, _, _, _, _⟩) rfl _ _ rfl rfl ?_); intro g2 w1 hg hB2 hb1 hs; have hg2 : w.heap.size ≤ g2 := Nat.le_of_eq hg.symm; clear hg hs)
    | ((with_reducible refine wpList_boxB (o := ⟨some 3, _, _, _, _, _⟩) rfl _ _ rfl rfl ?_); intro g3 w2 hg hB3 hb2 hs; have hg3 : w1.heap.size ≤ g3 := Nat.le_of_eq hg.symm; have hB22 := hB2.bel hb2; have hb02 := bel_tr hb1 hb2; clear hg hs)
    | ((with_reducible refine wpList_allocPol (o := ⟨some 4, _, _, _, _, _⟩) rfl rfl ?_); intro g4 w3 hg hB4 hb3 hs; have hg4 : w2.heap.size ≤ g4 := Nat.le_of_eq hg.symm; have hB23 := hB22.bel hb3; have hB33 := hB3.bel hb3; have hb03 := bel_tr hb02 hb3; clear hg hs)
    | (with_reducible refine wpList_loadAd (o := ⟨some 9, _, _, _, _, _⟩) rfl _ rfl rfl hB33 ?_)
    | (go_at_call 42; refine (amap_all a _).mono ?_; rintro e w4 ⟨rfl, hb4⟩; have hB24 := hB23.bel hb4; have hB34 := hB33.bel hb4; have hB44 := hB4.bel hb4; have hb04 := bel_tr hb03 hb4)
    | ((with_reducible refine wpList_storeAd rfl (.tmp 3) _ rfl rfl rfl hB34 ?_); intro w5 hB35 hS5
       have hB25 := hB24.stays hS5 (by have := hB2.lt; omega)
       have hB45 := hB44.stays hS5 (by have := hB3.lt; omega)
       have hb05 : Below w.heap.size w w5 := hb04.trans (hS5.below (by have := hb1.size; omega))
       have c17 := hB35.cell 17
       rw [adA_17] at c17
       have f17 := hB35.free 17
       refine hold ?_))
  refine Lib.hid ?_
  have hne : g2 < g3 ∧ g3 < g4 ∧ w.heap.size ≤ g3 ∧ g4 < w5.heap.size := ⟨by have := hB2.lt; omega, by have := hB3.lt; omega, by have := hb1.size; omega, hB45.lt⟩
  have hX := hB35.set_ 17 (.int .i64 0)
  rw [adA_setZ (mpA a) 0 (by decide), ← HzerA.out] at hX
  have hY := hB25.far (p := ⟨g3, 17, none⟩) (by show g2 ≠ g3; omega) (.int .i64 0)
  have hZ := hB45.far (p := ⟨g3, 17, none⟩) (by show g4 ≠ g3; omega) (.int .i64 0)
  have hby := hb05.setCell (p := ⟨g3, 17, none⟩) (show w.heap.size ≤ g3 by omega) (.int .i64 0)
  have hsz : (w5.setCell ⟨g3, 17, none⟩ (.int .i64 0)).heap.size = w5.heap.size := (Stays.cell w5 g3 17 (.int .i64 0)).size
  have hszx : w5.heap.size ≤ (w5.setCell ⟨g3, 17, none⟩ (.int .i64 0)).heap.size := Nat.le_of_eq hsz.symm
  generalize zerA a = A at *
  clear HzerA hsz hB2 hB22 hB23 hB24 hB25 hB3 hB33 hB34 hB35 hB4 hB44 hB45 hb1 hb2 hb3 hb4 hb02 hb03 hb04 hb05 hS5
  go_wp2_with (first
    | (with_reducible refine wpList_buildL rfl 35 _ rfl built_polD rfl ?_)
    | ((with_reducible refine wpList_allocPol (o := ⟨some 5, _, _, _, _, _⟩) rfl rfl ?_); intro g5 w6 hg hB5 hb6 hs; have hg5 := Nat.le_of_eq hg.symm; have hX6 := hX.bel hb6; have hY6 := hY.bel hb6; have hZ6 := hZ.bel hb6; have hb06 := bel_tr hby hb6; have hl5 := hB5.lt; clear hg hs)
    | ((with_reducible refine wpList_storePol rfl (.tmp 5) _ rfl rfl rfl hB5 ?_); intro w7 hB57 hS7; have hs7 := hS7.size; have hs7' : w6.heap.size ≤ w7.heap.size := Nat.le_of_eq hs7.symm; have hX7 := hX6.stays hS7 (by omega); have hY7 := hY6.stays hS7 (by omega); have hZ7 := hZ6.stays hS7 (by omega); have hb07 : Below w.heap.size w w7 := hb06.trans (hS7.below (by omega)); clear hs7)
    | (refine wpList_loadB (o := ⟨some 13, _, _, _, _, _⟩) rfl _ _ rfl rfl hY7 net_under rfl Hns.out ?_)
    | (go_at_call 43; refine (HRows.out _ hb07).mono ?_; rintro e w8 ⟨v8, rfl, ho8, hb8⟩; obtain ⟨A8, c8, rfl, hc8⟩ := (Sl.own ho8).any; have hr8 := PolRow.own ho8; have hX8 := hX7.bel hb8; have hZ8 := hZ7.bel hb8; have hB58 := hB57.bel hb8; have hb08 := bel_tr hb07 hb8))
  have hlo : g3 < g4 ∧ g4 < g5 ∧ g5 < w7.heap.size ∧ w.heap.size ≤ g3 := by omega
  generalize w7.heap.size = lo at *
  have R0 : OfRel w g3 g4 g5 A A8 R lo (bst (fW A) gW (R.take 0)) w8 := ⟨hX8, hZ8, hB58, hr8, hb08⟩
  clear hX hY hZ hX6 hY6 hZ6 hX7 hY7 hZ7 hX8 hZ8 hB5 hB57 hB58 hb6 hb8 hS7 hb06 hb07 hb08 hby ho8 hr8 hs7' hszx hg5 hl5 hne hg2 hg3 hg4
  go_loopw [6, 16] (fun f i wr => ∃ (k : Nat) (o : Option Pol), k ≤ R.length ∧ i = .int .i64 k ∧ o = bst (fW A) gW (R.take k) ∧ f = .bool o.isSome ∧ OfRel w g3 g4 g5 A A8 R lo o wr) (fun _ i _ => R.length - (intOf i).toNat)
  case atStart => exact ⟨0, _, by omega, rfl, rfl, rfl, R0⟩
  case round =>
    obtain ⟨k, o, hk, rfl, ho, rfl, r3, r4, r5, rr, rb⟩ := hrel
    clear R0
    by_cases hlt : k < R.length
    · obtain ⟨b, off, rfl, hblo, hblt, hrg⟩ := rr k hlt
      have j0 : (k : Int) < (R.length : Int) := by omega
      have hnx := bst_take (a := A) hlt
      rw [← ho] at hnx
      generalize hp : R[k] = p at *
      have Hnx := Lib.hid hnx
      clear hnx ho
      have HW : Hid (∀ w, Calls Tryd.prog 44 #[.agg (adA A), .agg (pfA p.pf)] w fun e w' => e = .returned (.bool (withB A p.pf)) ∧ Below w.heap.size w w') := Lib.hid (within_any A p.pf)
      have hcs : (fW A p = false ∧ bstp (fW A) gW o p = o) ∨ (fW A p = true ∧ o = none ∧ bstp (fW A) gW o p = some p) ∨ (∃ x, fW A p = true ∧ o = some x ∧ x.pf.bits < p.pf.bits ∧ bstp (fW A) gW o p = some p) ∨ (∃ x, fW A p = true ∧ o = some x ∧ ¬ x.pf.bits < p.pf.bits ∧ bstp (fW A) gW o p = some x) := by
        cases hf : fW A p with
        | false => left; refine ⟨rfl, ?_⟩; cases o <;> simp [bstp, hf]
        | true =>
          right
          cases o with
          | none => left; refine ⟨rfl, rfl, ?_⟩; simp [bstp, hf]
          | some x =>
            right
            by_cases hg : x.pf.bits < p.pf.bits
            · left; exact ⟨x, rfl, rfl, hg, by simp [bstp, hf, gW, hg]⟩
            · right; exact ⟨x, rfl, rfl, hg, by simp [bstp, hf, gW, hg]⟩
      have HfW : Hid (fW A p = withB A p.pf) := Lib.hid rfl
      clear hp
      rcases hcs with ⟨hf, hst⟩ | ⟨hf, ho, hst⟩ | ⟨x, hf, ho, hgt, hst⟩ | ⟨x, hf, ho, hgt, hst⟩
      · have Hst := Lib.hid (Hnx.out.trans hst)
        have Hwb := Lib.hid (HfW.out.symm.trans hf)
        generalize withB A p.pf = wb at *
        clear hst hf Hnx HfW
        have c5 := r5.cell 18
        rw [polA_18] at c5
        go_wp2_with (first
          | (with_reducible refine wpList_loadPolM (o := ⟨some 19, _, _, _, _, _⟩) rfl _ rfl rfl hrg ?_)
          | ((with_reducible refine wpList_allocPol (o := ⟨some 8, _, _, _, _, _⟩) rfl rfl ?_); intro g8 w9 hg hB8 hb9 hs; have hg8 : wr.heap.size ≤ g8 := Nat.le_of_eq hg.symm; clear hg hs)
          | ((with_reducible refine wpList_storePol rfl (.tmp 8) _ rfl rfl rfl hB8 ?_); intro wa hB8a hSa; have hba : Below wr.heap.size wr wa := hb9.trans (hSa.below hg8); have r3a := r3.bel hba; have hq8 := hB8a.rangePolPf; have d8 := hB8a.cell 18; rw [polA_18] at d8; have d5 := (r5.bel hba).cell 18; rw [polA_18] at d5)
          | (with_reducible refine wpList_loadAd (o := ⟨some 20, _, _, _, _, _⟩) rfl _ rfl rfl r3a ?_)
          | (with_reducible refine wpList_loadPfM (o := ⟨some 22, _, _, _, _, _⟩) rfl _ rfl rfl hq8 ?_)
          | (go_at_call 44; refine (HW.out _).mono ?_; rintro e wb' ⟨rfl, hbb⟩; rw [Hwb.out]; have hbw := bel_tr hba hbb; have d8b := (hB8a.bel hbb).cell 18; rw [polA_18] at d8b; have r5b := r5.bel hbw; have d5b := r5b.cell 18; rw [polA_18] at d5b; have hB8b := hB8a.bel hbb))
        go_roundw
        case rel =>
          refine ⟨k + 1, o, by omega, by go_num, Hst.out.symm, rfl, ?_⟩
          exact ⟨r3.bel hbw, r4.bel hbw, r5b, rr.bel hbw, bel_tr rb hbw⟩
        case measure => simp [intOf]; omega
      · have Hst := Lib.hid (Hnx.out.trans hst)
        have Hwb := Lib.hid (HfW.out.symm.trans hf)
        generalize withB A p.pf = wb at *
        clear hst hf Hnx HfW
        subst ho
        have c5 := r5.cell 18
        rw [polA_18] at c5
        go_wp2_with (first
          | (with_reducible refine wpList_loadPolM (o := ⟨some 19, _, _, _, _, _⟩) rfl _ rfl rfl hrg ?_)
          | ((with_reducible refine wpList_allocPol (o := ⟨some 8, _, _, _, _, _⟩) rfl rfl ?_); intro g8 w9 hg hB8 hb9 hs; have hg8 : wr.heap.size ≤ g8 := Nat.le_of_eq hg.symm; clear hg hs)
          | ((with_reducible refine wpList_storePol rfl (.tmp 8) _ rfl rfl rfl hB8 ?_); intro wa hB8a hSa; have hba : Below wr.heap.size wr wa := hb9.trans (hSa.below hg8); have r3a := r3.bel hba; have hq8 := hB8a.rangePolPf; have d8 := hB8a.cell 18; rw [polA_18] at d8; have d5 := (r5.bel hba).cell 18; rw [polA_18] at d5)
          | (with_reducible refine wpList_loadAd (o := ⟨some 20, _, _, _, _, _⟩) rfl _ rfl rfl r3a ?_)
          | (with_reducible refine wpList_loadPfM (o := ⟨some 22, _, _, _, _, _⟩) rfl _ rfl rfl hq8 ?_)
          | (go_at_call 44; refine (HW.out _).mono ?_; rintro e wb' ⟨rfl, hbb⟩; rw [Hwb.out]; have hbw := bel_tr hba hbb; have d8b := (hB8a.bel hbb).cell 18; rw [polA_18] at d8b; have r5b := r5.bel hbw; have d5b := r5b.cell 18; rw [polA_18] at d5b; have hB8b := hB8a.bel hbb)
          | (with_reducible refine wpList_loadPol (o := ⟨some 37, _, _, _, _, _⟩) rfl _ rfl rfl hB8b ?_)
          | ((with_reducible refine wpList_storePol rfl (.tmp 5) _ rfl rfl rfl r5b ?_); intro wc hB5c hSc; have hszc := hSc.size))
        go_roundw
        case rel =>
          refine ⟨k + 1, some p, by omega, by go_num, Hst.out.symm, rfl, ?_⟩
          exact ⟨(r3.bel hbw).stays hSc (by omega), (r4.bel hbw).stays hSc (by omega), hB5c, (rr.bel hbw).stays hSc (by omega), (bel_tr rb hbw).trans (hSc.below (by omega))⟩
        case measure => simp [intOf]; omega
      · have Hst := Lib.hid (Hnx.out.trans hst)
        have Hwb := Lib.hid (HfW.out.symm.trans hf)
        generalize withB A p.pf = wb at *
        clear hst hf Hnx HfW
        subst ho
        have i1 : decide (x.pf.bits < p.pf.bits) = true := decide_eq_true hgt
        clear hgt
        have c5 := r5.cell 18
        rw [polA_18] at c5
        go_wp2_with (first
          | (with_reducible refine wpList_loadPolM (o := ⟨some 19, _, _, _, _, _⟩) rfl _ rfl rfl hrg ?_)
          | ((with_reducible refine wpList_allocPol (o := ⟨some 8, _, _, _, _, _⟩) rfl rfl ?_); intro g8 w9 hg hB8 hb9 hs; have hg8 : wr.heap.size ≤ g8 := Nat.le_of_eq hg.symm; clear hg hs)
          | ((with_reducible refine wpList_storePol rfl (.tmp 8) _ rfl rfl rfl hB8 ?_); intro wa hB8a hSa; have hba : Below wr.heap.size wr wa := hb9.trans (hSa.below hg8); have r3a := r3.bel hba; have hq8 := hB8a.rangePolPf; have d8 := hB8a.cell 18; rw [polA_18] at d8; have d5 := (r5.bel hba).cell 18; rw [polA_18] at d5)
          | (with_reducible refine wpList_loadAd (o := ⟨some 20, _, _, _, _, _⟩) rfl _ rfl rfl r3a ?_)
          | (with_reducible refine wpList_loadPfM (o := ⟨some 22, _, _, _, _, _⟩) rfl _ rfl rfl hq8 ?_)
          | (go_at_call 44; refine (HW.out _).mono ?_; rintro e wb' ⟨rfl, hbb⟩; rw [Hwb.out]; have hbw := bel_tr hba hbb; have d8b := (hB8a.bel hbb).cell 18; rw [polA_18] at d8b; have r5b := r5.bel hbw; have d5b := r5b.cell 18; rw [polA_18] at d5b; have hB8b := hB8a.bel hbb)
          | (with_reducible refine wpList_loadPol (o := ⟨some 37, _, _, _, _, _⟩) rfl _ rfl rfl hB8b ?_)
          | ((with_reducible refine wpList_storePol rfl (.tmp 5) _ rfl rfl rfl r5b ?_); intro wc hB5c hSc; have hszc := hSc.size))
        go_roundw
        case rel =>
          refine ⟨k + 1, some p, by omega, by go_num, Hst.out.symm, rfl, ?_⟩
          exact ⟨(r3.bel hbw).stays hSc (by omega), (r4.bel hbw).stays hSc (by omega), hB5c, (rr.bel hbw).stays hSc (by omega), (bel_tr rb hbw).trans (hSc.below (by omega))⟩
        case measure => simp [intOf]; omega
      · have Hst := Lib.hid (Hnx.out.trans hst)
        have Hwb := Lib.hid (HfW.out.symm.trans hf)
        generalize withB A p.pf = wb at *
        clear hst hf Hnx HfW
        subst ho
        have i1 : decide (x.pf.bits < p.pf.bits) = false := decide_eq_false hgt
        clear hgt
        have c5 := r5.cell 18
        rw [polA_18] at c5
        go_wp2_with (first
          | (with_reducible refine wpList_loadPolM (o := ⟨some 19, _, _, _, _, _⟩) rfl _ rfl rfl hrg ?_)
          | ((with_reducible refine wpList_allocPol (o := ⟨some 8, _, _, _, _, _⟩) rfl rfl ?_); intro g8 w9 hg hB8 hb9 hs; have hg8 : wr.heap.size ≤ g8 := Nat.le_of_eq hg.symm; clear hg hs)
          | ((with_reducible refine wpList_storePol rfl (.tmp 8) _ rfl rfl rfl hB8 ?_); intro wa hB8a hSa; have hba : Below wr.heap.size wr wa := hb9.trans (hSa.below hg8); have r3a := r3.bel hba; have hq8 := hB8a.rangePolPf; have d8 := hB8a.cell 18; rw [polA_18] at d8; have d5 := (r5.bel hba).cell 18; rw [polA_18] at d5)
          | (with_reducible refine wpList_loadAd (o := ⟨some 20, _, _, _, _, _⟩) rfl _ rfl rfl r3a ?_)
          | (with_reducible refine wpList_loadPfM (o := ⟨some 22, _, _, _, _, _⟩) rfl _ rfl rfl hq8 ?_)
          | (go_at_call 44; refine (HW.out _).mono ?_; rintro e wb' ⟨rfl, hbb⟩; rw [Hwb.out]; have hbw := bel_tr hba hbb; have d8b := (hB8a.bel hbb).cell 18; rw [polA_18] at d8b; have r5b := r5.bel hbw; have d5b := r5b.cell 18; rw [polA_18] at d5b; have hB8b := hB8a.bel hbb))
        go_roundw
        case rel =>
          refine ⟨k + 1, some x, by omega, by go_num, Hst.out.symm, rfl, ?_⟩
          exact ⟨r3.bel hbw, r4.bel hbw, r5b, rr.bel hbw, bel_tr rb hbw⟩
        case measure => simp [intOf]; omega
    · have hkR : k = R.length := by omega
      subst hkR
      have j0 : ¬ (R.length : Int) < (R.length : Int) := by omega
      rw [List.take_length] at ho
      rw [← ho] at Hof
      clear ho
      go_wp2_with (first
        | (with_reducible refine wpList_loadPol (o := ⟨some 39, _, _, _, _, _⟩) rfl _ rfl rfl r5 ?_)
        | ((with_reducible refine wpList_storePol rfl (.tmp 4) _ rfl rfl rfl r4 ?_); intro wc hB4c hSc))
      exact ret_pol Tryd.results13 rfl hB4c rfl ⟨by rw [Hof.out], rb.trans (hSc.below (by omega))⟩
end Go.Proofs.YtgbdhfjblebeiaaDoor

/- The reference's Map. -/
namespace Go.Proofs.YtgbdhfjblebeiaaDoor
open Go.RowKit
attribute [local go_sem] ba_get ext_take ext_drop ext_any ba_app

def mpK (a : Ad) (k : Nat) : Ad := ⟨6, [0, 0, 0, 0, 0, 0, 0, 0, 0, 0, 255, 255, if 0 < k then a.b 0 else 0, if 1 < k then a.b 1 else 0, if 2 < k then a.b 2 else 0, if 3 < k then a.b 3 else 0], 0, ⟨rfl, by decide, by decide⟩⟩
theorem mpK_set {a : Ad} {k : Nat} (h : k < 4) : (mpK a k).setB (12 + k) (a.b k) = mpK a (k + 1) := by
  match k, h with
  | 0, _ => rfl
  | 1, _ => rfl
  | 2, _ => rfl
  | 3, _ => rfl
theorem mpK_4 (a : Ad) : mpK a 4 = mapA a := rfl
theorem mpK_0 (a : Ad) : ((adA al0).setIfInBounds 11 (.int .u8 255)).setIfInBounds 12 (.int .u8 255) = adA (mpK a 0) := rfl
theorem built_al0 : Tryd.prog.built 25 [(0, .int .i64 6)] = some (adA al0) := by kernel_rfl
structure MkRel (w : World) (a : Ad) (g1 g2 g3 k : Nat) (wr : World) : Prop where
  b1 : Bk wr g1 25 (adA a)
  b2 : Bk wr g2 25 (adA ad0)
  b3 : Bk wr g3 25 (adA (mpK a k))
  b : Below w.heap.size w wr
set_option maxRecDepth 100000 in
set_option maxHeartbeats 4000000 in
theorem rmap_all (a : Ad) (w : World) : Calls Tryd.prog 16 #[.agg (adA a)] w (AdPost w (mpA a)) := by
  by_cases hf : a.fam = 4
  · have i4 : (a.fam != 4) = false := by simp [hf]
    have Hf := Lib.hid (show mpA a = mapA a by unfold mpA; rw [if_pos hf])
    clear hf
    go_enter Tryd.func16, Tryd.ntmps16
    go_wp2_with (first
      | ((with_reducible refine wpList_boxB rfl _ _ rfl rfl ?_); intro g1 w1 hg hB1 hb1 hs; have hg1 : w.heap.size ≤ g1 := Nat.le_of_eq hg.symm; clear hg hs)
      | ((with_reducible refine wpList_allocAd (o := ⟨some 2, _, _, _, _, _⟩) rfl rfl ?_); intro g2 w2 hg hB2 hb2 hs; have hg2 : w1.heap.size ≤ g2 := Nat.le_of_eq hg.symm; have hB12 := hB1.bel hb2; have hb02 := bel_tr hb1 hb2; have c0 := hB12.cell 0; rw [adA_0] at c0; clear hg hs)
      | (with_reducible refine wpList_buildL rfl 25 _ rfl built_al0 rfl ?_)
      | ((with_reducible refine wpList_allocAd (o := ⟨some 3, _, _, _, _, _⟩) rfl rfl ?_); intro g3 w3 hg hB3 hb3 hs; have hg3 : w2.heap.size ≤ g3 := Nat.le_of_eq hg.symm; have hB13 := hB12.bel hb3; have hB23 := hB2.bel hb3; have hb03 := bel_tr hb02 hb3; clear hg hs)
      | ((with_reducible refine wpList_storeAd rfl (.tmp 3) _ rfl rfl rfl hB3 ?_); intro w4 hB34 hS4
         have hne : g1 < g2 ∧ g2 < g3 ∧ w.heap.size ≤ g1 := ⟨by have := hB1.lt; omega, by have := hB2.lt; omega, hg1⟩
         have hB14 := hB13.stays hS4 (by omega)
         have hB24 := hB23.stays hS4 (by omega)
         have hb04 := hb03.trans (hS4.below (by omega))
         refine hold ?_))
    refine Lib.hid ?_
    have hX1 := hB34.set_ 11 (.int .u8 255)
    have hX2 := hX1.set_ 12 (.int .u8 255)
    rw [mpK_0 a] at hX2
    have c11 : w4.cell? ⟨g3, 11, none⟩ = some (.int .u8 0) := hB34.cell 11
    have f11 := hB34.free 11
    have c12 : (w4.setCell ⟨g3, 11, none⟩ (.int .u8 255)).cell? ⟨g3, 12, none⟩ = some (.int .u8 0) := hX1.cell 12
    have f12 := hX1.free 12
    have hY := (hB14.far (p := ⟨g3, 11, none⟩) (by show g1 ≠ g3; omega) (.int .u8 255)).far (p := ⟨g3, 12, none⟩) (by show g1 ≠ g3; omega) (.int .u8 255)
    have hZ := (hB24.far (p := ⟨g3, 11, none⟩) (by show g2 ≠ g3; omega) (.int .u8 255)).far (p := ⟨g3, 12, none⟩) (by show g2 ≠ g3; omega) (.int .u8 255)
    have hby := (hb04.setCell (p := ⟨g3, 11, none⟩) (show w.heap.size ≤ g3 by omega) (.int .u8 255)).setCell (p := ⟨g3, 12, none⟩) (show w.heap.size ≤ g3 by omega) (.int .u8 255)
    have R0 : MkRel w a g1 g2 g3 0 ((w4.setCell ⟨g3, 11, none⟩ (.int .u8 255)).setCell ⟨g3, 12, none⟩ (.int .u8 255)) := ⟨hY, hZ, hX2, hby⟩
    clear hX1 hX2 hY hZ hby hB1 hB12 hB13 hB14 hB2 hB23 hB24 hB3 hB34 hb1 hb2 hb02 hb3 hb03 hb04 hS4 hg1 hg2 hg3
    go_wp2
    go_loopw [4] (fun i wr => ∃ k : Nat, k ≤ 4 ∧ i = .int .i64 k ∧ MkRel w a g1 g2 g3 k wr) (fun i _ => 4 - (intOf i).toNat)
    case atStart => exact ⟨0, by omega, rfl, R0⟩
    case round =>
      obtain ⟨k, hk, rfl, r1, r2, r3, rb⟩ := hrel
      clear R0 c11 f11 c12 f12 c0
      by_cases hlt : k < 4
      · have j0 : (k : Int) < 4 := by omega
        have j1 : (k : Int) < 16 := by omega
        have hset := mpK_set (a := a) hlt
        obtain ⟨J, hJ⟩ : ∃ J, 12 + k = J := ⟨_, rfl⟩
        rw [hJ] at hset
        have j2 : (12 : Int) + (k : Int) = (J : Int) := by omega
        have j3 : J < 16 := by omega
        have j4 : (J : Int) < 16 := by omega
        have c1 := r1.cell (k + 1)
        rw [adA_ip a (by omega), Nat.add_comm k 1] at c1
        have c3 := r3.cell (J + 1)
        rw [adA_ip (mpK a k) j3, Nat.add_comm J 1] at c3
        have f3 := r3.free (1 + J)
        have l0 := u8lt (a.b k)
        have hX : Bk (wr.setCell ⟨g3, 1 + J, none⟩ (.int .u8 ((a.b k).toNat : Int))) g3 25 (adA (mpK a (k + 1))) := by
          have := r3.set_ (1 + J) (.int .u8 ((a.b k).toNat : Int))
          rwa [show (adA (mpK a k)).setIfInBounds (1 + J) (.int .u8 ((a.b k).toNat : Int)) = adA (mpK a (k + 1)) by rw [Nat.add_comm 1 J, adA_setB _ j3, hset]] at this
        have HX := Lib.hid (show MkRel w a g1 g2 g3 (k + 1) (wr.setCell ⟨g3, 1 + J, none⟩ (.int .u8 ((a.b k).toNat : Int))) from
          ⟨r1.far (p := ⟨g3, 1 + J, none⟩) (by show g1 ≠ g3; omega) _, r2.far (p := ⟨g3, 1 + J, none⟩) (by show g2 ≠ g3; omega) _, hX, rb.setCell (p := ⟨g3, 1 + J, none⟩) (show w.heap.size ≤ g3 by omega) _⟩)
        clear hX hset hJ
        go_wp2
        go_roundw
        case rel => exact ⟨k + 1, by omega, by go_num, HX.out⟩
        case measure => simp [intOf]; omega
      · have hk4 : k = 4 := by omega
        subst hk4
        have j0 : ¬ ((4 : Nat) : Int) < 4 := by omega
        rw [mpK_4] at r3
        go_wp2_with (first
          | (with_reducible refine wpList_loadAd (o := ⟨some 26, _, _, _, _, _⟩) rfl _ rfl rfl r3 ?_)
          | ((with_reducible refine wpList_storeAd rfl (.tmp 2) _ rfl rfl rfl r2 ?_); intro w7 hB7 hS7))
        exact ret_ad Tryd.results16 rfl hB7 rfl ⟨by rw [Hf.out], rb.trans (hS7.below (by omega))⟩
  · have Hf := Lib.hid (show mpA a = a by unfold mpA; rw [if_neg hf])
    have i4 : (a.fam != 4) = true := by simpa using hf
    clear hf
    go_enter Tryd.func16, Tryd.ntmps16
    go_wp2_with (first
      | ((with_reducible refine wpList_boxB rfl _ _ rfl rfl ?_); intro g1 w1 hg hB1 hb1 hs; have hg1 : w.heap.size ≤ g1 := Nat.le_of_eq hg.symm; clear hg hs)
      | ((with_reducible refine wpList_allocAd (o := ⟨some 2, _, _, _, _, _⟩) rfl rfl ?_); intro g2 w2 hg hB2 hb2 hs; have hg2 : w1.heap.size ≤ g2 := Nat.le_of_eq hg.symm; have hB12 := hB1.bel hb2; have hb02 := bel_tr hb1 hb2; have c0 := hB12.cell 0; rw [adA_0] at c0; clear hg hs)
      | (with_reducible refine wpList_loadAd (o := ⟨some 8, _, _, _, _, _⟩) rfl _ rfl rfl hB12 ?_)
      | ((with_reducible refine wpList_storeAd rfl (.tmp 2) _ rfl rfl rfl hB2 ?_); intro w7 hB7 hS7))
    exact ret_ad Tryd.results16 rfl hB7 rfl ⟨by rw [Hf.out], hb02.trans (hS7.below (by have := hb1.size; omega))⟩
end Go.Proofs.YtgbdhfjblebeiaaDoor

/- The reference's Of (36). -/
namespace Go.Proofs.YtgbdhfjblebeiaaDoor
open Go.RowKit
attribute [local go_sem] ba_get ext_take ext_drop ext_any ba_app

def rofP (a : Ad) (R : List Pol) : Pol := (dsc (fW (mpA a)) gW R 129).getD polD
def hitP (A : Ad) (z : Int) (p : Pol) : Bool := decide (gW p = z) && fW A p
structure RoRel (w : World) (g4 g6 : Nat) (A : Ad) (An : Option Addr) (R : List Pol) (lo : Nat) (wr : World) : Prop where
  b4 : Bk wr g4 35 (polA pol0)
  b6 : Bk wr g6 25 (adA A)
  r : PolRow wr An R lo
  b : Below w.heap.size w wr
theorem RoRel.bel {w wr w' : World} {g4 g6 lo : Nat} {A : Ad} {An : Option Addr} {R : List Pol} (h : RoRel w g4 g6 A An R lo wr) (hb : Below wr.heap.size wr w') : RoRel w g4 g6 A An R lo w' := ⟨h.b4.bel hb, h.b6.bel hb, h.r.bel hb, bel_tr h.b hb⟩
set_option maxRecDepth 100000 in
set_option maxHeartbeats 40000000 in
theorem rpof_any (cs : Array Value) (hcs : cs.size = 3) (R : List Pol) (a : Ad) (w : World) (hRl : R.length ≤ 1000000) (hRows : ∀ w', Below w.heap.size w w' → Calls Tryd.prog 47 #[.agg cs] w' (PolsPost w' R)) :
    Calls Tryd.prog 15 #[.agg cs, .agg (adA a)] w (PolPost w (rofP a R)) := by
  have HRows := Lib.hid hRows
  have Hns := Lib.hid (show (Tryd.prog.info? 41).map (·.size) = some cs.size by rw [hcs]; exact net_size)
  have Hof : Hid (rofP a R = (dsc (fW (mpA a)) gW R 129).getD polD) := Lib.hid rfl
  clear hRows hcs
  generalize rofP a R = T at *
  go_enter Tryd.func15, Tryd.ntmps15
  go_wp2_with (first
    | ((with_reducible refine wpList_boxB (o := ⟨some 2, _, _, _, _, _⟩) rfl _ _ rfl rfl ?_); intro g2 w1 hg hB2 hb1 hs; have hg2 : w.heap.size ≤ g2 := Nat.le_of_eq hg.symm; clear hg hs)
    | ((with_reducible refine wpList_boxB (o := ⟨some 3, _, _, _, _, _⟩) rfl _ _ rfl rfl ?_); intro g3 w2 hg hB3 hb2 hs; have hB22 := hB2.bel hb2; have hb02 := bel_tr hb1 hb2; clear hg hs)
    | ((with_reducible refine wpList_allocPol (o := ⟨some 4, _, _, _, _, _⟩) rfl rfl ?_); intro g4 w3 hg hB4 hb3 hs; have hg4 : w2.heap.size ≤ g4 := Nat.le_of_eq hg.symm; have hB23 := hB22.bel hb3; have hB33 := hB3.bel hb3; have hb03 := bel_tr hb02 hb3; clear hg hs)
    | (with_reducible refine wpList_loadB (o := ⟨some 9, _, _, _, _, _⟩) rfl _ _ rfl rfl hB23 net_under rfl Hns.out ?_)
    | (go_at_call 47; refine (HRows.out _ hb03).mono ?_; rintro e w4 ⟨v8, rfl, ho8, hb4⟩; obtain ⟨A8, c8, rfl, hc8⟩ := (Sl.own ho8).any; have hr4 := PolRow.own ho8; have hB34 := hB33.bel hb4; have hB44 := hB4.bel hb4; have hb04 := bel_tr hb03 hb4; have hl4 := hB4.lt; clear ho8)
    | (with_reducible refine wpList_loadAd (o := ⟨some 11, _, _, _, _, _⟩) rfl _ rfl rfl hB34 ?_)
    | (go_at_call 16; refine (rmap_all a _).mono ?_; rintro e w5 ⟨rfl, hb5⟩; have hB45 := hB44.bel hb5; have hr5 := hr4.bel hb5; have hb05 := bel_tr hb04 hb5)
    | ((with_reducible refine wpList_allocAd (o := ⟨some 6, _, _, _, _, _⟩) rfl rfl ?_); intro g6 w6 hg hB6 hb6 hs; have hg6 : w5.heap.size ≤ g6 := Nat.le_of_eq hg.symm; have hB46 := hB45.bel hb6; clear hg hs)
    | ((with_reducible refine wpList_storeAd rfl (.tmp 6) _ rfl rfl rfl hB6 ?_); intro w7 hB67 hS7; have hb57 : Below w5.heap.size w5 w7 := hb6.trans (hS7.below hg6); have hB47 := hB45.bel hb57; have hr7 := hr5.bel hb57; have hb07 := bel_tr hb05 hb57))
  have hg4w : w.heap.size ≤ g4 := by have := hb02.size; omega
  generalize mpA a = A at *
  generalize w3.heap.size = lo at *
  have R0 : RoRel w g4 g6 A A8 R lo w7 := ⟨hB47, hB67, hr7, hb07⟩
  clear hB2 hB22 hB23 hB3 hB33 hB34 hB4 hB44 hB45 hB46 hB47 hB6 hB67 hr4 hr5 hr7 hb1 hb2 hb02 hb3 hb03 hb4 hb04 hb5 hb05 hb6 hb57 hb07 hS7 hg4 hg6 hl4 hg2 Hns HRows
  go_loopw [7, 8] (fun bv iv wr => ∃ (m : Nat) (z : Int), m ≤ 129 ∧ bv = .int .i64 z ∧ z = (m : Int) - 1 ∧ T = (dsc (fW A) gW R m).getD polD ∧ RoRel w g4 g6 A A8 R lo wr) (fun bv _ _ => (intOf bv + 1).toNat)
  case atStart => exact ⟨129, 128, by omega, rfl, by omega, Hof.out, R0⟩
  case round =>
    obtain ⟨m, z, hm, rfl, hz, hT, ro⟩ := hrel
    clear R0 Hof
    obtain ⟨wo, rfl⟩ : ∃ wo, wo = wr := ⟨_, rfl⟩
    rcases Nat.eq_zero_or_pos m with h0 | h0
    · subst h0
      have hT' := Lib.hid hT
      obtain rfl : z = -1 := by omega
      have r4 := ro.b4
      have HR := Lib.hid ro.b
      clear hz hT ro
      go_wp2_with (first
        | (with_reducible refine wpList_buildL rfl 35 _ rfl built_polD rfl ?_)
        | ((with_reducible refine wpList_storePol rfl (.tmp 4) _ rfl rfl rfl r4 ?_); intro wc hB4c hSc))
      exact ret_pol Tryd.results15 rfl hB4c rfl ⟨by rw [hT'.out]; rfl, HR.out.trans (hSc.below (by omega))⟩
    · obtain ⟨n, rfl⟩ : ∃ n, m = n + 1 := ⟨m - 1, by omega⟩
      have hzn : z = (n : Int) := by omega
      have z0 : (0 : Int) ≤ z := by omega
      have z1 : z ≤ 128 := by omega
      have hT1 : ∃ q, fnd (fW A) gW z R = q ∧ (∀ x, q = some x → T = x) ∧ (q = none → T = (dsc (fW A) gW R n).getD polD) := by
        refine ⟨_, rfl, fun x hx => ?_, fun hx => ?_⟩
        · rw [hT, dsc, ← hzn, hx]; rfl
        · rw [hT, dsc, ← hzn, hx]
      obtain ⟨q, hq, hq1, hq2⟩ := hT1
      have Hq1 := Lib.hid hq1
      have Hq2 := Lib.hid hq2
      have Hzn := Lib.hid hzn
      have hf0 : R.find? (hitP A z) = q := hq
      have Hf0 := Lib.hid hf0
      have RO := Lib.hid ro
      clear hz hT hq1 hq2 hzn hq hf0 ro
      go_wp2
      go_loopw [8] (fun iv wr => ∃ k : Nat, k ≤ R.length ∧ iv = .int .i64 k ∧ (R.drop k).find? (hitP A z) = q ∧ RoRel w g4 g6 A A8 R lo wr) (fun iv _ => R.length - (intOf iv).toNat)
      case atStart => exact ⟨0, by omega, rfl, by rw [List.drop_zero]; exact Hf0.out, RO.out⟩
      case round =>
        obtain ⟨k, hk, rfl, hfk, rr⟩ := hrel
        clear RO Hf0
        by_cases hlt : k < R.length
        · obtain ⟨b, off, rfl, hblo, hblt, hrg⟩ := rr.r k hlt
          have j0 : (k : Int) < (R.length : Int) := by omega
          rw [List.drop_eq_getElem_cons hlt, List.find?_cons] at hfk
          generalize hp : R[k] = p at *
          have HW : Hid (∀ w, Calls Tryd.prog 18 #[.agg (adA A), .agg (pfA p.pf)] w fun e w' => e = .returned (.bool (withB A p.pf)) ∧ Below w.heap.size w w') := Lib.hid (rwithin_any A p.pf)
          have hcs : ((p.pf.bits == z) = false ∧ (R.drop (k + 1)).find? (hitP A z) = q) ∨ ((p.pf.bits == z) = true ∧ withB A p.pf = false ∧ (R.drop (k + 1)).find? (hitP A z) = q) ∨ ((p.pf.bits == z) = true ∧ withB A p.pf = true ∧ some p = q) := by
            cases hb : p.pf.bits == z with
            | false =>
              left
              have : hitP A z p = false := by unfold hitP gW; rw [decide_eq_false (by simpa using hb)]; rfl
              rw [this] at hfk
              exact ⟨rfl, hfk⟩
            | true =>
              right
              cases hw : withB A p.pf with
              | false =>
                left
                have : hitP A z p = false := by unfold hitP fW; rw [hw, Bool.and_false]
                rw [this] at hfk
                exact ⟨rfl, rfl, hfk⟩
              | true =>
                right
                have : hitP A z p = true := by unfold hitP fW gW; rw [hw, decide_eq_true (by simpa using hb)]; rfl
                rw [this] at hfk
                exact ⟨rfl, rfl, hfk⟩
          clear hp hfk
          have hR6 := rr.b6.rangeAd
          have hRp := range_polPf hrg
          have c18 := hrg 18 _ (polL_18 p)
          have x18 := fun x : BelT wr => x.cell c18
          rcases hcs with ⟨i1, hn⟩ | ⟨i1, hw, hn⟩ | ⟨i1, hw, hn⟩
          · have Hn := Lib.hid hn
            clear hn c18
            go_wp2
            refine wp_region_bel (by kernel_rfl) (by kernel_rfl) ?_
            repeat (first
              | go_big_quiet_skip
              | (go_big_quiet_want; first
                  | ((with_reducible refine quiet_loadAd _ rfl rfl hR6 (by simp only [Act.put, List.setIfInBounds_toArray, List.set_cons_succ, List.set_cons_zero]; exact rfl) ?_); go_big_quiet_on)
                  | ((with_reducible refine quiet_loadPf _ rfl rfl hRp (by simp only [Act.put, List.setIfInBounds_toArray, List.set_cons_succ, List.set_cons_zero]; exact rfl) ?_); go_big_quiet_on)
                  | (go_big_quiet_op; first | go_big_quiet_on | go_big_quiet_call ((with_reducible refine bel_call (HW.out _))))))
            refine wpQuiet_nil ?_
            rintro _ ⟨x, rfl⟩
            have HX := Lib.hid (rr.bel x.bel)
            clear x18
            go_wp2
            go_roundw
            case rel => exact ⟨k + 1, by omega, by go_num, Hn.out, HX.out⟩
            case measure => simp [intOf]; omega
          · have Hn := Lib.hid hn
            rw [hw] at HW
            clear hw
            clear hn c18
            go_wp2
            refine wp_region_bel (by kernel_rfl) (by kernel_rfl) ?_
            repeat (first
              | go_big_quiet_skip
              | (go_big_quiet_want; first
                  | ((with_reducible refine quiet_loadAd _ rfl rfl hR6 (by simp only [Act.put, List.setIfInBounds_toArray, List.set_cons_succ, List.set_cons_zero]; exact rfl) ?_); go_big_quiet_on)
                  | ((with_reducible refine quiet_loadPf _ rfl rfl hRp (by simp only [Act.put, List.setIfInBounds_toArray, List.set_cons_succ, List.set_cons_zero]; exact rfl) ?_); go_big_quiet_on)
                  | (go_big_quiet_op; first | go_big_quiet_on | go_big_quiet_call ((with_reducible refine bel_call (HW.out _))))))
            refine wpQuiet_nil ?_
            rintro _ ⟨x, rfl⟩
            have HX := Lib.hid (rr.bel x.bel)
            clear x18
            go_wp2
            go_roundw
            case rel => exact ⟨k + 1, by omega, by go_num, Hn.out, HX.out⟩
            case measure => simp [intOf]; omega
          · have Hn := Lib.hid hn
            rw [hw] at HW
            clear hw
            clear hn c18
            go_wp2
            refine wp_region_bel (by kernel_rfl) (by kernel_rfl) ?_
            repeat (first
              | go_big_quiet_skip
              | (go_big_quiet_want; first
                  | ((with_reducible refine quiet_loadAd _ rfl rfl hR6 (by simp only [Act.put, List.setIfInBounds_toArray, List.set_cons_succ, List.set_cons_zero]; exact rfl) ?_); go_big_quiet_on)
                  | ((with_reducible refine quiet_loadPf _ rfl rfl hRp (by simp only [Act.put, List.setIfInBounds_toArray, List.set_cons_succ, List.set_cons_zero]; exact rfl) ?_); go_big_quiet_on)
                  | (go_big_quiet_op; first | go_big_quiet_on | go_big_quiet_call ((with_reducible refine bel_call (HW.out _))))))
            refine wpQuiet_nil ?_
            rintro _ ⟨x, rfl⟩
            have HX := Lib.hid (rr.bel x.bel)
            have r4 := HX.out.b4
            have hrg2 : x.at_.rangeAt b (off + k * 21) (polL p) := fun j v hv => x.cell (hrg j v hv)
            clear x18
            go_wp2_with (first
              | (with_reducible refine wpList_loadPolM (o := ⟨some 43, _, _, _, _, _⟩) rfl _ rfl rfl hrg2 ?_)
              | ((with_reducible refine wpList_storePol rfl (.tmp 4) _ rfl rfl rfl r4 ?_); intro wc hB4c hSc))
            exact ret_pol Tryd.results15 rfl hB4c rfl ⟨by rw [Hq1.out p Hn.out.symm], HX.out.b.trans (hSc.below (by omega))⟩
        · have hkR : k = R.length := by omega
          subst hkR
          have j0 : ¬ (R.length : Int) < (R.length : Int) := by omega
          rw [List.drop_length, List.find?_nil] at hfk
          have Hn := Lib.hid (Hq2.out hfk.symm)
          have RR := Lib.hid rr
          clear hfk rr
          go_wp2
          go_roundw
          case rel => exact ⟨n, z - 1, by omega, by go_num, by have := Hzn.out; omega, Hn.out, RR.out⟩
          case measure => simp [intOf]; omega
end Go.Proofs.YtgbdhfjblebeiaaDoor

/- PolicyPlain: the plain part; law36.same, law36.works. -/
namespace Go.Proofs.YtgbdhfjblebeiaaDoor
open Go.RowKit
attribute [local go_sem] ba_get ext_take ext_drop ext_any ba_app

theorem comF_setZ (a b : Ad) (z : Int) (h) : ∀ k i, comF (a.setZ z h) b k i = comF a b k i := by
  intro k
  induction k with
  | zero => intro i; rfl
  | succ k ih =>
    intro i
    rw [comF, comF, ih]
    rfl
theorem fW_setZ (a : Ad) (z : Int) (h) : fW (a.setZ z h) = fW a := by
  funext p
  unfold fW withB comA
  rw [comF_setZ]
  rfl
theorem plain_bits : ∀ y ∈ plainP, 0 ≤ gW y ∧ gW y < 129 := by
  intro y hy
  simp only [plainP, List.mem_cons, List.not_mem_nil, or_false] at hy
  rcases hy with rfl | rfl | rfl | rfl | rfl | rfl | rfl | rfl | rfl <;> decide
theorem pof_eq (a : Ad) : rofP a plainP = ofP a plainP := by
  unfold rofP ofP zerA
  rw [fW_setZ, dsc_bst (n := 129) (fun y hy _ => plain_bits y hy)]
theorem pof_most (a : Ad) : ∀ y ∈ plainP, withB (mpA a) y.pf = true → y.pf.bits ≤ (ofP a plainP).pf.bits := by
  intro y hy hw
  unfold ofP zerA
  rw [fW_setZ]
  have h := bst_St (fW (mpA a)) gW plainP
  cases ho : bst (fW (mpA a)) gW plainP with
  | none =>
    rw [ho] at h
    have := h y hy
    unfold fW at this
    rw [this] at hw
    cases hw
  | some x =>
    rw [ho] at h
    exact IsB.all h y hy hw
theorem com_0 (a : Ad) : comA (mapA a) al0 = 80 := by kernel_rfl
theorem com_1 (a : Ad) : comA (mapA a) al1 = 80 := by kernel_rfl
theorem com_m (a : Ad) : comA (mapA a) alm = comF (mapA a) alm 32 96 := by kernel_rfl
theorem wi_0 (a : Ad) : withB (mapA a) pl0.pf = false := by
  unfold withB
  rw [show pl0.pf.ad = al1 from rfl, com_1, show pl0.pf.bits = 128 from rfl]
  simp
theorem wi_6 (a : Ad) : withB (mapA a) pl6.pf = false := by
  unfold withB
  rw [show pl6.pf.ad = al0 from rfl, com_0, show pl6.pf.bits = 96 from rfl]
  simp
theorem wi_2 (a : Ad) : withB (mapA a) pl2.pf = true := by
  unfold withB
  have h := (comF_bd (mapA a) alm 32 96).1
  rw [show pl2.pf.ad = alm from rfl, com_m, show pl2.pf.bits = 96 from rfl, show chkP pl2.pf = 0 by decide +kernel]
  rw [decide_eq_true (by omega)]
  rfl
theorem pof_4 (a : Ad) (hf : a.fam = 4) : (ofP a plainP).lab = 4 := by
  have hm : mpA a = mapA a := by unfold mpA; rw [if_pos hf]
  unfold ofP zerA
  rw [fW_setZ, hm]
  have h := bst_St (fW (mapA a)) gW plainP
  have m2 : pl2 ∈ plainP := by simp [plainP]
  cases ho : bst (fW (mapA a)) gW plainP with
  | none =>
    rw [ho] at h
    have := h pl2 m2
    unfold fW at this
    rw [wi_2] at this
    cases this
  | some x =>
    rw [ho] at h
    have h96 := IsB.all h pl2 m2 (wi_2 a)
    have hb : (96 : Int) ≤ x.pf.bits := h96
    obtain ⟨hx, P, Q, hl, _, _⟩ := h
    have hxm : x ∈ plainP := by rw [hl]; simp
    simp only [plainP, List.mem_cons, List.not_mem_nil, or_false] at hxm
    rcases hxm with rfl | rfl | rfl | rfl | rfl | rfl | rfl | rfl | rfl
    · unfold fW at hx; rw [wi_0] at hx; cases hx
    · exact absurd hb (by decide)
    · rfl
    · exact absurd hb (by decide)
    · exact absurd hb (by decide)
    · exact absurd hb (by decide)
    · unfold fW at hx; rw [wi_6] at hx; cases hx
    · exact absurd hb (by decide)
    · exact absurd hb (by decide)
theorem pof_w : ofP w9a plainP = pl2 := by decide +kernel

structure SmRel (w : World) (A1 A2 : Option Addr) (l1 l2 : Nat) (wr : World) : Prop where
  r1 : PolRow wr A1 plainP l1
  r2 : PolRow wr A2 plainP l2
  b : Below w.heap.size w wr
theorem SmRel.bel {w wr w' : World} {A1 A2 : Option Addr} {l1 l2 : Nat} (h : SmRel w A1 A2 l1 l2 wr) (hb : Below wr.heap.size wr w') : SmRel w A1 A2 l1 l2 w' := ⟨h.r1.bel hb, h.r2.bel hb, bel_tr h.b hb⟩
set_option maxRecDepth 100000 in
set_option maxHeartbeats 4000000 in
theorem psame_any (A1 A2 : Option Addr) (c1 c2 l1 l2 : Nat) (w : World) (h1 : PolRow w A1 plainP l1) (h2 : PolRow w A2 plainP l2) :
    Calls Tryd.prog 45 #[.slice A1 9 c1, .slice A2 9 c2] w fun e w' => e = .returned (.bool true) ∧ Below w.heap.size w w' := by
  have R0 : SmRel w A1 A2 l1 l2 w := ⟨h1, h2, Below.refl _ _⟩
  clear h1 h2
  go_enter Tryd.func45, Tryd.ntmps45
  go_wp2
  go_loopw [5] (fun i wr => ∃ k : Nat, k ≤ 9 ∧ i = .int .i64 k ∧ SmRel w A1 A2 l1 l2 wr) (fun i _ => 9 - (intOf i).toNat)
  case atStart => exact ⟨0, by omega, rfl, R0⟩
  case round =>
    obtain ⟨k, hk, rfl, rr⟩ := hrel
    clear R0
    by_cases hlt : k < 9
    · have j0 : (k : Int) < 9 := by omega
      obtain ⟨b, off, rfl, hb1, hb2, hg1⟩ := rr.r1 k hlt
      obtain ⟨b', off', rfl, hb1', hb2', hg2⟩ := rr.r2 k hlt
      generalize plainP[k] = p at *
      have RR := Lib.hid rr
      clear rr
      go_wp2
      refine wp_region_bel (by kernel_rfl) (by kernel_rfl) ?_
      repeat (first
        | go_big_quiet_skip
        | (go_big_quiet_want; first
            | ((with_reducible refine quiet_loadPol _ rfl rfl hg1 (by simp only [Act.put, List.setIfInBounds_toArray, List.set_cons_succ, List.set_cons_zero]; exact rfl) ?_); go_big_quiet_on)
            | ((with_reducible refine quiet_loadPol _ rfl rfl hg2 (by simp only [Act.put, List.setIfInBounds_toArray, List.set_cons_succ, List.set_cons_zero]; exact rfl) ?_); go_big_quiet_on)
            | ((with_reducible refine quiet_neqPol (r := false) _ _ rfl rfl rfl (by simp) (by simp only [Act.put, List.setIfInBounds_toArray, List.set_cons_succ, List.set_cons_zero]; exact rfl) ?_); go_big_quiet_on)
            | (go_big_quiet_op; go_big_quiet_on)))
      refine wpQuiet_nil ?_
      rintro _ ⟨x, rfl⟩
      have HX := Lib.hid (RR.out.bel x.bel)
      go_wp2
      go_roundw
      case rel => exact ⟨k + 1, by omega, by go_num, HX.out⟩
      case measure => simp [intOf]; omega
    · have hk9 : k = 9 := by omega
      subst hk9
      have j0 : ¬ ((9 : Nat) : Int) < 9 := by omega
      have HR := Lib.hid rr.b
      clear rr
      go_wp2
      go_ret
      exact ⟨rfl, HR.out⟩
theorem rof_w9 (w : World) : Calls Tryd.prog 40 #[.int .i64 192, .int .i64 0, .int .i64 2, .int .i64 1] w (AdPost w w9a) := rof_any 192 0 2 1 w
theorem pof_net {w : World} (a : Ad) (ht : Tab w) (hm : MaxI w) : Calls Tryd.prog 13 #[.agg net0, .agg (adA a)] w (PolPost w (ofP a plainP)) :=
  pof_any net0 rfl plainP a w (by decide) fun w' hb => prows0_any w' (ht.below hb) (hm.below hb)
theorem rpof_net {w : World} (a : Ad) : Calls Tryd.prog 15 #[.agg net0, .agg (adA a)] w (PolPost w (ofP a plainP)) := by
  rw [← pof_eq]
  exact rpof_any net0 rfl plainP a w (by decide) fun w' hb => rprows0_any w'
def PlsPost (w : World) (e : Ending) (w' : World) : Prop := ∃ A c, e = .returned (.slice A 9 c) ∧ 9 ≤ c ∧ PolRow w' A plainP w.heap.size ∧ Below w.heap.size w w'
theorem PolsPost.row {w w' : World} {e : Ending} (h : PolsPost w plainP e w') : PlsPost w e w' := by
  obtain ⟨v, rfl, ho, hb⟩ := h
  obtain ⟨A, c, rfl, hc⟩ := (Sl.own ho).any
  exact ⟨A, c, rfl, hc, PolRow.own ho, hb⟩
set_option maxRecDepth 100000 in
set_option maxHeartbeats 4000000 in
theorem works36_any (w : World) (ht : Tab w) (hm : MaxI w) : Calls Tryd.prog 14 #[] w fun e w' => e = .returned (.bool true) ∧ Below w.heap.size w w' := by
  have Ht := Lib.hid ht
  have Hm := Lib.hid hm
  clear ht hm
  go_enter Tryd.func14, Tryd.ntmps14
  go_wp2_with (first
    | (with_reducible refine wpList_buildL rfl 41 _ rfl built_net0 rfl ?_)
    | (go_at_call 40; refine (rof_w9 _).mono ?_; rintro e w1 ⟨rfl, hb1⟩)
    | (go_at_call 13; refine (pof_net w9a (Ht.out.below hb1) (Hm.out.below hb1)).mono ?_; rintro e w2 ⟨rfl, hb2⟩; rw [pof_w]; have hb02 := bel_tr hb1 hb2)
    | ((with_reducible refine wpList_allocPol (o := ⟨some 1, _, _, _, _, _⟩) rfl rfl ?_); intro g1 w3 hg hB1 hb3 hs; have hg1 : w2.heap.size ≤ g1 := Nat.le_of_eq hg.symm; clear hg hs)
    | ((with_reducible refine wpList_storePol rfl (.tmp 1) _ rfl rfl rfl hB1 ?_); intro w4 hB14 hS4; have hb04 := bel_tr hb02 (hb3.trans (hS4.below hg1))
       have c19 : w4.cell? ⟨g1, 19, none⟩ = some (.int .i64 35) := hB14.cell 19
       have c20 : w4.cell? ⟨g1, 20, none⟩ = some (.int .i64 4) := hB14.cell 20)
    | (go_at_call 46; refine (polplain_any _ (Ht.out.below hb04) (Hm.out.below hb04)).mono ?_; intro e w5 h5; obtain ⟨A5, c5, rfl, hc5, hr5, hb5⟩ := PolsPost.row h5; have hb05 := bel_tr hb04 hb5; clear h5)
    | (go_at_call 17; refine (rpolplain_any _).mono ?_; intro e w6 h6; obtain ⟨A6, c6, rfl, hc6, hr6, hb6⟩ := PolsPost.row h6; have hb06 := bel_tr hb05 hb6; have hr56 := hr5.bel hb6; clear h6)
    | (go_at_call 45; refine (psame_any A5 A6 c5 c6 _ _ _ hr56 hr6).mono ?_; rintro e w7 ⟨rfl, hb7⟩; have hb07 := bel_tr hb06 hb7))
  go_ret
  exact ⟨rfl, hb07⟩
end Go.Proofs.YtgbdhfjblebeiaaDoor

/- The walk of PolicyPlain. -/
namespace Go.Proofs.YtgbdhfjblebeiaaDoor
open Go.RowKit
attribute [local go_sem] ba_get ext_take ext_drop ext_any ba_app

theorem quiet_buildL {w : World} {o : Oper} {a a' : Act} {K : Act → Prop} (t : TypeId) (l : List (Nat × Operand)) (ho : o.op = .build t l.toArray)
    {vals : List (Nat × Value)} {cs : Array Value} (hb : Tryd.prog.built t vals = some cs) (hv : l.map (fun p => (p.1, a.eval p.2)) = vals)
    (ha : a.put o.dst (.agg cs) = a') (hk : K a') : o.quiet Tryd.prog a (fun w' => ∃ y : BelT w, w' = y.at_) K := by
  subst ha hv
  refine ⟨_, ?_, hk⟩
  rintro _ ⟨y, rfl⟩
  have hb' : Tryd.prog.built t (l.toArray.map fun (i, x) => (i, a.eval x)).toList = some cs := by rw [← hb]; simp
  unfold Oper.quietAt execOp
  simp only [ho, Sem.run_bind, run_build y.at_ t _ cs hb', Result.andThen_ok]
  exact ⟨rfl, rfl⟩
structure PpRel (w : World) (a A : Ad) (P : Pol) (g1 g3 g4 : Nat) (An : Option Addr) (lo : Nat) (wr : World) : Prop where
  b1 : Bk wr g1 25 (adA a)
  b3 : Bk wr g3 35 (polA P)
  b4 : Bk wr g4 25 (adA A)
  r : PolRow wr An plainP lo
  b : Below w.heap.size w wr
theorem PpRel.bel {w wr w' : World} {a A : Ad} {P : Pol} {g1 g3 g4 lo : Nat} {An : Option Addr} (h : PpRel w a A P g1 g3 g4 An lo wr) (hb : Below wr.heap.size wr w') : PpRel w a A P g1 g3 g4 An lo w' := ⟨h.b1.bel hb, h.b3.bel hb, h.b4.bel hb, h.r.bel hb, bel_tr h.b hb⟩
set_option maxRecDepth 100000 in
set_option maxHeartbeats 40000000 in
theorem policyPlain_walk (w : World) (ht : Tab w) (hm : MaxI w) (a : Ad) : Calls Tryd.prog 5 #[.agg (adA a)] w (Good w) := by
  have Ht := Lib.hid ht
  have Hm := Lib.hid hm
  clear ht hm
  have Hmost := Lib.hid (pof_most a)
  have Hlab := Lib.hid (pof_4 a)
  have HP : Hid (∀ w, Tab w → MaxI w → Calls Tryd.prog 13 #[.agg net0, .agg (adA a)] w (PolPost w (ofP a plainP))) := Lib.hid fun w ht hm => pof_net a ht hm
  have HQ : Hid (∀ w, Calls Tryd.prog 15 #[.agg net0, .agg (adA a)] w fun e w' => e = .returned (.agg (polA (ofP a plainP))) ∧ Below w.heap.size w w') := Lib.hid fun w => rpof_net a
  generalize ofP a plainP = P at *
  go_enter Tryd.func5, Tryd.ntmps5
  go_wp2_with (first
    | ((with_reducible refine wpList_boxB rfl _ _ rfl rfl ?_); intro g1 w1 hg hB1 hb1 hs; clear hg hs)
    | (with_reducible refine wpList_buildL rfl 41 _ rfl built_net0 rfl ?_)
    | (with_reducible refine wpList_loadAd (o := ⟨some 8, _, _, _, _, _⟩) rfl _ rfl rfl hB1 ?_)
    | (go_at_call 13; refine (HP.out _ (Ht.out.below hb1) (Hm.out.below hb1)).mono ?_; rintro e w2 ⟨rfl, hb2⟩; have hb02 := bel_tr hb1 hb2; have hB12 := hB1.bel hb2)
    | ((with_reducible refine wpList_allocPol (o := ⟨some 3, _, _, _, _, _⟩) rfl rfl ?_); intro g3 w3 hg hB3 hb3 hs; have hg3 : w2.heap.size ≤ g3 := Nat.le_of_eq hg.symm; clear hg hs)
    | ((with_reducible refine wpList_storePol rfl (.tmp 3) _ rfl rfl rfl hB3 ?_); intro w4 hB34 hS4; have hb24 : Below w2.heap.size w2 w4 := hb3.trans (hS4.below hg3); have hb04 := bel_tr hb02 hb24; have hB14 := hB12.bel hb24))
  have hR1 := hB14.rangeAd
  have hR3 := hB34.rangePol
  have HWk : Hid (∀ x : BelT w4, Calls Tryd.prog 14 #[] x.at_ fun e w' => e = .returned (.bool true) ∧ Below x.at_.heap.size x.at_ w') := Lib.hid fun x => works36_any _ (Ht.out.below (bel_tr hb04 x.bel)) (Hm.out.below (bel_tr hb04 x.bel))
  clear hB1 hB12 hB3 hb1 hb2 hb02 hb3 hb24 hS4 hg3
  simp only [Act.put, List.setIfInBounds_toArray, List.set_cons_succ, List.set_cons_zero]
  refine wp_region_bel (by kernel_rfl) (by kernel_rfl) ?_
  repeat (first
    | go_big_quiet_skip
    | (go_big_quiet_want; first
        | ((with_reducible refine quiet_loadAd _ rfl rfl hR1 (by simp only [Act.put, List.setIfInBounds_toArray, List.set_cons_succ, List.set_cons_zero]; exact rfl) ?_); go_big_quiet_on)
        | ((with_reducible refine quiet_loadPol _ rfl rfl hR3 (by simp only [Act.put, List.setIfInBounds_toArray, List.set_cons_succ, List.set_cons_zero]; exact rfl) ?_); go_big_quiet_on)
        | ((with_reducible refine quiet_buildL 41 [] rfl built_net0 rfl (by simp only [Act.put, List.setIfInBounds_toArray, List.set_cons_succ, List.set_cons_zero]; exact rfl) ?_); go_big_quiet_on)
        | ((with_reducible refine quiet_neqPol (r := false) _ _ rfl rfl rfl (by simp) (by simp only [Act.put, List.setIfInBounds_toArray, List.set_cons_succ, List.set_cons_zero]; exact rfl) ?_); go_big_quiet_on)
        | (go_big_quiet_op; first | go_big_quiet_on | go_big_quiet_call ((with_reducible refine bel_call (HWk.out _))) | go_big_quiet_call ((with_reducible refine bel_call (HQ.out _))))))
  refine wpQuiet_nil ?_
  rintro _ ⟨x, rfl⟩
  have hX1 := hB14.bel x.bel
  have hX3 := hB34.bel x.bel
  have hbx := bel_tr hb04 x.bel
  clear hR1 hR3 hB14 hB34 hb04
  go_wp2_with (first
    | (with_reducible refine wpList_loadAd (o := ⟨some 19, _, _, _, _, _⟩) rfl _ rfl rfl hX1 ?_)
    | (go_at_call 16; refine (rmap_all a _).mono ?_; rintro e w5 ⟨rfl, hb5⟩; have hX15 := hX1.bel hb5; have hX35 := hX3.bel hb5; have hb05 := bel_tr hbx hb5)
    | ((with_reducible refine wpList_allocAd (o := ⟨some 4, _, _, _, _, _⟩) rfl rfl ?_); intro g4 w6 hg hB4 hb6 hs; have hg4 : w5.heap.size ≤ g4 := Nat.le_of_eq hg.symm; clear hg hs)
    | ((with_reducible refine wpList_storeAd rfl (.tmp 4) _ rfl rfl rfl hB4 ?_); intro w7 hB47 hS7; have hb57 : Below w5.heap.size w5 w7 := hb6.trans (hS7.below hg4); have hX17 := hX15.bel hb57; have hX37 := hX35.bel hb57; have hb07 := bel_tr hb05 hb57)
    | (go_at_call 17; refine (rpolplain_any _).mono ?_; intro e w8 h8; obtain ⟨A8, c8, rfl, hc8, hr8, hb8⟩ := PolsPost.row h8; have hR0 : PpRel w a (mpA a) P g1 g3 g4 A8 _ w8 := ⟨hX17.bel hb8, hX37.bel hb8, hB47.bel hb8, hr8, bel_tr hb07 hb8⟩; clear h8 hr8))
  generalize w7.heap.size = lo at *
  have R0 := hR0
  clear hR0 hX1 hX3 hbx hX15 hX35 hb05 hB4 hb6 hS7 hb57 hX17 hX37 hb07 hB47 hg4
  generalize mpA a = A at *
  go_loopw [6] (fun i wr => ∃ k : Nat, k ≤ 9 ∧ i = .int .i64 k ∧ PpRel w a A P g1 g3 g4 A8 lo wr) (fun i _ => 9 - (intOf i).toNat)
  case atStart => exact ⟨0, by omega, rfl, R0⟩
  case round =>
    obtain ⟨k, hk, rfl, rr⟩ := hrel
    clear R0
    by_cases hlt : k < 9
    · have j0 : (k : Int) < 9 := by omega
      obtain ⟨b, off, rfl, hb1, hb2, hrg⟩ := rr.r k hlt
      have hmem : plainP[k]'hlt ∈ plainP := List.getElem_mem hlt
      have hmo := Hmost.out _ hmem
      clear hmem
      generalize plainP[k]'hlt = p at *
      have hR4 := rr.b4.rangeAd
      have hRp := range_polPf hrg
      have c18 := hrg 18 _ (polL_18 p)
      have x18 := fun x : BelT wr => x.cell c18
      have d18 := rr.b3.cell 18
      rw [polA_18] at d18
      have y18 := fun x : BelT wr => x.cell d18
      have RR := Lib.hid rr
      have HW : Hid (∀ w, Calls Tryd.prog 18 #[.agg (adA A), .agg (pfA p.pf)] w fun e w' => e = .returned (.bool (withB A p.pf)) ∧ Below w.heap.size w w') := Lib.hid (rwithin_any A p.pf)
      clear rr c18 d18
      have hcs : (withB A p.pf = false) ∨ (withB A p.pf = true ∧ decide (P.pf.bits < p.pf.bits) = false) := by
        cases hw : withB A p.pf with
        | false => exact .inl rfl
        | true => have := hmo hw; exact .inr ⟨rfl, decide_eq_false (by omega)⟩
      clear hmo
      rcases hcs with hw | ⟨hw, i1⟩
      all_goals
        rw [hw] at HW
        clear hw
        go_wp2
        refine wp_region_bel (by kernel_rfl) (by kernel_rfl) ?_
        repeat (first
          | go_big_quiet_skip
          | (go_big_quiet_want; first
              | ((with_reducible refine quiet_loadAd _ rfl rfl hR4 (by simp only [Act.put, List.setIfInBounds_toArray, List.set_cons_succ, List.set_cons_zero]; exact rfl) ?_); go_big_quiet_on)
              | ((with_reducible refine quiet_loadPf _ rfl rfl hRp (by simp only [Act.put, List.setIfInBounds_toArray, List.set_cons_succ, List.set_cons_zero]; exact rfl) ?_); go_big_quiet_on)
              | (go_big_quiet_op; first | go_big_quiet_on | go_big_quiet_call ((with_reducible refine bel_call (HW.out _))))))
        refine wpQuiet_nil ?_
        rintro _ ⟨x, rfl⟩
        have HX := Lib.hid (RR.out.bel x.bel)
        clear x18 y18
        go_wp2
        go_roundw
        case rel => exact ⟨k + 1, by omega, by go_num, HX.out⟩
        case measure => simp [intOf]; omega
    · have hk9 : k = 9 := by omega
      subst hk9
      have j0 : ¬ ((9 : Nat) : Int) < 9 := by omega
      have c0 := rr.b1.cell 0
      rw [adA_0] at c0
      have c20 := rr.b3.cell 20
      rw [polA_20] at c20
      have HR := Lib.hid rr.b
      clear rr
      by_cases hf : a.fam = 4
      · have i1 : (a.fam != 4) = false := by simp [hf]
        have i2 : (P.lab == 4) = true := by simp [Hlab.out hf]
        clear hf
        go_wp2
        go_ret
        exact ⟨rfl, HR.out⟩
      · have i1 : (a.fam != 4) = true := by simpa using hf
        clear hf
        go_wp2
        go_ret
        exact ⟨rfl, HR.out⟩
end Go.Proofs.YtgbdhfjblebeiaaDoor
