/- Contracts and plain lemmas of our own, merged. -/
import Derived.Test.YthlnndjkocnfcaaGreatDoorZZDS1
import Derived.Test.YthlnndjkocnfcaaGreatDoorZZDS10
import Derived.Test.YthlnndjkocnfcaaGreatDoorZZDS12
import Derived.Test.YthlnndjkocnfcaaGreatDoorZZDS13
import Derived.Test.YthlnndjkocnfcaaGreatDoorZZDS21
import Derived.Test.YthlnndjkocnfcaaGreatDoorZZDS23
import Derived.Test.YthlnndjkocnfcaaGreatDoorZZDS24
/- Policies: the rows of the policy table as values of twenty-one cells, with their laws. -/
namespace Go.Proofs.YthlnndjkocnfcaaGreatDoor
open Go.RowKit

theorem Pf.same_iff {a b : Pf} : (a.ad = b.ad ∧ a.bits = b.bits) ↔ a = b := ⟨fun ⟨h1, h2⟩ => by cases a; cases b; simp only at h1 h2; subst h1 h2; rfl, fun h => by rw [h]; exact ⟨rfl, rfl⟩⟩
instance : DecidableEq Pf := fun _ _ => decidable_of_iff _ Pf.same_iff
structure Pol where
  pf : Pf
  prec : Int
  lab : Int
  ok : (-9223372036854775808 ≤ prec ∧ prec ≤ 9223372036854775807) ∧ (-9223372036854775808 ≤ lab ∧ lab ≤ 9223372036854775807)
theorem Pol.same_iff {a b : Pol} : (a.pf = b.pf ∧ a.prec = b.prec ∧ a.lab = b.lab) ↔ a = b := ⟨fun ⟨h1, h2, h3⟩ => by cases a; cases b; simp only at h1 h2 h3; subst h1 h2 h3; rfl, fun h => by rw [h]; exact ⟨rfl, rfl, rfl⟩⟩
instance : DecidableEq Pol := fun _ _ => decidable_of_iff _ Pol.same_iff
def polL (p : Pol) : List Value := pfL p.pf ++ [.int .i64 p.prec, .int .i64 p.lab]
def polA (p : Pol) : Array Value := (polL p).toArray
theorem polL_len (p : Pol) : (polL p).length = 21 := by unfold polL; rw [List.length_append, pfL_len]; rfl
theorem polA_size (p : Pol) : (polA p).size = 21 := by unfold polA; rw [List.size_toArray, polL_len]
theorem polL_pf (p : Pol) {i : Nat} (h : i < 19) : (polL p)[i]? = (pfL p.pf)[i]? := by unfold polL; rw [List.getElem?_append_left (by rw [pfL_len]; exact h)]
theorem polL_0 (p : Pol) : (polL p)[0]? = some (.int .i64 p.pf.ad.fam) := rfl
theorem polL_18 (p : Pol) : (polL p)[18]? = some (.int .i64 p.pf.bits) := by rw [polL_pf p (by omega)]; unfold pfL; rw [List.getElem?_append_right (by rw [adL_len]; omega), adL_len]; rfl
theorem polL_19 (p : Pol) : (polL p)[19]? = some (.int .i64 p.prec) := by unfold polL; rw [List.getElem?_append_right (by rw [pfL_len]; omega), pfL_len]; rfl
theorem polL_20 (p : Pol) : (polL p)[20]? = some (.int .i64 p.lab) := by unfold polL; rw [List.getElem?_append_right (by rw [pfL_len]; omega), pfL_len]; rfl
theorem polA_0 (p : Pol) : (polA p)[0]? = some (.int .i64 p.pf.ad.fam) := by unfold polA; rw [List.getElem?_toArray]; exact polL_0 p
theorem polA_18 (p : Pol) : (polA p)[18]? = some (.int .i64 p.pf.bits) := by unfold polA; rw [List.getElem?_toArray]; exact polL_18 p
theorem polA_19 (p : Pol) : (polA p)[19]? = some (.int .i64 p.prec) := by unfold polA; rw [List.getElem?_toArray]; exact polL_19 p
theorem polA_20 (p : Pol) : (polA p)[20]? = some (.int .i64 p.lab) := by unfold polA; rw [List.getElem?_toArray]; exact polL_20 p
theorem polL_one (p : Pol) : ∀ v ∈ polL p, v.oneCell' = true := by
  intro v hv
  unfold polL at hv
  rw [List.mem_append] at hv
  rcases hv with hv | hv
  · exact pfL_one p.pf v hv
  · simp at hv; rcases hv with rfl | rfl <;> rfl
theorem polA_one (p : Pol) : (polA p).all (·.oneCell') = true := all_oneCell_toArray (polL_one p)
theorem pfA_one (p : Pf) : (pfA p).all (·.oneCell') = true := all_oneCell_toArray (pfL_one p)
theorem Bk.rangePolPf {w : World} {g : Nat} {t : TypeId} {p : Pol} (h : Bk w g t (polA p)) : w.rangeAt g 0 (pfL p.pf) := h.rangeL (cs := polL p) 0 (pfL p.pf) [.int .i64 p.prec, .int .i64 p.lab] rfl
theorem range_polPf {w : World} {g off : Nat} {p : Pol} (h : w.rangeAt g off (polL p)) : w.rangeAt g off (pfL p.pf) := fun j v hv => by
  refine h j v ?_
  have hj := (List.getElem?_eq_some_iff.1 hv).1
  rw [pfL_len] at hj
  rw [polL_pf p hj]
  exact hv
theorem pol_under : Tryz.prog.underlying 56 = some (.struct (Tryz.prog.fieldsOf 56)) := by kernel_rfl
theorem pol_size : (Tryz.prog.info? 56).map (·.size) = some 21 := by kernel_rfl
theorem pol_size' (p : Pol) : (Tryz.prog.info? 56).map (·.size) = some (polA p).size := by rw [polA_size]; exact pol_size
def pf0 : Pf := ⟨ad0, 0, by decide⟩
def pol0 : Pol := ⟨pf0, 0, 0, by decide⟩
theorem pol_zero : ZeroIs Tryz.prog 56 (polA pol0) := by unfold ZeroIs; kernel_rfl
theorem elt_pols : Elt Tryz.prog 24 56 21 56 := Elt.mk' (z := .agg (polA pol0)) Tryz.underlying24 (by kernel_rfl) (by kernel_rfl) (by decide)

/-! ### built -/
theorem built_pf (a : Ad) (z : Int) (h : -9223372036854775808 ≤ z ∧ z ≤ 9223372036854775807) : Tryz.prog.built 44 [(0, .agg (adA a)), (1, .int .i64 z)] = some (pfA ⟨a, z, h⟩) := by
  obtain ⟨fam, ip, zone, ok⟩ := a
  obtain ⟨c0, c1, c2, c3, c4, c5, c6, c7, c8, c9, c10, c11, c12, c13, c14, c15, rfl⟩ := len16 ok.1
  kernel_rfl
theorem built_pol (p : Pf) (x y : Int) (h : (-9223372036854775808 ≤ x ∧ x ≤ 9223372036854775807) ∧ (-9223372036854775808 ≤ y ∧ y ≤ 9223372036854775807)) : Tryz.prog.built 56 [(0, .agg (pfA p)), (1, .int .i64 x), (2, .int .i64 y)] = some (polA ⟨p, x, y, h⟩) := by
  obtain ⟨⟨fam, ip, zone, ok⟩, bits, okb⟩ := p
  obtain ⟨c0, c1, c2, c3, c4, c5, c6, c7, c8, c9, c10, c11, c12, c13, c14, c15, rfl⟩ := len16 ok.1
  kernel_rfl
def polD : Pol := ⟨pf0, 40, 1, by decide⟩
theorem built_polD : Tryz.prog.built 56 [(1, .int .i64 40), (2, .int .i64 1)] = some (polA polD) := by kernel_rfl

/-! ### single operations -/
theorem wpList_allocPol {w : World} {ops : Array Oper} {rest : List Oper} {o : Oper} {a : Act} {Q : Exit → Act → World → Prop} (hgd : o.guard = none) (ho : o.op = .alloc 56)
    (h : ∀ g w', g = w.heap.size → Bk w' g 56 (polA pol0) → Below w.heap.size w w' → w'.heap.size = g + 1 → wpList Tryz.prog ops Q rest (a.put o.dst (.pointer (some ⟨g, 0, none⟩))) w') : wpList Tryz.prog ops Q (o :: rest) a w :=
  wpList_allocZ hgd _ ho pol_zero h
theorem wpList_loadPol {w : World} {ops : Array Oper} {rest : List Oper} {o : Oper} {a : Act} {Q : Exit → Act → World → Prop} (hgd : o.guard = none) (x : Operand) (ho : o.op = .load 56 x) {g : Nat} (hx : a.eval x = .pointer (some ⟨g, 0, none⟩))
    {t : TypeId} {b : Pol} (hB : Bk w g t (polA b)) (h : wpList Tryz.prog ops Q rest (a.put o.dst (.agg (polA b))) w) : wpList Tryz.prog ops Q (o :: rest) a w :=
  wpList_loadB hgd _ x ho hx hB pol_under rfl (pol_size' b) h
theorem wpList_storePol {w : World} {ops : Array Oper} {rest : List Oper} {o : Oper} {a : Act} {Q : Exit → Act → World → Prop} (hgd : o.guard = none) (x y : Operand) (ho : o.op = .store 56 x y) {g : Nat} {b c : Pol} (hx : a.eval x = .pointer (some ⟨g, 0, none⟩)) (hy : a.eval y = .agg (polA b))
    {t : TypeId} (hB : Bk w g t (polA c)) (h : ∀ w', Bk w' g t (polA b) → Stays g w w' → wpList Tryz.prog ops Q rest (a.put o.dst undef) w') : wpList Tryz.prog ops Q (o :: rest) a w :=
  wpList_storeB hgd _ x y ho hx hy hB (pol_size' b) (by rw [polA_size, polA_size]) (polA_one b) h
/-- a policy, a prefix in the midst of a block. -/
theorem wpList_loadPolM {w : World} {ops : Array Oper} {rest : List Oper} {o : Oper} {a : Act} {Q : Exit → Act → World → Prop} (hgd : o.guard = none) (x : Operand) (ho : o.op = .load 56 x) {g off : Nat} (hx : a.eval x = .pointer (some ⟨g, off, none⟩))
    {b : Pol} (hB : w.rangeAt g off (polL b)) (h : wpList Tryz.prog ops Q rest (a.put o.dst (.agg (polA b))) w) : wpList Tryz.prog ops Q (o :: rest) a w :=
  wpList_load_mid hgd _ x ho g off hx (polL b) _ hB pol_under rfl (by rw [polL_len]; exact pol_size) h
theorem wpList_loadPfM {w : World} {ops : Array Oper} {rest : List Oper} {o : Oper} {a : Act} {Q : Exit → Act → World → Prop} (hgd : o.guard = none) (x : Operand) (ho : o.op = .load 44 x) {g off : Nat} (hx : a.eval x = .pointer (some ⟨g, off, none⟩))
    {b : Pf} (hB : w.rangeAt g off (pfL b)) (h : wpList Tryz.prog ops Q rest (a.put o.dst (.agg (pfA b))) w) : wpList Tryz.prog ops Q (o :: rest) a w :=
  wpList_load_mid hgd _ x ho g off hx (pfL b) _ hB pf_under2 rfl (by rw [pfL_len]; exact pf_size2) h

/-! ### equality -/
/-! ### in a region that draws its order -/
end Go.Proofs.YthlnndjkocnfcaaGreatDoor

/- The plain policy table: policy.row, policy.Plain. -/
namespace Go.Proofs.YthlnndjkocnfcaaGreatDoor
open Go.RowKit
attribute [local go_sem] ba_get ext_take ext_drop ext_any ba_app

theorem ret_pol {fn : Func} {p : Tmp} (h : fn.results = #[.cell p 56]) {R : Ending → World → Prop} {a : Act} {w : World} {g : Nat} {t : TypeId} {b : Pol}
    (hp : a.tmps.getD p undef = .pointer (some ⟨g, 0, none⟩)) (hB : Bk w g t (polA b)) (hd : a.defers = []) (hR : R (.returned (.agg (polA b))) w) : bodyPost Tryz.prog fn R .ret a w :=
  bodyPost_ret_by (results_cell_row h a.tmps w g t (polA b) (0, 0) _ hp hB pol_under rfl (pol_size' b)) hd hR
def mk6 (l : List UInt8) (h : l.length = 16) : Ad := ⟨6, l, 0, h, by decide, by decide⟩
def al1 : Ad := mk6 [0, 0, 0, 0, 0, 0, 0, 0, 0, 0, 0, 0, 0, 0, 0, 1] rfl
def al0 : Ad := mk6 [0, 0, 0, 0, 0, 0, 0, 0, 0, 0, 0, 0, 0, 0, 0, 0] rfl
def alm : Ad := mk6 [0, 0, 0, 0, 0, 0, 0, 0, 0, 0, 255, 255, 0, 0, 0, 0] rfl
def al2 : Ad := mk6 [32, 2, 0, 0, 0, 0, 0, 0, 0, 0, 0, 0, 0, 0, 0, 0] rfl
def alt : Ad := mk6 [32, 1, 0, 0, 0, 0, 0, 0, 0, 0, 0, 0, 0, 0, 0, 0] rfl
def alf : Ad := mk6 [252, 0, 0, 0, 0, 0, 0, 0, 0, 0, 0, 0, 0, 0, 0, 0] rfl
def als : Ad := mk6 [254, 192, 0, 0, 0, 0, 0, 0, 0, 0, 0, 0, 0, 0, 0, 0] rfl
def al3 : Ad := mk6 [63, 254, 0, 0, 0, 0, 0, 0, 0, 0, 0, 0, 0, 0, 0, 0] rfl
theorem cp1 : colP [58, 58, 49] = .inr al1 := by decide +kernel
theorem cp0 : colP [58, 58] = .inr al0 := by decide +kernel
theorem cpm : colP [58, 58, 102, 102, 102, 102, 58, 48, 58, 48] = .inr alm := by decide +kernel
theorem cp2 : colP [50, 48, 48, 50, 58, 58] = .inr al2 := by decide +kernel
theorem cpt : colP [50, 48, 48, 49, 58, 58] = .inr alt := by decide +kernel
theorem cpf : colP [102, 99, 48, 48, 58, 58] = .inr alf := by decide +kernel
theorem cps : colP [102, 101, 99, 48, 58, 58] = .inr als := by decide +kernel
theorem cp3 : colP [51, 102, 102, 101, 58, 58] = .inr al3 := by decide +kernel
def pl0 : Pol := ⟨⟨al1, 128, by decide⟩, 50, 0, by decide⟩
def pl1 : Pol := ⟨⟨al0, 0, by decide⟩, 40, 1, by decide⟩
def pl2 : Pol := ⟨⟨alm, 96, by decide⟩, 35, 4, by decide⟩
def pl3 : Pol := ⟨⟨al2, 16, by decide⟩, 30, 2, by decide⟩
def pl4 : Pol := ⟨⟨alt, 32, by decide⟩, 5, 5, by decide⟩
def pl5 : Pol := ⟨⟨alf, 7, by decide⟩, 3, 13, by decide⟩
def pl6 : Pol := ⟨⟨al0, 96, by decide⟩, 1, 3, by decide⟩
def pl7 : Pol := ⟨⟨als, 10, by decide⟩, 1, 11, by decide⟩
def pl8 : Pol := ⟨⟨al3, 16, by decide⟩, 1, 12, by decide⟩
def plainP : List Pol := [pl0, pl1, pl2, pl3, pl4, pl5, pl6, pl7, pl8]
/-- what is kept from call to call. -/
structure PRowInv (w0 w : World) : Prop where
  t : Tab w
  m : MaxI w
  b : Below w0.heap.size w0 w
def PRowPost (w0 : World) (p : Pol) (e : Ending) (w' : World) : Prop := e = .returned (.agg (polA p)) ∧ PRowInv w0 w'
theorem PRowInv.bel {w0 w w' : World} (h : PRowInv w0 w) (k : Below w.heap.size w w') : PRowInv w0 w' := ⟨h.t.below k, h.m.below k, bel_tr h.b k⟩
set_option maxRecDepth 100000 in
set_option maxHeartbeats 1000000 in
theorem polrow_any {w0 w : World} {s : List UInt8} {x : Ad} {b p l : Int} (hb : -9223372036854775808 ≤ b ∧ b ≤ 9223372036854775807) (hp : (-9223372036854775808 ≤ p ∧ p ≤ 9223372036854775807) ∧ (-9223372036854775808 ≤ l ∧ l ≤ 9223372036854775807)) (hs : s.length ≤ 1000000000) (h : colP s = .inr x) (hi : PRowInv w0 w) :
    Calls Tryz.prog 76 #[.string ⟨s.toArray⟩, .int .i64 b, .int .i64 p, .int .i64 l] w (PRowPost w0 ⟨⟨x, b, hb⟩, p, l, hp⟩) := by
  have Hi := Lib.hid hi
  have H := Lib.hid h
  have H1 := Lib.hid (built_pf x b hb)
  have H2 := Lib.hid (built_pol ⟨x, b, hb⟩ p l hp)
  generalize hP : (⟨⟨x, b, hb⟩, p, l, hp⟩ : Pol) = P at *
  generalize hF : (⟨x, b, hb⟩ : Pf) = F at *
  clear hi h hP hF hb hp
  go_enter Tryz.func76, Tryz.ntmps76
  go_wp2_with (first
    | ((with_reducible refine wpList_allocPol (o := ⟨some 8, _, _, _, _, _⟩) rfl rfl ?_); intro g8 w1 hg hB8 hb1 hs1; have hg8 : w.heap.size ≤ g8 := Nat.le_of_eq hg.symm; clear hg hs1)
    | (go_at_call 84; refine (cparse_yes (Hi.out.t.below hb1) (Hi.out.m.below hb1) (by omega) H.out).mono ?_; rintro e w2 ⟨rfl, hb2⟩; have hb02 := bel_tr hb1 hb2; have hB82 := hB8.bel hb2)
    | ((with_reducible refine wpList_allocAd (o := ⟨some 9, _, _, _, _, _⟩) rfl rfl ?_); intro g9 w3 hg hB9 hb3 hs3; have hg9 : w2.heap.size ≤ g9 := Nat.le_of_eq hg.symm; have hB83 := hB82.bel hb3; clear hg hs3)
    | ((with_reducible refine wpList_storeAd rfl (.tmp 9) _ rfl rfl rfl hB9 ?_); intro w4 hB94 hS4; have hB84 := hB83.stays hS4 (by have := hB82.lt; omega); have hb04 := bel_tr hb02 (hb3.trans (hS4.below hg9)))
    | (with_reducible refine wpList_loadAd (o := ⟨some 16, _, _, _, _, _⟩) rfl _ rfl rfl hB94 ?_)
    | (with_reducible refine wpList_buildL rfl 44 _ rfl H1.out rfl ?_)
    | (with_reducible refine wpList_buildL rfl 56 _ rfl H2.out rfl ?_)
    | ((with_reducible refine wpList_storePol rfl (.tmp 8) _ rfl rfl rfl hB84 ?_); intro w5 hB85 hS5; have hb45 := hS5.below hg8))
  exact ret_pol Tryz.results76 rfl hB85 rfl ⟨rfl, ⟨Hi.out.t.below (hb04.trans hb45), Hi.out.m.below (hb04.trans hb45), bel_tr Hi.out.b (hb04.trans hb45)⟩⟩
def PolsPost (w : World) (L : List Pol) (e : Ending) (w' : World) : Prop := ∃ v, e = .returned v ∧ w'.ownsRow w.heap.size 56 21 v L.length (L.flatMap polL) ∧ Below w.heap.size w w'
theorem pols_cells (L : List Pol) : ((L.map fun p => Value.agg (polA p)).flatMap fun v => v.cells.toList) = L.flatMap polL := by
  induction L with
  | nil => rfl
  | cons x l ih => rw [List.map_cons, List.flatMap_cons, List.flatMap_cons, ih]; rfl
set_option maxRecDepth 100000 in
set_option maxHeartbeats 4000000 in
theorem polplain_any (w : World) (ht : Tab w) (hm : MaxI w) : Calls Tryz.prog 65 #[] w (PolsPost w plainP) := by
  have RI := Lib.hid (show PRowInv w w from ⟨ht, hm, Below.refl _ _⟩)
  clear ht hm
  go_enter Tryz.func65, Tryz.ntmps65
  go_wp2_with (first
    | (go_at_call 76
       first
        | (with_reducible refine (polrow_any (by decide) (by decide) (by decide) cp1 RI.out).mono ?_)
        | (with_reducible refine (polrow_any (by decide) (by decide) (by decide) cp0 RI.out).mono ?_)
        | (with_reducible refine (polrow_any (by decide) (by decide) (by decide) cpm RI.out).mono ?_)
        | (with_reducible refine (polrow_any (by decide) (by decide) (by decide) cp2 RI.out).mono ?_)
        | (with_reducible refine (polrow_any (by decide) (by decide) (by decide) cpt RI.out).mono ?_)
        | (with_reducible refine (polrow_any (by decide) (by decide) (by decide) cpf RI.out).mono ?_)
        | (with_reducible refine (polrow_any (by decide) (by decide) (by decide) cps RI.out).mono ?_)
        | (with_reducible refine (polrow_any (by decide) (by decide) (by decide) cp3 RI.out).mono ?_)
       rintro e w' ⟨rfl, hr⟩
       clear RI
       have RI := Lib.hid hr
       clear hr)
    | (refine wpList_lit rfl _ _ rfl elt_pols (plainP.map fun p => Value.agg (polA p)) rfl (by decide) (by decide) (fun v hv => ?_) rfl ?_
       · obtain ⟨p, _, rfl⟩ := List.mem_map.1 hv; exact polA_size p
       intro w'' hB ho hb hs))
  go_ret
  refine ⟨_, rfl, ?_, bel_tr RI.out.b hb⟩
  rw [pols_cells] at ho
  exact own_base ho RI.out.b.size
end Go.Proofs.YthlnndjkocnfcaaGreatDoor

/- The plain policy table: the reference's Plain (36). -/
namespace Go.Proofs.YthlnndjkocnfcaaGreatDoor
open Go.RowKit
attribute [local go_sem] ba_get ext_take ext_drop ext_any ba_app

theorem yieldsIf_buildL {P : Program} {ops : Array Oper} {S : World → Prop} {o : Oper} {a : Act} (hw : Region.wanted o (yielded ops a.tmps) = true) (t : TypeId) (l : List (Nat × Operand)) (ho : o.op = .build t l.toArray)
    {vals : List (Nat × Value)} {cs : Array Value} (hb : P.built t vals = some cs) (hv : l.map (fun p => (p.1, a.eval p.2)) = vals) : YieldsIf P ops S o (.agg cs) a := by
  subst hv
  refine .inl ⟨hw, fun w _ => ?_⟩
  have hb' : P.built t (l.toArray.map fun (i, x) => (i, a.eval x)).toList = some cs := by rw [← hb]; simp
  unfold execOp
  simp only [ho, Sem.run_bind, run_build w t _ cs hb', Result.andThen_ok]
  rfl
theorem elt_int : Elt Tryz.prog 96 3 1 8 := Elt.mk' (z := .int .i64 0) Tryz.underlying96 (by kernel_rfl) rfl (by decide)
def plS : List (List UInt8) := [[58, 58, 49], [58, 58], [58, 58, 102, 102, 102, 102, 58, 48, 58, 48], [50, 48, 48, 50, 58, 58], [50, 48, 48, 49, 58, 58], [102, 99, 48, 48, 58, 58], [58, 58], [102, 101, 99, 48, 58, 58], [51, 102, 102, 101, 58, 58]]
def plN : List Int := [128, 50, 0, 0, 40, 1, 96, 35, 4, 16, 30, 2, 32, 5, 5, 7, 3, 13, 96, 1, 3, 10, 1, 11, 16, 1, 12]
theorem ints_cells (L : List Int) : ((L.map fun x => Value.int .i64 x).flatMap fun v => v.cells.toList) = L.map fun x => Value.int .i64 x := by
  induction L with
  | nil => rfl
  | cons x l ih => rw [List.map_cons, List.flatMap_cons, ih]; rfl
theorem strs_cells (L : List (List UInt8)) : ((L.map stv).flatMap fun v => v.cells.toList) = L.map stv := by
  induction L with
  | nil => rfl
  | cons x l ih => rw [List.map_cons, List.flatMap_cons, ih]; rfl
/-- a row of the table, as the reference finds it. -/
theorem pl_at {k : Nat} (h : k < 9) : ∃ (s : List UInt8) (p : Pol), plS[k]? = some s ∧ plainP[k]? = some p ∧ s.length ≤ 1000 ∧ colP s = .inr p.pf.ad ∧ plN[3 * k]? = some p.pf.bits ∧ plN[3 * k + 1]? = some p.prec ∧ plN[3 * k + 2]? = some p.lab := by
  match k, h with
  | 0, _ => exact ⟨_, pl0, rfl, rfl, by decide, cp1, rfl, rfl, rfl⟩
  | 1, _ => exact ⟨_, pl1, rfl, rfl, by decide, cp0, rfl, rfl, rfl⟩
  | 2, _ => exact ⟨_, pl2, rfl, rfl, by decide, cpm, rfl, rfl, rfl⟩
  | 3, _ => exact ⟨_, pl3, rfl, rfl, by decide, cp2, rfl, rfl, rfl⟩
  | 4, _ => exact ⟨_, pl4, rfl, rfl, by decide, cpt, rfl, rfl, rfl⟩
  | 5, _ => exact ⟨_, pl5, rfl, rfl, by decide, cpf, rfl, rfl, rfl⟩
  | 6, _ => exact ⟨_, pl6, rfl, rfl, by decide, cp0, rfl, rfl, rfl⟩
  | 7, _ => exact ⟨_, pl7, rfl, rfl, by decide, cps, rfl, rfl, rfl⟩
  | 8, _ => exact ⟨_, pl8, rfl, rfl, by decide, cp3, rfl, rfl, rfl⟩
theorem rcparse_yes {s : List UInt8} {x : Ad} {w : World} (hl : s.length ≤ 1000000000) (h : colP s = .inr x) : Calls Tryz.prog 74 #[.string ⟨s.toArray⟩] w fun e w' => e = .returned (.tuple #[.agg (adA x), .int .i64 0]) ∧ Below w.heap.size w w' :=
  (rcparse_any s w hl).mono fun e w' ⟨he, hb⟩ => by rw [h] at he; exact ⟨he, hb⟩
theorem bk_cellL {w : World} {g : Nat} {t : TypeId} {cs : List Value} (h : Bk w g t cs.toArray) (k : Nat) : w.cell? ⟨g, k, none⟩ = cs[k]? := by rw [h.cell k, List.getElem?_toArray]
theorem bk_bel {w w' : World} {g B : Nat} {t : TypeId} {cs : Array Value} (h : Bk w g t cs) (hb : Below B w w') (hg : g < B) : Bk w' g t cs := (hb.block g hg).trans h
theorem built_pol' (p : Pol) : Tryz.prog.built 56 [(0, .agg (pfA p.pf)), (1, .int .i64 p.prec), (2, .int .i64 p.lab)] = some (polA p) := built_pol p.pf p.prec p.lab p.ok
theorem built_pf' (p : Pf) : Tryz.prog.built 44 [(0, .agg (adA p.ad)), (1, .int .i64 p.bits)] = some (pfA p) := built_pf p.ad p.bits p.ok
theorem pol_cells (p : Pol) : (([Value.agg (polA p)]).flatMap fun v => v.cells.toList) = polL p := by
  rw [List.flatMap_cons, List.flatMap_nil, List.append_nil]
  rfl
theorem own_neS {w : World} {base g size : Nat} {e : TypeId} {v : Value} {n : Nat} {xs : List Value} (h : w.ownsRow base e size v n xs) (hg : g < base ∨ w.heap.size ≤ g) : some g ≠ v.ownBlock := by
  intro e
  have := h.lt g e.symm
  omega
structure PlRel (w : World) (g1 g2 k : Nat) (v : Value) (wr : World) : Prop where
  b1 : Bk wr g1 9 (plS.map stv).toArray
  b2 : Bk wr g2 3 (plN.map fun x => Value.int .i64 x).toArray
  o : wr.ownsRow (max w.heap.size (g2 + 1)) 56 21 v k ((plainP.take k).flatMap polL)
  b : Below w.heap.size w wr
  lt : g1 < g2 ∧ g2 < wr.heap.size ∧ w.heap.size ≤ wr.heap.size
set_option maxRecDepth 100000 in
set_option maxHeartbeats 4000000 in
theorem rpolplain_any (w : World) : Calls Tryz.prog 62 #[] w (PolsPost w plainP) := by
  go_enter Tryz.func62, Tryz.ntmps62
  go_wp2_with (first
    | (refine wpList_lit (o := ⟨some 7, _, _, _, _, _⟩) rfl _ _ rfl elt_strs (plS.map stv) rfl (by decide) (by decide) (fun v hv => ?_) rfl ?_
       · obtain ⟨p, _, rfl⟩ := List.mem_map.1 hv; rfl
       rw [strs_cells]
       obtain ⟨g1, hg1⟩ : ∃ g, g = w.heap.size := ⟨_, rfl⟩
       rw [← hg1]
       intro w1 hB1 ho1 hb1 hs1
       have hg1a : w.heap.size ≤ g1 := Nat.le_of_eq hg1.symm
       have hg1b : g1 ≤ w.heap.size := Nat.le_of_eq hg1
       have hs1a : g1 + 1 ≤ w1.heap.size := Nat.le_of_eq hs1.symm
       have hs1b : w1.heap.size ≤ g1 + 1 := Nat.le_of_eq hs1
       clear ho1 hg1 hs1)
    | (refine wpList_lit (o := ⟨some 8, _, _, _, _, _⟩) rfl _ _ rfl elt_int (plN.map fun x => Value.int .i64 x) rfl (by decide) (by decide) (fun v hv => ?_) rfl ?_
       · obtain ⟨p, _, rfl⟩ := List.mem_map.1 hv; rfl
       rw [ints_cells]
       obtain ⟨g2, hg2⟩ : ∃ g, g = w1.heap.size := ⟨_, rfl⟩
       rw [← hg2]
       intro w2 hB2 ho2 hb2 hs2
       have hg2a : w1.heap.size ≤ g2 := Nat.le_of_eq hg2.symm
       have hg2b : g2 ≤ w1.heap.size := Nat.le_of_eq hg2
       have hs2a : g2 + 1 ≤ w2.heap.size := Nat.le_of_eq hs2.symm
       clear ho2 hg2 hs2))
  have R0 : PlRel w g1 g2 0 (.slice none 0 0) w2 := ⟨bk_bel hB1 hb2 (by omega), hB2, World.ownsRow_nil _ _ _ _, (hb1.mono (by omega)).trans (hb2.mono (by omega)), by omega⟩
  clear hB1 hB2 hb1 hb2 hs1a hs1b hs2a hg1a hg1b hg2a hg2b
  go_loopw [3, 4] (fun v i wr => ∃ k : Nat, k ≤ 9 ∧ i = .int .i64 k ∧ PlRel w g1 g2 k v wr) (fun _ i _ => 9 - (intOf i).toNat)
  case atStart => exact ⟨0, by omega, rfl, R0⟩
  case round =>
    obtain ⟨k, hk, rfl, hr⟩ := hrel
    clear R0
    by_cases hlt : k < 9
    · obtain ⟨s, p, hs, hp, hl, hc, n0, n1, n2⟩ := pl_at hlt
      have i0 : (k : Int) < 9 := by omega
      obtain ⟨J, hJ⟩ : ∃ J, 3 * k = J := ⟨_, rfl⟩
      rw [hJ] at n0 n1 n2
      have i1 : (3 : Int) * (k : Int) = (J : Int) := by omega
      have i2 : J ≤ 24 := by omega
      have c1 := bk_cellL hr.b1 k
      rw [List.getElem?_map, hs] at c1
      have c1 : wr.cell? ⟨g1, k, none⟩ = some (.string ⟨s.toArray⟩) := c1
      have hB2 := hr.b2
      obtain ⟨Av, cv, rfl, hcv⟩ := (Sl.own hr.o).any
      have HR := Lib.hid hr
      have Hc := Lib.hid hc
      have Hp := Lib.hid hp
      have HJ := Lib.hid hJ
      have hg1 : g1 < g2 := hr.lt.1
      have hwr : w.heap.size ≤ wr.heap.size ∧ g2 < wr.heap.size := ⟨hr.lt.2.2, hr.lt.2.1⟩
      clear hr hs hc hp hJ
      go_wp2_with (first
        | (go_at_call 74; refine (rcparse_yes (by omega) Hc.out).mono ?_; rintro e w3 ⟨rfl, hb3⟩)
        | ((with_reducible refine wpList_allocAd (o := ⟨some 5, _, _, _, _, _⟩) rfl rfl ?_); intro g5 w4 hg hB5 hb4 hs4; have hg5 : w3.heap.size ≤ g5 := Nat.le_of_eq hg.symm; clear hg hs4)
        | ((with_reducible refine wpList_storeAd rfl (.tmp 5) _ rfl rfl rfl hB5 ?_); intro w5 hB55 hS5; have hb35 : Below w3.heap.size w3 w5 := hb4.trans (hS5.below hg5); have hb5 := bel_tr hb3 hb35))
      obtain ⟨B, hBB⟩ : ∃ B, max w.heap.size (g2 + 1) = B := ⟨_, rfl⟩
      have hB1 : w.heap.size ≤ B ∧ g2 < B ∧ B ≤ wr.heap.size := by omega
      have hsz5 := hb5.size
      have hg53 : wr.heap.size ≤ g5 := by have := hb3.size; omega
      have hne5 : some g5 ≠ (Value.slice Av k cv).ownBlock := own_neS HR.out.o (.inr hg53)
      have hR5 : ∀ w', (Below B w5 w' ∧ w'.rangeAt g5 0 (adL p.pf.ad)) → w'.rangeAt g5 0 (adL p.pf.ad) := fun w' hb => hb.2
      have hS0 : Below B w5 w5.drew ∧ w5.drew.rangeAt g5 0 (adL p.pf.ad) := ⟨(Below.refl _ _).drew, hB55.rangeAd⟩
      have hB25 := hB2.bel hb5
      have hB15 := HR.out.b1.bel hb5
      have m0 : ∀ w', (Below B w5 w' ∧ w'.rangeAt g5 0 (adL p.pf.ad)) → w'.cell? ⟨g2, J, none⟩ = some (.int .i64 p.pf.bits) := fun w' hb => by rw [bk_cellL (bk_bel hB25 hb.1 hB1.2.1), List.getElem?_map, n0]; rfl
      have m1 : ∀ w', (Below B w5 w' ∧ w'.rangeAt g5 0 (adL p.pf.ad)) → w'.cell? ⟨g2, J + 1, none⟩ = some (.int .i64 p.prec) := fun w' hb => by rw [bk_cellL (bk_bel hB25 hb.1 hB1.2.1), List.getElem?_map, n1]; rfl
      have m2 : ∀ w', (Below B w5 w' ∧ w'.rangeAt g5 0 (adL p.pf.ad)) → w'.cell? ⟨g2, J + 2, none⟩ = some (.int .i64 p.lab) := fun w' hb => by rw [bk_cellL (bk_bel hB25 hb.1 hB1.2.1), List.getElem?_map, n2]; rfl
      have Ho := Lib.hid (own_below (hBB ▸ HR.out.o) hb5)
      have h05 := Lib.hid (bel_tr HR.out.b hb5)
      clear hB2 hB5 hb3 hb4 hb35 hS5 c1 n0 n1 n2
      have w0 : IntKind.i64.wrap (J : Int) = (J : Int) := by simp [IntKind.wrap, IntKind.signed, IntKind.bits]; omega
      have w1' : IntKind.i64.wrap ((J : Int) + 1) = (J : Int) + 1 := by simp [IntKind.wrap, IntKind.signed, IntKind.bits]; omega
      have w2' : IntKind.i64.wrap ((J : Int) + 2) = (J : Int) + 2 := by simp [IntKind.wrap, IntKind.signed, IntKind.bits]; omega
      have t0 : ((J : Int)).toNat = J := by omega
      have t1 : ((J : Int) + 1).toNat = J + 1 := by omega
      have t2 : ((J : Int) + 2).toNat = J + 2 := by omega
      have j0 : (J : Int) < 27 := by omega
      have j1 : (J : Int) + 1 < 27 := by omega
      have j2 : (J : Int) + 2 < 27 := by omega
      have j3 : (0 : Int) ≤ (J : Int) + 1 := by omega
      have j4 : (0 : Int) ≤ (J : Int) + 2 := by omega
      refine wp_region_held (S := fun w' => Below B w5 w' ∧ w'.rangeAt g5 0 (adL p.pf.ad)) (by kernel_rfl) ?_
      refine wpAnyH_take (i := 0) (oi := ⟨some 23, .move (.tmp 3), _, _, _, none⟩) (v := .slice Av k cv) rfl (by kernel_rfl) (by kernel_rfl) (by kernel_rfl) (fun _ _ _ h => h) (Or.inl ⟨by rfl, fun w' hS' => by go_simp⟩) hS0 ?_
      simp only [Act.put, List.setIfInBounds_toArray, List.set_cons_zero, List.set_cons_succ]
      refine wpAnyH_take (i := 1) (oi := ⟨some 24, .load 29 (.tmp 5), _, _, _, none⟩) (v := .agg (adA p.pf.ad)) rfl (by kernel_rfl) (by kernel_rfl) (by kernel_rfl) (fun _ _ _ h => h) (yieldsIf_loadAd (by rfl) _ rfl rfl hR5) hS0 ?_
      simp only [Act.put, List.setIfInBounds_toArray, List.set_cons_zero, List.set_cons_succ]
      refine wpAnyH_take (i := 2) (oi := ⟨some 25, .move (.tmp 2), _, _, _, none⟩) (v := .slice (some ⟨g2, 0, none⟩) 27 27) rfl (by kernel_rfl) (by kernel_rfl) (by kernel_rfl) (fun _ _ _ h => h) (Or.inl ⟨by rfl, fun w' hS' => by go_simp⟩) hS0 ?_
      simp only [Act.put, List.setIfInBounds_toArray, List.set_cons_zero, List.set_cons_succ]
      refine wpAnyH_take (i := 3) (oi := ⟨some 26, .move (.tmp 4), _, _, _, none⟩) (v := .int .i64 k) rfl (by kernel_rfl) (by kernel_rfl) (by kernel_rfl) (fun _ _ _ h => h) (Or.inl ⟨by rfl, fun w' hS' => by go_simp⟩) hS0 ?_
      simp only [Act.put, List.setIfInBounds_toArray, List.set_cons_zero, List.set_cons_succ]
      refine wpAnyH_take (i := 4) (oi := ⟨some 27, .binOp .mul 3 (.const (.int .i64 3)) (.tmp 26) 3, _, _, _, none⟩) (v := .int .i64 J) rfl (by kernel_rfl) (by kernel_rfl) (by kernel_rfl) (fun _ _ _ h => h) (Or.inl ⟨by rfl, fun w' hS' => by go_simp⟩) hS0 ?_
      simp only [Act.put, List.setIfInBounds_toArray, List.set_cons_zero, List.set_cons_succ]
      refine wpAnyH_take (i := 5) (oi := ⟨some 28, .indexAddr 96 (.tmp 25) (.tmp 27), _, _, _, none⟩) (v := .pointer (some ⟨g2, J, none⟩)) rfl (by kernel_rfl) (by kernel_rfl) (by kernel_rfl) (fun _ _ _ h => h) (Or.inl ⟨by rfl, fun w' hS' => by go_simp⟩) hS0 ?_
      simp only [Act.put, List.setIfInBounds_toArray, List.set_cons_zero, List.set_cons_succ]
      refine wpAnyH_take (i := 6) (oi := ⟨some 29, .load 3 (.tmp 28), _, _, _, none⟩) (v := .int .i64 p.pf.bits) rfl (by kernel_rfl) (by kernel_rfl) (by kernel_rfl) (fun _ _ _ h => h) (yieldsIf_loadC (by rfl) _ _ rfl rfl m0 Tryz.underlying3 rfl) hS0 ?_
      simp only [Act.put, List.setIfInBounds_toArray, List.set_cons_zero, List.set_cons_succ]
      refine wpAnyH_take (i := 7) (oi := ⟨some 30, .build 44 #[(0, .tmp 24), (1, .tmp 29)], _, _, _, none⟩) (v := .agg (pfA p.pf)) rfl (by kernel_rfl) (by kernel_rfl) (by kernel_rfl) (fun _ _ _ h => h) (yieldsIf_buildL (by rfl) _ [(0, .tmp 24), (1, .tmp 29)] rfl (built_pf' p.pf) rfl) hS0 ?_
      simp only [Act.put, List.setIfInBounds_toArray, List.set_cons_zero, List.set_cons_succ]
      refine wpAnyH_take (i := 8) (oi := ⟨some 31, .move (.tmp 2), _, _, _, none⟩) (v := .slice (some ⟨g2, 0, none⟩) 27 27) rfl (by kernel_rfl) (by kernel_rfl) (by kernel_rfl) (fun _ _ _ h => h) (Or.inl ⟨by rfl, fun w' hS' => by go_simp⟩) hS0 ?_
      simp only [Act.put, List.setIfInBounds_toArray, List.set_cons_zero, List.set_cons_succ]
      refine wpAnyH_take (i := 9) (oi := ⟨some 32, .move (.tmp 4), _, _, _, none⟩) (v := .int .i64 k) rfl (by kernel_rfl) (by kernel_rfl) (by kernel_rfl) (fun _ _ _ h => h) (Or.inl ⟨by rfl, fun w' hS' => by go_simp⟩) hS0 ?_
      simp only [Act.put, List.setIfInBounds_toArray, List.set_cons_zero, List.set_cons_succ]
      refine wpAnyH_take (i := 10) (oi := ⟨some 33, .binOp .mul 3 (.const (.int .i64 3)) (.tmp 32) 3, _, _, _, none⟩) (v := .int .i64 J) rfl (by kernel_rfl) (by kernel_rfl) (by kernel_rfl) (fun _ _ _ h => h) (Or.inl ⟨by rfl, fun w' hS' => by go_simp⟩) hS0 ?_
      simp only [Act.put, List.setIfInBounds_toArray, List.set_cons_zero, List.set_cons_succ]
      refine wpAnyH_take (i := 11) (oi := ⟨some 34, .binOp .add 3 (.tmp 33) (.const (.int .i64 1)) 3, _, _, _, none⟩) (v := .int .i64 ((J : Int) + 1)) rfl (by kernel_rfl) (by kernel_rfl) (by kernel_rfl) (fun _ _ _ h => h) (Or.inl ⟨by rfl, fun w' hS' => by go_simp⟩) hS0 ?_
      simp only [Act.put, List.setIfInBounds_toArray, List.set_cons_zero, List.set_cons_succ]
      refine wpAnyH_take (i := 12) (oi := ⟨some 35, .indexAddr 96 (.tmp 31) (.tmp 34), _, _, _, none⟩) (v := .pointer (some ⟨g2, J + 1, none⟩)) rfl (by kernel_rfl) (by kernel_rfl) (by kernel_rfl) (fun _ _ _ h => h) (Or.inl ⟨by rfl, fun w' hS' => by go_simp⟩) hS0 ?_
      simp only [Act.put, List.setIfInBounds_toArray, List.set_cons_zero, List.set_cons_succ]
      refine wpAnyH_take (i := 13) (oi := ⟨some 36, .load 3 (.tmp 35), _, _, _, none⟩) (v := .int .i64 p.prec) rfl (by kernel_rfl) (by kernel_rfl) (by kernel_rfl) (fun _ _ _ h => h) (yieldsIf_loadC (by rfl) _ _ rfl rfl m1 Tryz.underlying3 rfl) hS0 ?_
      simp only [Act.put, List.setIfInBounds_toArray, List.set_cons_zero, List.set_cons_succ]
      refine wpAnyH_take (i := 14) (oi := ⟨some 37, .move (.tmp 2), _, _, _, none⟩) (v := .slice (some ⟨g2, 0, none⟩) 27 27) rfl (by kernel_rfl) (by kernel_rfl) (by kernel_rfl) (fun _ _ _ h => h) (Or.inl ⟨by rfl, fun w' hS' => by go_simp⟩) hS0 ?_
      simp only [Act.put, List.setIfInBounds_toArray, List.set_cons_zero, List.set_cons_succ]
      refine wpAnyH_take (i := 15) (oi := ⟨some 38, .move (.tmp 4), _, _, _, none⟩) (v := .int .i64 k) rfl (by kernel_rfl) (by kernel_rfl) (by kernel_rfl) (fun _ _ _ h => h) (Or.inl ⟨by rfl, fun w' hS' => by go_simp⟩) hS0 ?_
      simp only [Act.put, List.setIfInBounds_toArray, List.set_cons_zero, List.set_cons_succ]
      refine wpAnyH_take (i := 16) (oi := ⟨some 39, .binOp .mul 3 (.const (.int .i64 3)) (.tmp 38) 3, _, _, _, none⟩) (v := .int .i64 J) rfl (by kernel_rfl) (by kernel_rfl) (by kernel_rfl) (fun _ _ _ h => h) (Or.inl ⟨by rfl, fun w' hS' => by go_simp⟩) hS0 ?_
      simp only [Act.put, List.setIfInBounds_toArray, List.set_cons_zero, List.set_cons_succ]
      refine wpAnyH_take (i := 17) (oi := ⟨some 40, .binOp .add 3 (.tmp 39) (.const (.int .i64 2)) 3, _, _, _, none⟩) (v := .int .i64 ((J : Int) + 2)) rfl (by kernel_rfl) (by kernel_rfl) (by kernel_rfl) (fun _ _ _ h => h) (Or.inl ⟨by rfl, fun w' hS' => by go_simp⟩) hS0 ?_
      simp only [Act.put, List.setIfInBounds_toArray, List.set_cons_zero, List.set_cons_succ]
      refine wpAnyH_take (i := 18) (oi := ⟨some 41, .indexAddr 96 (.tmp 37) (.tmp 40), _, _, _, none⟩) (v := .pointer (some ⟨g2, J + 2, none⟩)) rfl (by kernel_rfl) (by kernel_rfl) (by kernel_rfl) (fun _ _ _ h => h) (Or.inl ⟨by rfl, fun w' hS' => by go_simp⟩) hS0 ?_
      simp only [Act.put, List.setIfInBounds_toArray, List.set_cons_zero, List.set_cons_succ]
      refine wpAnyH_take (i := 19) (oi := ⟨some 42, .load 3 (.tmp 41), _, _, _, none⟩) (v := .int .i64 p.lab) rfl (by kernel_rfl) (by kernel_rfl) (by kernel_rfl) (fun _ _ _ h => h) (yieldsIf_loadC (by rfl) _ _ rfl rfl m2 Tryz.underlying3 rfl) hS0 ?_
      simp only [Act.put, List.setIfInBounds_toArray, List.set_cons_zero, List.set_cons_succ]
      refine wpAnyH_take (i := 20) (oi := ⟨some 43, .build 56 #[(0, .tmp 30), (1, .tmp 36), (2, .tmp 42)], _, _, _, none⟩) (v := .agg (polA p)) rfl (by kernel_rfl) (by kernel_rfl) (by kernel_rfl) (fun _ _ _ h => h) (yieldsIf_buildL (by rfl) _ [(0, .tmp 30), (1, .tmp 36), (2, .tmp 42)] rfl (built_pol' p) rfl) hS0 ?_
      simp only [Act.put, List.setIfInBounds_toArray, List.set_cons_zero, List.set_cons_succ]
      clear w0 w1' w2' t0 t1 t2 j0 j1 j2 j3 j4 m0 m1 m2 hR5
      refine wpAnyH_all (rs := [21]) (by kernel_rfl) (by decide) ?_
      intro i hi9
      obtain rfl := List.mem_singleton.1 hi9
      refine wpOp_of_list (o := ⟨some 44, .buildSlice 24 1 #[(0, .tmp 43)], _, _, _, none⟩) rfl ?_
      refine wpList_lit rfl _ _ rfl elt_pols [.agg (polA p)] rfl (by decide) (by decide) (fun v hv => by simp at hv; subst hv; exact polA_size p) rfl ?_
      rw [pol_cells]
      intro w8 hB8 hx8 hb8 hs8
      have hb8' := bel_drew hb8
      have Hx8 := Lib.hid (Sl.own hx8)
      have Ho8 := Lib.hid (own_below Ho.out hb8')
      have hsz8 := Nat.le_trans hsz5 hb8'.size
      have hB18 := hB15.bel hb8'
      have hB28 := hB25.bel hb8'
      clear hB8 hx8 hs8
      show _ ∧ _
      refine ⟨⟨hb8'.mono (by omega), (hB55.bel hb8').rangeAd⟩, ?_⟩
      simp only [Act.put, List.setIfInBounds_toArray, List.set_cons_zero, List.set_cons_succ]
      refine wpAnyH_all (rs := [22]) (by kernel_rfl) (by decide) ?_
      intro i hi9
      obtain rfl := List.mem_singleton.1 hi9
      refine wpOp_of_list (o := ⟨some 45, .call { callee := .builtin .append, args := #[.tmp 23, .tmp 44], argTypes := #[24, 24] }, _, _, _, none⟩) rfl ?_
      refine wpList_app rfl (.tmp 23) (.tmp 44) _ rfl elt_pols rfl Ho8.out rfl Hx8.out (polL_one p) (by omega) (by omega) (by omega) ?_
      intro v9 w9 ho9 hb9 hg9
      have hB19 := hB18.grown hg9 (own_neS Ho8.out (.inl (by omega)))
      have hB29 := hB28.grown hg9 (own_neS Ho8.out (.inl (by omega)))
      have hb09 : Below w.heap.size w w9 := (bel_tr h05.out hb8').trans (hb9.mono (by omega))
      have hsz9 := Nat.le_trans hsz8 hb9.size
      obtain ⟨a9, c9, rfl, hc9⟩ := (Sl.own ho9).any
      show _ ∧ _
      refine ⟨⟨(hb8'.mono (by omega)).trans hb9, ((hB55.bel hb8').grown hg9 hne5).rangeAd⟩, ?_⟩
      simp only [Act.put, List.setIfInBounds_toArray, List.set_cons_zero, List.set_cons_succ]
      refine wpAnyH_take (i := 23) (oi := ⟨some 3, .assign (.tmp 45), _, _, _, none⟩) (v := .slice a9 (k + 1) c9) rfl (by kernel_rfl) (by kernel_rfl) (by kernel_rfl) (fun _ _ _ h => h) (Or.inl ⟨by rfl, fun w' hS' => by go_simp⟩) ⟨(hb8'.mono (by omega)).trans hb9, ((hB55.bel hb8').grown hg9 hne5).rangeAd⟩ ?_
      simp only [Act.put, List.setIfInBounds_toArray, List.set_cons_zero, List.set_cons_succ]
      refine wpAnyH_done (by kernel_rfl) ?_ _
      go_wp2
      go_roundw
      case rel =>
        refine ⟨k + 1, by omega, by go_num, ⟨hB19, hB29, ?_, hb09, by omega⟩⟩
        rw [hBB, List.take_add_one, Hp.out]
        simp only [Option.toList, List.flatMap_append, List.flatMap_cons, List.flatMap_nil, List.append_nil]
        exact ho9
      case measure => simp [intOf]; omega
    · have hk9 : k = 9 := by omega
      subst hk9
      have HR := Lib.hid hr
      obtain ⟨Av, cv, rfl, hcv⟩ := (Sl.own hr.o).any
      clear hr
      have i0 : ¬ ((9 : Nat) : Int) < 9 := by omega
      go_wp2
      go_ret
      exact ⟨_, rfl, own_base HR.out.o (by omega), HR.out.b⟩
end Go.Proofs.YthlnndjkocnfcaaGreatDoor

/- policy.Rows of the empty net; policy.Of. -/
namespace Go.Proofs.YthlnndjkocnfcaaGreatDoor
open Go.RowKit
attribute [local go_sem] ba_get ext_take ext_drop ext_any ba_app

/-- a row of policies, one by one, in blocks not below lo. -/
def PolRow (w : World) (A : Option Addr) (R : List Pol) (lo : Nat) : Prop := ∀ k (hk : k < R.length), ∃ b off, A = some ⟨b, off, none⟩ ∧ lo ≤ b ∧ b < w.heap.size ∧ w.rangeAt b (off + k * 21) (polL R[k])
theorem PolRow.own {w : World} {B : Nat} {A : Option Addr} {c : Nat} {R : List Pol} (h : w.ownsRow B 56 21 (.slice A R.length c) R.length (R.flatMap polL)) : PolRow w A R B := fun k hk => by
  obtain ⟨b, off, c', hv, hc, hb, hcell⟩ := (Sl.own h).pos (by omega)
  injection hv with e1
  subst e1
  have hlt := h.lt
  have hb0 : off = 0 := by
    obtain ⟨_, h2⟩ := h
    rcases h2 with ⟨h2, _⟩ | ⟨g, cap, cur, h2, _⟩
    · cases h2
    · injection h2 with e
      injection e with e
      injection e
  subst hb0
  exact ⟨b, 0, rfl, (hlt b rfl).1, hb, range_of polL_len hcell hk⟩
theorem PolRow.bel {w w' : World} {A : Option Addr} {R : List Pol} {lo : Nat} (h : PolRow w A R lo) (hb : Below w.heap.size w w') : PolRow w' A R lo := fun k hk => by
  obtain ⟨b, off, h1, h2, h3, h4⟩ := h k hk
  exact ⟨b, off, h1, h2, Nat.lt_of_lt_of_le h3 hb.size, fun j v hv => (bel_cells hb h3 _).trans (h4 j v hv)⟩
theorem PolRow.stays {w w' : World} {A : Option Addr} {R : List Pol} {lo g : Nat} (h : PolRow w A R lo) (hs : Stays g w w') (hg : g < lo) : PolRow w' A R lo := fun k hk => by
  obtain ⟨b, off, h1, h2, h3, h4⟩ := h k hk
  refine ⟨b, off, h1, h2, by rw [hs.size]; exact h3, fun j v hv => ?_⟩
  rw [← h4 j v hv]
  have := hs.block b (by omega)
  unfold World.cell?
  rw [this]
theorem net_under : Tryz.prog.underlying 26 = some (.struct (Tryz.prog.fieldsOf 26)) := by kernel_rfl
theorem net_size : (Tryz.prog.info? 26).map (·.size) = some 3 := by kernel_rfl
def fW (a : Ad) (p : Pol) : Bool := withB a p.pf
def gW (p : Pol) : Int := p.pf.bits
def zerA (a : Ad) : Ad := (mpA a).setZ 0 (by decide)
/-- the policy of an address. -/
def ofP (a : Ad) (R : List Pol) : Pol := (bst (fW (zerA a)) gW R).getD polD
theorem bst_take {a : Ad} {R : List Pol} {k : Nat} (hk : k < R.length) : bst (fW a) gW (R.take (k + 1)) = bstp (fW a) gW (bst (fW a) gW (R.take k)) R[k] := by
  rw [List.take_add_one, List.getElem?_eq_getElem hk]
  exact bst_snoc _ _ _ _
structure OfRel (w : World) (g3 g4 g5 : Nat) (A : Ad) (An : Option Addr) (R : List Pol) (lo : Nat) (o : Option Pol) (wr : World) : Prop where
  b3 : Bk wr g3 29 (adA A)
  b4 : Bk wr g4 56 (polA pol0)
  b5 : Bk wr g5 56 (polA (o.getD polD))
  r : PolRow wr An R lo
  b : Below w.heap.size w wr
def PolPost (w : World) (p : Pol) (e : Ending) (w' : World) : Prop := e = .returned (.agg (polA p)) ∧ Below w.heap.size w w'
set_option maxRecDepth 100000 in
set_option maxHeartbeats 40000000 in
theorem pof_any (cs : Array Value) (hcs : cs.size = 3) (R : List Pol) (a : Ad) (w : World) (hRl : R.length ≤ 1000000) (hRows : ∀ w', Below w.heap.size w w' → Calls Tryz.prog 44 #[.agg cs] w' (PolsPost w' R)) :
    Calls Tryz.prog 26 #[.agg cs, .agg (adA a)] w (PolPost w (ofP a R)) := by
  have HRows := Lib.hid hRows
  have Hns := Lib.hid (show (Tryz.prog.info? 26).map (·.size) = some cs.size by rw [hcs]; exact net_size)
  have Hof : Hid (ofP a R = (bst (fW (zerA a)) gW R).getD polD) := Lib.hid rfl
  have HzerA : Hid (zerA a = (mpA a).setZ 0 (by decide)) := Lib.hid rfl
  clear hRows hcs
  go_enter Tryz.func26, Tryz.ntmps26
  go_wp2_with (first
    | ((with_reducible refine wpList_boxB (o := ⟨some 2, _, _, _, _, _⟩) rfl _ _ rfl rfl ?_); intro g2 w1 hg hB2 hb1 hs; have hg2 : w.heap.size ≤ g2 := Nat.le_of_eq hg.symm; clear hg hs)
    | ((with_reducible refine wpList_boxB (o := ⟨some 3, _, _, _, _, _⟩) rfl _ _ rfl rfl ?_); intro g3 w2 hg hB3 hb2 hs; have hg3 : w1.heap.size ≤ g3 := Nat.le_of_eq hg.symm; have hB22 := hB2.bel hb2; have hb02 := bel_tr hb1 hb2; clear hg hs)
    | ((with_reducible refine wpList_allocPol (o := ⟨some 4, _, _, _, _, _⟩) rfl rfl ?_); intro g4 w3 hg hB4 hb3 hs; have hg4 : w2.heap.size ≤ g4 := Nat.le_of_eq hg.symm; have hB23 := hB22.bel hb3; have hB33 := hB3.bel hb3; have hb03 := bel_tr hb02 hb3; clear hg hs)
    | (with_reducible refine wpList_loadAd (o := ⟨some 9, _, _, _, _, _⟩) rfl _ rfl rfl hB33 ?_)
    | (go_at_call 43; refine (amap_all a _).mono ?_; rintro e w4 ⟨rfl, hb4⟩; have hB24 := hB23.bel hb4; have hB34 := hB33.bel hb4; have hB44 := hB4.bel hb4; have hb04 := bel_tr hb03 hb4)
    | ((with_reducible refine wpList_storeAd rfl (.tmp 3) _ rfl rfl rfl hB34 ?_); intro w5 hB35 hS5
       have hB25 := hB24.stays hS5 (by have := hB2.lt; omega)
       have hB45 := hB44.stays hS5 (by have := hB3.lt; omega)
       have hb05 : Below w.heap.size w w5 := hb04.trans (hS5.below (by have := hb1.size; omega))
       have c17 := hB35.cell 17
       rw [adA_17] at c17
       have f17 := hB35.free 17
       refine hold ?_))
  refine Lib.hid ?_
  have hne : g2 < g3 ∧ g3 < g4 ∧ w.heap.size ≤ g3 ∧ g4 < w5.heap.size := ⟨by have := hB2.lt; omega, by have := hB3.lt; omega, by have := hb1.size; omega, hB45.lt⟩
  have hX := hB35.set_ 17 (.int .i64 0)
  rw [adA_setZ (mpA a) 0 (by decide), ← HzerA.out] at hX
  have hY := hB25.far (p := ⟨g3, 17, none⟩) (by show g2 ≠ g3; omega) (.int .i64 0)
  have hZ := hB45.far (p := ⟨g3, 17, none⟩) (by show g4 ≠ g3; omega) (.int .i64 0)
  have hby := hb05.setCell (p := ⟨g3, 17, none⟩) (show w.heap.size ≤ g3 by omega) (.int .i64 0)
  have hsz : (w5.setCell ⟨g3, 17, none⟩ (.int .i64 0)).heap.size = w5.heap.size := (Stays.cell w5 g3 17 (.int .i64 0)).size
  have hszx : w5.heap.size ≤ (w5.setCell ⟨g3, 17, none⟩ (.int .i64 0)).heap.size := Nat.le_of_eq hsz.symm
  generalize zerA a = A at *
  clear HzerA hsz hB2 hB22 hB23 hB24 hB25 hB3 hB33 hB34 hB35 hB4 hB44 hB45 hb1 hb2 hb3 hb4 hb02 hb03 hb04 hb05 hS5
  go_wp2_with (first
    | (with_reducible refine wpList_buildL rfl 56 _ rfl built_polD rfl ?_)
    | ((with_reducible refine wpList_allocPol (o := ⟨some 5, _, _, _, _, _⟩) rfl rfl ?_); intro g5 w6 hg hB5 hb6 hs; have hg5 := Nat.le_of_eq hg.symm; have hX6 := hX.bel hb6; have hY6 := hY.bel hb6; have hZ6 := hZ.bel hb6; have hb06 := bel_tr hby hb6; have hl5 := hB5.lt; clear hg hs)
    | ((with_reducible refine wpList_storePol rfl (.tmp 5) _ rfl rfl rfl hB5 ?_); intro w7 hB57 hS7; have hs7 := hS7.size; have hs7' : w6.heap.size ≤ w7.heap.size := Nat.le_of_eq hs7.symm; have hX7 := hX6.stays hS7 (by omega); have hY7 := hY6.stays hS7 (by omega); have hZ7 := hZ6.stays hS7 (by omega); have hb07 : Below w.heap.size w w7 := hb06.trans (hS7.below (by omega)); clear hs7)
    | (refine wpList_loadB (o := ⟨some 13, _, _, _, _, _⟩) rfl _ _ rfl rfl hY7 net_under rfl Hns.out ?_)
    | (go_at_call 44; refine (HRows.out _ hb07).mono ?_; rintro e w8 ⟨v8, rfl, ho8, hb8⟩; obtain ⟨A8, c8, rfl, hc8⟩ := (Sl.own ho8).any; have hr8 := PolRow.own ho8; have hX8 := hX7.bel hb8; have hZ8 := hZ7.bel hb8; have hB58 := hB57.bel hb8; have hb08 := bel_tr hb07 hb8))
  have hlo : g3 < g4 ∧ g4 < g5 ∧ g5 < w7.heap.size ∧ w.heap.size ≤ g3 := by omega
  generalize w7.heap.size = lo at *
  have R0 : OfRel w g3 g4 g5 A A8 R lo (bst (fW A) gW (R.take 0)) w8 := ⟨hX8, hZ8, hB58, hr8, hb08⟩
  clear hX hY hZ hX6 hY6 hZ6 hX7 hY7 hZ7 hX8 hZ8 hB5 hB57 hB58 hb6 hb8 hS7 hb06 hb07 hb08 hby ho8 hr8 hs7' hszx hg5 hl5 hne hg2 hg3 hg4
  go_loopw [6, 16] (fun f i wr => ∃ (k : Nat) (o : Option Pol), k ≤ R.length ∧ i = .int .i64 k ∧ o = bst (fW A) gW (R.take k) ∧ f = .bool o.isSome ∧ OfRel w g3 g4 g5 A A8 R lo o wr) (fun _ i _ => R.length - (intOf i).toNat)
  case atStart => exact ⟨0, _, by omega, rfl, rfl, rfl, R0⟩
  case round =>
    obtain ⟨k, o, hk, rfl, ho, rfl, r3, r4, r5, rr, rb⟩ := hrel
    clear R0
    by_cases hlt : k < R.length
    · obtain ⟨b, off, rfl, hblo, hblt, hrg⟩ := rr k hlt
      have j0 : (k : Int) < (R.length : Int) := by omega
      have hnx := bst_take (a := A) hlt
      rw [← ho] at hnx
      generalize hp : R[k] = p at *
      have Hnx := Lib.hid hnx
      clear hnx ho
      have HW : Hid (∀ w, Calls Tryz.prog 45 #[.agg (adA A), .agg (pfA p.pf)] w fun e w' => e = .returned (.bool (withB A p.pf)) ∧ Below w.heap.size w w') := Lib.hid (within_any A p.pf)
      have hcs : (fW A p = false ∧ bstp (fW A) gW o p = o) ∨ (fW A p = true ∧ o = none ∧ bstp (fW A) gW o p = some p) ∨ (∃ x, fW A p = true ∧ o = some x ∧ x.pf.bits < p.pf.bits ∧ bstp (fW A) gW o p = some p) ∨ (∃ x, fW A p = true ∧ o = some x ∧ ¬ x.pf.bits < p.pf.bits ∧ bstp (fW A) gW o p = some x) := by
        cases hf : fW A p with
        | false => left; refine ⟨rfl, ?_⟩; cases o <;> simp [bstp, hf]
        | true =>
          right
          cases o with
          | none => left; refine ⟨rfl, rfl, ?_⟩; simp [bstp, hf]
          | some x =>
            right
            by_cases hg : x.pf.bits < p.pf.bits
            · left; exact ⟨x, rfl, rfl, hg, by simp [bstp, hf, gW, hg]⟩
            · right; exact ⟨x, rfl, rfl, hg, by simp [bstp, hf, gW, hg]⟩
      have HfW : Hid (fW A p = withB A p.pf) := Lib.hid rfl
      clear hp
      rcases hcs with ⟨hf, hst⟩ | ⟨hf, ho, hst⟩ | ⟨x, hf, ho, hgt, hst⟩ | ⟨x, hf, ho, hgt, hst⟩
      · have Hst := Lib.hid (Hnx.out.trans hst)
        have Hwb := Lib.hid (HfW.out.symm.trans hf)
        generalize withB A p.pf = wb at *
        clear hst hf Hnx HfW
        have c5 := r5.cell 18
        rw [polA_18] at c5
        go_wp2_with (first
          | (with_reducible refine wpList_loadPolM (o := ⟨some 19, _, _, _, _, _⟩) rfl _ rfl rfl hrg ?_)
          | ((with_reducible refine wpList_allocPol (o := ⟨some 8, _, _, _, _, _⟩) rfl rfl ?_); intro g8 w9 hg hB8 hb9 hs; have hg8 : wr.heap.size ≤ g8 := Nat.le_of_eq hg.symm; clear hg hs)
          | ((with_reducible refine wpList_storePol rfl (.tmp 8) _ rfl rfl rfl hB8 ?_); intro wa hB8a hSa; have hba : Below wr.heap.size wr wa := hb9.trans (hSa.below hg8); have r3a := r3.bel hba; have hq8 := hB8a.rangePolPf; have d8 := hB8a.cell 18; rw [polA_18] at d8; have d5 := (r5.bel hba).cell 18; rw [polA_18] at d5)
          | (with_reducible refine wpList_loadAd (o := ⟨some 20, _, _, _, _, _⟩) rfl _ rfl rfl r3a ?_)
          | (with_reducible refine wpList_loadPfM (o := ⟨some 22, _, _, _, _, _⟩) rfl _ rfl rfl hq8 ?_)
          | (go_at_call 45; refine (HW.out _).mono ?_; rintro e wb' ⟨rfl, hbb⟩; rw [Hwb.out]; have hbw := bel_tr hba hbb; have d8b := (hB8a.bel hbb).cell 18; rw [polA_18] at d8b; have r5b := r5.bel hbw; have d5b := r5b.cell 18; rw [polA_18] at d5b; have hB8b := hB8a.bel hbb))
        go_roundw
        case rel =>
          refine ⟨k + 1, o, by omega, by go_num, Hst.out.symm, rfl, ?_⟩
          exact ⟨r3.bel hbw, r4.bel hbw, r5b, rr.bel hbw, bel_tr rb hbw⟩
        case measure => simp [intOf]; omega
      · have Hst := Lib.hid (Hnx.out.trans hst)
        have Hwb := Lib.hid (HfW.out.symm.trans hf)
        generalize withB A p.pf = wb at *
        clear hst hf Hnx HfW
        subst ho
        have c5 := r5.cell 18
        rw [polA_18] at c5
        go_wp2_with (first
          | (with_reducible refine wpList_loadPolM (o := ⟨some 19, _, _, _, _, _⟩) rfl _ rfl rfl hrg ?_)
          | ((with_reducible refine wpList_allocPol (o := ⟨some 8, _, _, _, _, _⟩) rfl rfl ?_); intro g8 w9 hg hB8 hb9 hs; have hg8 : wr.heap.size ≤ g8 := Nat.le_of_eq hg.symm; clear hg hs)
          | ((with_reducible refine wpList_storePol rfl (.tmp 8) _ rfl rfl rfl hB8 ?_); intro wa hB8a hSa; have hba : Below wr.heap.size wr wa := hb9.trans (hSa.below hg8); have r3a := r3.bel hba; have hq8 := hB8a.rangePolPf; have d8 := hB8a.cell 18; rw [polA_18] at d8; have d5 := (r5.bel hba).cell 18; rw [polA_18] at d5)
          | (with_reducible refine wpList_loadAd (o := ⟨some 20, _, _, _, _, _⟩) rfl _ rfl rfl r3a ?_)
          | (with_reducible refine wpList_loadPfM (o := ⟨some 22, _, _, _, _, _⟩) rfl _ rfl rfl hq8 ?_)
          | (go_at_call 45; refine (HW.out _).mono ?_; rintro e wb' ⟨rfl, hbb⟩; rw [Hwb.out]; have hbw := bel_tr hba hbb; have d8b := (hB8a.bel hbb).cell 18; rw [polA_18] at d8b; have r5b := r5.bel hbw; have d5b := r5b.cell 18; rw [polA_18] at d5b; have hB8b := hB8a.bel hbb)
          | (with_reducible refine wpList_loadPol (o := ⟨some 37, _, _, _, _, _⟩) rfl _ rfl rfl hB8b ?_)
          | ((with_reducible refine wpList_storePol rfl (.tmp 5) _ rfl rfl rfl r5b ?_); intro wc hB5c hSc; have hszc := hSc.size))
        go_roundw
        case rel =>
          refine ⟨k + 1, some p, by omega, by go_num, Hst.out.symm, rfl, ?_⟩
          exact ⟨(r3.bel hbw).stays hSc (by omega), (r4.bel hbw).stays hSc (by omega), hB5c, (rr.bel hbw).stays hSc (by omega), (bel_tr rb hbw).trans (hSc.below (by omega))⟩
        case measure => simp [intOf]; omega
      · have Hst := Lib.hid (Hnx.out.trans hst)
        have Hwb := Lib.hid (HfW.out.symm.trans hf)
        generalize withB A p.pf = wb at *
        clear hst hf Hnx HfW
        subst ho
        have i1 : decide (x.pf.bits < p.pf.bits) = true := decide_eq_true hgt
        clear hgt
        have c5 := r5.cell 18
        rw [polA_18] at c5
        go_wp2_with (first
          | (with_reducible refine wpList_loadPolM (o := ⟨some 19, _, _, _, _, _⟩) rfl _ rfl rfl hrg ?_)
          | ((with_reducible refine wpList_allocPol (o := ⟨some 8, _, _, _, _, _⟩) rfl rfl ?_); intro g8 w9 hg hB8 hb9 hs; have hg8 : wr.heap.size ≤ g8 := Nat.le_of_eq hg.symm; clear hg hs)
          | ((with_reducible refine wpList_storePol rfl (.tmp 8) _ rfl rfl rfl hB8 ?_); intro wa hB8a hSa; have hba : Below wr.heap.size wr wa := hb9.trans (hSa.below hg8); have r3a := r3.bel hba; have hq8 := hB8a.rangePolPf; have d8 := hB8a.cell 18; rw [polA_18] at d8; have d5 := (r5.bel hba).cell 18; rw [polA_18] at d5)
          | (with_reducible refine wpList_loadAd (o := ⟨some 20, _, _, _, _, _⟩) rfl _ rfl rfl r3a ?_)
          | (with_reducible refine wpList_loadPfM (o := ⟨some 22, _, _, _, _, _⟩) rfl _ rfl rfl hq8 ?_)
          | (go_at_call 45; refine (HW.out _).mono ?_; rintro e wb' ⟨rfl, hbb⟩; rw [Hwb.out]; have hbw := bel_tr hba hbb; have d8b := (hB8a.bel hbb).cell 18; rw [polA_18] at d8b; have r5b := r5.bel hbw; have d5b := r5b.cell 18; rw [polA_18] at d5b; have hB8b := hB8a.bel hbb)
          | (with_reducible refine wpList_loadPol (o := ⟨some 37, _, _, _, _, _⟩) rfl _ rfl rfl hB8b ?_)
          | ((with_reducible refine wpList_storePol rfl (.tmp 5) _ rfl rfl rfl r5b ?_); intro wc hB5c hSc; have hszc := hSc.size))
        go_roundw
        case rel =>
          refine ⟨k + 1, some p, by omega, by go_num, Hst.out.symm, rfl, ?_⟩
          exact ⟨(r3.bel hbw).stays hSc (by omega), (r4.bel hbw).stays hSc (by omega), hB5c, (rr.bel hbw).stays hSc (by omega), (bel_tr rb hbw).trans (hSc.below (by omega))⟩
        case measure => simp [intOf]; omega
      · have Hst := Lib.hid (Hnx.out.trans hst)
        have Hwb := Lib.hid (HfW.out.symm.trans hf)
        generalize withB A p.pf = wb at *
        clear hst hf Hnx HfW
        subst ho
        have i1 : decide (x.pf.bits < p.pf.bits) = false := decide_eq_false hgt
        clear hgt
        have c5 := r5.cell 18
        rw [polA_18] at c5
        go_wp2_with (first
          | (with_reducible refine wpList_loadPolM (o := ⟨some 19, _, _, _, _, _⟩) rfl _ rfl rfl hrg ?_)
          | ((with_reducible refine wpList_allocPol (o := ⟨some 8, _, _, _, _, _⟩) rfl rfl ?_); intro g8 w9 hg hB8 hb9 hs; have hg8 : wr.heap.size ≤ g8 := Nat.le_of_eq hg.symm; clear hg hs)
          | ((with_reducible refine wpList_storePol rfl (.tmp 8) _ rfl rfl rfl hB8 ?_); intro wa hB8a hSa; have hba : Below wr.heap.size wr wa := hb9.trans (hSa.below hg8); have r3a := r3.bel hba; have hq8 := hB8a.rangePolPf; have d8 := hB8a.cell 18; rw [polA_18] at d8; have d5 := (r5.bel hba).cell 18; rw [polA_18] at d5)
          | (with_reducible refine wpList_loadAd (o := ⟨some 20, _, _, _, _, _⟩) rfl _ rfl rfl r3a ?_)
          | (with_reducible refine wpList_loadPfM (o := ⟨some 22, _, _, _, _, _⟩) rfl _ rfl rfl hq8 ?_)
          | (go_at_call 45; refine (HW.out _).mono ?_; rintro e wb' ⟨rfl, hbb⟩; rw [Hwb.out]; have hbw := bel_tr hba hbb; have d8b := (hB8a.bel hbb).cell 18; rw [polA_18] at d8b; have r5b := r5.bel hbw; have d5b := r5b.cell 18; rw [polA_18] at d5b; have hB8b := hB8a.bel hbb))
        go_roundw
        case rel =>
          refine ⟨k + 1, some x, by omega, by go_num, Hst.out.symm, rfl, ?_⟩
          exact ⟨r3.bel hbw, r4.bel hbw, r5b, rr.bel hbw, bel_tr rb hbw⟩
        case measure => simp [intOf]; omega
    · have hkR : k = R.length := by omega
      subst hkR
      have j0 : ¬ (R.length : Int) < (R.length : Int) := by omega
      rw [List.take_length] at ho
      rw [← ho] at Hof
      clear ho
      go_wp2_with (first
        | (with_reducible refine wpList_loadPol (o := ⟨some 39, _, _, _, _, _⟩) rfl _ rfl rfl r5 ?_)
        | ((with_reducible refine wpList_storePol rfl (.tmp 4) _ rfl rfl rfl r4 ?_); intro wc hB4c hSc))
      exact ret_pol Tryz.results26 rfl hB4c rfl ⟨by rw [Hof.out], rb.trans (hSc.below (by omega))⟩
end Go.Proofs.YthlnndjkocnfcaaGreatDoor

/- Routes and own addresses: rows of structs, with their laws. -/
namespace Go.Proofs.YthlnndjkocnfcaaGreatDoor
open Go.RowKit
attribute [local go_sem] ba_get ext_take ext_drop ext_any ba_app

structure Rt where
  pf : Pf
  idx : Int
  tun : Bool
  ok : (-9223372036854775808 ≤ idx ∧ idx ≤ 9223372036854775807)
theorem Rt.same_iff {a b : Rt} : (a.pf = b.pf ∧ a.idx = b.idx ∧ a.tun = b.tun) ↔ a = b := ⟨fun ⟨h0, h1, h2⟩ => by cases a; cases b; simp only at h0 h1 h2; subst h0 h1 h2; rfl, fun h => by rw [h]; exact ⟨rfl, rfl, rfl⟩⟩
instance : DecidableEq Rt := fun _ _ => decidable_of_iff _ Rt.same_iff
def rtL (x : Rt) : List Value := pfL x.pf ++ [.int .i64 x.idx, .bool x.tun]
def rtA (x : Rt) : Array Value := (rtL x).toArray
theorem rtL_len (x : Rt) : (rtL x).length = 21 := by unfold rtL; rw [List.length_append, pfL_len]; rfl
theorem rtA_size (x : Rt) : (rtA x).size = 21 := by unfold rtA; rw [List.size_toArray, rtL_len]
theorem rtL_hd (x : Rt) {i : Nat} (h : i < 19) : (rtL x)[i]? = (pfL x.pf)[i]? := by unfold rtL; rw [List.getElem?_append_left (by rw [pfL_len]; exact h)]
theorem rtA_18 (x : Rt) : (rtA x)[18]? = some (.int .i64 x.pf.bits) := by unfold rtA; rw [List.getElem?_toArray, rtL_hd x (by omega)]; unfold pfL; rw [List.getElem?_append_right (by rw [adL_len]; omega), adL_len]; rfl
theorem rtA_19 (x : Rt) : (rtA x)[19]? = some (.int .i64 x.idx) := by unfold rtA rtL; rw [List.getElem?_toArray, List.getElem?_append_right (by rw [pfL_len]; omega), pfL_len]; rfl
theorem rtA_20 (x : Rt) : (rtA x)[20]? = some (.bool x.tun) := by unfold rtA rtL; rw [List.getElem?_toArray, List.getElem?_append_right (by rw [pfL_len]; omega), pfL_len]; rfl
theorem rtL_one (x : Rt) : ∀ v ∈ rtL x, v.oneCell' = true := by
  intro v hv
  unfold rtL at hv
  rw [List.mem_append] at hv
  rcases hv with hv | hv
  · exact pfL_one x.pf v hv
  · simp at hv; rcases hv with rfl | rfl <;> rfl
theorem rtA_one (x : Rt) : (rtA x).all (·.oneCell') = true := all_oneCell_toArray (rtL_one x)
theorem Bk.rangehd_rt {w : World} {g : Nat} {t : TypeId} {x : Rt} (h : Bk w g t (rtA x)) : w.rangeAt g 0 (pfL x.pf) := h.rangeL (cs := rtL x) 0 (pfL x.pf) [.int .i64 x.idx, .bool x.tun] rfl
theorem rt_under : Tryz.prog.underlying 46 = some (.struct (Tryz.prog.fieldsOf 46)) := by kernel_rfl
theorem rt_size : (Tryz.prog.info? 46).map (·.size) = some 21 := by kernel_rfl
theorem rt_size' (x : Rt) : (Tryz.prog.info? 46).map (·.size) = some (rtA x).size := by rw [rtA_size]; exact rt_size
def rt0 : Rt := ⟨pf0, 0, false, by decide⟩
theorem rt_zero : ZeroIs Tryz.prog 46 (rtA rt0) := by unfold ZeroIs; kernel_rfl
theorem elt_rt : Elt Tryz.prog 23 46 21 56 := Elt.mk' (z := .agg (rtA rt0)) Tryz.underlying23 (by kernel_rfl) (by kernel_rfl) (by decide)
theorem wpList_alloc_rt {w : World} {ops : Array Oper} {rest : List Oper} {o : Oper} {a : Act} {Q : Exit → Act → World → Prop} (hgd : o.guard = none) (ho : o.op = .alloc 46)
    (h : ∀ g w', g = w.heap.size → Bk w' g 46 (rtA rt0) → Below w.heap.size w w' → w'.heap.size = g + 1 → wpList Tryz.prog ops Q rest (a.put o.dst (.pointer (some ⟨g, 0, none⟩))) w') : wpList Tryz.prog ops Q (o :: rest) a w :=
  wpList_allocZ hgd _ ho rt_zero h
theorem wpList_load_rt {w : World} {ops : Array Oper} {rest : List Oper} {o : Oper} {a : Act} {Q : Exit → Act → World → Prop} (hgd : o.guard = none) (x : Operand) (ho : o.op = .load 46 x) {g : Nat} (hx : a.eval x = .pointer (some ⟨g, 0, none⟩))
    {t : TypeId} {b : Rt} (hB : Bk w g t (rtA b)) (h : wpList Tryz.prog ops Q rest (a.put o.dst (.agg (rtA b))) w) : wpList Tryz.prog ops Q (o :: rest) a w :=
  wpList_loadB hgd _ x ho hx hB rt_under rfl (rt_size' b) h
theorem wpList_store_rt {w : World} {ops : Array Oper} {rest : List Oper} {o : Oper} {a : Act} {Q : Exit → Act → World → Prop} (hgd : o.guard = none) (x y : Operand) (ho : o.op = .store 46 x y) {g : Nat} {b c : Rt} (hx : a.eval x = .pointer (some ⟨g, 0, none⟩)) (hy : a.eval y = .agg (rtA b))
    {t : TypeId} (hB : Bk w g t (rtA c)) (h : ∀ w', Bk w' g t (rtA b) → Stays g w w' → wpList Tryz.prog ops Q rest (a.put o.dst undef) w') : wpList Tryz.prog ops Q (o :: rest) a w :=
  wpList_storeB hgd _ x y ho hx hy hB (rt_size' b) (by rw [rtA_size, rtA_size]) (rtA_one b) h
theorem wpList_loadM_rt {w : World} {ops : Array Oper} {rest : List Oper} {o : Oper} {a : Act} {Q : Exit → Act → World → Prop} (hgd : o.guard = none) (x : Operand) (ho : o.op = .load 46 x) {g off : Nat} (hx : a.eval x = .pointer (some ⟨g, off, none⟩))
    {b : Rt} (hB : w.rangeAt g off (rtL b)) (h : wpList Tryz.prog ops Q rest (a.put o.dst (.agg (rtA b))) w) : wpList Tryz.prog ops Q (o :: rest) a w :=
  wpList_load_mid hgd _ x ho g off hx (rtL b) _ hB rt_under rfl (by rw [rtL_len]; exact rt_size) h
structure Ifc where
  ad : Ad
  idx : Int
  bits : Int
  dep : Bool
  hom : Bool
  tem : Bool
  ok : (-9223372036854775808 ≤ idx ∧ idx ≤ 9223372036854775807) ∧ (-9223372036854775808 ≤ bits ∧ bits ≤ 9223372036854775807)
theorem Ifc.same_iff {a b : Ifc} : (a.ad = b.ad ∧ a.idx = b.idx ∧ a.bits = b.bits ∧ a.dep = b.dep ∧ a.hom = b.hom ∧ a.tem = b.tem) ↔ a = b := ⟨fun ⟨h0, h1, h2, h3, h4, h5⟩ => by cases a; cases b; simp only at h0 h1 h2 h3 h4 h5; subst h0 h1 h2 h3 h4 h5; rfl, fun h => by rw [h]; exact ⟨rfl, rfl, rfl, rfl, rfl, rfl⟩⟩
instance : DecidableEq Ifc := fun _ _ => decidable_of_iff _ Ifc.same_iff
def ifcL (x : Ifc) : List Value := adL x.ad ++ [.int .i64 x.idx, .int .i64 x.bits, .bool x.dep, .bool x.hom, .bool x.tem]
def ifcA (x : Ifc) : Array Value := (ifcL x).toArray
theorem ifcL_len (x : Ifc) : (ifcL x).length = 23 := by unfold ifcL; rw [List.length_append, adL_len]; rfl
theorem ifcA_size (x : Ifc) : (ifcA x).size = 23 := by unfold ifcA; rw [List.size_toArray, ifcL_len]
theorem ifcA_0 (x : Ifc) : (ifcA x)[0]? = some (.int .i64 x.ad.fam) := by unfold ifcA; rw [List.getElem?_toArray]; rfl
theorem ifcA_18 (x : Ifc) : (ifcA x)[18]? = some (.int .i64 x.idx) := by unfold ifcA ifcL; rw [List.getElem?_toArray, List.getElem?_append_right (by rw [adL_len]; omega), adL_len]; rfl
theorem ifcA_19 (x : Ifc) : (ifcA x)[19]? = some (.int .i64 x.bits) := by unfold ifcA ifcL; rw [List.getElem?_toArray, List.getElem?_append_right (by rw [adL_len]; omega), adL_len]; rfl
theorem ifcA_20 (x : Ifc) : (ifcA x)[20]? = some (.bool x.dep) := by unfold ifcA ifcL; rw [List.getElem?_toArray, List.getElem?_append_right (by rw [adL_len]; omega), adL_len]; rfl
theorem ifcA_21 (x : Ifc) : (ifcA x)[21]? = some (.bool x.hom) := by unfold ifcA ifcL; rw [List.getElem?_toArray, List.getElem?_append_right (by rw [adL_len]; omega), adL_len]; rfl
theorem ifcA_22 (x : Ifc) : (ifcA x)[22]? = some (.bool x.tem) := by unfold ifcA ifcL; rw [List.getElem?_toArray, List.getElem?_append_right (by rw [adL_len]; omega), adL_len]; rfl
theorem ifcL_one (x : Ifc) : ∀ v ∈ ifcL x, v.oneCell' = true := by
  intro v hv
  unfold ifcL at hv
  rw [List.mem_append] at hv
  rcases hv with hv | hv
  · exact adL_one x.ad v hv
  · simp at hv; rcases hv with rfl | rfl | rfl | rfl | rfl <;> rfl
theorem ifcA_one (x : Ifc) : (ifcA x).all (·.oneCell') = true := all_oneCell_toArray (ifcL_one x)
theorem Bk.range_ifc {w : World} {g : Nat} {t : TypeId} {x : Ifc} (h : Bk w g t (ifcA x)) : w.rangeAt g 0 (ifcL x) := h.rangeL (cs := ifcL x) 0 (ifcL x) [] (by simp)
theorem Bk.rangehd_ifc {w : World} {g : Nat} {t : TypeId} {x : Ifc} (h : Bk w g t (ifcA x)) : w.rangeAt g 0 (adL x.ad) := h.rangeL (cs := ifcL x) 0 (adL x.ad) [.int .i64 x.idx, .int .i64 x.bits, .bool x.dep, .bool x.hom, .bool x.tem] rfl
theorem ifc_under : Tryz.prog.underlying 42 = some (.struct (Tryz.prog.fieldsOf 42)) := by kernel_rfl
theorem ifc_size : (Tryz.prog.info? 42).map (·.size) = some 23 := by kernel_rfl
theorem ifc_size' (x : Ifc) : (Tryz.prog.info? 42).map (·.size) = some (ifcA x).size := by rw [ifcA_size]; exact ifc_size
def ifc0 : Ifc := ⟨ad0, 0, 0, false, false, false, by decide⟩
theorem ifc_zero : ZeroIs Tryz.prog 42 (ifcA ifc0) := by unfold ZeroIs; kernel_rfl
theorem elt_ifc : Elt Tryz.prog 22 42 23 56 := Elt.mk' (z := .agg (ifcA ifc0)) Tryz.underlying22 (by kernel_rfl) (by kernel_rfl) (by decide)
theorem wpList_alloc_ifc {w : World} {ops : Array Oper} {rest : List Oper} {o : Oper} {a : Act} {Q : Exit → Act → World → Prop} (hgd : o.guard = none) (ho : o.op = .alloc 42)
    (h : ∀ g w', g = w.heap.size → Bk w' g 42 (ifcA ifc0) → Below w.heap.size w w' → w'.heap.size = g + 1 → wpList Tryz.prog ops Q rest (a.put o.dst (.pointer (some ⟨g, 0, none⟩))) w') : wpList Tryz.prog ops Q (o :: rest) a w :=
  wpList_allocZ hgd _ ho ifc_zero h
theorem wpList_load_ifc {w : World} {ops : Array Oper} {rest : List Oper} {o : Oper} {a : Act} {Q : Exit → Act → World → Prop} (hgd : o.guard = none) (x : Operand) (ho : o.op = .load 42 x) {g : Nat} (hx : a.eval x = .pointer (some ⟨g, 0, none⟩))
    {t : TypeId} {b : Ifc} (hB : Bk w g t (ifcA b)) (h : wpList Tryz.prog ops Q rest (a.put o.dst (.agg (ifcA b))) w) : wpList Tryz.prog ops Q (o :: rest) a w :=
  wpList_loadB hgd _ x ho hx hB ifc_under rfl (ifc_size' b) h
theorem wpList_store_ifc {w : World} {ops : Array Oper} {rest : List Oper} {o : Oper} {a : Act} {Q : Exit → Act → World → Prop} (hgd : o.guard = none) (x y : Operand) (ho : o.op = .store 42 x y) {g : Nat} {b c : Ifc} (hx : a.eval x = .pointer (some ⟨g, 0, none⟩)) (hy : a.eval y = .agg (ifcA b))
    {t : TypeId} (hB : Bk w g t (ifcA c)) (h : ∀ w', Bk w' g t (ifcA b) → Stays g w w' → wpList Tryz.prog ops Q rest (a.put o.dst undef) w') : wpList Tryz.prog ops Q (o :: rest) a w :=
  wpList_storeB hgd _ x y ho hx hy hB (ifc_size' b) (by rw [ifcA_size, ifcA_size]) (ifcA_one b) h
theorem wpList_loadM_ifc {w : World} {ops : Array Oper} {rest : List Oper} {o : Oper} {a : Act} {Q : Exit → Act → World → Prop} (hgd : o.guard = none) (x : Operand) (ho : o.op = .load 42 x) {g off : Nat} (hx : a.eval x = .pointer (some ⟨g, off, none⟩))
    {b : Ifc} (hB : w.rangeAt g off (ifcL b)) (h : wpList Tryz.prog ops Q rest (a.put o.dst (.agg (ifcA b))) w) : wpList Tryz.prog ops Q (o :: rest) a w :=
  wpList_load_mid hgd _ x ho g off hx (ifcL b) _ hB ifc_under rfl (by rw [ifcL_len]; exact ifc_size) h
/-- the fields of two structs, one by one. -/
inductive EqFs (P : Program) (w : World) (d : Nat) (xs ys : Array Value) : List (Bool × TypeId × Nat) → Bool → Prop
  | nil : EqFs P w d xs ys [] true
  | cons {t : TypeId} {o : Nat} {x y : Value} {b c : Bool} {l : List (Bool × TypeId × Nat)} (p : (part t xs o).run P w = .ok x w) (q : (part t ys o).run P w = .ok y w) (e : (Op.equalIn d t x y).run P w = .ok b w) (h : EqFs P w d xs ys l c) : EqFs P w d xs ys ((false, t, o) :: l) (b && c)
theorem eqFs_run {P : Program} {w : World} {d : Nat} {xs ys : Array Value} {l : List (Bool × TypeId × Nat)} {c : Bool} (h : EqFs P w d xs ys l c) : ∀ fs : List Field, fs.map (fun f => (f.name == "_", f.type, f.offset)) = l → (Op.eqFields d xs ys fs).run P w = .ok c w := by
  induction h with
  | nil => intro fs hl; cases fs with | nil => rfl | cons _ _ => cases hl
  | @cons t o x y b c l p q e h ih =>
    intro fs hl
    cases fs with
    | nil => cases hl
    | cons f fs =>
      rw [List.map_cons, List.cons.injEq, Prod.mk.injEq, Prod.mk.injEq] at hl
      obtain ⟨⟨hn, ht, ho⟩, hl⟩ := hl
      have hn' : f.name ≠ "_" := by simpa using hn
      have ih' := ih fs hl
      subst ht ho
      cases b
      · simp [Op.eqFields, hn', p, q, e]
      · simp [Op.eqFields, hn', p, q, e, ih']
end Go.Proofs.YthlnndjkocnfcaaGreatDoor

/- The reference's Map. -/
namespace Go.Proofs.YthlnndjkocnfcaaGreatDoor
open Go.RowKit
attribute [local go_sem] ba_get ext_take ext_drop ext_any ba_app

def mpK (a : Ad) (k : Nat) : Ad := ⟨6, [0, 0, 0, 0, 0, 0, 0, 0, 0, 0, 255, 255, if 0 < k then a.b 0 else 0, if 1 < k then a.b 1 else 0, if 2 < k then a.b 2 else 0, if 3 < k then a.b 3 else 0], 0, ⟨rfl, by decide, by decide⟩⟩
theorem mpK_set {a : Ad} {k : Nat} (h : k < 4) : (mpK a k).setB (12 + k) (a.b k) = mpK a (k + 1) := by
  match k, h with
  | 0, _ => rfl
  | 1, _ => rfl
  | 2, _ => rfl
  | 3, _ => rfl
theorem mpK_4 (a : Ad) : mpK a 4 = mapA a := rfl
theorem mpK_0 (a : Ad) : ((adA al0).setIfInBounds 11 (.int .u8 255)).setIfInBounds 12 (.int .u8 255) = adA (mpK a 0) := rfl
theorem built_al0 : Tryz.prog.built 29 [(0, .int .i64 6)] = some (adA al0) := by kernel_rfl
structure MkRel (w : World) (a : Ad) (g1 g2 g3 k : Nat) (wr : World) : Prop where
  b1 : Bk wr g1 29 (adA a)
  b2 : Bk wr g2 29 (adA ad0)
  b3 : Bk wr g3 29 (adA (mpK a k))
  b : Below w.heap.size w wr
set_option maxRecDepth 100000 in
set_option maxHeartbeats 4000000 in
theorem rmap_all (a : Ad) (w : World) : Calls Tryz.prog 37 #[.agg (adA a)] w (AdPost w (mpA a)) := by
  by_cases hf : a.fam = 4
  · have i4 : (a.fam != 4) = false := by simp [hf]
    have Hf := Lib.hid (show mpA a = mapA a by unfold mpA; rw [if_pos hf])
    clear hf
    go_enter Tryz.func37, Tryz.ntmps37
    go_wp2_with (first
      | ((with_reducible refine wpList_boxB rfl _ _ rfl rfl ?_); intro g1 w1 hg hB1 hb1 hs; have hg1 : w.heap.size ≤ g1 := Nat.le_of_eq hg.symm; clear hg hs)
      | ((with_reducible refine wpList_allocAd (o := ⟨some 2, _, _, _, _, _⟩) rfl rfl ?_); intro g2 w2 hg hB2 hb2 hs; have hg2 : w1.heap.size ≤ g2 := Nat.le_of_eq hg.symm; have hB12 := hB1.bel hb2; have hb02 := bel_tr hb1 hb2; have c0 := hB12.cell 0; rw [adA_0] at c0; clear hg hs)
      | (with_reducible refine wpList_buildL rfl 29 _ rfl built_al0 rfl ?_)
      | ((with_reducible refine wpList_allocAd (o := ⟨some 3, _, _, _, _, _⟩) rfl rfl ?_); intro g3 w3 hg hB3 hb3 hs; have hg3 : w2.heap.size ≤ g3 := Nat.le_of_eq hg.symm; have hB13 := hB12.bel hb3; have hB23 := hB2.bel hb3; have hb03 := bel_tr hb02 hb3; clear hg hs)
      | ((with_reducible refine wpList_storeAd rfl (.tmp 3) _ rfl rfl rfl hB3 ?_); intro w4 hB34 hS4
         have hne : g1 < g2 ∧ g2 < g3 ∧ w.heap.size ≤ g1 := ⟨by have := hB1.lt; omega, by have := hB2.lt; omega, hg1⟩
         have hB14 := hB13.stays hS4 (by omega)
         have hB24 := hB23.stays hS4 (by omega)
         have hb04 := hb03.trans (hS4.below (by omega))
         refine hold ?_))
    refine Lib.hid ?_
    have hX1 := hB34.set_ 11 (.int .u8 255)
    have hX2 := hX1.set_ 12 (.int .u8 255)
    rw [mpK_0 a] at hX2
    have c11 : w4.cell? ⟨g3, 11, none⟩ = some (.int .u8 0) := hB34.cell 11
    have f11 := hB34.free 11
    have c12 : (w4.setCell ⟨g3, 11, none⟩ (.int .u8 255)).cell? ⟨g3, 12, none⟩ = some (.int .u8 0) := hX1.cell 12
    have f12 := hX1.free 12
    have hY := (hB14.far (p := ⟨g3, 11, none⟩) (by show g1 ≠ g3; omega) (.int .u8 255)).far (p := ⟨g3, 12, none⟩) (by show g1 ≠ g3; omega) (.int .u8 255)
    have hZ := (hB24.far (p := ⟨g3, 11, none⟩) (by show g2 ≠ g3; omega) (.int .u8 255)).far (p := ⟨g3, 12, none⟩) (by show g2 ≠ g3; omega) (.int .u8 255)
    have hby := (hb04.setCell (p := ⟨g3, 11, none⟩) (show w.heap.size ≤ g3 by omega) (.int .u8 255)).setCell (p := ⟨g3, 12, none⟩) (show w.heap.size ≤ g3 by omega) (.int .u8 255)
    have R0 : MkRel w a g1 g2 g3 0 ((w4.setCell ⟨g3, 11, none⟩ (.int .u8 255)).setCell ⟨g3, 12, none⟩ (.int .u8 255)) := ⟨hY, hZ, hX2, hby⟩
    clear hX1 hX2 hY hZ hby hB1 hB12 hB13 hB14 hB2 hB23 hB24 hB3 hB34 hb1 hb2 hb02 hb3 hb03 hb04 hS4 hg1 hg2 hg3
    go_wp2
    go_loopw [4] (fun i wr => ∃ k : Nat, k ≤ 4 ∧ i = .int .i64 k ∧ MkRel w a g1 g2 g3 k wr) (fun i _ => 4 - (intOf i).toNat)
    case atStart => exact ⟨0, by omega, rfl, R0⟩
    case round =>
      obtain ⟨k, hk, rfl, r1, r2, r3, rb⟩ := hrel
      clear R0 c11 f11 c12 f12 c0
      by_cases hlt : k < 4
      · have j0 : (k : Int) < 4 := by omega
        have j1 : (k : Int) < 16 := by omega
        have hset := mpK_set (a := a) hlt
        obtain ⟨J, hJ⟩ : ∃ J, 12 + k = J := ⟨_, rfl⟩
        rw [hJ] at hset
        have j2 : (12 : Int) + (k : Int) = (J : Int) := by omega
        have j3 : J < 16 := by omega
        have j4 : (J : Int) < 16 := by omega
        have c1 := r1.cell (k + 1)
        rw [adA_ip a (by omega), Nat.add_comm k 1] at c1
        have c3 := r3.cell (J + 1)
        rw [adA_ip (mpK a k) j3, Nat.add_comm J 1] at c3
        have f3 := r3.free (1 + J)
        have l0 := u8lt (a.b k)
        have hX : Bk (wr.setCell ⟨g3, 1 + J, none⟩ (.int .u8 ((a.b k).toNat : Int))) g3 29 (adA (mpK a (k + 1))) := by
          have := r3.set_ (1 + J) (.int .u8 ((a.b k).toNat : Int))
          rwa [show (adA (mpK a k)).setIfInBounds (1 + J) (.int .u8 ((a.b k).toNat : Int)) = adA (mpK a (k + 1)) by rw [Nat.add_comm 1 J, adA_setB _ j3, hset]] at this
        have HX := Lib.hid (show MkRel w a g1 g2 g3 (k + 1) (wr.setCell ⟨g3, 1 + J, none⟩ (.int .u8 ((a.b k).toNat : Int))) from
          ⟨r1.far (p := ⟨g3, 1 + J, none⟩) (by show g1 ≠ g3; omega) _, r2.far (p := ⟨g3, 1 + J, none⟩) (by show g2 ≠ g3; omega) _, hX, rb.setCell (p := ⟨g3, 1 + J, none⟩) (show w.heap.size ≤ g3 by omega) _⟩)
        clear hX hset hJ
        go_wp2
        go_roundw
        case rel => exact ⟨k + 1, by omega, by go_num, HX.out⟩
        case measure => simp [intOf]; omega
      · have hk4 : k = 4 := by omega
        subst hk4
        have j0 : ¬ ((4 : Nat) : Int) < 4 := by omega
        rw [mpK_4] at r3
        go_wp2_with (first
          | (with_reducible refine wpList_loadAd (o := ⟨some 26, _, _, _, _, _⟩) rfl _ rfl rfl r3 ?_)
          | ((with_reducible refine wpList_storeAd rfl (.tmp 2) _ rfl rfl rfl r2 ?_); intro w7 hB7 hS7))
        exact ret_ad Tryz.results37 rfl hB7 rfl ⟨by rw [Hf.out], rb.trans (hS7.below (by omega))⟩
  · have Hf := Lib.hid (show mpA a = a by unfold mpA; rw [if_neg hf])
    have i4 : (a.fam != 4) = true := by simpa using hf
    clear hf
    go_enter Tryz.func37, Tryz.ntmps37
    go_wp2_with (first
      | ((with_reducible refine wpList_boxB rfl _ _ rfl rfl ?_); intro g1 w1 hg hB1 hb1 hs; have hg1 : w.heap.size ≤ g1 := Nat.le_of_eq hg.symm; clear hg hs)
      | ((with_reducible refine wpList_allocAd (o := ⟨some 2, _, _, _, _, _⟩) rfl rfl ?_); intro g2 w2 hg hB2 hb2 hs; have hg2 : w1.heap.size ≤ g2 := Nat.le_of_eq hg.symm; have hB12 := hB1.bel hb2; have hb02 := bel_tr hb1 hb2; have c0 := hB12.cell 0; rw [adA_0] at c0; clear hg hs)
      | (with_reducible refine wpList_loadAd (o := ⟨some 8, _, _, _, _, _⟩) rfl _ rfl rfl hB12 ?_)
      | ((with_reducible refine wpList_storeAd rfl (.tmp 2) _ rfl rfl rfl hB2 ?_); intro w7 hB7 hS7))
    exact ret_ad Tryz.results37 rfl hB7 rfl ⟨by rw [Hf.out], hb02.trans (hS7.below (by have := hb1.size; omega))⟩
end Go.Proofs.YthlnndjkocnfcaaGreatDoor

/- The reference's Of (36). -/
namespace Go.Proofs.YthlnndjkocnfcaaGreatDoor
open Go.RowKit
attribute [local go_sem] ba_get ext_take ext_drop ext_any ba_app

def rofP (a : Ad) (R : List Pol) : Pol := (dsc (fW (mpA a)) gW R 129).getD polD
def hitP (A : Ad) (z : Int) (p : Pol) : Bool := decide (gW p = z) && fW A p
structure RoRel (w : World) (g4 g6 : Nat) (A : Ad) (An : Option Addr) (R : List Pol) (lo : Nat) (wr : World) : Prop where
  b4 : Bk wr g4 56 (polA pol0)
  b6 : Bk wr g6 29 (adA A)
  r : PolRow wr An R lo
  b : Below w.heap.size w wr
theorem RoRel.bel {w wr w' : World} {g4 g6 lo : Nat} {A : Ad} {An : Option Addr} {R : List Pol} (h : RoRel w g4 g6 A An R lo wr) (hb : Below wr.heap.size wr w') : RoRel w g4 g6 A An R lo w' := ⟨h.b4.bel hb, h.b6.bel hb, h.r.bel hb, bel_tr h.b hb⟩
set_option maxRecDepth 100000 in
set_option maxHeartbeats 40000000 in
theorem rpof_any (cs : Array Value) (hcs : cs.size = 3) (R : List Pol) (a : Ad) (w : World) (hRl : R.length ≤ 1000000) (hRows : ∀ w', Below w.heap.size w w' → Calls Tryz.prog 36 #[.agg cs] w' (PolsPost w' R)) :
    Calls Tryz.prog 19 #[.agg cs, .agg (adA a)] w (PolPost w (rofP a R)) := by
  have HRows := Lib.hid hRows
  have Hns := Lib.hid (show (Tryz.prog.info? 26).map (·.size) = some cs.size by rw [hcs]; exact net_size)
  have Hof : Hid (rofP a R = (dsc (fW (mpA a)) gW R 129).getD polD) := Lib.hid rfl
  clear hRows hcs
  generalize rofP a R = T at *
  go_enter Tryz.func19, Tryz.ntmps19
  go_wp2_with (first
    | ((with_reducible refine wpList_boxB (o := ⟨some 2, _, _, _, _, _⟩) rfl _ _ rfl rfl ?_); intro g2 w1 hg hB2 hb1 hs; have hg2 : w.heap.size ≤ g2 := Nat.le_of_eq hg.symm; clear hg hs)
    | ((with_reducible refine wpList_boxB (o := ⟨some 3, _, _, _, _, _⟩) rfl _ _ rfl rfl ?_); intro g3 w2 hg hB3 hb2 hs; have hB22 := hB2.bel hb2; have hb02 := bel_tr hb1 hb2; clear hg hs)
    | ((with_reducible refine wpList_allocPol (o := ⟨some 4, _, _, _, _, _⟩) rfl rfl ?_); intro g4 w3 hg hB4 hb3 hs; have hg4 : w2.heap.size ≤ g4 := Nat.le_of_eq hg.symm; have hB23 := hB22.bel hb3; have hB33 := hB3.bel hb3; have hb03 := bel_tr hb02 hb3; clear hg hs)
    | (with_reducible refine wpList_loadB (o := ⟨some 9, _, _, _, _, _⟩) rfl _ _ rfl rfl hB23 net_under rfl Hns.out ?_)
    | (go_at_call 36; refine (HRows.out _ hb03).mono ?_; rintro e w4 ⟨v8, rfl, ho8, hb4⟩; obtain ⟨A8, c8, rfl, hc8⟩ := (Sl.own ho8).any; have hr4 := PolRow.own ho8; have hB34 := hB33.bel hb4; have hB44 := hB4.bel hb4; have hb04 := bel_tr hb03 hb4; have hl4 := hB4.lt; clear ho8)
    | (with_reducible refine wpList_loadAd (o := ⟨some 11, _, _, _, _, _⟩) rfl _ rfl rfl hB34 ?_)
    | (go_at_call 37; refine (rmap_all a _).mono ?_; rintro e w5 ⟨rfl, hb5⟩; have hB45 := hB44.bel hb5; have hr5 := hr4.bel hb5; have hb05 := bel_tr hb04 hb5)
    | ((with_reducible refine wpList_allocAd (o := ⟨some 6, _, _, _, _, _⟩) rfl rfl ?_); intro g6 w6 hg hB6 hb6 hs; have hg6 : w5.heap.size ≤ g6 := Nat.le_of_eq hg.symm; have hB46 := hB45.bel hb6; clear hg hs)
    | ((with_reducible refine wpList_storeAd rfl (.tmp 6) _ rfl rfl rfl hB6 ?_); intro w7 hB67 hS7; have hb57 : Below w5.heap.size w5 w7 := hb6.trans (hS7.below hg6); have hB47 := hB45.bel hb57; have hr7 := hr5.bel hb57; have hb07 := bel_tr hb05 hb57))
  have hg4w : w.heap.size ≤ g4 := by have := hb02.size; omega
  generalize mpA a = A at *
  generalize w3.heap.size = lo at *
  have R0 : RoRel w g4 g6 A A8 R lo w7 := ⟨hB47, hB67, hr7, hb07⟩
  clear hB2 hB22 hB23 hB3 hB33 hB34 hB4 hB44 hB45 hB46 hB47 hB6 hB67 hr4 hr5 hr7 hb1 hb2 hb02 hb3 hb03 hb4 hb04 hb5 hb05 hb6 hb57 hb07 hS7 hg4 hg6 hl4 hg2 Hns HRows
  go_loopw [7, 8] (fun bv iv wr => ∃ (m : Nat) (z : Int), m ≤ 129 ∧ bv = .int .i64 z ∧ z = (m : Int) - 1 ∧ T = (dsc (fW A) gW R m).getD polD ∧ RoRel w g4 g6 A A8 R lo wr) (fun bv _ _ => (intOf bv + 1).toNat)
  case atStart => exact ⟨129, 128, by omega, rfl, by omega, Hof.out, R0⟩
  case round =>
    obtain ⟨m, z, hm, rfl, hz, hT, ro⟩ := hrel
    clear R0 Hof
    obtain ⟨wo, rfl⟩ : ∃ wo, wo = wr := ⟨_, rfl⟩
    rcases Nat.eq_zero_or_pos m with h0 | h0
    · subst h0
      have hT' := Lib.hid hT
      obtain rfl : z = -1 := by omega
      have r4 := ro.b4
      have HR := Lib.hid ro.b
      clear hz hT ro
      go_wp2_with (first
        | (with_reducible refine wpList_buildL rfl 56 _ rfl built_polD rfl ?_)
        | ((with_reducible refine wpList_storePol rfl (.tmp 4) _ rfl rfl rfl r4 ?_); intro wc hB4c hSc))
      exact ret_pol Tryz.results19 rfl hB4c rfl ⟨by rw [hT'.out]; rfl, HR.out.trans (hSc.below (by omega))⟩
    · obtain ⟨n, rfl⟩ : ∃ n, m = n + 1 := ⟨m - 1, by omega⟩
      have hzn : z = (n : Int) := by omega
      have z0 : (0 : Int) ≤ z := by omega
      have z1 : z ≤ 128 := by omega
      have hT1 : ∃ q, fnd (fW A) gW z R = q ∧ (∀ x, q = some x → T = x) ∧ (q = none → T = (dsc (fW A) gW R n).getD polD) := by
        refine ⟨_, rfl, fun x hx => ?_, fun hx => ?_⟩
        · rw [hT, dsc, ← hzn, hx]; rfl
        · rw [hT, dsc, ← hzn, hx]
      obtain ⟨q, hq, hq1, hq2⟩ := hT1
      have Hq1 := Lib.hid hq1
      have Hq2 := Lib.hid hq2
      have Hzn := Lib.hid hzn
      have hf0 : R.find? (hitP A z) = q := hq
      have Hf0 := Lib.hid hf0
      have RO := Lib.hid ro
      clear hz hT hq1 hq2 hzn hq hf0 ro
      go_wp2
      go_loopw [8] (fun iv wr => ∃ k : Nat, k ≤ R.length ∧ iv = .int .i64 k ∧ (R.drop k).find? (hitP A z) = q ∧ RoRel w g4 g6 A A8 R lo wr) (fun iv _ => R.length - (intOf iv).toNat)
      case atStart => exact ⟨0, by omega, rfl, by rw [List.drop_zero]; exact Hf0.out, RO.out⟩
      case round =>
        obtain ⟨k, hk, rfl, hfk, rr⟩ := hrel
        clear RO Hf0
        by_cases hlt : k < R.length
        · obtain ⟨b, off, rfl, hblo, hblt, hrg⟩ := rr.r k hlt
          have j0 : (k : Int) < (R.length : Int) := by omega
          rw [List.drop_eq_getElem_cons hlt, List.find?_cons] at hfk
          generalize hp : R[k] = p at *
          have HW : Hid (∀ w, Calls Tryz.prog 35 #[.agg (adA A), .agg (pfA p.pf)] w fun e w' => e = .returned (.bool (withB A p.pf)) ∧ Below w.heap.size w w') := Lib.hid (rwithin_any A p.pf)
          have hcs : ((p.pf.bits == z) = false ∧ (R.drop (k + 1)).find? (hitP A z) = q) ∨ ((p.pf.bits == z) = true ∧ withB A p.pf = false ∧ (R.drop (k + 1)).find? (hitP A z) = q) ∨ ((p.pf.bits == z) = true ∧ withB A p.pf = true ∧ some p = q) := by
            cases hb : p.pf.bits == z with
            | false =>
              left
              have : hitP A z p = false := by unfold hitP gW; rw [decide_eq_false (by simpa using hb)]; rfl
              rw [this] at hfk
              exact ⟨rfl, hfk⟩
            | true =>
              right
              cases hw : withB A p.pf with
              | false =>
                left
                have : hitP A z p = false := by unfold hitP fW; rw [hw, Bool.and_false]
                rw [this] at hfk
                exact ⟨rfl, rfl, hfk⟩
              | true =>
                right
                have : hitP A z p = true := by unfold hitP fW gW; rw [hw, decide_eq_true (by simpa using hb)]; rfl
                rw [this] at hfk
                exact ⟨rfl, rfl, hfk⟩
          clear hp hfk
          have hR6 := rr.b6.rangeAd
          have hRp := range_polPf hrg
          have c18 := hrg 18 _ (polL_18 p)
          have x18 := fun x : BelT wr => x.cell c18
          rcases hcs with ⟨i1, hn⟩ | ⟨i1, hw, hn⟩ | ⟨i1, hw, hn⟩
          · have Hn := Lib.hid hn
            clear hn c18
            go_wp2
            refine wp_region_bel (by kernel_rfl) (by kernel_rfl) ?_
            repeat (first
              | go_big_quiet_skip
              | (go_big_quiet_want; first
                  | ((with_reducible refine quiet_loadAd _ rfl rfl hR6 (by simp only [Act.put, List.setIfInBounds_toArray, List.set_cons_succ, List.set_cons_zero]; exact rfl) ?_); go_big_quiet_on)
                  | ((with_reducible refine quiet_loadPf _ rfl rfl hRp (by simp only [Act.put, List.setIfInBounds_toArray, List.set_cons_succ, List.set_cons_zero]; exact rfl) ?_); go_big_quiet_on)
                  | (go_big_quiet_op; first | go_big_quiet_on | go_big_quiet_call ((with_reducible refine bel_call (HW.out _))))))
            refine wpQuiet_nil ?_
            rintro _ ⟨x, rfl⟩
            have HX := Lib.hid (rr.bel x.bel)
            clear x18
            go_wp2
            go_roundw
            case rel => exact ⟨k + 1, by omega, by go_num, Hn.out, HX.out⟩
            case measure => simp [intOf]; omega
          · have Hn := Lib.hid hn
            rw [hw] at HW
            clear hw
            clear hn c18
            go_wp2
            refine wp_region_bel (by kernel_rfl) (by kernel_rfl) ?_
            repeat (first
              | go_big_quiet_skip
              | (go_big_quiet_want; first
                  | ((with_reducible refine quiet_loadAd _ rfl rfl hR6 (by simp only [Act.put, List.setIfInBounds_toArray, List.set_cons_succ, List.set_cons_zero]; exact rfl) ?_); go_big_quiet_on)
                  | ((with_reducible refine quiet_loadPf _ rfl rfl hRp (by simp only [Act.put, List.setIfInBounds_toArray, List.set_cons_succ, List.set_cons_zero]; exact rfl) ?_); go_big_quiet_on)
                  | (go_big_quiet_op; first | go_big_quiet_on | go_big_quiet_call ((with_reducible refine bel_call (HW.out _))))))
            refine wpQuiet_nil ?_
            rintro _ ⟨x, rfl⟩
            have HX := Lib.hid (rr.bel x.bel)
            clear x18
            go_wp2
            go_roundw
            case rel => exact ⟨k + 1, by omega, by go_num, Hn.out, HX.out⟩
            case measure => simp [intOf]; omega
          · have Hn := Lib.hid hn
            rw [hw] at HW
            clear hw
            clear hn c18
            go_wp2
            refine wp_region_bel (by kernel_rfl) (by kernel_rfl) ?_
            repeat (first
              | go_big_quiet_skip
              | (go_big_quiet_want; first
                  | ((with_reducible refine quiet_loadAd _ rfl rfl hR6 (by simp only [Act.put, List.setIfInBounds_toArray, List.set_cons_succ, List.set_cons_zero]; exact rfl) ?_); go_big_quiet_on)
                  | ((with_reducible refine quiet_loadPf _ rfl rfl hRp (by simp only [Act.put, List.setIfInBounds_toArray, List.set_cons_succ, List.set_cons_zero]; exact rfl) ?_); go_big_quiet_on)
                  | (go_big_quiet_op; first | go_big_quiet_on | go_big_quiet_call ((with_reducible refine bel_call (HW.out _))))))
            refine wpQuiet_nil ?_
            rintro _ ⟨x, rfl⟩
            have HX := Lib.hid (rr.bel x.bel)
            have r4 := HX.out.b4
            have hrg2 : x.at_.rangeAt b (off + k * 21) (polL p) := fun j v hv => x.cell (hrg j v hv)
            clear x18
            go_wp2_with (first
              | (with_reducible refine wpList_loadPolM (o := ⟨some 43, _, _, _, _, _⟩) rfl _ rfl rfl hrg2 ?_)
              | ((with_reducible refine wpList_storePol rfl (.tmp 4) _ rfl rfl rfl r4 ?_); intro wc hB4c hSc))
            exact ret_pol Tryz.results19 rfl hB4c rfl ⟨by rw [Hq1.out p Hn.out.symm], HX.out.b.trans (hSc.below (by omega))⟩
        · have hkR : k = R.length := by omega
          subst hkR
          have j0 : ¬ (R.length : Int) < (R.length : Int) := by omega
          rw [List.drop_length, List.find?_nil] at hfk
          have Hn := Lib.hid (Hq2.out hfk.symm)
          have RR := Lib.hid rr
          clear hfk rr
          go_wp2
          go_roundw
          case rel => exact ⟨n, z - 1, by omega, by go_num, by have := Hzn.out; omega, Hn.out, RR.out⟩
          case measure => simp [intOf]; omega
end Go.Proofs.YthlnndjkocnfcaaGreatDoor

/- PolicyPlain: the plain part; law36.same, law36.works. -/
namespace Go.Proofs.YthlnndjkocnfcaaGreatDoor
open Go.RowKit
attribute [local go_sem] ba_get ext_take ext_drop ext_any ba_app

theorem comF_setZ (a b : Ad) (z : Int) (h) : ∀ k i, comF (a.setZ z h) b k i = comF a b k i := by
  intro k
  induction k with
  | zero => intro i; rfl
  | succ k ih =>
    intro i
    rw [comF, comF, ih]
    rfl
theorem fW_setZ (a : Ad) (z : Int) (h) : fW (a.setZ z h) = fW a := by
  funext p
  unfold fW withB comA
  rw [comF_setZ]
  rfl
structure SmRel (w : World) (A1 A2 : Option Addr) (l1 l2 : Nat) (wr : World) : Prop where
  r1 : PolRow wr A1 plainP l1
  r2 : PolRow wr A2 plainP l2
  b : Below w.heap.size w wr
theorem SmRel.bel {w wr w' : World} {A1 A2 : Option Addr} {l1 l2 : Nat} (h : SmRel w A1 A2 l1 l2 wr) (hb : Below wr.heap.size wr w') : SmRel w A1 A2 l1 l2 w' := ⟨h.r1.bel hb, h.r2.bel hb, bel_tr h.b hb⟩
def PlsPost (w : World) (e : Ending) (w' : World) : Prop := ∃ A c, e = .returned (.slice A 9 c) ∧ 9 ≤ c ∧ PolRow w' A plainP w.heap.size ∧ Below w.heap.size w w'
theorem PolsPost.row {w w' : World} {e : Ending} (h : PolsPost w plainP e w') : PlsPost w e w' := by
  obtain ⟨v, rfl, ho, hb⟩ := h
  obtain ⟨A, c, rfl, hc⟩ := (Sl.own ho).any
  exact ⟨A, c, rfl, hc, PolRow.own ho, hb⟩
end Go.Proofs.YthlnndjkocnfcaaGreatDoor

/- Like bits, a byte or two of them: for Scope and Multi. No walk here. -/
namespace Go.Proofs.YthlnndjkocnfcaaGreatDoor
open Go.RowKit

theorem ge_b {a b : Ad} {j m n : Nat} (hn : n ≤ 8) (h0 : 0 < n) : 8 * j + n ≤ comF a b (m + 8) (8 * j) ↔ (a.b j = b.b j ∨ n + Lib.bitLen (a.b j ^^^ b.b j).toNat ≤ 8) := by
  by_cases h : a.b j = b.b j
  · rw [comF_like h]
    have := (comF_bd a b m (8 * j + 8)).1
    exact ⟨fun _ => .inl h, fun _ => by omega⟩
  · rw [comF_else h]
    constructor
    · intro k; right; omega
    · rintro (k | k)
      · exact absurd k h
      · omega
theorem ge_8 {a b : Ad} {j m : Nat} : 8 * j + 8 ≤ comF a b (m + 8) (8 * j) ↔ a.b j = b.b j := by
  rw [ge_b (Nat.le_refl _) (by omega)]
  constructor
  · rintro (h | h)
    · exact h
    · exact xor_zero.1 (u8zero.2 (by
        rcases Nat.eq_zero_or_pos (a.b j ^^^ b.b j).toNat with h0 | h0
        · exact h0
        · have := bitLen_pos h0 (UInt8.toNat_lt _); omega))
  · exact fun h => .inl h
theorem ge_step {a b : Ad} {j m n : Nat} (hn : 8 * j + 8 < n) : n ≤ comF a b (m + 8) (8 * j) ↔ (a.b j = b.b j ∧ n ≤ comF a b m (8 * (j + 1))) := by
  by_cases h : a.b j = b.b j
  · rw [comF_like h]
    exact ⟨fun k => ⟨h, k⟩, fun k => k.2⟩
  · rw [comF_else h]
    constructor
    · intro k; omega
    · intro k; exact absurd k.1 h
theorem by_224 (c : UInt8) : (c = 224 ∨ 4 + Lib.bitLen (c ^^^ 224).toNat ≤ 8) ↔ c.toNat / 16 * 16 = 224 := by
  have : ∀ n : Fin 256, (UInt8.ofNat n.val = 224 ∨ 4 + Lib.bitLen (UInt8.ofNat n.val ^^^ 224).toNat ≤ 8) ↔ n.val / 16 * 16 = 224 := by decide +kernel
  simpa using this ⟨c.toNat, c.toNat_lt⟩
theorem by_128 (c : UInt8) : (c = 128 ∨ 2 + Lib.bitLen (c ^^^ 128).toNat ≤ 8) ↔ c.toNat / 64 * 64 = 128 := by
  have : ∀ n : Fin 256, (UInt8.ofNat n.val = 128 ∨ 2 + Lib.bitLen (UInt8.ofNat n.val ^^^ 128).toNat ≤ 8) ↔ n.val / 64 * 64 = 128 := by decide +kernel
  simpa using this ⟨c.toNat, c.toNat_lt⟩
theorem by_192 (c : UInt8) : (c = 192 ∨ 2 + Lib.bitLen (c ^^^ 192).toNat ≤ 8) ↔ c.toNat / 64 * 64 = 192 := by
  have : ∀ n : Fin 256, (UInt8.ofNat n.val = 192 ∨ 2 + Lib.bitLen (UInt8.ofNat n.val ^^^ 192).toNat ≤ 8) ↔ n.val / 64 * 64 = 192 := by decide +kernel
  simpa using this ⟨c.toNat, c.toNat_lt⟩
end Go.Proofs.YthlnndjkocnfcaaGreatDoor

/- Scope and Multi as the reference says them. No walk here. -/
namespace Go.Proofs.YthlnndjkocnfcaaGreatDoor
open Go.RowKit

def c127 : Ad := adOf 127 0 0 0
def c169 : Ad := adOf 169 254 0 0
def c224 : Ad := adOf 224 0 0 0
def cfe8 : Ad := mk6 [254, 128, 0, 0, 0, 0, 0, 0, 0, 0, 0, 0, 0, 0, 0, 0] rfl
def cff0 : Ad := mk6 [255, 0, 0, 0, 0, 0, 0, 0, 0, 0, 0, 0, 0, 0, 0, 0] rfl
/-- within a prefix that stands in the text. -/
def wiC (a P : Ad) (n : Nat) : Bool := (a.fam == P.fam) && decide (n ≤ comA a P)
theorem withB_c {a P : Ad} {n : Nat} {h} (hc : chkP ⟨P, (n : Int), h⟩ = 0) : withB a ⟨P, (n : Int), h⟩ = wiC a P n := by
  unfold withB wiC
  rw [hc]
  simp
theorem wi4 {a P : Ad} {n : Nat} (ha : a.fam = 4) (hP : P.fam = 4) : wiC a P n = decide (n ≤ comF a P 32 0) := by
  unfold wiC comA mostA
  rw [ha, hP]
  simp
theorem wi6 {a P : Ad} {n : Nat} (ha : a.fam = 6) (hP : P.fam = 6) : wiC a P n = decide (n ≤ comF a P 128 0) := by
  unfold wiC comA mostA
  rw [ha, hP]
  simp
theorem wiX {a P : Ad} {n : Nat} (h : a.fam ≠ P.fam) : wiC a P n = false := by
  unfold wiC
  rw [show (a.fam == P.fam) = false by simpa using h]
  rfl
theorem wi_127 {a : Ad} (h : a.fam = 4) : wiC a c127 8 = decide (a.b 0 = 127) := by
  rw [wi4 h rfl]
  exact decide_eq_decide.2 (ge_8 (j := 0) (m := 24))
theorem wi_169 {a : Ad} (h : a.fam = 4) : wiC a c169 16 = decide (a.b 0 = 169 ∧ a.b 1 = 254) := by
  rw [wi4 h rfl]
  refine decide_eq_decide.2 ((ge_step (j := 0) (m := 24) (by omega)).trans ?_)
  exact and_congr Iff.rfl (ge_8 (j := 1) (m := 16))
theorem wi_224 {a : Ad} (h : a.fam = 4) : wiC a c224 4 = decide ((a.b 0).toNat / 16 * 16 = 224) := by
  rw [wi4 h rfl]
  exact decide_eq_decide.2 ((ge_b (j := 0) (m := 24) (n := 4) (by omega) (by omega)).trans (by_224 _))
theorem wi_ff {a : Ad} (h : a.fam = 6) : wiC a cff0 8 = decide (a.b 0 = 255) := by
  rw [wi6 h rfl]
  exact decide_eq_decide.2 (ge_8 (j := 0) (m := 120))
theorem wi_fe8 {a : Ad} (h : a.fam = 6) : wiC a cfe8 10 = decide (a.b 0 = 254 ∧ (a.b 1).toNat / 64 * 64 = 128) := by
  rw [wi6 h rfl]
  refine decide_eq_decide.2 ((ge_step (j := 0) (m := 120) (by omega)).trans ?_)
  exact and_congr Iff.rfl ((ge_b (j := 1) (m := 112) (n := 2) (by omega) (by omega)).trans (by_128 _))
theorem wi_fec {a : Ad} (h : a.fam = 6) : wiC a als 10 = decide (a.b 0 = 254 ∧ (a.b 1).toNat / 64 * 64 = 192) := by
  rw [wi6 h rfl]
  refine decide_eq_decide.2 ((ge_step (j := 0) (m := 120) (by omega)).trans ?_)
  exact and_congr Iff.rfl ((ge_b (j := 1) (m := 112) (n := 2) (by omega) (by omega)).trans (by_192 _))
theorem ge_all {a P : Ad} : ∀ k j, j + k = 16 → (128 ≤ comF a P (8 * k) (8 * j) ↔ ∀ i, j ≤ i → i < 16 → a.b i = P.b i) := by
  intro k
  induction k with
  | zero =>
    intro j hj
    rw [Nat.mul_zero, comF]
    exact ⟨fun _ i h1 h2 => by omega, fun _ => by omega⟩
  | succ k ih =>
    intro j hj
    rw [show 8 * (k + 1) = 8 * k + 8 by omega]
    by_cases h : a.b j = P.b j
    · rw [comF_like h, show 8 * j + 8 = 8 * (j + 1) by omega, ih (j + 1) (by omega)]
      constructor
      · intro g i h1 h2
        rcases Nat.eq_or_lt_of_le h1 with rfl | h1
        · exact h
        · exact g i h1 h2
      · exact fun g i h1 h2 => g i (by omega) h2
    · constructor
      · intro g; exact absurd (ge_8.1 (Nat.le_trans (by omega) g)) h
      · intro g; exact absurd (g j (Nat.le_refl _) (by omega)) h
theorem ip_same {a P : Ad} : (∀ i, 0 ≤ i → i < 16 → a.b i = P.b i) ↔ a.ip = P.ip := by
  constructor
  · intro h
    refine List.ext_getElem? fun i => ?_
    by_cases hi : i < 16
    · rw [a.b_eq hi, P.b_eq hi, h i (Nat.zero_le _) hi]
    · rw [List.getElem?_eq_none (by rw [a.len]; omega), List.getElem?_eq_none (by rw [P.len]; omega)]
  · intro h i _ _
    unfold Ad.b
    rw [h]
theorem wi_1 {a : Ad} (h : a.fam = 6) : wiC a al1 128 = decide (a.ip = lo1) := by
  rw [wi6 h rfl]
  exact decide_eq_decide.2 ((ge_all 16 0 (by omega)).trans ip_same)
end Go.Proofs.YthlnndjkocnfcaaGreatDoor

/- The reference's Text, in, Unmap, Multi (9); addr.Multi. -/
namespace Go.Proofs.YthlnndjkocnfcaaGreatDoor
open Go.RowKit
attribute [local go_sem] ba_get ext_take ext_drop ext_any ba_app

def BoPost (w : World) (b : Bool) (e : Ending) (w' : World) : Prop := e = .returned (.bool b) ∧ Below w.heap.size w w'
set_option maxRecDepth 100000 in
set_option maxHeartbeats 1000000 in
theorem rin_any {P : Ad} {s : List UInt8} {n : Nat} (h : -9223372036854775808 ≤ (n : Int) ∧ (n : Int) ≤ 9223372036854775807) (hc : chkP ⟨P, (n : Int), h⟩ = 0) (hp : adrP s = .inr P) (hl : s.length ≤ 1000) (a : Ad) (w : World) :
    Calls Tryz.prog 39 #[.agg (adA a), .string ⟨s.toArray⟩, .int .i64 (n : Int)] w (BoPost w (wiC a P n)) := by
  have Hp := Lib.hid hp
  have H1 := Lib.hid (built_pf P n h)
  have Hr := Lib.hid (withB_c (a := a) hc)
  generalize hF : (⟨P, (n : Int), h⟩ : Pf) = F at *
  clear hp hc hF h
  go_enter Tryz.func39, Tryz.ntmps39
  go_wp2_with (first
    | ((with_reducible refine wpList_boxB rfl _ _ rfl rfl ?_); intro g3 w1 hg hB3 hb1 hs; clear hg hs)
    | (go_at_call 63; refine (raparse_yes rfl Hp.out _ (by omega)).mono ?_; rintro e w2 ⟨rfl, hb2⟩; have hb02 := bel_tr hb1 hb2; have hB32 := hB3.bel hb2)
    | ((with_reducible refine wpList_allocAd (o := ⟨some 7, _, _, _, _, _⟩) rfl rfl ?_); intro g7 w3 hg hB7 hb3 hs; have hg7 : w2.heap.size ≤ g7 := Nat.le_of_eq hg.symm; clear hg hs)
    | ((with_reducible refine wpList_storeAd rfl (.tmp 7) _ rfl rfl rfl hB7 ?_); intro w4 hB74 hS4; have hb24 : Below w2.heap.size w2 w4 := hb3.trans (hS4.below hg7); have hB34 := hB32.bel hb24; have hb04 := bel_tr hb02 hb24)
    | (with_reducible refine wpList_loadAd (o := ⟨some 14, _, _, _, _, _⟩) rfl _ rfl rfl hB34 ?_)
    | (with_reducible refine wpList_loadAd (o := ⟨some 15, _, _, _, _, _⟩) rfl _ rfl rfl hB74 ?_)
    | (with_reducible refine wpList_buildL rfl 44 _ rfl H1.out rfl ?_)
    | (go_at_call 35; refine (rwithin_any a F _).mono ?_; rintro e w5 ⟨rfl, hb5⟩; rw [Hr.out]; have hb05 := bel_tr hb04 hb5))
  go_ret
  exact ⟨rfl, hb05⟩
theorem rin_127 (a : Ad) (w : World) : Calls Tryz.prog 39 #[.agg (adA a), .string ⟨#[49, 50, 55, 46, 48, 46, 48, 46, 48]⟩, .int .i64 8] w (BoPost w (wiC a c127 8)) := rin_any (n := 8) (s := [49, 50, 55, 46, 48, 46, 48, 46, 48]) (by decide) (by decide +kernel) (by decide +kernel) (by decide) a w
theorem rin_169 (a : Ad) (w : World) : Calls Tryz.prog 39 #[.agg (adA a), .string ⟨#[49, 54, 57, 46, 50, 53, 52, 46, 48, 46, 48]⟩, .int .i64 16] w (BoPost w (wiC a c169 16)) := rin_any (n := 16) (s := [49, 54, 57, 46, 50, 53, 52, 46, 48, 46, 48]) (by decide) (by decide +kernel) (by decide +kernel) (by decide) a w
theorem rin_fe8 (a : Ad) (w : World) : Calls Tryz.prog 39 #[.agg (adA a), .string ⟨#[102, 101, 56, 48, 58, 58]⟩, .int .i64 10] w (BoPost w (wiC a cfe8 10)) := rin_any (n := 10) (s := [102, 101, 56, 48, 58, 58]) (by decide) (by decide +kernel) (by decide +kernel) (by decide) a w
theorem rin_1 (a : Ad) (w : World) : Calls Tryz.prog 39 #[.agg (adA a), .string ⟨#[58, 58, 49]⟩, .int .i64 128] w (BoPost w (wiC a al1 128)) := rin_any (n := 128) (s := [58, 58, 49]) (by decide) (by decide +kernel) (by decide +kernel) (by decide) a w
theorem rin_fec (a : Ad) (w : World) : Calls Tryz.prog 39 #[.agg (adA a), .string ⟨#[102, 101, 99, 48, 58, 58]⟩, .int .i64 10] w (BoPost w (wiC a als 10)) := rin_any (n := 10) (s := [102, 101, 99, 48, 58, 58]) (by decide) (by decide +kernel) (by decide +kernel) (by decide) a w
theorem rin_224 (a : Ad) (w : World) : Calls Tryz.prog 39 #[.agg (adA a), .string ⟨#[50, 50, 52, 46, 48, 46, 48, 46, 48]⟩, .int .i64 4] w (BoPost w (wiC a c224 4)) := rin_any (n := 4) (s := [50, 50, 52, 46, 48, 46, 48, 46, 48]) (by decide) (by decide +kernel) (by decide +kernel) (by decide) a w
theorem rin_ff (a : Ad) (w : World) : Calls Tryz.prog 39 #[.agg (adA a), .string ⟨#[102, 102, 48, 48, 58, 58]⟩, .int .i64 8] w (BoPost w (wiC a cff0 8)) := rin_any (n := 8) (s := [102, 102, 48, 48, 58, 58]) (by decide) (by decide +kernel) (by decide +kernel) (by decide) a w
/-- an address of many. -/
def mulA (a : Ad) : Bool := if a.fam = 4 then decide ((a.b 0).toNat / 16 * 16 = 224) else if a.fam = 6 then decide (a.b 0 = 255) else false
theorem mul_eq (a : Ad) : (wiC a c224 4 || wiC a cff0 8) = mulA a := by
  unfold mulA
  by_cases h4 : a.fam = 4
  · rw [if_pos h4, wi_224 h4, wiX (P := cff0) (by rw [h4]; decide), Bool.or_false]
  · by_cases h6 : a.fam = 6
    · rw [if_neg h4, if_pos h6, wiX (P := c224) h4, wi_ff h6, Bool.false_or]
    · rw [if_neg h4, if_neg h6, wiX (P := c224) h4, wiX (P := cff0) h6, Bool.or_false]
set_option maxRecDepth 100000 in
set_option maxHeartbeats 1000000 in
theorem rmulti_any (a : Ad) (w : World) : Calls Tryz.prog 73 #[.agg (adA a)] w (BoPost w (mulA a)) := by
  have Hm := Lib.hid (mul_eq a)
  have H1 := Lib.hid (rin_224 a)
  have H2 := Lib.hid (rin_ff a)
  generalize wiC a c224 4 = p1 at *
  generalize wiC a cff0 8 = p2 at *
  cases p1
  all_goals
    go_enter Tryz.func73, Tryz.ntmps73
    go_wp2_with (first
      | ((with_reducible refine wpList_boxB rfl _ _ rfl rfl ?_); intro g1 w1 hg hB1 hb1 hs; clear hg hs; have HB : Hid (Bk w1 g1 29 (adA a) ∧ Below w.heap.size w w1) := Lib.hid ⟨hB1, hb1⟩; clear hB1 hb1)
      | (with_reducible refine wpList_loadAd (o := ⟨some 3, _, _, _, _, _⟩) rfl _ rfl rfl HB.out.1 ?_)
      | (refine wpList_loadAdG (o := ⟨some 6, _, _, _, _, _⟩) rfl _ rfl rfl HB.out.1 ?_)
      | (go_at_call 39
         first
          | (with_reducible refine (H1.out _).mono ?_)
          | (with_reducible refine (H2.out _).mono ?_)
         rintro e w' ⟨rfl, hb'⟩
         have HB' := Lib.hid (And.intro (HB.out.1.bel hb') (bel_tr HB.out.2 hb'))
         clear HB hb'
         have HB := HB'
         clear HB'))
    go_ret
    exact ⟨by rw [← Hm.out]; rfl, HB.out.2⟩
theorem and_u8_240 (c : UInt8) : bits .and .u8 (c.toNat : Int) 240 = ((c.toNat / 16 * 16 : Nat) : Int) := by
  have : ∀ n : Fin 256, bits .and .u8 (n.val : Int) 240 = ((n.val / 16 * 16 : Nat) : Int) := by decide +kernel
  exact this ⟨c.toNat, c.toNat_lt⟩
theorem u8_eqI (c d : UInt8) : ((c.toNat : Int) == (d.toNat : Int)) = decide (c = d) := by
  rw [Bool.eq_iff_iff]
  simp only [beq_iff_eq, decide_eq_true_eq]
  constructor
  · intro h; exact UInt8.toNat_inj.1 (by omega)
  · intro h; rw [h]
set_option maxRecDepth 100000 in
set_option maxHeartbeats 1000000 in
theorem multi_any (a : Ad) (w : World) : Calls Tryz.prog 78 #[.agg (adA a)] w (BoPost w (mulA a)) := by
  have hand := and_u8_240 (a.b 0)
  have l0 := u8lt (a.b 0)
  by_cases h4 : a.fam = 4
  · have i4 : (a.fam == 4) = true := by simpa using h4
    have Hr : Hid (mulA a = (((((a.b 0).toNat / 16 * 16 : Nat) : Int)) == 224)) := Lib.hid (by
      unfold mulA; rw [if_pos h4, Bool.eq_iff_iff]; simp only [beq_iff_eq, decide_eq_true_eq]; omega)
    have hx : (((a.b 0).toNat / 16 * 16 : Nat) : Int) < 256 := by omega
    generalize (a.b 0).toNat / 16 * 16 = x at *
    clear h4
    go_enter Tryz.func78, Tryz.ntmps78
    go_wp2_with (first
      | ((with_reducible refine wpList_boxB rfl _ _ rfl rfl ?_); intro g w1 hg hB hb hs; clear hg hs; have c0 := hB.cell 0; rw [adA_0] at c0; have c1 := hB.cell 1; rw [adA_1] at c1))
    go_ret
    exact ⟨by rw [Hr.out]; rfl, hb⟩
  · by_cases h6 : a.fam = 6
    · have i4 : (a.fam == 4) = false := by simpa using h4
      have i6 : (a.fam == 6) = true := by simpa using h6
      have Hr : Hid (mulA a = (((a.b 0).toNat : Int) == 255)) := Lib.hid (by
        unfold mulA; rw [if_neg h4, if_pos h6]; exact (u8_eqI (a.b 0) 255).symm)
      clear h4 h6 hand
      go_enter Tryz.func78, Tryz.ntmps78
      go_wp2_with (first
        | ((with_reducible refine wpList_boxB rfl _ _ rfl rfl ?_); intro g w1 hg hB hb hs; clear hg hs; have c0 := hB.cell 0; rw [adA_0] at c0; have c1 := hB.cell 1; rw [adA_1] at c1))
      go_ret
      exact ⟨by rw [Hr.out]; rfl, hb⟩
    · have i4 : (a.fam == 4) = false := by simpa using h4
      have i6 : (a.fam == 6) = false := by simpa using h6
      have Hr : Hid (mulA a = false) := Lib.hid (by unfold mulA; rw [if_neg h4, if_neg h6])
      clear h4 h6 hand
      go_enter Tryz.func78, Tryz.ntmps78
      go_wp2_with (first
        | ((with_reducible refine wpList_boxB rfl _ _ rfl rfl ?_); intro g w1 hg hB hb hs; clear hg hs; have c0 := hB.cell 0; rw [adA_0] at c0; have c1 := hB.cell 1; rw [adA_1] at c1))
      go_ret
      exact ⟨by rw [Hr.out]; rfl, hb⟩
end Go.Proofs.YthlnndjkocnfcaaGreatDoor

/- Rows of structs that stand still in a loop; what policy.Rows, route.Routes, route.Ifaces, route.Of answer (plain). -/
namespace Go.Proofs.YthlnndjkocnfcaaGreatDoor
open Go.RowKit
attribute [local go_sem] ba_get ext_take ext_drop ext_any ba_app

/-- the first members that may be. -/
def leftF {α : Type} (p : α → Bool) (most : Nat) (L : List α) : List α := (L.filter p).take most
theorem leftF_stop {α : Type} {p : α → Bool} {most k : Nat} {L : List α} (h : most ≤ ((L.take k).filter p).length) : leftF p most L = ((L.take k).filter p).take most := by
  unfold leftF
  conv => lhs; rw [← List.take_append_drop k L, List.filter_append, List.take_append_of_le_length h]
theorem filt_next {α : Type} {p : α → Bool} {L : List α} {k : Nat} (h : k < L.length) : (L.take (k + 1)).filter p = (L.take k).filter p ++ if p L[k] = true then [L[k]] else [] := by
  rw [List.take_succ_eq_append_getElem h, List.filter_append]
  by_cases hp : p L[k] = true
  · rw [if_pos hp]; simp [hp]
  · rw [if_neg hp]; simp [hp]
def FltRel (w : World) (e : TypeId) (size : Nat) {α : Type} (f : α → List Value) (p : α → Bool) (most : Nat) (L : List α) (k : Nat) (v : Value) (wr : World) : Prop :=
  ((L.take k).filter p).length ≤ most ∧ wr.ownsRow w.heap.size e size v ((L.take k).filter p).length (((L.take k).filter p).flatMap f) ∧ Below w.heap.size w wr
theorem own_anyF {w : World} {base : Nat} {e : TypeId} {size n : Nat} {v : Value} {xs : List Value} (h : w.ownsRow base e size v n xs) : ∃ A c, v = .slice A n c := by
  obtain ⟨A, c, hv, _⟩ := (Sl.own h).any
  exact ⟨A, c, hv⟩
/-- a net: own addresses, routes, policies. -/
structure Nt where
  I : List Ifc
  R : List Rt
  P : List Pol
structure NetRaw (w : World) (vi vr vp : Value) (N : Nt) : Prop where
  i : Sl w 23 vi N.I.length (N.I.flatMap ifcL)
  r : Sl w 21 vr N.R.length (N.R.flatMap rtL)
  p : Sl w 21 vp N.P.length (N.P.flatMap polL)
  il : N.I.length ≤ maxLen
  rl : N.R.length ≤ maxLen
  pl : N.P.length ≤ maxLen
theorem NetRaw.below {w w' : World} {vi vr vp : Value} {N : Nt} (h : NetRaw w vi vr vp N) (hb : Below w.heap.size w w') : NetRaw w' vi vr vp N := ⟨h.i.below hb, h.r.below hb, h.p.below hb, h.il, h.rl, h.pl⟩
/-- a row of structs, one by one, in blocks not below lo. -/
def SRow {α : Type} (f : α → List Value) (s : Nat) (w : World) (A : Option Addr) (R : List α) (lo : Nat) : Prop := ∀ k (hk : k < R.length), ∃ b off, A = some ⟨b, off, none⟩ ∧ lo ≤ b ∧ b < w.heap.size ∧ w.rangeAt b (off + k * s) (f R[k])
theorem SRow.own {α : Type} {f : α → List Value} {s : Nat} (hs : ∀ a, (f a).length = s) {e : TypeId} {w : World} {B : Nat} {A : Option Addr} {c : Nat} {R : List α} (h : w.ownsRow B e s (.slice A R.length c) R.length (R.flatMap f)) : SRow f s w A R B := fun k hk => by
  obtain ⟨b, off, c', hv, hc, hb, hcell⟩ := (Sl.own h).pos (by omega)
  injection hv with e1
  subst e1
  have hlt := h.lt
  have hb0 : off = 0 := by
    obtain ⟨_, h2⟩ := h
    rcases h2 with ⟨h2, _⟩ | ⟨g, cap, cur, h2, _⟩
    · cases h2
    · injection h2 with e
      injection e with e
      injection e
  subst hb0
  exact ⟨b, 0, rfl, (hlt b rfl).1, hb, range_of hs hcell hk⟩
theorem SRow.bel {α : Type} {f : α → List Value} {s : Nat} {w w' : World} {A : Option Addr} {R : List α} {lo : Nat} (h : SRow f s w A R lo) (hb : Below w.heap.size w w') : SRow f s w' A R lo := fun k hk => by
  obtain ⟨b, off, h1, h2, h3, h4⟩ := h k hk
  exact ⟨b, off, h1, h2, Nat.lt_of_lt_of_le h3 hb.size, fun j v hv => (bel_cells hb h3 _).trans (h4 j v hv)⟩
theorem SRow.stays {α : Type} {f : α → List Value} {s : Nat} {w w' : World} {A : Option Addr} {R : List α} {lo g : Nat} (h : SRow f s w A R lo) (hs : Stays g w w') (hg : g < lo) : SRow f s w' A R lo := fun k hk => by
  obtain ⟨b, off, h1, h2, h3, h4⟩ := h k hk
  refine ⟨b, off, h1, h2, by rw [hs.size]; exact h3, fun j v hv => ?_⟩
  rw [← h4 j v hv]
  have := hs.block b (by omega)
  unfold World.cell?
  rw [this]
def okP (p : Pol) : Bool := (p.pf.ad.fam == 6) && (chkP p.pf == 0)
def okR (r : Rt) : Bool := chkP r.pf == 0
def okI (i : Ifc) : Bool := (chkA i.ad == 0) && (!mulA i.ad && (decide (0 ≤ i.bits) && decide (i.bits ≤ bitsA i.ad)))
/-- the rows of policies that hold. -/
def polN (P : List Pol) : List Pol := if (leftF okP 32 P).length = 0 then plainP else leftF okP 32 P
def rtN (R : List Rt) : List Rt := leftF okR 32 R
def ifcN (I : List Ifc) : List Ifc := leftF okI 32 I
def RtsPost (w : World) (L : List Rt) (e : Ending) (w' : World) : Prop := ∃ v, e = .returned v ∧ w'.ownsRow w.heap.size 46 21 v L.length (L.flatMap rtL) ∧ Below w.heap.size w w'
def IfcsPost (w : World) (L : List Ifc) (e : Ending) (w' : World) : Prop := ∃ v, e = .returned v ∧ w'.ownsRow w.heap.size 42 23 v L.length (L.flatMap ifcL) ∧ Below w.heap.size w w'
end Go.Proofs.YthlnndjkocnfcaaGreatDoor

/- policy.Rows and route.Routes at any net. -/
namespace Go.Proofs.YthlnndjkocnfcaaGreatDoor
open Go.RowKit
attribute [local go_sem] ba_get ext_take ext_drop ext_any ba_app

theorem polN_some {L : List Pol} {Q : List Pol} (h : leftF okP 32 L = Q) (h0 : Q.length ≠ 0) : polN L = Q := by unfold polN; rw [h, if_neg h0]
theorem polN_none {L : List Pol} {Q : List Pol} (h : leftF okP 32 L = Q) (h0 : Q.length = 0) : polN L = plainP := by unfold polN; rw [h, if_pos h0]
set_option maxRecDepth 100000 in
set_option maxHeartbeats 4000000 in
theorem prows_any (vi vr vp : Value) (N : Nt) (w : World) (hN : NetRaw w vi vr vp N) (ht : Tab w) (hm : MaxI w) (hl : N.P.length ≤ 1000000) : Calls Tryz.prog 44 #[.agg #[vi, vr, vp]] w (PolsPost w (polN N.P)) := by
  have h0 := hN.p
  clear hN
  generalize N.P = L at *
  obtain ⟨A, c, rfl, hc⟩ := h0.any
  have H := Lib.hid h0
  have Ht := Lib.hid ht
  have Hm := Lib.hid hm
  clear ht hm h0 hc
  go_enter Tryz.func44, Tryz.ntmps44
  go_wp2_with (first
    | ((with_reducible refine wpList_boxB rfl _ _ rfl rfl ?_); intro g1 w1 hg hB1 hb1 hs; have c2 : w1.cell? ⟨g1, 2, none⟩ = some (.slice A L.length c) := hB1.cell 2; clear hg hs))
  have H1 := Lib.hid (H.out.below hb1)
  go_loopw [3, 9] (fun v i wr => ∃ k : Nat, k ≤ L.length ∧ i = .int .i64 k ∧ FltRel w1 56 21 polL okP 32 L k v wr) (fun _ i _ => L.length - (intOf i).toNat)
  case atStart => exact ⟨0, Nat.zero_le _, rfl, by simp, by simpa using World.ownsRow_nil w1 w1.heap.size 56 21, Below.refl _ _⟩
  case round =>
    obtain ⟨k, hk, rfl, hcnt, hown, hbel⟩ := hrel
    obtain ⟨ao, co, rfl⟩ := own_anyF hown
    have Hown := Lib.hid hown
    clear hown c2
    by_cases hlt : k < L.length
    · obtain ⟨b, off, c, hv, hc, hbl, hcell⟩ := H1.out.pos (by omega)
      injection hv with hv1 _ hv2
      subst hv1 hv2
      have hR := range_of polL_len hcell hlt
      have HR : Hid (wr.rangeAt b (off + k * 21) (polL L[k])) := Lib.hid (fun j u hu => ((hbel.cell (p := ⟨b, off + k * 21 + j, none⟩) hbl).trans (hR j u hu)))
      clear hR hcell hbl
      have hltI : (k : Int) < (L.length : Int) := by omega
      by_cases hst : 32 ≤ ((L.take k).filter okP).length
      · have hfin : leftF okP 32 L = (L.take k).filter okP := by rw [leftF_stop hst, List.take_of_length_le hcnt]
        have Hfin := Lib.hid (polN_some hfin (by omega))
        clear hfin
        generalize (L.take k).filter okP = Q at *
        have i15 : ((Q.length : Int) == 32) = true := by rw [beq_iff_eq]; omega
        have i34 : ((Q.length : Int) == 0) = false := by rw [beq_eq_false_iff_ne]; omega
        generalize hql : Q.length = q at *
        go_wp2_with (first
          | (with_reducible refine wpList_loadPolM rfl _ rfl rfl HR.out ?_)
          | ((with_reducible refine wpList_allocPol rfl rfl ?_); intro g2 w2 hg hB2 hb2 hs; have hg2 : wr.heap.size ≤ g2 := Nat.le_of_eq hg.symm; clear hg hs)
          | ((with_reducible refine wpList_storePol rfl _ _ rfl rfl rfl hB2 ?_); intro w4 hB4 hS4))
        go_ret
        have hb4 : Below wr.heap.size wr w4 := hb2.trans (hS4.below (by omega))
        refine ⟨_, rfl, ?_, bel_tr hb1 (hbel.trans (hb4.mono hbel.size))⟩
        rw [Hfin.out, hql]
        exact own_base (own_below Hown.out hb4) hb1.size
      · have hst2 : ((L.take k).filter okP).length < 32 := by omega
        have hnx := filt_next (p := okP) hlt
        have Hnx := Lib.hid hnx
        clear hnx hst
        have hlk : ((L.take k).filter okP).length < 32 := hst2
        generalize hp : L[k] = p at *
        generalize hQ : (L.take k).filter okP = Q at *
        have HQ := Lib.hid hQ
        clear hp hQ
        have i15 : ((Q.length : Int) == 32) = false := by rw [beq_eq_false_iff_ne]; omega
        have Hbd : Hid (Q.length < 32) := Lib.hid hst2
        have hok : ∀ x y : Bool, (p.pf.ad.fam == 6) = x → (chkP p.pf == 0) = y → okP p = (x && y) := by intro x y hx hy; unfold okP; rw [hx, hy]
        have Hok := Lib.hid hok
        clear hok hst2 hlk
        have HH : Hid (∀ w, Calls Tryz.prog 64 #[.agg (pfA p.pf)] w fun e w' => e = .returned (.int .i64 (chkP p.pf)) ∧ Below w.heap.size w w') := Lib.hid (holds_any p.pf)
        generalize hch : chkP p.pf = ch at *
        clear hch
        cases i6 : (p.pf.ad.fam == 6) <;> cases i0 : (ch == 0)
        all_goals
          have Ho := Lib.hid (Hok.out _ _ i6 i0)
          clear Hok
          go_wp2_with (first
            | (with_reducible refine wpList_loadPolM rfl _ rfl rfl HR.out ?_)
            | ((with_reducible refine wpList_allocPol rfl rfl ?_); intro g2 w2 hg hB2 hb2 hs; have hg2 : wr.heap.size ≤ g2 := Nat.le_of_eq hg.symm; clear hg hs)
            | ((with_reducible refine wpList_storePol (o := ⟨none, _, _, _, _, _⟩) rfl _ _ rfl rfl rfl hB2 ?_); intro w4 hB4 hS4; have hb4 : Below wr.heap.size wr w4 := hb2.trans (hS4.below (by omega)); have d0 := hB4.cell 0; rw [polA_0] at d0; have hq4 := hB4.rangePolPf; have HX : Hid (Bk w4 g2 56 (polA p) ∧ Below wr.heap.size wr w4) := Lib.hid ⟨hB4, hb4⟩; clear hB4 hb4 hB2 hb2 hS4 hg2)
            | ((with_reducible show wpList _ _ _ (⟨some 23, _, _, _, _, _⟩ :: _) _ _); refine wpList_guarded (o := ⟨some 23, _, _, _, _, _⟩) rfl ?_; refine wpList_loadPfM (o := ⟨some 23, _, _, _, _, _⟩) rfl _ rfl rfl hq4 ?_)
            | (go_at_call 64; refine (HH.out _).mono ?_; rintro e w5 ⟨rfl, hb5⟩; have HX5 : Hid (Bk w5 g2 56 (polA p) ∧ Below wr.heap.size wr w5) := Lib.hid ⟨HX.out.1.bel hb5, bel_tr HX.out.2 hb5⟩; clear HX d0 hq4 hb5; have HX := HX5; clear HX5)
            | (with_reducible refine wpList_loadPol (o := ⟨some 28, _, _, _, _, _⟩) rfl _ rfl rfl HX.out.1 ?_)
            | ((with_reducible show wpList _ _ _ (⟨some 29, _, _, _, _, _⟩ :: _) _ _); refine wpList_lit (o := ⟨some 29, _, _, _, _, _⟩) rfl _ _ rfl elt_pols [.agg (polA p)] rfl (by decide) (by decide) (fun v hv => by rw [List.mem_singleton.1 hv]; exact polA_size _) rfl ?_; intro w6 hB6 hx6 hb6 hs6; clear hx6 hs6; have hb06 := bel_tr HX.out.2 hb6; have hB6 := bk_list (l := polL p) hB6 rfl)
            | (at_builtin; refine wpList_app rfl (.tmp 27) (.tmp 29) _ rfl elt_pols rfl (own_below Hown.out hb06) rfl (hB6.sl (size := 21) (n := 1) (polL_len _) 1 (Nat.le_refl _)) (polL_one _) (Nat.le_trans hbel.size hb06.size) (by have := Hbd.out; omega) (by have := Hbd.out; omega) ?_; intro v7 w7 ho7 hb7 hg7; clear hg7))
          skip
        · go_roundw
          case rel =>
            refine ⟨k + 1, by omega, by go_num, ?_⟩
            unfold FltRel
            rw [Hnx.out, if_neg (by rw [Ho.out]; decide), List.append_nil]
            exact ⟨Nat.le_of_lt Hbd.out, own_below Hown.out HX.out.2, hbel.trans (HX.out.2.mono hbel.size)⟩
          case measure => simp [intOf]; omega
        · go_roundw
          case rel =>
            refine ⟨k + 1, by omega, by go_num, ?_⟩
            unfold FltRel
            rw [Hnx.out, if_neg (by rw [Ho.out]; decide), List.append_nil]
            exact ⟨Nat.le_of_lt Hbd.out, own_below Hown.out HX.out.2, hbel.trans (HX.out.2.mono hbel.size)⟩
          case measure => simp [intOf]; omega
        · go_roundw
          case rel =>
            refine ⟨k + 1, by omega, by go_num, ?_⟩
            unfold FltRel
            rw [Hnx.out, if_neg (by rw [Ho.out]; decide), List.append_nil]
            exact ⟨Nat.le_of_lt Hbd.out, own_below Hown.out HX.out.2, hbel.trans (HX.out.2.mono hbel.size)⟩
          case measure => simp [intOf]; omega
        · go_roundw
          case rel =>
            refine ⟨k + 1, by omega, by go_num, ?_⟩
            unfold FltRel
            rw [Hnx.out, if_pos (show okP p = true from Ho.out), List.length_append, List.flatMap_append]
            refine ⟨by have := Hbd.out; simp; omega, ?_, (hbel.trans (hb06.mono hbel.size)).trans hb7⟩
            simpa using ho7
          case measure => simp [intOf]; omega
    · have hkl : k = L.length := by omega
      subst hkl
      have hfin : leftF okP 32 L = (L.take L.length).filter okP := by rw [leftF, List.take_length, List.take_of_length_le (by rw [List.take_length] at hcnt; exact hcnt)]
      have hn1 : ((L.take L.length).filter okP).length ≠ 0 → polN L = (L.take L.length).filter okP := polN_some hfin
      have hn2 : ((L.take L.length).filter okP).length = 0 → polN L = plainP := polN_none hfin
      clear hfin
      generalize (L.take L.length).filter okP = Q at *
      by_cases hq : Q.length = 0
      · have Hfin := Lib.hid (hn2 hq)
        have i34 : ((Q.length : Int) == 0) = true := by rw [beq_iff_eq]; omega
        clear hn1 hn2 hq
        generalize hql : Q.length = q at *
        go_wp2_with (first
          | (go_at_call 65; refine (polplain_any _ (Ht.out.below (bel_tr hb1 hbel)) (Hm.out.below (bel_tr hb1 hbel))).mono ?_; rintro e w2 ⟨v, rfl, ho, hb2⟩))
        go_ret
        have hb0 := bel_tr hb1 hbel
        refine ⟨_, rfl, ?_, bel_tr hb0 hb2⟩
        rw [Hfin.out]
        exact own_base ho hb0.size
      · have Hfin := Lib.hid (hn1 hq)
        have i34 : ((Q.length : Int) == 0) = false := by rw [beq_eq_false_iff_ne]; omega
        clear hn1 hn2 hq
        generalize hql : Q.length = q at *
        go_wp2
        go_ret
        refine ⟨_, rfl, ?_, bel_tr hb1 hbel⟩
        rw [Hfin.out, hql]
        exact own_base Hown.out hb1.size
end Go.Proofs.YthlnndjkocnfcaaGreatDoor

/- Laws of single operations in a region that draws its order: a struct is built, loaded. -/
namespace Go.Proofs.YthlnndjkocnfcaaGreatDoor
open Go.RowKit

theorem quiet_bld {w : World} {o : Oper} {a a' : Act} {K : Act → Prop} (t : TypeId) (l : List (Nat × Operand)) (ho : o.op = .build t l.toArray)
    {vals : List (Nat × Value)} {cs : Array Value} (hb : Tryz.prog.built t vals = some cs) (hv : l.map (fun p => (p.1, a.eval p.2)) = vals)
    (ha : a.put o.dst (.agg cs) = a') (hk : K a') : o.quiet Tryz.prog a (fun w' => ∃ y : BelT w, w' = y.at_) K := by
  subst ha hv
  refine ⟨_, ?_, hk⟩
  rintro _ ⟨y, rfl⟩
  have hb' : Tryz.prog.built t (l.toArray.map fun (i, x) => (i, a.eval x)).toList = some cs := by rw [← hb]; simp
  unfold Oper.quietAt execOp
  simp only [ho, Sem.run_bind, run_build y.at_ t _ cs hb', Result.andThen_ok]
  exact ⟨rfl, rfl⟩
/-- a struct of cells l is loaded. -/
theorem quiet_loadL {w : World} {o : Oper} {a a' : Act} {K : Act → Prop} (ty : TypeId) (x : Operand) (ho : o.op = .load ty x) {g off : Nat} (hx : a.eval x = .pointer (some ⟨g, off, none⟩)) {l : List Value} (hB : w.rangeAt g off l)
    {d : TypeDesc} (hu : Tryz.prog.underlying ty = some d) (hd : d.isRow = true) (hi : (Tryz.prog.info? ty).map (·.size) = some l.length)
    (ha : a.put o.dst (.agg l.toArray) = a') (hk : K a') : o.quiet Tryz.prog a (fun w' => ∃ y : BelT w, w' = y.at_) K := by
  subst ha
  refine ⟨_, ?_, hk⟩
  rintro _ ⟨y, rfl⟩
  unfold Oper.quietAt execOp
  have hr : y.at_.rangeAt g off l := fun j v hv => y.cell (hB j v hv)
  simp only [ho, hx, Instr.loadAt, Instr.sureAddr, Sem.run_bind, Sem.run_pure, Result.andThen_ok, run_loadVar_mid y.at_ g off ty l _ hr hu hd hi]
  exact ⟨rfl, rfl⟩
/-- a field of one cell of a struct that is a value. -/
theorem quiet_fieldOne {w : World} {o : Oper} {a a' : Act} {K : Act → Prop} (t : TypeId) (x : Operand) (i : Nat) (ho : o.op = .field t x i) {cs : Array Value} (hx : a.eval x = .agg cs)
    {fs : Array Field} (hu : Tryz.prog.underlying t = some (.struct fs)) {ty : TypeId} {off : Nat} (hf : fs[i]?.map (fun f => (f.type, f.offset)) = some (ty, off)) {d : TypeDesc} (hu2 : Tryz.prog.underlying ty = some d) (hd : d.isRow = false) {v : Value} (he : cs[off]? = some v)
    (ha : a.put o.dst v = a') (hk : K a') : o.quiet Tryz.prog a (fun w' => ∃ y : BelT w, w' = y.at_) K := by
  subst ha
  refine ⟨_, ?_, hk⟩
  rintro _ ⟨y, rfl⟩
  obtain ⟨f, hf1, hf2⟩ := Option.map_eq_some_iff.1 hf
  injection hf2 with hf2 hf3
  have ha : (isAgg ty).run Tryz.prog y.at_ = .ok false y.at_ := by cases d <;> first | (cases hd; done) | simp [isAgg, run_underlying hu2]
  have hr : (Instr.field t (.agg cs) i).run Tryz.prog y.at_ = .ok v y.at_ := by
    subst hf2 hf3
    simp only [Instr.field, Sem.run_bind, run_underlying hu, Result.andThen_ok, hf1, asAgg, Sem.run_pure, part, ha, if_false, Bool.false_eq_true, he]
  unfold Oper.quietAt execOp
  simp only [ho, hx, Sem.run_bind, hr, Result.andThen_ok]
  exact ⟨rfl, rfl⟩
/-- a region that makes one variable: whatever order, what stands behind it. -/
theorem region_cut {P : Program} {c : Code} {Q : Exit → Act → World → Prop} {a : Act} {w : World} {F : Nat → Act} (R : Nat → World → Prop) (h : c.wp P (fun ex a' w' => ex = .normal ∧ ∃ g, a' = F g ∧ R g w') a w) (k : ∀ g w', R g w' → Q .normal (F g) w') : c.wp P Q a w :=
  wp_mono h fun ex a' w' ⟨h1, g, h2, h3⟩ => by rw [h1, h2]; exact k g w' h3
theorem region_cut0 {P : Program} {c : Code} {Q : Exit → Act → World → Prop} {a : Act} {w : World} {F : Act} (R : World → Prop) (h : c.wp P (fun ex a' w' => ex = .normal ∧ a' = F ∧ R w') a w) (k : ∀ w', R w' → Q .normal F w') : c.wp P Q a w :=
  wp_mono h fun ex a' w' ⟨h1, h2, h3⟩ => by rw [h1, h2]; exact k w' h3
theorem gr_of {w w' : World} {row : Option Nat} (h : Below w.heap.size w w') : w.grownBy w' row := ⟨h.os, h.tape, h.output, h.size, fun k hk _ => h.block k hk⟩
theorem gr_st {w w1 w2 : World} {g : Nat} (h : Below w.heap.size w w1) (k : Stays g w1 w2) : w.grownBy w2 (some g) := ⟨k.os.trans h.os, k.tape.trans h.tape, k.output.trans h.output, by rw [k.size]; exact h.size, fun j hj hn => (k.block j (fun e => hn (by rw [e]))).trans (h.block j hj)⟩
end Go.Proofs.YthlnndjkocnfcaaGreatDoor

/- route.Routes and route.Of at any net (printed by mk_srd.py). -/
namespace Go.Proofs.YthlnndjkocnfcaaGreatDoor
open Go.RowKit
attribute [local go_sem] ba_get ext_take ext_drop ext_any ba_app

theorem ret_rtE {fn : Func} {p q : Tmp} (h : fn.results = #[.cell p 46, .tmp q]) {R : Ending → World → Prop} {a : Act} {w : World} {g : Nat} {t : TypeId} {b : Rt} {v : Value}
    (hp : a.tmps.getD p undef = .pointer (some ⟨g, 0, none⟩)) (hq : a.tmps.getD q undef = v) (hB : Bk w g t (rtA b)) (hd : a.defers = []) (hR : R (.returned (.tuple #[.agg (rtA b), v])) w) : bodyPost Tryz.prog fn R .ret a w := by
  refine bodyPost_ret_by (v := .tuple #[.agg (rtA b), v]) ?_ hd hR
  have hp' : a.tmps[p]?.getD undef = .pointer (some ⟨g, 0, none⟩) := by simpa using hp
  have hq' : a.tmps[q]?.getD undef = v := by simpa using hq
  simp [results, h, hp', hq', asAddr, run_loadVar_row (P := Tryz.prog) w g t 46 (rtA b) (0, 0) _ hB rt_under rfl (rt_size' b)]
set_option maxRecDepth 100000 in
set_option maxHeartbeats 4000000 in
theorem routes_any (vi vr vp : Value) (N : Nt) (w : World) (hN : NetRaw w vi vr vp N) (hl : N.R.length ≤ 1000000) : Calls Tryz.prog 48 #[.agg #[vi, vr, vp]] w (RtsPost w (rtN N.R)) := by
  have h0 := hN.r
  clear hN
  generalize N.R = L at *
  obtain ⟨A, c, rfl, hc⟩ := h0.any
  have H := Lib.hid h0
  clear h0 hc
  go_enter Tryz.func48, Tryz.ntmps48
  go_wp2_with (first
    | ((with_reducible refine wpList_boxB rfl _ _ rfl rfl ?_); intro g1 w1 hg hB1 hb1 hs; have c2 : w1.cell? ⟨g1, 1, none⟩ = some (.slice A L.length c) := hB1.cell 1; clear hg hs))
  have H1 := Lib.hid (H.out.below hb1)
  go_loopw [3, 9] (fun v i wr => ∃ k : Nat, k ≤ L.length ∧ i = .int .i64 k ∧ FltRel w1 46 21 rtL okR 32 L k v wr) (fun _ i _ => L.length - (intOf i).toNat)
  case atStart => exact ⟨0, Nat.zero_le _, rfl, by simp, by simpa using World.ownsRow_nil w1 w1.heap.size 46 21, Below.refl _ _⟩
  case round =>
    obtain ⟨k, hk, rfl, hcnt, hown, hbel⟩ := hrel
    obtain ⟨ao, co, rfl⟩ := own_anyF hown
    have Hown := Lib.hid hown
    clear hown c2
    by_cases hlt : k < L.length
    · obtain ⟨b, off, c, hv, hc, hbl, hcell⟩ := H1.out.pos (by omega)
      injection hv with hv1 _ hv2
      subst hv1 hv2
      have hR := range_of rtL_len hcell hlt
      have HR : Hid (wr.rangeAt b (off + k * 21) (rtL L[k])) := Lib.hid (fun j u hu => ((hbel.cell (p := ⟨b, off + k * 21 + j, none⟩) hbl).trans (hR j u hu)))
      clear hR hcell hbl
      have hltI : (k : Int) < (L.length : Int) := by omega
      by_cases hst : 32 ≤ ((L.take k).filter okR).length
      · have hfin : leftF okR 32 L = (L.take k).filter okR := by rw [leftF_stop hst, List.take_of_length_le hcnt]
        have Hfin : Hid (rtN L = (L.take k).filter okR) := Lib.hid hfin
        clear hfin
        generalize (L.take k).filter okR = Q at *
        have i15 : ((Q.length : Int) == 32) = true := by rw [beq_iff_eq]; omega
        generalize hql : Q.length = q at *
        go_wp2_with (first
          | (with_reducible refine wpList_loadM_rt rfl _ rfl rfl HR.out ?_)
          | ((with_reducible refine wpList_alloc_rt rfl rfl ?_); intro g2 w2 hg hB2 hb2 hs; have hg2 : wr.heap.size ≤ g2 := Nat.le_of_eq hg.symm; clear hg hs)
          | ((with_reducible refine wpList_store_rt rfl _ _ rfl rfl rfl hB2 ?_); intro w4 hB4 hS4))
        go_ret
        have hb4 : Below wr.heap.size wr w4 := hb2.trans (hS4.below (by omega))
        refine ⟨_, rfl, ?_, bel_tr hb1 (hbel.trans (hb4.mono hbel.size))⟩
        rw [Hfin.out, hql]
        exact own_base (own_below Hown.out hb4) hb1.size
      · have hst2 : ((L.take k).filter okR).length < 32 := by omega
        have hnx := filt_next (p := okR) hlt
        have Hnx := Lib.hid hnx
        clear hnx hst
        generalize hp : L[k] = p at *
        generalize hQ : (L.take k).filter okR = Q at *
        have i15 : ((Q.length : Int) == 32) = false := by rw [beq_eq_false_iff_ne]; omega
        have Hbd : Hid (Q.length < 32) := Lib.hid hst2
        have hok : ∀ y : Bool, (chkP p.pf == 0) = y → okR p = y := by intro y hy; unfold okR; exact hy
        have Hok := Lib.hid hok
        clear hok hst2 hp hQ
        have HH : Hid (∀ w, Calls Tryz.prog 64 #[.agg (pfA p.pf)] w fun e w' => e = .returned (.int .i64 (chkP p.pf)) ∧ Below w.heap.size w w') := Lib.hid (holds_any p.pf)
        generalize hch : chkP p.pf = ch at *
        clear hch
        cases i0 : (ch == 0)
        all_goals
          have Ho := Lib.hid (Hok.out _ i0)
          clear Hok
          go_wp2_with (first
            | (with_reducible refine wpList_loadM_rt rfl _ rfl rfl HR.out ?_)
            | ((with_reducible refine wpList_alloc_rt rfl rfl ?_); intro g2 w2 hg hB2 hb2 hs; have hg2 : wr.heap.size ≤ g2 := Nat.le_of_eq hg.symm; clear hg hs)
            | ((with_reducible refine wpList_store_rt (o := ⟨none, _, _, _, _, _⟩) rfl _ _ rfl rfl rfl hB2 ?_); intro w4 hB4 hS4; have hb4 : Below wr.heap.size wr w4 := hb2.trans (hS4.below (by omega)); have hq4 := hB4.rangehd_rt; have HX : Hid (Bk w4 g2 46 (rtA p) ∧ Below wr.heap.size wr w4) := Lib.hid ⟨hB4, hb4⟩; clear hB4 hb4 hB2 hb2 hS4 hg2)
            | (with_reducible refine wpList_loadPfM (o := ⟨some 17, _, _, _, _, _⟩) rfl _ rfl rfl hq4 ?_)
            | (go_at_call 64; refine (HH.out _).mono ?_; rintro e w5 ⟨rfl, hb5⟩; have HX5 : Hid (Bk w5 g2 46 (rtA p) ∧ Below wr.heap.size wr w5) := Lib.hid ⟨HX.out.1.bel hb5, bel_tr HX.out.2 hb5⟩; clear HX hq4 hb5; have HX := HX5; clear HX5)
            | (with_reducible refine wpList_load_rt (o := ⟨some 21, _, _, _, _, _⟩) rfl _ rfl rfl HX.out.1 ?_)
            | ((with_reducible show wpList _ _ _ (⟨some 22, _, _, _, _, _⟩ :: _) _ _); refine wpList_lit (o := ⟨some 22, _, _, _, _, _⟩) rfl _ _ rfl elt_rt [.agg (rtA p)] rfl (by decide) (by decide) (fun v hv => by rw [List.mem_singleton.1 hv]; exact rtA_size _) rfl ?_; intro w6 hB6 hx6 hb6 hs6; clear hx6 hs6; have hb06 := bel_tr HX.out.2 hb6; have hB6 := bk_list (l := rtL p) hB6 rfl)
            | (at_builtin; refine wpList_app rfl (.tmp 20) (.tmp 22) _ rfl elt_rt rfl (own_below Hown.out hb06) rfl (hB6.sl (size := 21) (n := 1) (rtL_len _) 1 (Nat.le_refl _)) (rtL_one _) (Nat.le_trans hbel.size hb06.size) (by have := Hbd.out; omega) (by have := Hbd.out; omega) ?_; intro v7 w7 ho7 hb7 hg7; clear hg7))
          skip
        · go_roundw
          case rel =>
            refine ⟨k + 1, by omega, by go_num, ?_⟩
            unfold FltRel
            rw [Hnx.out, if_neg (by rw [Ho.out]; decide), List.append_nil]
            exact ⟨Nat.le_of_lt Hbd.out, own_below Hown.out HX.out.2, hbel.trans (HX.out.2.mono hbel.size)⟩
          case measure => simp [intOf]; omega
        · go_roundw
          case rel =>
            refine ⟨k + 1, by omega, by go_num, ?_⟩
            unfold FltRel
            rw [Hnx.out, if_pos Ho.out, List.length_append, List.flatMap_append]
            refine ⟨by have := Hbd.out; simp; omega, ?_, (hbel.trans (hb06.mono hbel.size)).trans hb7⟩
            simpa using ho7
          case measure => simp [intOf]; omega
    · have hkl : k = L.length := by omega
      subst hkl
      have hfin : leftF okR 32 L = (L.take L.length).filter okR := by rw [leftF, List.take_length, List.take_of_length_le (by rw [List.take_length] at hcnt; exact hcnt)]
      have Hfin : Hid (rtN L = (L.take L.length).filter okR) := Lib.hid hfin
      clear hfin
      generalize (L.take L.length).filter okR = Q at *
      generalize hql : Q.length = q at *
      go_wp2
      go_ret
      refine ⟨_, rfl, ?_, bel_tr hb1 hbel⟩
      rw [Hfin.out, hql]
      exact own_base Hown.out hb1.size

/-! ### route.Of -/
theorem bits_ok (a : Ad) : -9223372036854775808 ≤ bitsA a ∧ bitsA a ≤ 9223372036854775807 := by
  unfold bitsA
  split
  · omega
  · split <;> omega
def fR (a : Ad) (r : Rt) : Bool := withB a r.pf
def gR (r : Rt) : Int := r.pf.bits
/-- the way by the address's own Zone. -/
def zoneR (a : Ad) : Rt := ⟨⟨a, bitsA a, bits_ok a⟩, a.zone, false, a.ok.2.2⟩
/-- the way to an address, and whether there is one. -/
def wayP (a : Ad) (R : List Rt) : Rt × Bool := if chkA a ≠ 0 then (rt0, false) else if a.fam = 6 ∧ 0 < a.zone then (zoneR a, true) else ((bst (fR a) gR R).getD rt0, (bst (fR a) gR R).isSome)
theorem bst_takeR {a : Ad} {R : List Rt} {k : Nat} (hk : k < R.length) : bst (fR a) gR (R.take (k + 1)) = bstp (fR a) gR (bst (fR a) gR (R.take k)) R[k] := by
  rw [List.take_add_one, List.getElem?_eq_getElem hk]
  exact bst_snoc _ _ _ _
structure WayRel (w : World) (g3 g4 g6 : Nat) (A : Ad) (An : Option Addr) (R : List Rt) (lo : Nat) (o : Option Rt) (wr : World) : Prop where
  b3 : Bk wr g3 29 (adA A)
  b4 : Bk wr g4 46 (rtA rt0)
  b6 : Bk wr g6 46 (rtA (o.getD rt0))
  r : SRow rtL 21 wr An R lo
  b : Below w.heap.size w wr
def WayPost (w : World) (x : Rt × Bool) (e : Ending) (w' : World) : Prop := e = .returned (.tuple #[.agg (rtA x.1), .bool x.2]) ∧ Below w.heap.size w w'
theorem built_rt0 : Tryz.prog.built 46 [] = some (rtA rt0) := by kernel_rfl
theorem built_zr (y : Pf) (z : Int) (h : -9223372036854775808 ≤ z ∧ z ≤ 9223372036854775807) : Tryz.prog.built 46 [(0, .agg (pfA y)), (1, .int .i64 z)] = some (rtA ⟨y, z, false, h⟩) := by
  obtain ⟨⟨fam, ip, zone, ok⟩, bits, okb⟩ := y
  obtain ⟨c0, c1, c2, c3, c4, c5, c6, c7, c8, c9, c10, c11, c12, c13, c14, c15, rfl⟩ := len16 ok.1
  kernel_rfl
set_option maxRecDepth 100000 in
set_option maxHeartbeats 4000000 in
theorem way_loop (vi vr vp : Value) (N : Nt) (a : Ad) (w : World) (hN : NetRaw w vi vr vp N) (hl : N.R.length ≤ 1000000) (hc : chkA a = 0) (hz : ¬ (a.fam = 6 ∧ 0 < a.zone)) :
    Calls Tryz.prog 27 #[.agg #[vi, vr, vp], .agg (adA a)] w (WayPost w (wayP a (rtN N.R))) := by
  have HN := Lib.hid hN
  have Hns := Lib.hid (show (Tryz.prog.info? 26).map (·.size) = some (#[vi, vr, vp] : Array Value).size from net_size)
  have hRl : (rtN N.R).length ≤ 32 := by unfold rtN leftF; rw [List.length_take]; omega
  have HRts : Hid (∀ w', NetRaw w' vi vr vp N → Calls Tryz.prog 48 #[.agg #[vi, vr, vp]] w' (RtsPost w' (rtN N.R))) := Lib.hid (fun w' h' => routes_any vi vr vp N w' h' hl)
  generalize rtN N.R = R at *
  have Hof : Hid (wayP a R = ((bst (fR a) gR R).getD rt0, (bst (fR a) gR R).isSome)) := Lib.hid (by unfold wayP; rw [if_neg (by simpa using hc), if_neg hz])
  have Hc := Lib.hid hc
  have hz6 : (a.fam == 6) = false ∨ ((a.fam == 6) = true ∧ decide (0 < a.zone) = false) := by
    by_cases h6 : a.fam = 6
    · right; exact ⟨by simpa using h6, decide_eq_false (fun h => hz ⟨h6, h⟩)⟩
    · left; simpa using h6
  clear hN hc hz hl
  rcases hz6 with h6 | ⟨h6, hz⟩
  all_goals
    go_enter Tryz.func27, Tryz.ntmps27
    go_wp2_with (first
      | ((with_reducible refine wpList_boxB (o := ⟨some 2, _, _, _, _, _⟩) rfl _ _ rfl rfl ?_); intro g2 w1 hg hB2 hb1 hs; have hg2 : w.heap.size ≤ g2 := Nat.le_of_eq hg.symm; clear hg hs)
      | ((with_reducible refine wpList_boxB (o := ⟨some 3, _, _, _, _, _⟩) rfl _ _ rfl rfl ?_); intro g3 w2 hg hB3 hb2 hs; have hg3 : w1.heap.size ≤ g3 := Nat.le_of_eq hg.symm; have hB22 := hB2.bel hb2; have hb02 := bel_tr hb1 hb2; clear hg hs)
      | ((with_reducible refine wpList_alloc_rt (o := ⟨some 4, _, _, _, _, _⟩) rfl rfl ?_); intro g4 w3 hg hB4 hb3 hs; have hg4 : w2.heap.size ≤ g4 := Nat.le_of_eq hg.symm; have hB23 := hB22.bel hb3; have hB33 := hB3.bel hb3; have hb03 := bel_tr hb02 hb3; clear hg hs)
      | (with_reducible refine wpList_loadAd (o := ⟨some 10, _, _, _, _, _⟩) rfl _ rfl rfl hB33 ?_)
      | (go_at_call 46; refine (acheck_any a _).mono ?_; rintro e w4 ⟨rfl, hb4⟩; rw [Hc.out]; have hB24 := hB23.bel hb4; have hB34 := hB33.bel hb4; have hB44 := hB4.bel hb4; have hb04 := bel_tr hb03 hb4
         have c0 := hB34.cell 0; rw [adA_0] at c0
         have c17 := hB34.cell 17; rw [adA_17] at c17)
      | ((with_reducible refine wpList_alloc_rt (o := ⟨some 6, _, _, _, _, _⟩) rfl rfl ?_); intro g6 w5 hg hB6 hb5 hs; have hg6 : w4.heap.size ≤ g6 := Nat.le_of_eq hg.symm; have hl6 := hB6.lt; have hB25 := hB24.bel hb5; have hB35 := hB34.bel hb5; have hB45 := hB44.bel hb5; have hb05 := bel_tr hb04 hb5; clear hg hs c0 c17)
      | (with_reducible refine wpList_loadB (o := ⟨some 29, _, _, _, _, _⟩) rfl _ _ rfl rfl hB25 net_under rfl Hns.out ?_)
      | (go_at_call 48; refine (HRts.out _ (HN.out.below hb05)).mono ?_; rintro e w8 ⟨v8, rfl, ho8, hb8⟩; obtain ⟨A8, c8, rfl, hc8⟩ := (Sl.own ho8).any; have hr8 := SRow.own rtL_len ho8; have hX8 := hB35.bel hb8; have hZ8 := hB45.bel hb8; have hB68 := hB6.bel hb8; have hb08 := bel_tr hb05 hb8))
    have hlo : g3 < g4 ∧ g4 < g6 ∧ g6 < w5.heap.size ∧ w.heap.size ≤ g3 := ⟨by have := hB3.lt; omega, by have := hB44.lt; omega, hl6, by have := hb1.size; omega⟩
    generalize w5.heap.size = lo at *
    have R0 : WayRel w g3 g4 g6 a A8 R lo (bst (fR a) gR (R.take 0)) w8 := ⟨hX8, hZ8, hB68, hr8, hb08⟩
    clear hB2 hB22 hB23 hB24 hB25 hB3 hB33 hB34 hB35 hB4 hB44 hB45 hB6 hB68 hX8 hZ8 hb1 hb2 hb3 hb4 hb5 hb8 hb02 hb03 hb04 hb05 hb08 ho8 hr8 hg2 hg3 hg4 hg6 hl6
    go_loopw [7, 32] (fun f i wr => ∃ (k : Nat) (o : Option Rt), k ≤ R.length ∧ i = .int .i64 k ∧ o = bst (fR a) gR (R.take k) ∧ f = .bool o.isSome ∧ WayRel w g3 g4 g6 a A8 R lo o wr) (fun _ i _ => R.length - (intOf i).toNat)
    case atStart => exact ⟨0, _, by omega, rfl, rfl, rfl, R0⟩
    case round =>
      obtain ⟨k, o, hk, rfl, ho, rfl, r3, r4, r6, rr, rb⟩ := hrel
      clear R0
      by_cases hlt : k < R.length
      · obtain ⟨b, off, rfl, hblo, hblt, hrg⟩ := rr k hlt
        have j0 : (k : Int) < (R.length : Int) := by omega
        have hnx := bst_takeR (a := a) hlt
        rw [← ho] at hnx
        generalize hp : R[k] = p at *
        have Hnx := Lib.hid hnx
        clear hnx ho
        have HW : Hid (∀ w, Calls Tryz.prog 45 #[.agg (adA a), .agg (pfA p.pf)] w fun e w' => e = .returned (.bool (withB a p.pf)) ∧ Below w.heap.size w w') := Lib.hid (within_any a p.pf)
        have hcs : (fR a p = false ∧ bstp (fR a) gR o p = o) ∨ (fR a p = true ∧ o = none ∧ bstp (fR a) gR o p = some p) ∨ (∃ x, fR a p = true ∧ o = some x ∧ x.pf.bits < p.pf.bits ∧ bstp (fR a) gR o p = some p) ∨ (∃ x, fR a p = true ∧ o = some x ∧ ¬ x.pf.bits < p.pf.bits ∧ bstp (fR a) gR o p = some x) := by
          cases hf : fR a p with
          | false => left; refine ⟨rfl, ?_⟩; cases o <;> simp [bstp, hf]
          | true =>
            right
            cases o with
            | none => left; refine ⟨rfl, rfl, ?_⟩; simp [bstp, hf]
            | some x =>
              right
              by_cases hg : x.pf.bits < p.pf.bits
              · left; exact ⟨x, rfl, rfl, hg, by simp [bstp, hf, gR, hg]⟩
              · right; exact ⟨x, rfl, rfl, hg, by simp [bstp, hf, gR, hg]⟩
        have HfW : Hid (fR a p = withB a p.pf) := Lib.hid rfl
        clear hp
        rcases hcs with ⟨hf, hst⟩ | ⟨hf, ho, hst⟩ | ⟨x, hf, ho, hgt, hst⟩ | ⟨x, hf, ho, hgt, hst⟩

        · have Hst := Lib.hid (Hnx.out.trans hst)
          have Hwb := Lib.hid (HfW.out.symm.trans hf)
          generalize withB a p.pf = wb at *
          clear hst hf Hnx HfW
          have c6 := r6.cell 18
          rw [rtA_18] at c6
          go_wp2_with (first
            | (with_reducible refine wpList_loadM_rt (o := ⟨some 35, _, _, _, _, _⟩) rfl _ rfl rfl hrg ?_)
            | ((with_reducible refine wpList_alloc_rt (o := ⟨some 9, _, _, _, _, _⟩) rfl rfl ?_); intro g9 w9 hg hB9 hb9 hs; have hg9 : wr.heap.size ≤ g9 := Nat.le_of_eq hg.symm; clear hg hs)
            | ((with_reducible refine wpList_store_rt (o := ⟨none, _, _, _, _, _⟩) rfl (.tmp 9) _ rfl rfl rfl hB9 ?_); intro wa hB9a hSa; have hba : Below wr.heap.size wr wa := hb9.trans (hSa.below hg9); have r3a := r3.bel hba; have hq9 := hB9a.rangehd_rt; have d9 := hB9a.cell 18; rw [rtA_18] at d9; have d6 := (r6.bel hba).cell 18; rw [rtA_18] at d6)
            | (with_reducible refine wpList_loadAd (o := ⟨some 36, _, _, _, _, _⟩) rfl _ rfl rfl r3a ?_)
            | (with_reducible refine wpList_loadPfM (o := ⟨some 38, _, _, _, _, _⟩) rfl _ rfl rfl hq9 ?_)
            | (go_at_call 45; refine (HW.out _).mono ?_; rintro e wb' ⟨rfl, hbb⟩; rw [Hwb.out]; have hbw := bel_tr hba hbb; have d9b := (hB9a.bel hbb).cell 18; rw [rtA_18] at d9b; have r6b := r6.bel hbw; have d6b := r6b.cell 18; rw [rtA_18] at d6b; have hB9b := hB9a.bel hbb))
          go_roundw
          case rel =>
            refine ⟨k + 1, o, by omega, by go_num, Hst.out.symm, rfl, ?_⟩
            exact ⟨r3.bel hbw, r4.bel hbw, r6b, rr.bel hbw, bel_tr rb hbw⟩
          case measure => simp [intOf]; omega
        · have Hst := Lib.hid (Hnx.out.trans hst)
          have Hwb := Lib.hid (HfW.out.symm.trans hf)
          generalize withB a p.pf = wb at *
          clear hst hf Hnx HfW
          subst ho
          have c6 := r6.cell 18
          rw [rtA_18] at c6
          go_wp2_with (first
            | (with_reducible refine wpList_loadM_rt (o := ⟨some 35, _, _, _, _, _⟩) rfl _ rfl rfl hrg ?_)
            | ((with_reducible refine wpList_alloc_rt (o := ⟨some 9, _, _, _, _, _⟩) rfl rfl ?_); intro g9 w9 hg hB9 hb9 hs; have hg9 : wr.heap.size ≤ g9 := Nat.le_of_eq hg.symm; clear hg hs)
            | ((with_reducible refine wpList_store_rt (o := ⟨none, _, _, _, _, _⟩) rfl (.tmp 9) _ rfl rfl rfl hB9 ?_); intro wa hB9a hSa; have hba : Below wr.heap.size wr wa := hb9.trans (hSa.below hg9); have r3a := r3.bel hba; have hq9 := hB9a.rangehd_rt; have d9 := hB9a.cell 18; rw [rtA_18] at d9; have d6 := (r6.bel hba).cell 18; rw [rtA_18] at d6)
            | (with_reducible refine wpList_loadAd (o := ⟨some 36, _, _, _, _, _⟩) rfl _ rfl rfl r3a ?_)
            | (with_reducible refine wpList_loadPfM (o := ⟨some 38, _, _, _, _, _⟩) rfl _ rfl rfl hq9 ?_)
            | (go_at_call 45; refine (HW.out _).mono ?_; rintro e wb' ⟨rfl, hbb⟩; rw [Hwb.out]; have hbw := bel_tr hba hbb; have d9b := (hB9a.bel hbb).cell 18; rw [rtA_18] at d9b; have r6b := r6.bel hbw; have d6b := r6b.cell 18; rw [rtA_18] at d6b; have hB9b := hB9a.bel hbb)
            | (with_reducible refine wpList_load_rt (o := ⟨some 53, _, _, _, _, _⟩) rfl _ rfl rfl hB9b ?_)
            | ((with_reducible refine wpList_store_rt (o := ⟨none, _, _, _, _, _⟩) rfl (.tmp 6) _ rfl rfl rfl r6b ?_); intro wc hB6c hSc; have hszc := hSc.size))
          go_roundw
          case rel =>
            refine ⟨k + 1, some p, by omega, by go_num, Hst.out.symm, rfl, ?_⟩
            exact ⟨(r3.bel hbw).stays hSc (by omega), (r4.bel hbw).stays hSc (by omega), hB6c, (rr.bel hbw).stays hSc (by omega), (bel_tr rb hbw).trans (hSc.below (by omega))⟩
          case measure => simp [intOf]; omega
        · have Hst := Lib.hid (Hnx.out.trans hst)
          have Hwb := Lib.hid (HfW.out.symm.trans hf)
          generalize withB a p.pf = wb at *
          clear hst hf Hnx HfW
          subst ho
          have i1 : decide (x.pf.bits < p.pf.bits) = true := decide_eq_true hgt
          clear hgt
          have c6 := r6.cell 18
          rw [rtA_18] at c6
          go_wp2_with (first
            | (with_reducible refine wpList_loadM_rt (o := ⟨some 35, _, _, _, _, _⟩) rfl _ rfl rfl hrg ?_)
            | ((with_reducible refine wpList_alloc_rt (o := ⟨some 9, _, _, _, _, _⟩) rfl rfl ?_); intro g9 w9 hg hB9 hb9 hs; have hg9 : wr.heap.size ≤ g9 := Nat.le_of_eq hg.symm; clear hg hs)
            | ((with_reducible refine wpList_store_rt (o := ⟨none, _, _, _, _, _⟩) rfl (.tmp 9) _ rfl rfl rfl hB9 ?_); intro wa hB9a hSa; have hba : Below wr.heap.size wr wa := hb9.trans (hSa.below hg9); have r3a := r3.bel hba; have hq9 := hB9a.rangehd_rt; have d9 := hB9a.cell 18; rw [rtA_18] at d9; have d6 := (r6.bel hba).cell 18; rw [rtA_18] at d6)
            | (with_reducible refine wpList_loadAd (o := ⟨some 36, _, _, _, _, _⟩) rfl _ rfl rfl r3a ?_)
            | (with_reducible refine wpList_loadPfM (o := ⟨some 38, _, _, _, _, _⟩) rfl _ rfl rfl hq9 ?_)
            | (go_at_call 45; refine (HW.out _).mono ?_; rintro e wb' ⟨rfl, hbb⟩; rw [Hwb.out]; have hbw := bel_tr hba hbb; have d9b := (hB9a.bel hbb).cell 18; rw [rtA_18] at d9b; have r6b := r6.bel hbw; have d6b := r6b.cell 18; rw [rtA_18] at d6b; have hB9b := hB9a.bel hbb)
            | (with_reducible refine wpList_load_rt (o := ⟨some 53, _, _, _, _, _⟩) rfl _ rfl rfl hB9b ?_)
            | ((with_reducible refine wpList_store_rt (o := ⟨none, _, _, _, _, _⟩) rfl (.tmp 6) _ rfl rfl rfl r6b ?_); intro wc hB6c hSc; have hszc := hSc.size))
          go_roundw
          case rel =>
            refine ⟨k + 1, some p, by omega, by go_num, Hst.out.symm, rfl, ?_⟩
            exact ⟨(r3.bel hbw).stays hSc (by omega), (r4.bel hbw).stays hSc (by omega), hB6c, (rr.bel hbw).stays hSc (by omega), (bel_tr rb hbw).trans (hSc.below (by omega))⟩
          case measure => simp [intOf]; omega
        · have Hst := Lib.hid (Hnx.out.trans hst)
          have Hwb := Lib.hid (HfW.out.symm.trans hf)
          generalize withB a p.pf = wb at *
          clear hst hf Hnx HfW
          subst ho
          have i1 : decide (x.pf.bits < p.pf.bits) = false := decide_eq_false hgt
          clear hgt
          have c6 := r6.cell 18
          rw [rtA_18] at c6
          go_wp2_with (first
            | (with_reducible refine wpList_loadM_rt (o := ⟨some 35, _, _, _, _, _⟩) rfl _ rfl rfl hrg ?_)
            | ((with_reducible refine wpList_alloc_rt (o := ⟨some 9, _, _, _, _, _⟩) rfl rfl ?_); intro g9 w9 hg hB9 hb9 hs; have hg9 : wr.heap.size ≤ g9 := Nat.le_of_eq hg.symm; clear hg hs)
            | ((with_reducible refine wpList_store_rt (o := ⟨none, _, _, _, _, _⟩) rfl (.tmp 9) _ rfl rfl rfl hB9 ?_); intro wa hB9a hSa; have hba : Below wr.heap.size wr wa := hb9.trans (hSa.below hg9); have r3a := r3.bel hba; have hq9 := hB9a.rangehd_rt; have d9 := hB9a.cell 18; rw [rtA_18] at d9; have d6 := (r6.bel hba).cell 18; rw [rtA_18] at d6)
            | (with_reducible refine wpList_loadAd (o := ⟨some 36, _, _, _, _, _⟩) rfl _ rfl rfl r3a ?_)
            | (with_reducible refine wpList_loadPfM (o := ⟨some 38, _, _, _, _, _⟩) rfl _ rfl rfl hq9 ?_)
            | (go_at_call 45; refine (HW.out _).mono ?_; rintro e wb' ⟨rfl, hbb⟩; rw [Hwb.out]; have hbw := bel_tr hba hbb; have d9b := (hB9a.bel hbb).cell 18; rw [rtA_18] at d9b; have r6b := r6.bel hbw; have d6b := r6b.cell 18; rw [rtA_18] at d6b; have hB9b := hB9a.bel hbb))
          go_roundw
          case rel =>
            refine ⟨k + 1, some x, by omega, by go_num, Hst.out.symm, rfl, ?_⟩
            exact ⟨r3.bel hbw, r4.bel hbw, r6b, rr.bel hbw, bel_tr rb hbw⟩
          case measure => simp [intOf]; omega
      · have hkR : k = R.length := by omega
        subst hkR
        have j0 : ¬ (R.length : Int) < (R.length : Int) := by omega
        rw [List.take_length] at ho
        rw [← ho] at Hof
        clear ho
        go_wp2_with (first
          | (with_reducible refine wpList_load_rt (o := ⟨some 55, _, _, _, _, _⟩) rfl _ rfl rfl r6 ?_)
          | ((with_reducible refine wpList_store_rt (o := ⟨none, _, _, _, _, _⟩) rfl (.tmp 4) _ rfl rfl rfl r4 ?_); intro wc hB4c hSc))
        exact ret_rtE Tryz.results27 rfl rfl hB4c rfl ⟨by rw [Hof.out]; rfl, rb.trans (hSc.below (by omega))⟩
set_option maxRecDepth 100000 in
set_option maxHeartbeats 4000000 in
theorem way_none (vi vr vp : Value) (a : Ad) (w : World) (R : List Rt) (hc : chkA a ≠ 0) :
    Calls Tryz.prog 27 #[.agg #[vi, vr, vp], .agg (adA a)] w (WayPost w (wayP a R)) := by
  have Hof : Hid (wayP a R = (rt0, false)) := Lib.hid (by unfold wayP; rw [if_pos hc])
  have i0 : (chkA a != 0) = true := by simpa using hc
  generalize hch : chkA a = ch at *
  have Hch := Lib.hid hch
  clear hch hc
  go_enter Tryz.func27, Tryz.ntmps27
  go_wp2_with (first
    | ((with_reducible refine wpList_boxB (o := ⟨some 2, _, _, _, _, _⟩) rfl _ _ rfl rfl ?_); intro g2 w1 hg hB2 hb1 hs; have hg2 : w.heap.size ≤ g2 := Nat.le_of_eq hg.symm; clear hg hs)
    | ((with_reducible refine wpList_boxB (o := ⟨some 3, _, _, _, _, _⟩) rfl _ _ rfl rfl ?_); intro g3 w2 hg hB3 hb2 hs; have hg3 : w1.heap.size ≤ g3 := Nat.le_of_eq hg.symm; have hb02 := bel_tr hb1 hb2; clear hg hs)
    | ((with_reducible refine wpList_alloc_rt (o := ⟨some 4, _, _, _, _, _⟩) rfl rfl ?_); intro g4 w3 hg hB4 hb3 hs; have hg4 : w2.heap.size ≤ g4 := Nat.le_of_eq hg.symm; have hB33 := hB3.bel hb3; have hb03 := bel_tr hb02 hb3; have hw4 : w.heap.size ≤ g4 := Nat.le_trans hb02.size hg4; clear hg hs)
    | (with_reducible refine wpList_loadAd (o := ⟨some 10, _, _, _, _, _⟩) rfl _ rfl rfl hB33 ?_)
    | (go_at_call 46; refine (acheck_any a _).mono ?_; rintro e w4 ⟨rfl, hb4⟩; rw [Hch.out]; have hB44 := hB4.bel hb4; have hb04 := bel_tr hb03 hb4)
    | (with_reducible refine wpList_buildL (o := ⟨some 13, _, _, _, _, _⟩) rfl 46 _ rfl built_rt0 rfl ?_)
    | ((with_reducible refine wpList_store_rt (o := ⟨none, _, _, _, _, _⟩) rfl (.tmp 4) _ rfl rfl rfl hB44 ?_); intro wc hB4c hSc))
  exact ret_rtE Tryz.results27 rfl rfl hB4c rfl ⟨by rw [Hof.out]; rfl, hb04.trans (hSc.below hw4)⟩
set_option maxRecDepth 100000 in
set_option maxHeartbeats 4000000 in
theorem way_zone (vi vr vp : Value) (a : Ad) (w : World) (R : List Rt) (hc : chkA a = 0) (hz : a.fam = 6 ∧ 0 < a.zone) :
    Calls Tryz.prog 27 #[.agg #[vi, vr, vp], .agg (adA a)] w (WayPost w (wayP a R)) := by
  have Hof : Hid (wayP a R = (zoneR a, true)) := Lib.hid (by unfold wayP; rw [if_neg (by simpa using hc), if_pos hz])
  have Hc := Lib.hid hc
  have i6 : (a.fam == 6) = true := by simpa using hz.1
  have iz : decide (0 < a.zone) = true := decide_eq_true hz.2
  have H1 := Lib.hid (built_pf a (bitsA a) (bits_ok a))
  have H2 := Lib.hid (built_zr ⟨a, bitsA a, bits_ok a⟩ a.zone a.ok.2.2)
  have HP : Hid ((⟨⟨a, bitsA a, bits_ok a⟩, a.zone, false, a.ok.2.2⟩ : Rt) = zoneR a) := Lib.hid rfl
  generalize hF : (⟨a, bitsA a, bits_ok a⟩ : Pf) = F at *
  rw [HP.out] at H2
  clear HP hF
  have HBt : Hid (∀ w, Calls Tryz.prog 47 #[.agg (adA a)] w fun e w' => e = .returned (.int .i64 (bitsA a)) ∧ Below w.heap.size w w') := Lib.hid (abits_any a)
  generalize bitsA a = bi at *
  generalize zoneR a = Z at *
  clear hc hz
  go_enter Tryz.func27, Tryz.ntmps27
  go_wp2_with (first
    | ((with_reducible refine wpList_boxB (o := ⟨some 2, _, _, _, _, _⟩) rfl _ _ rfl rfl ?_); intro g2 w1 hg hB2 hb1 hs; have hg2 : w.heap.size ≤ g2 := Nat.le_of_eq hg.symm; clear hg hs)
    | ((with_reducible refine wpList_boxB (o := ⟨some 3, _, _, _, _, _⟩) rfl _ _ rfl rfl ?_); intro g3 w2 hg hB3 hb2 hs; have hg3 : w1.heap.size ≤ g3 := Nat.le_of_eq hg.symm; have hb02 := bel_tr hb1 hb2; clear hg hs)
    | ((with_reducible refine wpList_alloc_rt (o := ⟨some 4, _, _, _, _, _⟩) rfl rfl ?_); intro g4 w3 hg hB4 hb3 hs; have hg4 : w2.heap.size ≤ g4 := Nat.le_of_eq hg.symm; have hB33 := hB3.bel hb3; have hb03 := bel_tr hb02 hb3; have hw4 : w.heap.size ≤ g4 := Nat.le_trans hb02.size hg4; clear hg hs)
    | (with_reducible refine wpList_loadAd (o := ⟨some 10, _, _, _, _, _⟩) rfl _ rfl rfl hB33 ?_)
    | (go_at_call 46; refine (acheck_any a _).mono ?_; rintro e w4 ⟨rfl, hb4⟩; rw [Hc.out]; have hB34 := hB33.bel hb4; have hB44 := hB4.bel hb4; have hb04 := bel_tr hb03 hb4
       have c0 := hB34.cell 0; rw [adA_0] at c0
       have c17 := hB34.cell 17; rw [adA_17] at c17))
  have hR := hB34.rangeAd
  have x17 := fun x : BelT w4 => x.cell c17
  refine wp_region_bel_tail 7 (by kernel_rfl) (by kernel_rfl) ?_
  simp only [List.take_succ_cons, List.take_zero, List.drop_succ_cons, List.drop_zero]
  repeat (first
    | go_big_quiet_skip
    | (go_big_quiet_want; first
        | (refine quiet_loadAd _ rfl rfl hR (by simp only [Act.put, List.setIfInBounds_toArray, List.set_cons_succ, List.set_cons_zero]; exact rfl) ?_; go_big_quiet_on)
        | (refine quiet_bld (o := ⟨some 25, _, _, _, _, _⟩) 44 _ rfl H1.out rfl (by simp only [Act.put, List.setIfInBounds_toArray, List.set_cons_succ, List.set_cons_zero]; exact rfl) ?_; go_big_quiet_on)
        | (refine quiet_bld (o := ⟨some 28, _, _, _, _, _⟩) 46 _ rfl H2.out rfl (by simp only [Act.put, List.setIfInBounds_toArray, List.set_cons_succ, List.set_cons_zero]; exact rfl) ?_; go_big_quiet_on)
        | (go_big_quiet_op; first | go_big_quiet_on | go_big_quiet_call ((go_at_call 47; refine bel_call (HBt.out _))))))
  refine wpQuiet_nil ?_
  rintro _ ⟨x, rfl⟩
  have hB4x := hB44.bel x.bel
  have hbx := bel_tr hb04 x.bel
  clear x17 hR hB44 hB34
  go_wp2_with (first
    | ((with_reducible refine wpList_store_rt (o := ⟨none, _, _, _, _, _⟩) rfl (.tmp 4) _ rfl rfl rfl hB4x ?_); intro wc hB4c hSc))
  exact ret_rtE Tryz.results27 rfl rfl hB4c rfl ⟨by rw [Hof.out]; rfl, hbx.trans (hSc.below hw4)⟩
theorem way_any (vi vr vp : Value) (N : Nt) (a : Ad) (w : World) (hN : NetRaw w vi vr vp N) (hl : N.R.length ≤ 1000000) : Calls Tryz.prog 27 #[.agg #[vi, vr, vp], .agg (adA a)] w (WayPost w (wayP a (rtN N.R))) := by
  by_cases hc : chkA a = 0
  · by_cases hz : a.fam = 6 ∧ 0 < a.zone
    · exact way_zone vi vr vp a w _ hc hz
    · exact way_loop vi vr vp N a w hN hl hc hz
  · exact way_none vi vr vp a w _ hc
end Go.Proofs.YthlnndjkocnfcaaGreatDoor

/- source: what counts of the address that one speaks to, and of an own one (printed by mk_sre.py). -/
namespace Go.Proofs.YthlnndjkocnfcaaGreatDoor
open Go.RowKit
attribute [local go_sem] ba_get ext_take ext_drop ext_any ba_app

structure Aim where
  ad : Ad
  sco : Int
  lab : Int
  idx : Int
  way : Bool
  ok : (-9223372036854775808 ≤ sco ∧ sco ≤ 9223372036854775807) ∧ (-9223372036854775808 ≤ lab ∧ lab ≤ 9223372036854775807) ∧ (-9223372036854775808 ≤ idx ∧ idx ≤ 9223372036854775807)
theorem Aim.same_iff {a b : Aim} : (a.ad = b.ad ∧ a.sco = b.sco ∧ a.lab = b.lab ∧ a.idx = b.idx ∧ a.way = b.way) ↔ a = b := ⟨fun ⟨h0, h1, h2, h3, h4⟩ => by cases a; cases b; simp only at h0 h1 h2 h3 h4; subst h0 h1 h2 h3 h4; rfl, fun h => by rw [h]; exact ⟨rfl, rfl, rfl, rfl, rfl⟩⟩
instance : DecidableEq Aim := fun _ _ => decidable_of_iff _ Aim.same_iff
def aimL (x : Aim) : List Value := adL x.ad ++ [.int .i64 x.sco, .int .i64 x.lab, .int .i64 x.idx, .bool x.way]
def aimA (x : Aim) : Array Value := (aimL x).toArray
theorem aimL_len (x : Aim) : (aimL x).length = 22 := by unfold aimL; rw [List.length_append, adL_len]; rfl
theorem aimA_size (x : Aim) : (aimA x).size = 22 := by unfold aimA; rw [List.size_toArray, aimL_len]
theorem aimL_hd (x : Aim) {i : Nat} (h : i < 18) : (aimL x)[i]? = (adL x.ad)[i]? := by unfold aimL; rw [List.getElem?_append_left (by rw [adL_len]; exact h)]
theorem aimA_17 (x : Aim) : (aimA x)[17]? = some (.int .i64 x.ad.zone) := by unfold aimA; rw [List.getElem?_toArray, aimL_hd x (by omega)]; exact adL_17 x.ad
theorem aimA_18 (x : Aim) : (aimA x)[18]? = some (.int .i64 x.sco) := by unfold aimA aimL; rw [List.getElem?_toArray, List.getElem?_append_right (by rw [adL_len]; omega), adL_len]; rfl
theorem aimA_19 (x : Aim) : (aimA x)[19]? = some (.int .i64 x.lab) := by unfold aimA aimL; rw [List.getElem?_toArray, List.getElem?_append_right (by rw [adL_len]; omega), adL_len]; rfl
theorem aimA_20 (x : Aim) : (aimA x)[20]? = some (.int .i64 x.idx) := by unfold aimA aimL; rw [List.getElem?_toArray, List.getElem?_append_right (by rw [adL_len]; omega), adL_len]; rfl
theorem aimA_21 (x : Aim) : (aimA x)[21]? = some (.bool x.way) := by unfold aimA aimL; rw [List.getElem?_toArray, List.getElem?_append_right (by rw [adL_len]; omega), adL_len]; rfl
theorem aimL_one (x : Aim) : ∀ v ∈ aimL x, v.oneCell' = true := by
  intro v hv
  unfold aimL at hv
  rw [List.mem_append] at hv
  rcases hv with hv | hv
  · exact adL_one x.ad v hv
  · simp at hv; rcases hv with rfl | rfl | rfl | rfl <;> rfl
theorem aimA_one (x : Aim) : (aimA x).all (·.oneCell') = true := all_oneCell_toArray (aimL_one x)
theorem Bk.rangehd_aim {w : World} {g : Nat} {t : TypeId} {x : Aim} (h : Bk w g t (aimA x)) : w.rangeAt g 0 (adL x.ad) := h.rangeL (cs := aimL x) 0 (adL x.ad) [.int .i64 x.sco, .int .i64 x.lab, .int .i64 x.idx, .bool x.way] rfl
theorem aim_under : Tryz.prog.underlying 77 = some (.struct (Tryz.prog.fieldsOf 77)) := by kernel_rfl
theorem aim_size : (Tryz.prog.info? 77).map (·.size) = some 22 := by kernel_rfl
theorem aim_size' (x : Aim) : (Tryz.prog.info? 77).map (·.size) = some (aimA x).size := by rw [aimA_size]; exact aim_size
def aim0 : Aim := ⟨ad0, 0, 0, 0, false, by decide⟩
theorem aim_zero : ZeroIs Tryz.prog 77 (aimA aim0) := by unfold ZeroIs; kernel_rfl
theorem wpList_alloc_aim {w : World} {ops : Array Oper} {rest : List Oper} {o : Oper} {a : Act} {Q : Exit → Act → World → Prop} (hgd : o.guard = none) (ho : o.op = .alloc 77)
    (h : ∀ g w', g = w.heap.size → Bk w' g 77 (aimA aim0) → Below w.heap.size w w' → w'.heap.size = g + 1 → wpList Tryz.prog ops Q rest (a.put o.dst (.pointer (some ⟨g, 0, none⟩))) w') : wpList Tryz.prog ops Q (o :: rest) a w :=
  wpList_allocZ hgd _ ho aim_zero h
theorem wpList_load_aim {w : World} {ops : Array Oper} {rest : List Oper} {o : Oper} {a : Act} {Q : Exit → Act → World → Prop} (hgd : o.guard = none) (x : Operand) (ho : o.op = .load 77 x) {g : Nat} (hx : a.eval x = .pointer (some ⟨g, 0, none⟩))
    {t : TypeId} {b : Aim} (hB : Bk w g t (aimA b)) (h : wpList Tryz.prog ops Q rest (a.put o.dst (.agg (aimA b))) w) : wpList Tryz.prog ops Q (o :: rest) a w :=
  wpList_loadB hgd _ x ho hx hB aim_under rfl (aim_size' b) h
theorem wpList_store_aim {w : World} {ops : Array Oper} {rest : List Oper} {o : Oper} {a : Act} {Q : Exit → Act → World → Prop} (hgd : o.guard = none) (x y : Operand) (ho : o.op = .store 77 x y) {g : Nat} {b c : Aim} (hx : a.eval x = .pointer (some ⟨g, 0, none⟩)) (hy : a.eval y = .agg (aimA b))
    {t : TypeId} (hB : Bk w g t (aimA c)) (h : ∀ w', Bk w' g t (aimA b) → Stays g w w' → wpList Tryz.prog ops Q rest (a.put o.dst undef) w') : wpList Tryz.prog ops Q (o :: rest) a w :=
  wpList_storeB hgd _ x y ho hx hy hB (aim_size' b) (by rw [aimA_size, aimA_size]) (aimA_one b) h
theorem ret_aim {fn : Func} {p : Tmp} (h : fn.results = #[.cell p 77]) {R : Ending → World → Prop} {a : Act} {w : World} {g : Nat} {t : TypeId} {b : Aim}
    (hp : a.tmps.getD p undef = .pointer (some ⟨g, 0, none⟩)) (hB : Bk w g t (aimA b)) (hd : a.defers = []) (hR : R (.returned (.agg (aimA b))) w) : bodyPost Tryz.prog fn R .ret a w :=
  bodyPost_ret_by (results_cell_row h a.tmps w g t (aimA b) (0, 0) _ hp hB aim_under rfl (aim_size' b)) hd hR
theorem built_aim (y : Ad) (sco : Int) (lab : Int) (idx : Int) (way : Bool) (h : (-9223372036854775808 ≤ sco ∧ sco ≤ 9223372036854775807) ∧ (-9223372036854775808 ≤ lab ∧ lab ≤ 9223372036854775807) ∧ (-9223372036854775808 ≤ idx ∧ idx ≤ 9223372036854775807)) : Tryz.prog.built 77 [(0, .agg (adA y)), (1, .int .i64 sco), (2, .int .i64 lab), (3, .int .i64 idx), (4, .bool way)] = some (aimA ⟨y, sco, lab, idx, way, h⟩) := by
  obtain ⟨fam, ip, zone, ok⟩ := y
  obtain ⟨c0, c1, c2, c3, c4, c5, c6, c7, c8, c9, c10, c11, c12, c13, c14, c15, rfl⟩ := len16 ok.1
  kernel_rfl
structure Wor where
  same : Bool
  sco : Int
  cur : Bool
  hom : Bool
  nea : Bool
  lab : Bool
  tem : Bool
  com : Int
  ok : (-9223372036854775808 ≤ sco ∧ sco ≤ 9223372036854775807) ∧ (-9223372036854775808 ≤ com ∧ com ≤ 9223372036854775807)
theorem Wor.same_iff {a b : Wor} : (a.same = b.same ∧ a.sco = b.sco ∧ a.cur = b.cur ∧ a.hom = b.hom ∧ a.nea = b.nea ∧ a.lab = b.lab ∧ a.tem = b.tem ∧ a.com = b.com) ↔ a = b := ⟨fun ⟨h0, h1, h2, h3, h4, h5, h6, h7⟩ => by cases a; cases b; simp only at h0 h1 h2 h3 h4 h5 h6 h7; subst h0 h1 h2 h3 h4 h5 h6 h7; rfl, fun h => by rw [h]; exact ⟨rfl, rfl, rfl, rfl, rfl, rfl, rfl, rfl⟩⟩
instance : DecidableEq Wor := fun _ _ => decidable_of_iff _ Wor.same_iff
def worL (x : Wor) : List Value := [.bool x.same, .int .i64 x.sco, .bool x.cur, .bool x.hom, .bool x.nea, .bool x.lab, .bool x.tem, .int .i64 x.com]
def worA (x : Wor) : Array Value := (worL x).toArray
theorem worL_len (x : Wor) : (worL x).length = 8 := rfl
theorem worA_size (x : Wor) : (worA x).size = 8 := by unfold worA; rw [List.size_toArray, worL_len]
theorem worA_0 (x : Wor) : (worA x)[0]? = some (.bool x.same) := by rfl
theorem worA_1 (x : Wor) : (worA x)[1]? = some (.int .i64 x.sco) := by rfl
theorem worA_2 (x : Wor) : (worA x)[2]? = some (.bool x.cur) := by rfl
theorem worA_3 (x : Wor) : (worA x)[3]? = some (.bool x.hom) := by rfl
theorem worA_4 (x : Wor) : (worA x)[4]? = some (.bool x.nea) := by rfl
theorem worA_5 (x : Wor) : (worA x)[5]? = some (.bool x.lab) := by rfl
theorem worA_6 (x : Wor) : (worA x)[6]? = some (.bool x.tem) := by rfl
theorem worA_7 (x : Wor) : (worA x)[7]? = some (.int .i64 x.com) := by rfl
theorem worL_one (x : Wor) : ∀ v ∈ worL x, v.oneCell' = true := by
  intro v hv
  unfold worL at hv
  simp at hv
  rcases hv with rfl | rfl | rfl | rfl | rfl | rfl | rfl | rfl <;> rfl
theorem worA_one (x : Wor) : (worA x).all (·.oneCell') = true := all_oneCell_toArray (worL_one x)
theorem Bk.range_wor {w : World} {g : Nat} {t : TypeId} {x : Wor} (h : Bk w g t (worA x)) : w.rangeAt g 0 (worL x) := h.rangeL (cs := worL x) 0 (worL x) [] (by simp)
theorem wor_under : Tryz.prog.underlying 80 = some (.struct (Tryz.prog.fieldsOf 80)) := by kernel_rfl
theorem wor_size : (Tryz.prog.info? 80).map (·.size) = some 8 := by kernel_rfl
theorem wor_size' (x : Wor) : (Tryz.prog.info? 80).map (·.size) = some (worA x).size := by rw [worA_size]; exact wor_size
def wor0 : Wor := ⟨false, 0, false, false, false, false, false, 0, by decide⟩
theorem wor_zero : ZeroIs Tryz.prog 80 (worA wor0) := by unfold ZeroIs; kernel_rfl
theorem wpList_alloc_wor {w : World} {ops : Array Oper} {rest : List Oper} {o : Oper} {a : Act} {Q : Exit → Act → World → Prop} (hgd : o.guard = none) (ho : o.op = .alloc 80)
    (h : ∀ g w', g = w.heap.size → Bk w' g 80 (worA wor0) → Below w.heap.size w w' → w'.heap.size = g + 1 → wpList Tryz.prog ops Q rest (a.put o.dst (.pointer (some ⟨g, 0, none⟩))) w') : wpList Tryz.prog ops Q (o :: rest) a w :=
  wpList_allocZ hgd _ ho wor_zero h
theorem wpList_load_wor {w : World} {ops : Array Oper} {rest : List Oper} {o : Oper} {a : Act} {Q : Exit → Act → World → Prop} (hgd : o.guard = none) (x : Operand) (ho : o.op = .load 80 x) {g : Nat} (hx : a.eval x = .pointer (some ⟨g, 0, none⟩))
    {t : TypeId} {b : Wor} (hB : Bk w g t (worA b)) (h : wpList Tryz.prog ops Q rest (a.put o.dst (.agg (worA b))) w) : wpList Tryz.prog ops Q (o :: rest) a w :=
  wpList_loadB hgd _ x ho hx hB wor_under rfl (wor_size' b) h
theorem wpList_store_wor {w : World} {ops : Array Oper} {rest : List Oper} {o : Oper} {a : Act} {Q : Exit → Act → World → Prop} (hgd : o.guard = none) (x y : Operand) (ho : o.op = .store 80 x y) {g : Nat} {b c : Wor} (hx : a.eval x = .pointer (some ⟨g, 0, none⟩)) (hy : a.eval y = .agg (worA b))
    {t : TypeId} (hB : Bk w g t (worA c)) (h : ∀ w', Bk w' g t (worA b) → Stays g w w' → wpList Tryz.prog ops Q rest (a.put o.dst undef) w') : wpList Tryz.prog ops Q (o :: rest) a w :=
  wpList_storeB hgd _ x y ho hx hy hB (wor_size' b) (by rw [worA_size, worA_size]) (worA_one b) h
theorem ret_wor {fn : Func} {p : Tmp} (h : fn.results = #[.cell p 80]) {R : Ending → World → Prop} {a : Act} {w : World} {g : Nat} {t : TypeId} {b : Wor}
    (hp : a.tmps.getD p undef = .pointer (some ⟨g, 0, none⟩)) (hB : Bk w g t (worA b)) (hd : a.defers = []) (hR : R (.returned (.agg (worA b))) w) : bodyPost Tryz.prog fn R .ret a w :=
  bodyPost_ret_by (results_cell_row h a.tmps w g t (worA b) (0, 0) _ hp hB wor_under rfl (wor_size' b)) hd hR
theorem built_wor (same : Bool) (sco : Int) (cur : Bool) (hom : Bool) (nea : Bool) (lab : Bool) (tem : Bool) (com : Int) (h : (-9223372036854775808 ≤ sco ∧ sco ≤ 9223372036854775807) ∧ (-9223372036854775808 ≤ com ∧ com ≤ 9223372036854775807)) : Tryz.prog.built 80 [(0, .bool same), (1, .int .i64 sco), (2, .bool cur), (3, .bool hom), (4, .bool nea), (5, .bool lab), (6, .bool tem), (7, .int .i64 com)] = some (worA ⟨same, sco, cur, hom, nea, lab, tem, com, h⟩) := by
  kernel_rfl

theorem polN_len (P : List Pol) : (polN P).length ≤ 1000000 := by
  unfold polN leftF
  split
  · show plainP.length ≤ 1000000
    decide
  · rw [List.length_take]; omega
theorem polof_any (vi vr vp : Value) (N : Nt) (a : Ad) (w : World) (hN : NetRaw w vi vr vp N) (ht : Tab w) (hm : MaxI w) (hl : N.P.length ≤ 1000000) : Calls Tryz.prog 26 #[.agg #[vi, vr, vp], .agg (adA a)] w (PolPost w (ofP a (polN N.P))) :=
  pof_any #[vi, vr, vp] rfl (polN N.P) a w (polN_len _) (fun w' hb => prows_any vi vr vp N w' (hN.below hb) (ht.below hb) (hm.below hb) hl)
theorem sc4_ok (a : Ad) : 0 ≤ sc4 a ∧ sc4 a ≤ 14 := by
  unfold sc4
  repeat' split
  all_goals omega
theorem scoA_ok (a : Ad) : 0 ≤ scoA a ∧ scoA a ≤ 15 := by
  have h1 := sc4_ok a
  have h2 := sc4_ok (ad12 a)
  unfold scoA sc6 sc6r
  repeat' split
  all_goals omega
def z0A (a : Ad) : Ad := a.setZ 0 (by decide)
/-- what counts of the address that one speaks to. -/
def aimN (N : Nt) (d : Ad) : Aim := ⟨z0A d, scoA d, (ofP d (polN N.P)).lab, (wayP d (rtN N.R)).1.idx, (wayP d (rtN N.R)).2, by have := scoA_ok d; omega, (ofP d (polN N.P)).ok.2, (wayP d (rtN N.R)).1.ok⟩
theorem comA_ok (a b : Ad) : (comA a b : Int) ≤ 128 := by
  have := comA_le a b
  have h : mostA a ≤ 128 := by unfold mostA; split <;> (try split) <;> omega
  omega
/-- what counts of an own address. -/
def worN (N : Nt) (t : Aim) (f : Ifc) : Wor := ⟨decide (z0A f.ad = t.ad), scoA f.ad, !f.dep, f.hom, t.way && (f.idx == t.idx), (ofP f.ad (polN N.P)).lab == t.lab, f.tem, min (comA f.ad t.ad : Int) f.bits, by have := scoA_ok f.ad; omega, by have := comA_ok f.ad t.ad; have := f.ok.2; omega⟩
def telL (t : Aim) (a b : Wor) : List Int := [ordB a.same b.same, scoI a.sco b.sco t.sco, ordB a.cur b.cur, ordB a.hom b.hom, ordB a.nea b.nea, ordB a.lab b.lab, ordB a.tem b.tem, cmpI a.com b.com]
theorem telL_thr (t : Aim) (a b c : Wor) : Thr (fst1 (telL t a b)) (fst1 (telL t b c)) (fst1 (telL t a c)) := by
  refine thr_fst _ _ _ rfl rfl fun i => ?_
  match i with
  | 0 => exact thr_b _ _ _
  | 1 => exact thr_s _ _ _ _
  | 2 => exact thr_b _ _ _
  | 3 => exact thr_b _ _ _
  | 4 => exact thr_b _ _ _
  | 5 => exact thr_b _ _ _
  | 6 => exact thr_b _ _ _
  | 7 => exact thr_i _ _ _
  | n + 8 => simp [telL, Thr]
set_option maxRecDepth 100000 in
theorem sorder_any (a b : Bool) (w : World) : Calls Tryz.prog 70 #[.bool a, .bool b] w (InPost w (ordB a b)) := by
  cases a <;> cases b
  all_goals
    go_enter Tryz.func70, Tryz.ntmps70
    go_wp2
    go_ret
    exact ⟨rfl, Below.refl _ _⟩
theorem cmp_any (a b : Int) (w : World) : Calls Tryz.prog 25 #[.int .i64 a, .int .i64 b] w (InPost w (cmpI a b)) :=
  (Tryz.cmp_Compare_int a b w).mono fun e w' ⟨he, hw⟩ => ⟨he, by rw [hw]; exact Below.refl _ _⟩
set_option maxRecDepth 100000 in
theorem scopes_any (a b t : Int) (w : World) : Calls Tryz.prog 71 #[.int .i64 a, .int .i64 b, .int .i64 t] w (InPost w (scoI a b t)) := by
  by_cases h1 : a < t
  · have Hr : Hid (scoI a b t = cmpI a b) := Lib.hid (by unfold scoI; rw [if_pos (.inl h1)])
    have i1 : decide (a < t) = true := decide_eq_true h1
    clear h1
    go_enter Tryz.func71, Tryz.ntmps71
    go_wp2_with (go_at_call 25; refine (cmp_any a b _).mono ?_; rintro e w1 ⟨rfl, hb1⟩)
    go_ret
    exact ⟨by rw [Hr.out]; rfl, hb1⟩
  · have i1 : decide (a < t) = false := decide_eq_false h1
    by_cases h2 : b < t
    · have Hr : Hid (scoI a b t = cmpI a b) := Lib.hid (by unfold scoI; rw [if_pos (.inr h2)])
      have i2 : decide (b < t) = true := decide_eq_true h2
      clear h1 h2
      go_enter Tryz.func71, Tryz.ntmps71
      go_wp2_with (go_at_call 25; refine (cmp_any a b _).mono ?_; rintro e w1 ⟨rfl, hb1⟩)
      go_ret
      exact ⟨by rw [Hr.out]; rfl, hb1⟩
    · have Hr : Hid (scoI a b t = cmpI b a) := Lib.hid (by unfold scoI; rw [if_neg (by omega)])
      have i2 : decide (b < t) = false := decide_eq_false h2
      clear h1 h2
      go_enter Tryz.func71, Tryz.ntmps71
      go_wp2_with (go_at_call 25; refine (cmp_any b a _).mono ?_; rintro e w1 ⟨rfl, hb1⟩)
      go_ret
      exact ⟨by rw [Hr.out]; rfl, hb1⟩

end Go.Proofs.YthlnndjkocnfcaaGreatDoor
