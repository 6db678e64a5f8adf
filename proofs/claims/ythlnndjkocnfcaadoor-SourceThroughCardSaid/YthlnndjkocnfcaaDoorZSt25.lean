/- Contracts and plain lemmas of our own, merged. -/
import Derived.Test.YthlnndjkocnfcaaDoorZSt1
import Derived.Test.YthlnndjkocnfcaaDoorZSt12
import Derived.Test.YthlnndjkocnfcaaDoorZSt13
import Derived.Test.YthlnndjkocnfcaaDoorZSt21
import Derived.Test.YthlnndjkocnfcaaDoorZSt23
import Derived.Test.YthlnndjkocnfcaaDoorZSt24
/- Policies: the rows of the policy table as values of twenty-one cells, with their laws. -/
namespace Go.Proofs.YthlnndjkocnfcaaDoor
open Go.RowKit

theorem Pf.same_iff {a b : Pf} : (a.ad = b.ad ∧ a.bits = b.bits) ↔ a = b := ⟨fun ⟨h1, h2⟩ => by cases a; cases b; simp only at h1 h2; subst h1 h2; rfl, fun h => by rw [h]; exact ⟨rfl, rfl⟩⟩
instance : DecidableEq Pf := fun _ _ => decidable_of_iff _ Pf.same_iff
structure Pol where
  pf : Pf
  prec : Int
  lab : Int
  ok : (-9223372036854775808 ≤ prec ∧ prec ≤ 9223372036854775807) ∧ (-9223372036854775808 ≤ lab ∧ lab ≤ 9223372036854775807)
theorem Pol.same_iff {a b : Pol} : (a.pf = b.pf ∧ a.prec = b.prec ∧ a.lab = b.lab) ↔ a = b := ⟨fun ⟨h1, h2, h3⟩ => by cases a; cases b; simp only at h1 h2 h3; subst h1 h2 h3; rfl, fun h => by rw [h]; exact ⟨rfl, rfl, rfl⟩⟩
instance : DecidableEq Pol := fun _ _ => decidable_of_iff _ Pol.same_iff
def polL (p : Pol) : List Value := pfL p.pf ++ [.int .i64 p.prec, .int .i64 p.lab]
def polA (p : Pol) : Array Value := (polL p).toArray
theorem polL_len (p : Pol) : (polL p).length = 21 := by unfold polL; rw [List.length_append, pfL_len]; rfl
theorem polA_size (p : Pol) : (polA p).size = 21 := by unfold polA; rw [List.size_toArray, polL_len]
theorem polL_pf (p : Pol) {i : Nat} (h : i < 19) : (polL p)[i]? = (pfL p.pf)[i]? := by unfold polL; rw [List.getElem?_append_left (by rw [pfL_len]; exact h)]
theorem polL_0 (p : Pol) : (polL p)[0]? = some (.int .i64 p.pf.ad.fam) := rfl
theorem polL_18 (p : Pol) : (polL p)[18]? = some (.int .i64 p.pf.bits) := by rw [polL_pf p (by omega)]; unfold pfL; rw [List.getElem?_append_right (by rw [adL_len]; omega), adL_len]; rfl
theorem polL_20 (p : Pol) : (polL p)[20]? = some (.int .i64 p.lab) := by unfold polL; rw [List.getElem?_append_right (by rw [pfL_len]; omega), pfL_len]; rfl
theorem polA_0 (p : Pol) : (polA p)[0]? = some (.int .i64 p.pf.ad.fam) := by unfold polA; rw [List.getElem?_toArray]; exact polL_0 p
theorem polA_18 (p : Pol) : (polA p)[18]? = some (.int .i64 p.pf.bits) := by unfold polA; rw [List.getElem?_toArray]; exact polL_18 p
theorem polA_20 (p : Pol) : (polA p)[20]? = some (.int .i64 p.lab) := by unfold polA; rw [List.getElem?_toArray]; exact polL_20 p
theorem polL_one (p : Pol) : ∀ v ∈ polL p, v.oneCell' = true := by
  intro v hv
  unfold polL at hv
  rw [List.mem_append] at hv
  rcases hv with hv | hv
  · exact pfL_one p.pf v hv
  · simp at hv; rcases hv with rfl | rfl <;> rfl
theorem polA_one (p : Pol) : (polA p).all (·.oneCell') = true := all_oneCell_toArray (polL_one p)
theorem Bk.rangePolPf {w : World} {g : Nat} {t : TypeId} {p : Pol} (h : Bk w g t (polA p)) : w.rangeAt g 0 (pfL p.pf) := h.rangeL (cs := polL p) 0 (pfL p.pf) [.int .i64 p.prec, .int .i64 p.lab] rfl
theorem pol_under : Tryd.prog.underlying 57 = some (.struct (Tryd.prog.fieldsOf 57)) := by kernel_rfl
theorem pol_size : (Tryd.prog.info? 57).map (·.size) = some 21 := by kernel_rfl
theorem pol_size' (p : Pol) : (Tryd.prog.info? 57).map (·.size) = some (polA p).size := by rw [polA_size]; exact pol_size
def pf0 : Pf := ⟨ad0, 0, by decide⟩
def pol0 : Pol := ⟨pf0, 0, 0, by decide⟩
theorem pol_zero : ZeroIs Tryd.prog 57 (polA pol0) := by unfold ZeroIs; kernel_rfl
theorem elt_pols : Elt Tryd.prog 24 57 21 56 := Elt.mk' (z := .agg (polA pol0)) Tryd.underlying24 (by kernel_rfl) (by kernel_rfl) (by decide)

/-! ### built -/
theorem built_pf (a : Ad) (z : Int) (h : -9223372036854775808 ≤ z ∧ z ≤ 9223372036854775807) : Tryd.prog.built 40 [(0, .agg (adA a)), (1, .int .i64 z)] = some (pfA ⟨a, z, h⟩) := by
  obtain ⟨fam, ip, zone, ok⟩ := a
  obtain ⟨c0, c1, c2, c3, c4, c5, c6, c7, c8, c9, c10, c11, c12, c13, c14, c15, rfl⟩ := len16 ok.1
  kernel_rfl
theorem built_pol (p : Pf) (x y : Int) (h : (-9223372036854775808 ≤ x ∧ x ≤ 9223372036854775807) ∧ (-9223372036854775808 ≤ y ∧ y ≤ 9223372036854775807)) : Tryd.prog.built 57 [(0, .agg (pfA p)), (1, .int .i64 x), (2, .int .i64 y)] = some (polA ⟨p, x, y, h⟩) := by
  obtain ⟨⟨fam, ip, zone, ok⟩, bits, okb⟩ := p
  obtain ⟨c0, c1, c2, c3, c4, c5, c6, c7, c8, c9, c10, c11, c12, c13, c14, c15, rfl⟩ := len16 ok.1
  kernel_rfl
def polD : Pol := ⟨pf0, 40, 1, by decide⟩
theorem built_polD : Tryd.prog.built 57 [(1, .int .i64 40), (2, .int .i64 1)] = some (polA polD) := by kernel_rfl

/-! ### single operations -/
theorem wpList_allocPol {w : World} {ops : Array Oper} {rest : List Oper} {o : Oper} {a : Act} {Q : Exit → Act → World → Prop} (hgd : o.guard = none) (ho : o.op = .alloc 57)
    (h : ∀ g w', g = w.heap.size → Bk w' g 57 (polA pol0) → Below w.heap.size w w' → w'.heap.size = g + 1 → wpList Tryd.prog ops Q rest (a.put o.dst (.pointer (some ⟨g, 0, none⟩))) w') : wpList Tryd.prog ops Q (o :: rest) a w :=
  wpList_allocZ hgd _ ho pol_zero h
theorem wpList_loadPol {w : World} {ops : Array Oper} {rest : List Oper} {o : Oper} {a : Act} {Q : Exit → Act → World → Prop} (hgd : o.guard = none) (x : Operand) (ho : o.op = .load 57 x) {g : Nat} (hx : a.eval x = .pointer (some ⟨g, 0, none⟩))
    {t : TypeId} {b : Pol} (hB : Bk w g t (polA b)) (h : wpList Tryd.prog ops Q rest (a.put o.dst (.agg (polA b))) w) : wpList Tryd.prog ops Q (o :: rest) a w :=
  wpList_loadB hgd _ x ho hx hB pol_under rfl (pol_size' b) h
theorem wpList_storePol {w : World} {ops : Array Oper} {rest : List Oper} {o : Oper} {a : Act} {Q : Exit → Act → World → Prop} (hgd : o.guard = none) (x y : Operand) (ho : o.op = .store 57 x y) {g : Nat} {b c : Pol} (hx : a.eval x = .pointer (some ⟨g, 0, none⟩)) (hy : a.eval y = .agg (polA b))
    {t : TypeId} (hB : Bk w g t (polA c)) (h : ∀ w', Bk w' g t (polA b) → Stays g w w' → wpList Tryd.prog ops Q rest (a.put o.dst undef) w') : wpList Tryd.prog ops Q (o :: rest) a w :=
  wpList_storeB hgd _ x y ho hx hy hB (pol_size' b) (by rw [polA_size, polA_size]) (polA_one b) h
/-- a policy, a prefix in the midst of a block. -/
theorem wpList_loadPolM {w : World} {ops : Array Oper} {rest : List Oper} {o : Oper} {a : Act} {Q : Exit → Act → World → Prop} (hgd : o.guard = none) (x : Operand) (ho : o.op = .load 57 x) {g off : Nat} (hx : a.eval x = .pointer (some ⟨g, off, none⟩))
    {b : Pol} (hB : w.rangeAt g off (polL b)) (h : wpList Tryd.prog ops Q rest (a.put o.dst (.agg (polA b))) w) : wpList Tryd.prog ops Q (o :: rest) a w :=
  wpList_load_mid hgd _ x ho g off hx (polL b) _ hB pol_under rfl (by rw [polL_len]; exact pol_size) h
theorem wpList_loadPfM {w : World} {ops : Array Oper} {rest : List Oper} {o : Oper} {a : Act} {Q : Exit → Act → World → Prop} (hgd : o.guard = none) (x : Operand) (ho : o.op = .load 40 x) {g off : Nat} (hx : a.eval x = .pointer (some ⟨g, off, none⟩))
    {b : Pf} (hB : w.rangeAt g off (pfL b)) (h : wpList Tryd.prog ops Q rest (a.put o.dst (.agg (pfA b))) w) : wpList Tryd.prog ops Q (o :: rest) a w :=
  wpList_load_mid hgd _ x ho g off hx (pfL b) _ hB pf_under2 rfl (by rw [pfL_len]; exact pf_size2) h

/-! ### equality -/
theorem size_of {t : TypeId} {n : Nat} (h : (Tryd.prog.info? t).map (·.size) = some n) (w : World) : (sizeOf t).run Tryd.prog w = .ok n w := by
  cases hq : Tryd.prog.info? t with
  | none => rw [hq] at h; cases h
  | some i => rw [hq] at h; simp [sizeOf, typeInfo, hq]; simpa using h
/-! ### in a region that draws its order -/
end Go.Proofs.YthlnndjkocnfcaaDoor

/- The plain policy table: policy.row, policy.Plain. -/
namespace Go.Proofs.YthlnndjkocnfcaaDoor
open Go.RowKit
attribute [local go_sem] ba_get ext_take ext_drop ext_any ba_app

theorem ret_pol {fn : Func} {p : Tmp} (h : fn.results = #[.cell p 57]) {R : Ending → World → Prop} {a : Act} {w : World} {g : Nat} {t : TypeId} {b : Pol}
    (hp : a.tmps.getD p undef = .pointer (some ⟨g, 0, none⟩)) (hB : Bk w g t (polA b)) (hd : a.defers = []) (hR : R (.returned (.agg (polA b))) w) : bodyPost Tryd.prog fn R .ret a w :=
  bodyPost_ret_by (results_cell_row h a.tmps w g t (polA b) (0, 0) _ hp hB pol_under rfl (pol_size' b)) hd hR
def mk6 (l : List UInt8) (h : l.length = 16) : Ad := ⟨6, l, 0, h, by decide, by decide⟩
def al1 : Ad := mk6 [0, 0, 0, 0, 0, 0, 0, 0, 0, 0, 0, 0, 0, 0, 0, 1] rfl
def al0 : Ad := mk6 [0, 0, 0, 0, 0, 0, 0, 0, 0, 0, 0, 0, 0, 0, 0, 0] rfl
def alm : Ad := mk6 [0, 0, 0, 0, 0, 0, 0, 0, 0, 0, 255, 255, 0, 0, 0, 0] rfl
def al2 : Ad := mk6 [32, 2, 0, 0, 0, 0, 0, 0, 0, 0, 0, 0, 0, 0, 0, 0] rfl
def alt : Ad := mk6 [32, 1, 0, 0, 0, 0, 0, 0, 0, 0, 0, 0, 0, 0, 0, 0] rfl
def alf : Ad := mk6 [252, 0, 0, 0, 0, 0, 0, 0, 0, 0, 0, 0, 0, 0, 0, 0] rfl
def als : Ad := mk6 [254, 192, 0, 0, 0, 0, 0, 0, 0, 0, 0, 0, 0, 0, 0, 0] rfl
def al3 : Ad := mk6 [63, 254, 0, 0, 0, 0, 0, 0, 0, 0, 0, 0, 0, 0, 0, 0] rfl
theorem cp1 : colP [58, 58, 49] = .inr al1 := by decide +kernel
theorem cp0 : colP [58, 58] = .inr al0 := by decide +kernel
theorem cpm : colP [58, 58, 102, 102, 102, 102, 58, 48, 58, 48] = .inr alm := by decide +kernel
theorem cp2 : colP [50, 48, 48, 50, 58, 58] = .inr al2 := by decide +kernel
theorem cpt : colP [50, 48, 48, 49, 58, 58] = .inr alt := by decide +kernel
theorem cpf : colP [102, 99, 48, 48, 58, 58] = .inr alf := by decide +kernel
theorem cps : colP [102, 101, 99, 48, 58, 58] = .inr als := by decide +kernel
theorem cp3 : colP [51, 102, 102, 101, 58, 58] = .inr al3 := by decide +kernel
def pl0 : Pol := ⟨⟨al1, 128, by decide⟩, 50, 0, by decide⟩
def pl1 : Pol := ⟨⟨al0, 0, by decide⟩, 40, 1, by decide⟩
def pl2 : Pol := ⟨⟨alm, 96, by decide⟩, 35, 4, by decide⟩
def pl3 : Pol := ⟨⟨al2, 16, by decide⟩, 30, 2, by decide⟩
def pl4 : Pol := ⟨⟨alt, 32, by decide⟩, 5, 5, by decide⟩
def pl5 : Pol := ⟨⟨alf, 7, by decide⟩, 3, 13, by decide⟩
def pl6 : Pol := ⟨⟨al0, 96, by decide⟩, 1, 3, by decide⟩
def pl7 : Pol := ⟨⟨als, 10, by decide⟩, 1, 11, by decide⟩
def pl8 : Pol := ⟨⟨al3, 16, by decide⟩, 1, 12, by decide⟩
def plainP : List Pol := [pl0, pl1, pl2, pl3, pl4, pl5, pl6, pl7, pl8]
/-- what is kept from call to call. -/
structure PRowInv (w0 w : World) : Prop where
  t : Tab w
  m : MaxI w
  b : Below w0.heap.size w0 w
def PRowPost (w0 : World) (p : Pol) (e : Ending) (w' : World) : Prop := e = .returned (.agg (polA p)) ∧ PRowInv w0 w'
theorem PRowInv.bel {w0 w w' : World} (h : PRowInv w0 w) (k : Below w.heap.size w w') : PRowInv w0 w' := ⟨h.t.below k, h.m.below k, bel_tr h.b k⟩
set_option maxRecDepth 100000 in
set_option maxHeartbeats 1000000 in
theorem polrow_any {w0 w : World} {s : List UInt8} {x : Ad} {b p l : Int} (hb : -9223372036854775808 ≤ b ∧ b ≤ 9223372036854775807) (hp : (-9223372036854775808 ≤ p ∧ p ≤ 9223372036854775807) ∧ (-9223372036854775808 ≤ l ∧ l ≤ 9223372036854775807)) (hs : s.length ≤ 1000000000) (h : colP s = .inr x) (hi : PRowInv w0 w) :
    Calls Tryd.prog 38 #[.string ⟨s.toArray⟩, .int .i64 b, .int .i64 p, .int .i64 l] w (PRowPost w0 ⟨⟨x, b, hb⟩, p, l, hp⟩) := by
  have Hi := Lib.hid hi
  have H := Lib.hid h
  have H1 := Lib.hid (built_pf x b hb)
  have H2 := Lib.hid (built_pol ⟨x, b, hb⟩ p l hp)
  generalize hP : (⟨⟨x, b, hb⟩, p, l, hp⟩ : Pol) = P at *
  generalize hF : (⟨x, b, hb⟩ : Pf) = F at *
  clear hi h hP hF hb hp
  go_enter Tryd.func38, Tryd.ntmps38
  go_wp2_with (first
    | ((with_reducible refine wpList_allocPol (o := ⟨some 8, _, _, _, _, _⟩) rfl rfl ?_); intro g8 w1 hg hB8 hb1 hs1; have hg8 : w.heap.size ≤ g8 := Nat.le_of_eq hg.symm; clear hg hs1)
    | (go_at_call 39; refine (cparse_yes (Hi.out.t.below hb1) (Hi.out.m.below hb1) (by omega) H.out).mono ?_; rintro e w2 ⟨rfl, hb2⟩; have hb02 := bel_tr hb1 hb2; have hB82 := hB8.bel hb2)
    | ((with_reducible refine wpList_allocAd (o := ⟨some 9, _, _, _, _, _⟩) rfl rfl ?_); intro g9 w3 hg hB9 hb3 hs3; have hg9 : w2.heap.size ≤ g9 := Nat.le_of_eq hg.symm; have hB83 := hB82.bel hb3; clear hg hs3)
    | ((with_reducible refine wpList_storeAd rfl (.tmp 9) _ rfl rfl rfl hB9 ?_); intro w4 hB94 hS4; have hB84 := hB83.stays hS4 (by have := hB82.lt; omega); have hb04 := bel_tr hb02 (hb3.trans (hS4.below hg9)))
    | (with_reducible refine wpList_loadAd (o := ⟨some 16, _, _, _, _, _⟩) rfl _ rfl rfl hB94 ?_)
    | (with_reducible refine wpList_buildL rfl 40 _ rfl H1.out rfl ?_)
    | (with_reducible refine wpList_buildL rfl 57 _ rfl H2.out rfl ?_)
    | ((with_reducible refine wpList_storePol rfl (.tmp 8) _ rfl rfl rfl hB84 ?_); intro w5 hB85 hS5; have hb45 := hS5.below hg8))
  exact ret_pol Tryd.results38 rfl hB85 rfl ⟨rfl, ⟨Hi.out.t.below (hb04.trans hb45), Hi.out.m.below (hb04.trans hb45), bel_tr Hi.out.b (hb04.trans hb45)⟩⟩
def PolsPost (w : World) (L : List Pol) (e : Ending) (w' : World) : Prop := ∃ v, e = .returned v ∧ w'.ownsRow w.heap.size 57 21 v L.length (L.flatMap polL) ∧ Below w.heap.size w w'
theorem pols_cells (L : List Pol) : ((L.map fun p => Value.agg (polA p)).flatMap fun v => v.cells.toList) = L.flatMap polL := by
  induction L with
  | nil => rfl
  | cons x l ih => rw [List.map_cons, List.flatMap_cons, List.flatMap_cons, ih]; rfl
set_option maxRecDepth 100000 in
set_option maxHeartbeats 4000000 in
theorem polplain_any (w : World) (ht : Tab w) (hm : MaxI w) : Calls Tryd.prog 35 #[] w (PolsPost w plainP) := by
  have RI := Lib.hid (show PRowInv w w from ⟨ht, hm, Below.refl _ _⟩)
  clear ht hm
  go_enter Tryd.func35, Tryd.ntmps35
  go_wp2_with (first
    | (go_at_call 38
       first
        | (with_reducible refine (polrow_any (by decide) (by decide) (by decide) cp1 RI.out).mono ?_)
        | (with_reducible refine (polrow_any (by decide) (by decide) (by decide) cp0 RI.out).mono ?_)
        | (with_reducible refine (polrow_any (by decide) (by decide) (by decide) cpm RI.out).mono ?_)
        | (with_reducible refine (polrow_any (by decide) (by decide) (by decide) cp2 RI.out).mono ?_)
        | (with_reducible refine (polrow_any (by decide) (by decide) (by decide) cpt RI.out).mono ?_)
        | (with_reducible refine (polrow_any (by decide) (by decide) (by decide) cpf RI.out).mono ?_)
        | (with_reducible refine (polrow_any (by decide) (by decide) (by decide) cps RI.out).mono ?_)
        | (with_reducible refine (polrow_any (by decide) (by decide) (by decide) cp3 RI.out).mono ?_)
       rintro e w' ⟨rfl, hr⟩
       clear RI
       have RI := Lib.hid hr
       clear hr)
    | (refine wpList_lit rfl _ _ rfl elt_pols (plainP.map fun p => Value.agg (polA p)) rfl (by decide) (by decide) (fun v hv => ?_) rfl ?_
       · obtain ⟨p, _, rfl⟩ := List.mem_map.1 hv; exact polA_size p
       intro w'' hB ho hb hs))
  go_ret
  refine ⟨_, rfl, ?_, bel_tr RI.out.b hb⟩
  rw [pols_cells] at ho
  exact own_base ho RI.out.b.size
end Go.Proofs.YthlnndjkocnfcaaDoor

/- The plain policy table: the reference's Plain (36). -/
namespace Go.Proofs.YthlnndjkocnfcaaDoor
open Go.RowKit
attribute [local go_sem] ba_get ext_take ext_drop ext_any ba_app

theorem yieldsIf_buildL {P : Program} {ops : Array Oper} {S : World → Prop} {o : Oper} {a : Act} (hw : Region.wanted o (yielded ops a.tmps) = true) (t : TypeId) (l : List (Nat × Operand)) (ho : o.op = .build t l.toArray)
    {vals : List (Nat × Value)} {cs : Array Value} (hb : P.built t vals = some cs) (hv : l.map (fun p => (p.1, a.eval p.2)) = vals) : YieldsIf P ops S o (.agg cs) a := by
  subst hv
  refine .inl ⟨hw, fun w _ => ?_⟩
  have hb' : P.built t (l.toArray.map fun (i, x) => (i, a.eval x)).toList = some cs := by rw [← hb]; simp
  unfold execOp
  simp only [ho, Sem.run_bind, run_build w t _ cs hb', Result.andThen_ok]
  rfl
end Go.Proofs.YthlnndjkocnfcaaDoor

/- policy.Rows of the empty net; policy.Of. -/
namespace Go.Proofs.YthlnndjkocnfcaaDoor
open Go.RowKit
attribute [local go_sem] ba_get ext_take ext_drop ext_any ba_app

/-- a row of policies, one by one, in blocks not below lo. -/
def PolRow (w : World) (A : Option Addr) (R : List Pol) (lo : Nat) : Prop := ∀ k (hk : k < R.length), ∃ b off, A = some ⟨b, off, none⟩ ∧ lo ≤ b ∧ b < w.heap.size ∧ w.rangeAt b (off + k * 21) (polL R[k])
theorem PolRow.own {w : World} {B : Nat} {A : Option Addr} {c : Nat} {R : List Pol} (h : w.ownsRow B 57 21 (.slice A R.length c) R.length (R.flatMap polL)) : PolRow w A R B := fun k hk => by
  obtain ⟨b, off, c', hv, hc, hb, hcell⟩ := (Sl.own h).pos (by omega)
  injection hv with e1
  subst e1
  have hlt := h.lt
  have hb0 : off = 0 := by
    obtain ⟨_, h2⟩ := h
    rcases h2 with ⟨h2, _⟩ | ⟨g, cap, cur, h2, _⟩
    · cases h2
    · injection h2 with e
      injection e with e
      injection e
  subst hb0
  exact ⟨b, 0, rfl, (hlt b rfl).1, hb, range_of polL_len hcell hk⟩
theorem PolRow.bel {w w' : World} {A : Option Addr} {R : List Pol} {lo : Nat} (h : PolRow w A R lo) (hb : Below w.heap.size w w') : PolRow w' A R lo := fun k hk => by
  obtain ⟨b, off, h1, h2, h3, h4⟩ := h k hk
  exact ⟨b, off, h1, h2, Nat.lt_of_lt_of_le h3 hb.size, fun j v hv => (bel_cells hb h3 _).trans (h4 j v hv)⟩
theorem PolRow.stays {w w' : World} {A : Option Addr} {R : List Pol} {lo g : Nat} (h : PolRow w A R lo) (hs : Stays g w w') (hg : g < lo) : PolRow w' A R lo := fun k hk => by
  obtain ⟨b, off, h1, h2, h3, h4⟩ := h k hk
  refine ⟨b, off, h1, h2, by rw [hs.size]; exact h3, fun j v hv => ?_⟩
  rw [← h4 j v hv]
  have := hs.block b (by omega)
  unfold World.cell?
  rw [this]
theorem net_under : Tryd.prog.underlying 26 = some (.struct (Tryd.prog.fieldsOf 26)) := by kernel_rfl
theorem net_size : (Tryd.prog.info? 26).map (·.size) = some 3 := by kernel_rfl
def fW (a : Ad) (p : Pol) : Bool := withB a p.pf
def gW (p : Pol) : Int := p.pf.bits
def zerA (a : Ad) : Ad := (mpA a).setZ 0 (by decide)
/-- the policy of an address. -/
def ofP (a : Ad) (R : List Pol) : Pol := (bst (fW (zerA a)) gW R).getD polD
theorem bst_take {a : Ad} {R : List Pol} {k : Nat} (hk : k < R.length) : bst (fW a) gW (R.take (k + 1)) = bstp (fW a) gW (bst (fW a) gW (R.take k)) R[k] := by
  rw [List.take_add_one, List.getElem?_eq_getElem hk]
  exact bst_snoc _ _ _ _
structure OfRel (w : World) (g3 g4 g5 : Nat) (A : Ad) (An : Option Addr) (R : List Pol) (lo : Nat) (o : Option Pol) (wr : World) : Prop where
  b3 : Bk wr g3 29 (adA A)
  b4 : Bk wr g4 57 (polA pol0)
  b5 : Bk wr g5 57 (polA (o.getD polD))
  r : PolRow wr An R lo
  b : Below w.heap.size w wr
def PolPost (w : World) (p : Pol) (e : Ending) (w' : World) : Prop := e = .returned (.agg (polA p)) ∧ Below w.heap.size w w'
set_option maxRecDepth 100000 in
set_option maxHeartbeats 40000000 in
theorem pof_any (cs : Array Value) (hcs : cs.size = 3) (R : List Pol) (a : Ad) (w : World) (hRl : R.length ≤ 1000000) (hRows : ∀ w', Below w.heap.size w w' → Calls Tryd.prog 27 #[.agg cs] w' (PolsPost w' R)) :
    Calls Tryd.prog 15 #[.agg cs, .agg (adA a)] w (PolPost w (ofP a R)) := by
  have HRows := Lib.hid hRows
  have Hns := Lib.hid (show (Tryd.prog.info? 26).map (·.size) = some cs.size by rw [hcs]; exact net_size)
  have Hof : Hid (ofP a R = (bst (fW (zerA a)) gW R).getD polD) := Lib.hid rfl
  have HzerA : Hid (zerA a = (mpA a).setZ 0 (by decide)) := Lib.hid rfl
  clear hRows hcs
  go_enter Tryd.func15, Tryd.ntmps15
  go_wp2_with (first
    | ((with_reducible refine wpList_boxB (o := ⟨some 2, _, _, _, _, _⟩) rfl _ _ rfl rfl ?_); intro g2 w1 hg hB2 hb1 hs; have hg2 : w.heap.size ≤ g2 := Nat.le_of_eq hg.symm; clear hg hs)
    | ((with_reducible refine wpList_boxB (o := ⟨some 3, _, _, _, _, _⟩) rfl _ _ rfl rfl ?_); intro g3 w2 hg hB3 hb2 hs; have hg3 : w1.heap.size ≤ g3 := Nat.le_of_eq hg.symm; have hB22 := hB2.bel hb2; have hb02 := bel_tr hb1 hb2; clear hg hs)
    | ((with_reducible refine wpList_allocPol (o := ⟨some 4, _, _, _, _, _⟩) rfl rfl ?_); intro g4 w3 hg hB4 hb3 hs; have hg4 : w2.heap.size ≤ g4 := Nat.le_of_eq hg.symm; have hB23 := hB22.bel hb3; have hB33 := hB3.bel hb3; have hb03 := bel_tr hb02 hb3; clear hg hs)
    | (with_reducible refine wpList_loadAd (o := ⟨some 9, _, _, _, _, _⟩) rfl _ rfl rfl hB33 ?_)
    | (go_at_call 26; refine (amap_all a _).mono ?_; rintro e w4 ⟨rfl, hb4⟩; have hB24 := hB23.bel hb4; have hB34 := hB33.bel hb4; have hB44 := hB4.bel hb4; have hb04 := bel_tr hb03 hb4)
    | ((with_reducible refine wpList_storeAd rfl (.tmp 3) _ rfl rfl rfl hB34 ?_); intro w5 hB35 hS5
       have hB25 := hB24.stays hS5 (by have := hB2.lt; omega)
       have hB45 := hB44.stays hS5 (by have := hB3.lt; omega)
       have hb05 : Below w.heap.size w w5 := hb04.trans (hS5.below (by have := hb1.size; omega))
       have c17 := hB35.cell 17
       rw [adA_17] at c17
       have f17 := hB35.free 17
       refine hold ?_))
  refine Lib.hid ?_
  have hne : g2 < g3 ∧ g3 < g4 ∧ w.heap.size ≤ g3 ∧ g4 < w5.heap.size := ⟨by have := hB2.lt; omega, by have := hB3.lt; omega, by have := hb1.size; omega, hB45.lt⟩
  have hX := hB35.set_ 17 (.int .i64 0)
  rw [adA_setZ (mpA a) 0 (by decide), ← HzerA.out] at hX
  have hY := hB25.far (p := ⟨g3, 17, none⟩) (by show g2 ≠ g3; omega) (.int .i64 0)
  have hZ := hB45.far (p := ⟨g3, 17, none⟩) (by show g4 ≠ g3; omega) (.int .i64 0)
  have hby := hb05.setCell (p := ⟨g3, 17, none⟩) (show w.heap.size ≤ g3 by omega) (.int .i64 0)
  have hsz : (w5.setCell ⟨g3, 17, none⟩ (.int .i64 0)).heap.size = w5.heap.size := (Stays.cell w5 g3 17 (.int .i64 0)).size
  have hszx : w5.heap.size ≤ (w5.setCell ⟨g3, 17, none⟩ (.int .i64 0)).heap.size := Nat.le_of_eq hsz.symm
  generalize zerA a = A at *
  clear HzerA hsz hB2 hB22 hB23 hB24 hB25 hB3 hB33 hB34 hB35 hB4 hB44 hB45 hb1 hb2 hb3 hb4 hb02 hb03 hb04 hb05 hS5
  go_wp2_with (first
    | (with_reducible refine wpList_buildL rfl 57 _ rfl built_polD rfl ?_)
    | ((with_reducible refine wpList_allocPol (o := ⟨some 5, _, _, _, _, _⟩) rfl rfl ?_); intro g5 w6 hg hB5 hb6 hs; have hg5 := Nat.le_of_eq hg.symm; have hX6 := hX.bel hb6; have hY6 := hY.bel hb6; have hZ6 := hZ.bel hb6; have hb06 := bel_tr hby hb6; have hl5 := hB5.lt; clear hg hs)
    | ((with_reducible refine wpList_storePol rfl (.tmp 5) _ rfl rfl rfl hB5 ?_); intro w7 hB57 hS7; have hs7 := hS7.size; have hs7' : w6.heap.size ≤ w7.heap.size := Nat.le_of_eq hs7.symm; have hX7 := hX6.stays hS7 (by omega); have hY7 := hY6.stays hS7 (by omega); have hZ7 := hZ6.stays hS7 (by omega); have hb07 : Below w.heap.size w w7 := hb06.trans (hS7.below (by omega)); clear hs7)
    | (refine wpList_loadB (o := ⟨some 13, _, _, _, _, _⟩) rfl _ _ rfl rfl hY7 net_under rfl Hns.out ?_)
    | (go_at_call 27; refine (HRows.out _ hb07).mono ?_; rintro e w8 ⟨v8, rfl, ho8, hb8⟩; obtain ⟨A8, c8, rfl, hc8⟩ := (Sl.own ho8).any; have hr8 := PolRow.own ho8; have hX8 := hX7.bel hb8; have hZ8 := hZ7.bel hb8; have hB58 := hB57.bel hb8; have hb08 := bel_tr hb07 hb8))
  have hlo : g3 < g4 ∧ g4 < g5 ∧ g5 < w7.heap.size ∧ w.heap.size ≤ g3 := by omega
  generalize w7.heap.size = lo at *
  have R0 : OfRel w g3 g4 g5 A A8 R lo (bst (fW A) gW (R.take 0)) w8 := ⟨hX8, hZ8, hB58, hr8, hb08⟩
  clear hX hY hZ hX6 hY6 hZ6 hX7 hY7 hZ7 hX8 hZ8 hB5 hB57 hB58 hb6 hb8 hS7 hb06 hb07 hb08 hby ho8 hr8 hs7' hszx hg5 hl5 hne hg2 hg3 hg4
  go_loopw [6, 16] (fun f i wr => ∃ (k : Nat) (o : Option Pol), k ≤ R.length ∧ i = .int .i64 k ∧ o = bst (fW A) gW (R.take k) ∧ f = .bool o.isSome ∧ OfRel w g3 g4 g5 A A8 R lo o wr) (fun _ i _ => R.length - (intOf i).toNat)
  case atStart => exact ⟨0, _, by omega, rfl, rfl, rfl, R0⟩
  case round =>
    obtain ⟨k, o, hk, rfl, ho, rfl, r3, r4, r5, rr, rb⟩ := hrel
    clear R0
    by_cases hlt : k < R.length
    · obtain ⟨b, off, rfl, hblo, hblt, hrg⟩ := rr k hlt
      have j0 : (k : Int) < (R.length : Int) := by omega
      have hnx := bst_take (a := A) hlt
      rw [← ho] at hnx
      generalize hp : R[k] = p at *
      have Hnx := Lib.hid hnx
      clear hnx ho
      have HW : Hid (∀ w, Calls Tryd.prog 24 #[.agg (adA A), .agg (pfA p.pf)] w fun e w' => e = .returned (.bool (withB A p.pf)) ∧ Below w.heap.size w w') := Lib.hid (within_any A p.pf)
      have hcs : (fW A p = false ∧ bstp (fW A) gW o p = o) ∨ (fW A p = true ∧ o = none ∧ bstp (fW A) gW o p = some p) ∨ (∃ x, fW A p = true ∧ o = some x ∧ x.pf.bits < p.pf.bits ∧ bstp (fW A) gW o p = some p) ∨ (∃ x, fW A p = true ∧ o = some x ∧ ¬ x.pf.bits < p.pf.bits ∧ bstp (fW A) gW o p = some x) := by
        cases hf : fW A p with
        | false => left; refine ⟨rfl, ?_⟩; cases o <;> simp [bstp, hf]
        | true =>
          right
          cases o with
          | none => left; refine ⟨rfl, rfl, ?_⟩; simp [bstp, hf]
          | some x =>
            right
            by_cases hg : x.pf.bits < p.pf.bits
            · left; exact ⟨x, rfl, rfl, hg, by simp [bstp, hf, gW, hg]⟩
            · right; exact ⟨x, rfl, rfl, hg, by simp [bstp, hf, gW, hg]⟩
      have HfW : Hid (fW A p = withB A p.pf) := Lib.hid rfl
      clear hp
      rcases hcs with ⟨hf, hst⟩ | ⟨hf, ho, hst⟩ | ⟨x, hf, ho, hgt, hst⟩ | ⟨x, hf, ho, hgt, hst⟩
      · have Hst := Lib.hid (Hnx.out.trans hst)
        have Hwb := Lib.hid (HfW.out.symm.trans hf)
        generalize withB A p.pf = wb at *
        clear hst hf Hnx HfW
        have c5 := r5.cell 18
        rw [polA_18] at c5
        go_wp2_with (first
          | (with_reducible refine wpList_loadPolM (o := ⟨some 19, _, _, _, _, _⟩) rfl _ rfl rfl hrg ?_)
          | ((with_reducible refine wpList_allocPol (o := ⟨some 8, _, _, _, _, _⟩) rfl rfl ?_); intro g8 w9 hg hB8 hb9 hs; have hg8 : wr.heap.size ≤ g8 := Nat.le_of_eq hg.symm; clear hg hs)
          | ((with_reducible refine wpList_storePol rfl (.tmp 8) _ rfl rfl rfl hB8 ?_); intro wa hB8a hSa; have hba : Below wr.heap.size wr wa := hb9.trans (hSa.below hg8); have r3a := r3.bel hba; have hq8 := hB8a.rangePolPf; have d8 := hB8a.cell 18; rw [polA_18] at d8; have d5 := (r5.bel hba).cell 18; rw [polA_18] at d5)
          | (with_reducible refine wpList_loadAd (o := ⟨some 20, _, _, _, _, _⟩) rfl _ rfl rfl r3a ?_)
          | (with_reducible refine wpList_loadPfM (o := ⟨some 22, _, _, _, _, _⟩) rfl _ rfl rfl hq8 ?_)
          | (go_at_call 24; refine (HW.out _).mono ?_; rintro e wb' ⟨rfl, hbb⟩; rw [Hwb.out]; have hbw := bel_tr hba hbb; have d8b := (hB8a.bel hbb).cell 18; rw [polA_18] at d8b; have r5b := r5.bel hbw; have d5b := r5b.cell 18; rw [polA_18] at d5b; have hB8b := hB8a.bel hbb))
        go_roundw
        case rel =>
          refine ⟨k + 1, o, by omega, by go_num, Hst.out.symm, rfl, ?_⟩
          exact ⟨r3.bel hbw, r4.bel hbw, r5b, rr.bel hbw, bel_tr rb hbw⟩
        case measure => simp [intOf]; omega
      · have Hst := Lib.hid (Hnx.out.trans hst)
        have Hwb := Lib.hid (HfW.out.symm.trans hf)
        generalize withB A p.pf = wb at *
        clear hst hf Hnx HfW
        subst ho
        have c5 := r5.cell 18
        rw [polA_18] at c5
        go_wp2_with (first
          | (with_reducible refine wpList_loadPolM (o := ⟨some 19, _, _, _, _, _⟩) rfl _ rfl rfl hrg ?_)
          | ((with_reducible refine wpList_allocPol (o := ⟨some 8, _, _, _, _, _⟩) rfl rfl ?_); intro g8 w9 hg hB8 hb9 hs; have hg8 : wr.heap.size ≤ g8 := Nat.le_of_eq hg.symm; clear hg hs)
          | ((with_reducible refine wpList_storePol rfl (.tmp 8) _ rfl rfl rfl hB8 ?_); intro wa hB8a hSa; have hba : Below wr.heap.size wr wa := hb9.trans (hSa.below hg8); have r3a := r3.bel hba; have hq8 := hB8a.rangePolPf; have d8 := hB8a.cell 18; rw [polA_18] at d8; have d5 := (r5.bel hba).cell 18; rw [polA_18] at d5)
          | (with_reducible refine wpList_loadAd (o := ⟨some 20, _, _, _, _, _⟩) rfl _ rfl rfl r3a ?_)
          | (with_reducible refine wpList_loadPfM (o := ⟨some 22, _, _, _, _, _⟩) rfl _ rfl rfl hq8 ?_)
          | (go_at_call 24; refine (HW.out _).mono ?_; rintro e wb' ⟨rfl, hbb⟩; rw [Hwb.out]; have hbw := bel_tr hba hbb; have d8b := (hB8a.bel hbb).cell 18; rw [polA_18] at d8b; have r5b := r5.bel hbw; have d5b := r5b.cell 18; rw [polA_18] at d5b; have hB8b := hB8a.bel hbb)
          | (with_reducible refine wpList_loadPol (o := ⟨some 37, _, _, _, _, _⟩) rfl _ rfl rfl hB8b ?_)
          | ((with_reducible refine wpList_storePol rfl (.tmp 5) _ rfl rfl rfl r5b ?_); intro wc hB5c hSc; have hszc := hSc.size))
        go_roundw
        case rel =>
          refine ⟨k + 1, some p, by omega, by go_num, Hst.out.symm, rfl, ?_⟩
          exact ⟨(r3.bel hbw).stays hSc (by omega), (r4.bel hbw).stays hSc (by omega), hB5c, (rr.bel hbw).stays hSc (by omega), (bel_tr rb hbw).trans (hSc.below (by omega))⟩
        case measure => simp [intOf]; omega
      · have Hst := Lib.hid (Hnx.out.trans hst)
        have Hwb := Lib.hid (HfW.out.symm.trans hf)
        generalize withB A p.pf = wb at *
        clear hst hf Hnx HfW
        subst ho
        have i1 : decide (x.pf.bits < p.pf.bits) = true := decide_eq_true hgt
        clear hgt
        have c5 := r5.cell 18
        rw [polA_18] at c5
        go_wp2_with (first
          | (with_reducible refine wpList_loadPolM (o := ⟨some 19, _, _, _, _, _⟩) rfl _ rfl rfl hrg ?_)
          | ((with_reducible refine wpList_allocPol (o := ⟨some 8, _, _, _, _, _⟩) rfl rfl ?_); intro g8 w9 hg hB8 hb9 hs; have hg8 : wr.heap.size ≤ g8 := Nat.le_of_eq hg.symm; clear hg hs)
          | ((with_reducible refine wpList_storePol rfl (.tmp 8) _ rfl rfl rfl hB8 ?_); intro wa hB8a hSa; have hba : Below wr.heap.size wr wa := hb9.trans (hSa.below hg8); have r3a := r3.bel hba; have hq8 := hB8a.rangePolPf; have d8 := hB8a.cell 18; rw [polA_18] at d8; have d5 := (r5.bel hba).cell 18; rw [polA_18] at d5)
          | (with_reducible refine wpList_loadAd (o := ⟨some 20, _, _, _, _, _⟩) rfl _ rfl rfl r3a ?_)
          | (with_reducible refine wpList_loadPfM (o := ⟨some 22, _, _, _, _, _⟩) rfl _ rfl rfl hq8 ?_)
          | (go_at_call 24; refine (HW.out _).mono ?_; rintro e wb' ⟨rfl, hbb⟩; rw [Hwb.out]; have hbw := bel_tr hba hbb; have d8b := (hB8a.bel hbb).cell 18; rw [polA_18] at d8b; have r5b := r5.bel hbw; have d5b := r5b.cell 18; rw [polA_18] at d5b; have hB8b := hB8a.bel hbb)
          | (with_reducible refine wpList_loadPol (o := ⟨some 37, _, _, _, _, _⟩) rfl _ rfl rfl hB8b ?_)
          | ((with_reducible refine wpList_storePol rfl (.tmp 5) _ rfl rfl rfl r5b ?_); intro wc hB5c hSc; have hszc := hSc.size))
        go_roundw
        case rel =>
          refine ⟨k + 1, some p, by omega, by go_num, Hst.out.symm, rfl, ?_⟩
          exact ⟨(r3.bel hbw).stays hSc (by omega), (r4.bel hbw).stays hSc (by omega), hB5c, (rr.bel hbw).stays hSc (by omega), (bel_tr rb hbw).trans (hSc.below (by omega))⟩
        case measure => simp [intOf]; omega
      · have Hst := Lib.hid (Hnx.out.trans hst)
        have Hwb := Lib.hid (HfW.out.symm.trans hf)
        generalize withB A p.pf = wb at *
        clear hst hf Hnx HfW
        subst ho
        have i1 : decide (x.pf.bits < p.pf.bits) = false := decide_eq_false hgt
        clear hgt
        have c5 := r5.cell 18
        rw [polA_18] at c5
        go_wp2_with (first
          | (with_reducible refine wpList_loadPolM (o := ⟨some 19, _, _, _, _, _⟩) rfl _ rfl rfl hrg ?_)
          | ((with_reducible refine wpList_allocPol (o := ⟨some 8, _, _, _, _, _⟩) rfl rfl ?_); intro g8 w9 hg hB8 hb9 hs; have hg8 : wr.heap.size ≤ g8 := Nat.le_of_eq hg.symm; clear hg hs)
          | ((with_reducible refine wpList_storePol rfl (.tmp 8) _ rfl rfl rfl hB8 ?_); intro wa hB8a hSa; have hba : Below wr.heap.size wr wa := hb9.trans (hSa.below hg8); have r3a := r3.bel hba; have hq8 := hB8a.rangePolPf; have d8 := hB8a.cell 18; rw [polA_18] at d8; have d5 := (r5.bel hba).cell 18; rw [polA_18] at d5)
          | (with_reducible refine wpList_loadAd (o := ⟨some 20, _, _, _, _, _⟩) rfl _ rfl rfl r3a ?_)
          | (with_reducible refine wpList_loadPfM (o := ⟨some 22, _, _, _, _, _⟩) rfl _ rfl rfl hq8 ?_)
          | (go_at_call 24; refine (HW.out _).mono ?_; rintro e wb' ⟨rfl, hbb⟩; rw [Hwb.out]; have hbw := bel_tr hba hbb; have d8b := (hB8a.bel hbb).cell 18; rw [polA_18] at d8b; have r5b := r5.bel hbw; have d5b := r5b.cell 18; rw [polA_18] at d5b; have hB8b := hB8a.bel hbb))
        go_roundw
        case rel =>
          refine ⟨k + 1, some x, by omega, by go_num, Hst.out.symm, rfl, ?_⟩
          exact ⟨r3.bel hbw, r4.bel hbw, r5b, rr.bel hbw, bel_tr rb hbw⟩
        case measure => simp [intOf]; omega
    · have hkR : k = R.length := by omega
      subst hkR
      have j0 : ¬ (R.length : Int) < (R.length : Int) := by omega
      rw [List.take_length] at ho
      rw [← ho] at Hof
      clear ho
      go_wp2_with (first
        | (with_reducible refine wpList_loadPol (o := ⟨some 39, _, _, _, _, _⟩) rfl _ rfl rfl r5 ?_)
        | ((with_reducible refine wpList_storePol rfl (.tmp 4) _ rfl rfl rfl r4 ?_); intro wc hB4c hSc))
      exact ret_pol Tryd.results15 rfl hB4c rfl ⟨by rw [Hof.out], rb.trans (hSc.below (by omega))⟩
end Go.Proofs.YthlnndjkocnfcaaDoor

/- Routes and own addresses: rows of structs, with their laws. -/
namespace Go.Proofs.YthlnndjkocnfcaaDoor
open Go.RowKit
attribute [local go_sem] ba_get ext_take ext_drop ext_any ba_app

structure Rt where
  pf : Pf
  idx : Int
  tun : Bool
  ok : (-9223372036854775808 ≤ idx ∧ idx ≤ 9223372036854775807)
theorem Rt.same_iff {a b : Rt} : (a.pf = b.pf ∧ a.idx = b.idx ∧ a.tun = b.tun) ↔ a = b := ⟨fun ⟨h0, h1, h2⟩ => by cases a; cases b; simp only at h0 h1 h2; subst h0 h1 h2; rfl, fun h => by rw [h]; exact ⟨rfl, rfl, rfl⟩⟩
instance : DecidableEq Rt := fun _ _ => decidable_of_iff _ Rt.same_iff
def rtL (x : Rt) : List Value := pfL x.pf ++ [.int .i64 x.idx, .bool x.tun]
def rtA (x : Rt) : Array Value := (rtL x).toArray
theorem rtL_len (x : Rt) : (rtL x).length = 21 := by unfold rtL; rw [List.length_append, pfL_len]; rfl
theorem rtA_size (x : Rt) : (rtA x).size = 21 := by unfold rtA; rw [List.size_toArray, rtL_len]
theorem rtL_hd (x : Rt) {i : Nat} (h : i < 19) : (rtL x)[i]? = (pfL x.pf)[i]? := by unfold rtL; rw [List.getElem?_append_left (by rw [pfL_len]; exact h)]
theorem rtA_18 (x : Rt) : (rtA x)[18]? = some (.int .i64 x.pf.bits) := by unfold rtA; rw [List.getElem?_toArray, rtL_hd x (by omega)]; unfold pfL; rw [List.getElem?_append_right (by rw [adL_len]; omega), adL_len]; rfl
theorem rtA_19 (x : Rt) : (rtA x)[19]? = some (.int .i64 x.idx) := by unfold rtA rtL; rw [List.getElem?_toArray, List.getElem?_append_right (by rw [pfL_len]; omega), pfL_len]; rfl
theorem rtL_one (x : Rt) : ∀ v ∈ rtL x, v.oneCell' = true := by
  intro v hv
  unfold rtL at hv
  rw [List.mem_append] at hv
  rcases hv with hv | hv
  · exact pfL_one x.pf v hv
  · simp at hv; rcases hv with rfl | rfl <;> rfl
theorem rtA_one (x : Rt) : (rtA x).all (·.oneCell') = true := all_oneCell_toArray (rtL_one x)
theorem Bk.rangehd_rt {w : World} {g : Nat} {t : TypeId} {x : Rt} (h : Bk w g t (rtA x)) : w.rangeAt g 0 (pfL x.pf) := h.rangeL (cs := rtL x) 0 (pfL x.pf) [.int .i64 x.idx, .bool x.tun] rfl
theorem rt_under : Tryd.prog.underlying 42 = some (.struct (Tryd.prog.fieldsOf 42)) := by kernel_rfl
theorem rt_size : (Tryd.prog.info? 42).map (·.size) = some 21 := by kernel_rfl
theorem rt_size' (x : Rt) : (Tryd.prog.info? 42).map (·.size) = some (rtA x).size := by rw [rtA_size]; exact rt_size
def rt0 : Rt := ⟨pf0, 0, false, by decide⟩
theorem rt_zero : ZeroIs Tryd.prog 42 (rtA rt0) := by unfold ZeroIs; kernel_rfl
theorem elt_rt : Elt Tryd.prog 23 42 21 56 := Elt.mk' (z := .agg (rtA rt0)) Tryd.underlying23 (by kernel_rfl) (by kernel_rfl) (by decide)
theorem wpList_alloc_rt {w : World} {ops : Array Oper} {rest : List Oper} {o : Oper} {a : Act} {Q : Exit → Act → World → Prop} (hgd : o.guard = none) (ho : o.op = .alloc 42)
    (h : ∀ g w', g = w.heap.size → Bk w' g 42 (rtA rt0) → Below w.heap.size w w' → w'.heap.size = g + 1 → wpList Tryd.prog ops Q rest (a.put o.dst (.pointer (some ⟨g, 0, none⟩))) w') : wpList Tryd.prog ops Q (o :: rest) a w :=
  wpList_allocZ hgd _ ho rt_zero h
theorem wpList_load_rt {w : World} {ops : Array Oper} {rest : List Oper} {o : Oper} {a : Act} {Q : Exit → Act → World → Prop} (hgd : o.guard = none) (x : Operand) (ho : o.op = .load 42 x) {g : Nat} (hx : a.eval x = .pointer (some ⟨g, 0, none⟩))
    {t : TypeId} {b : Rt} (hB : Bk w g t (rtA b)) (h : wpList Tryd.prog ops Q rest (a.put o.dst (.agg (rtA b))) w) : wpList Tryd.prog ops Q (o :: rest) a w :=
  wpList_loadB hgd _ x ho hx hB rt_under rfl (rt_size' b) h
theorem wpList_store_rt {w : World} {ops : Array Oper} {rest : List Oper} {o : Oper} {a : Act} {Q : Exit → Act → World → Prop} (hgd : o.guard = none) (x y : Operand) (ho : o.op = .store 42 x y) {g : Nat} {b c : Rt} (hx : a.eval x = .pointer (some ⟨g, 0, none⟩)) (hy : a.eval y = .agg (rtA b))
    {t : TypeId} (hB : Bk w g t (rtA c)) (h : ∀ w', Bk w' g t (rtA b) → Stays g w w' → wpList Tryd.prog ops Q rest (a.put o.dst undef) w') : wpList Tryd.prog ops Q (o :: rest) a w :=
  wpList_storeB hgd _ x y ho hx hy hB (rt_size' b) (by rw [rtA_size, rtA_size]) (rtA_one b) h
theorem wpList_loadM_rt {w : World} {ops : Array Oper} {rest : List Oper} {o : Oper} {a : Act} {Q : Exit → Act → World → Prop} (hgd : o.guard = none) (x : Operand) (ho : o.op = .load 42 x) {g off : Nat} (hx : a.eval x = .pointer (some ⟨g, off, none⟩))
    {b : Rt} (hB : w.rangeAt g off (rtL b)) (h : wpList Tryd.prog ops Q rest (a.put o.dst (.agg (rtA b))) w) : wpList Tryd.prog ops Q (o :: rest) a w :=
  wpList_load_mid hgd _ x ho g off hx (rtL b) _ hB rt_under rfl (by rw [rtL_len]; exact rt_size) h
structure Ifc where
  ad : Ad
  idx : Int
  bits : Int
  dep : Bool
  hom : Bool
  tem : Bool
  ok : (-9223372036854775808 ≤ idx ∧ idx ≤ 9223372036854775807) ∧ (-9223372036854775808 ≤ bits ∧ bits ≤ 9223372036854775807)
theorem Ifc.same_iff {a b : Ifc} : (a.ad = b.ad ∧ a.idx = b.idx ∧ a.bits = b.bits ∧ a.dep = b.dep ∧ a.hom = b.hom ∧ a.tem = b.tem) ↔ a = b := ⟨fun ⟨h0, h1, h2, h3, h4, h5⟩ => by cases a; cases b; simp only at h0 h1 h2 h3 h4 h5; subst h0 h1 h2 h3 h4 h5; rfl, fun h => by rw [h]; exact ⟨rfl, rfl, rfl, rfl, rfl, rfl⟩⟩
instance : DecidableEq Ifc := fun _ _ => decidable_of_iff _ Ifc.same_iff
def ifcL (x : Ifc) : List Value := adL x.ad ++ [.int .i64 x.idx, .int .i64 x.bits, .bool x.dep, .bool x.hom, .bool x.tem]
def ifcA (x : Ifc) : Array Value := (ifcL x).toArray
theorem ifcL_len (x : Ifc) : (ifcL x).length = 23 := by unfold ifcL; rw [List.length_append, adL_len]; rfl
theorem ifcA_size (x : Ifc) : (ifcA x).size = 23 := by unfold ifcA; rw [List.size_toArray, ifcL_len]
theorem ifcA_0 (x : Ifc) : (ifcA x)[0]? = some (.int .i64 x.ad.fam) := by unfold ifcA; rw [List.getElem?_toArray]; rfl
theorem ifcA_18 (x : Ifc) : (ifcA x)[18]? = some (.int .i64 x.idx) := by unfold ifcA ifcL; rw [List.getElem?_toArray, List.getElem?_append_right (by rw [adL_len]; omega), adL_len]; rfl
theorem ifcA_19 (x : Ifc) : (ifcA x)[19]? = some (.int .i64 x.bits) := by unfold ifcA ifcL; rw [List.getElem?_toArray, List.getElem?_append_right (by rw [adL_len]; omega), adL_len]; rfl
theorem ifcA_20 (x : Ifc) : (ifcA x)[20]? = some (.bool x.dep) := by unfold ifcA ifcL; rw [List.getElem?_toArray, List.getElem?_append_right (by rw [adL_len]; omega), adL_len]; rfl
theorem ifcA_21 (x : Ifc) : (ifcA x)[21]? = some (.bool x.hom) := by unfold ifcA ifcL; rw [List.getElem?_toArray, List.getElem?_append_right (by rw [adL_len]; omega), adL_len]; rfl
theorem ifcA_22 (x : Ifc) : (ifcA x)[22]? = some (.bool x.tem) := by unfold ifcA ifcL; rw [List.getElem?_toArray, List.getElem?_append_right (by rw [adL_len]; omega), adL_len]; rfl
theorem ifcL_one (x : Ifc) : ∀ v ∈ ifcL x, v.oneCell' = true := by
  intro v hv
  unfold ifcL at hv
  rw [List.mem_append] at hv
  rcases hv with hv | hv
  · exact adL_one x.ad v hv
  · simp at hv; rcases hv with rfl | rfl | rfl | rfl | rfl <;> rfl
theorem ifcA_one (x : Ifc) : (ifcA x).all (·.oneCell') = true := all_oneCell_toArray (ifcL_one x)
theorem Bk.range_ifc {w : World} {g : Nat} {t : TypeId} {x : Ifc} (h : Bk w g t (ifcA x)) : w.rangeAt g 0 (ifcL x) := h.rangeL (cs := ifcL x) 0 (ifcL x) [] (by simp)
theorem Bk.rangehd_ifc {w : World} {g : Nat} {t : TypeId} {x : Ifc} (h : Bk w g t (ifcA x)) : w.rangeAt g 0 (adL x.ad) := h.rangeL (cs := ifcL x) 0 (adL x.ad) [.int .i64 x.idx, .int .i64 x.bits, .bool x.dep, .bool x.hom, .bool x.tem] rfl
theorem ifc_under : Tryd.prog.underlying 31 = some (.struct (Tryd.prog.fieldsOf 31)) := by kernel_rfl
theorem ifc_size : (Tryd.prog.info? 31).map (·.size) = some 23 := by kernel_rfl
theorem ifc_size' (x : Ifc) : (Tryd.prog.info? 31).map (·.size) = some (ifcA x).size := by rw [ifcA_size]; exact ifc_size
def ifc0 : Ifc := ⟨ad0, 0, 0, false, false, false, by decide⟩
theorem ifc_zero : ZeroIs Tryd.prog 31 (ifcA ifc0) := by unfold ZeroIs; kernel_rfl
theorem elt_ifc : Elt Tryd.prog 22 31 23 56 := Elt.mk' (z := .agg (ifcA ifc0)) Tryd.underlying22 (by kernel_rfl) (by kernel_rfl) (by decide)
theorem wpList_alloc_ifc {w : World} {ops : Array Oper} {rest : List Oper} {o : Oper} {a : Act} {Q : Exit → Act → World → Prop} (hgd : o.guard = none) (ho : o.op = .alloc 31)
    (h : ∀ g w', g = w.heap.size → Bk w' g 31 (ifcA ifc0) → Below w.heap.size w w' → w'.heap.size = g + 1 → wpList Tryd.prog ops Q rest (a.put o.dst (.pointer (some ⟨g, 0, none⟩))) w') : wpList Tryd.prog ops Q (o :: rest) a w :=
  wpList_allocZ hgd _ ho ifc_zero h
theorem wpList_load_ifc {w : World} {ops : Array Oper} {rest : List Oper} {o : Oper} {a : Act} {Q : Exit → Act → World → Prop} (hgd : o.guard = none) (x : Operand) (ho : o.op = .load 31 x) {g : Nat} (hx : a.eval x = .pointer (some ⟨g, 0, none⟩))
    {t : TypeId} {b : Ifc} (hB : Bk w g t (ifcA b)) (h : wpList Tryd.prog ops Q rest (a.put o.dst (.agg (ifcA b))) w) : wpList Tryd.prog ops Q (o :: rest) a w :=
  wpList_loadB hgd _ x ho hx hB ifc_under rfl (ifc_size' b) h
theorem wpList_store_ifc {w : World} {ops : Array Oper} {rest : List Oper} {o : Oper} {a : Act} {Q : Exit → Act → World → Prop} (hgd : o.guard = none) (x y : Operand) (ho : o.op = .store 31 x y) {g : Nat} {b c : Ifc} (hx : a.eval x = .pointer (some ⟨g, 0, none⟩)) (hy : a.eval y = .agg (ifcA b))
    {t : TypeId} (hB : Bk w g t (ifcA c)) (h : ∀ w', Bk w' g t (ifcA b) → Stays g w w' → wpList Tryd.prog ops Q rest (a.put o.dst undef) w') : wpList Tryd.prog ops Q (o :: rest) a w :=
  wpList_storeB hgd _ x y ho hx hy hB (ifc_size' b) (by rw [ifcA_size, ifcA_size]) (ifcA_one b) h
theorem wpList_loadM_ifc {w : World} {ops : Array Oper} {rest : List Oper} {o : Oper} {a : Act} {Q : Exit → Act → World → Prop} (hgd : o.guard = none) (x : Operand) (ho : o.op = .load 31 x) {g off : Nat} (hx : a.eval x = .pointer (some ⟨g, off, none⟩))
    {b : Ifc} (hB : w.rangeAt g off (ifcL b)) (h : wpList Tryd.prog ops Q rest (a.put o.dst (.agg (ifcA b))) w) : wpList Tryd.prog ops Q (o :: rest) a w :=
  wpList_load_mid hgd _ x ho g off hx (ifcL b) _ hB ifc_under rfl (by rw [ifcL_len]; exact ifc_size) h
/-- the fields of two structs, one by one. -/
inductive EqFs (P : Program) (w : World) (d : Nat) (xs ys : Array Value) : List (Bool × TypeId × Nat) → Bool → Prop
  | nil : EqFs P w d xs ys [] true
  | cons {t : TypeId} {o : Nat} {x y : Value} {b c : Bool} {l : List (Bool × TypeId × Nat)} (p : (part t xs o).run P w = .ok x w) (q : (part t ys o).run P w = .ok y w) (e : (Op.equalIn d t x y).run P w = .ok b w) (h : EqFs P w d xs ys l c) : EqFs P w d xs ys ((false, t, o) :: l) (b && c)
theorem eqFs_run {P : Program} {w : World} {d : Nat} {xs ys : Array Value} {l : List (Bool × TypeId × Nat)} {c : Bool} (h : EqFs P w d xs ys l c) : ∀ fs : List Field, fs.map (fun f => (f.name == "_", f.type, f.offset)) = l → (Op.eqFields d xs ys fs).run P w = .ok c w := by
  induction h with
  | nil => intro fs hl; cases fs with | nil => rfl | cons _ _ => cases hl
  | @cons t o x y b c l p q e h ih =>
    intro fs hl
    cases fs with
    | nil => cases hl
    | cons f fs =>
      rw [List.map_cons, List.cons.injEq, Prod.mk.injEq, Prod.mk.injEq] at hl
      obtain ⟨⟨hn, ht, ho⟩, hl⟩ := hl
      have hn' : f.name ≠ "_" := by simpa using hn
      have ih' := ih fs hl
      subst ht ho
      cases b
      · simp [Op.eqFields, hn', p, q, e]
      · simp [Op.eqFields, hn', p, q, e, ih']
theorem ifc_fields : (Tryd.prog.fieldsOf 31).toList.map (fun f => (f.name == "_", f.type, f.offset)) = [(false, 29, 0), (false, 3, 18), (false, 3, 19), (false, 4, 20), (false, 4, 21), (false, 4, 22)] := by kernel_rfl
theorem ifcA_ex (x : Ifc) : (ifcA x).extract 0 (0 + 18) = adA x.ad := by
  unfold ifcA adA ifcL
  rw [List.extract_toArray]
  have := adL_len x.ad
  simp [this]
theorem part_ifc_hd (w : World) (x : Ifc) : (part 29 (ifcA x) 0).run Tryd.prog w = .ok (.agg (adA x.ad)) w := by
  simp only [part, isAgg, Sem.run_bind, run_underlying ad_under, Result.andThen_ok, Sem.run_pure, if_true, size_of ad_size, ifcA_ex]
theorem part_ifc_idx (w : World) (x : Ifc) : (part 3 (ifcA x) 18).run Tryd.prog w = .ok (.int .i64 x.idx) w := by
  simp [part, isAgg, run_underlying Tryd.underlying3, ifcA_18]
theorem part_ifc_bits (w : World) (x : Ifc) : (part 3 (ifcA x) 19).run Tryd.prog w = .ok (.int .i64 x.bits) w := by
  simp [part, isAgg, run_underlying Tryd.underlying3, ifcA_19]
theorem part_ifc_dep (w : World) (x : Ifc) : (part 4 (ifcA x) 20).run Tryd.prog w = .ok (.bool x.dep) w := by
  simp [part, isAgg, run_underlying Tryd.underlying4, ifcA_20]
theorem part_ifc_hom (w : World) (x : Ifc) : (part 4 (ifcA x) 21).run Tryd.prog w = .ok (.bool x.hom) w := by
  simp [part, isAgg, run_underlying Tryd.underlying4, ifcA_21]
theorem part_ifc_tem (w : World) (x : Ifc) : (part 4 (ifcA x) 22).run Tryd.prog w = .ok (.bool x.tem) w := by
  simp [part, isAgg, run_underlying Tryd.underlying4, ifcA_22]
theorem run_ifc_eq (w : World) (d : Nat) (a b : Ifc) : (Op.equalIn (d + 5) 31 (.agg (ifcA a)) (.agg (ifcA b))).run Tryd.prog w = .ok (decide (a = b)) w := by
  rw [run_equalIn_struct w (d + 4) _ _ _ ifc_under Tryd.stoodInHeld31]
  rw [eqFs_run (EqFs.cons (part_ifc_hd w a) (part_ifc_hd w b) (run_ad_eq w (d + 1) a.ad b.ad) (EqFs.cons (part_ifc_idx w a) (part_ifc_idx w b) (run_equalIn_int w (d + 3) 3 .i64 .i64 a.idx b.idx Tryd.underlying3) (EqFs.cons (part_ifc_bits w a) (part_ifc_bits w b) (run_equalIn_int w (d + 3) 3 .i64 .i64 a.bits b.bits Tryd.underlying3) (EqFs.cons (part_ifc_dep w a) (part_ifc_dep w b) (run_equalIn_bool w (d + 3) 4 a.dep b.dep Tryd.underlying4) (EqFs.cons (part_ifc_hom w a) (part_ifc_hom w b) (run_equalIn_bool w (d + 3) 4 a.hom b.hom Tryd.underlying4) (EqFs.cons (part_ifc_tem w a) (part_ifc_tem w b) (run_equalIn_bool w (d + 3) 4 a.tem b.tem Tryd.underlying4) (EqFs.nil))))))) _ ifc_fields]
  refine congrArg (fun c => Result.ok c w) ?_
  rw [Bool.eq_iff_iff]
  simp [← Ifc.same_iff]
theorem ifc_eql (w : World) (a b : Ifc) : (binOp .eql 31 (.agg (ifcA a)) (.agg (ifcA b))).run Tryd.prog w = .ok (.bool (decide (a = b))) w := by
  rw [run_eql_struct, run_ifc_eq w 9995 a b]; rfl
end Go.Proofs.YthlnndjkocnfcaaDoor

/- The reference's Of (36). -/
namespace Go.Proofs.YthlnndjkocnfcaaDoor
open Go.RowKit
attribute [local go_sem] ba_get ext_take ext_drop ext_any ba_app

structure RoRel (w : World) (g4 g6 : Nat) (A : Ad) (An : Option Addr) (R : List Pol) (lo : Nat) (wr : World) : Prop where
  b4 : Bk wr g4 57 (polA pol0)
  b6 : Bk wr g6 29 (adA A)
  r : PolRow wr An R lo
  b : Below w.heap.size w wr
theorem RoRel.bel {w wr w' : World} {g4 g6 lo : Nat} {A : Ad} {An : Option Addr} {R : List Pol} (h : RoRel w g4 g6 A An R lo wr) (hb : Below wr.heap.size wr w') : RoRel w g4 g6 A An R lo w' := ⟨h.b4.bel hb, h.b6.bel hb, h.r.bel hb, bel_tr h.b hb⟩
end Go.Proofs.YthlnndjkocnfcaaDoor

/- PolicyPlain: the plain part; law36.same, law36.works. -/
namespace Go.Proofs.YthlnndjkocnfcaaDoor
open Go.RowKit
attribute [local go_sem] ba_get ext_take ext_drop ext_any ba_app

structure SmRel (w : World) (A1 A2 : Option Addr) (l1 l2 : Nat) (wr : World) : Prop where
  r1 : PolRow wr A1 plainP l1
  r2 : PolRow wr A2 plainP l2
  b : Below w.heap.size w wr
theorem SmRel.bel {w wr w' : World} {A1 A2 : Option Addr} {l1 l2 : Nat} (h : SmRel w A1 A2 l1 l2 wr) (hb : Below wr.heap.size wr w') : SmRel w A1 A2 l1 l2 w' := ⟨h.r1.bel hb, h.r2.bel hb, bel_tr h.b hb⟩
def PlsPost (w : World) (e : Ending) (w' : World) : Prop := ∃ A c, e = .returned (.slice A 9 c) ∧ 9 ≤ c ∧ PolRow w' A plainP w.heap.size ∧ Below w.heap.size w w'
theorem PolsPost.row {w w' : World} {e : Ending} (h : PolsPost w plainP e w') : PlsPost w e w' := by
  obtain ⟨v, rfl, ho, hb⟩ := h
  obtain ⟨A, c, rfl, hc⟩ := (Sl.own ho).any
  exact ⟨A, c, rfl, hc, PolRow.own ho, hb⟩
end Go.Proofs.YthlnndjkocnfcaaDoor

/- The reference's Text, in, Unmap, Multi (9); addr.Multi. -/
namespace Go.Proofs.YthlnndjkocnfcaaDoor
open Go.RowKit
attribute [local go_sem] ba_get ext_take ext_drop ext_any ba_app

def BoPost (w : World) (b : Bool) (e : Ending) (w' : World) : Prop := e = .returned (.bool b) ∧ Below w.heap.size w w'
/-- an address of many. -/
def mulA (a : Ad) : Bool := if a.fam = 4 then decide ((a.b 0).toNat / 16 * 16 = 224) else if a.fam = 6 then decide (a.b 0 = 255) else false
theorem and_u8_240 (c : UInt8) : bits .and .u8 (c.toNat : Int) 240 = ((c.toNat / 16 * 16 : Nat) : Int) := by
  have : ∀ n : Fin 256, bits .and .u8 (n.val : Int) 240 = ((n.val / 16 * 16 : Nat) : Int) := by decide +kernel
  exact this ⟨c.toNat, c.toNat_lt⟩
theorem u8_eqI (c d : UInt8) : ((c.toNat : Int) == (d.toNat : Int)) = decide (c = d) := by
  rw [Bool.eq_iff_iff]
  simp only [beq_iff_eq, decide_eq_true_eq]
  constructor
  · intro h; exact UInt8.toNat_inj.1 (by omega)
  · intro h; rw [h]
set_option maxRecDepth 100000 in
set_option maxHeartbeats 1000000 in
theorem multi_any (a : Ad) (w : World) : Calls Tryd.prog 30 #[.agg (adA a)] w (BoPost w (mulA a)) := by
  have hand := and_u8_240 (a.b 0)
  have l0 := u8lt (a.b 0)
  by_cases h4 : a.fam = 4
  · have i4 : (a.fam == 4) = true := by simpa using h4
    have Hr : Hid (mulA a = (((((a.b 0).toNat / 16 * 16 : Nat) : Int)) == 224)) := Lib.hid (by
      unfold mulA; rw [if_pos h4, Bool.eq_iff_iff]; simp only [beq_iff_eq, decide_eq_true_eq]; omega)
    have hx : (((a.b 0).toNat / 16 * 16 : Nat) : Int) < 256 := by omega
    generalize (a.b 0).toNat / 16 * 16 = x at *
    clear h4
    go_enter Tryd.func30, Tryd.ntmps30
    go_wp2_with (first
      | ((with_reducible refine wpList_boxB rfl _ _ rfl rfl ?_); intro g w1 hg hB hb hs; clear hg hs; have c0 := hB.cell 0; rw [adA_0] at c0; have c1 := hB.cell 1; rw [adA_1] at c1))
    go_ret
    exact ⟨by rw [Hr.out]; rfl, hb⟩
  · by_cases h6 : a.fam = 6
    · have i4 : (a.fam == 4) = false := by simpa using h4
      have i6 : (a.fam == 6) = true := by simpa using h6
      have Hr : Hid (mulA a = (((a.b 0).toNat : Int) == 255)) := Lib.hid (by
        unfold mulA; rw [if_neg h4, if_pos h6]; exact (u8_eqI (a.b 0) 255).symm)
      clear h4 h6 hand
      go_enter Tryd.func30, Tryd.ntmps30
      go_wp2_with (first
        | ((with_reducible refine wpList_boxB rfl _ _ rfl rfl ?_); intro g w1 hg hB hb hs; clear hg hs; have c0 := hB.cell 0; rw [adA_0] at c0; have c1 := hB.cell 1; rw [adA_1] at c1))
      go_ret
      exact ⟨by rw [Hr.out]; rfl, hb⟩
    · have i4 : (a.fam == 4) = false := by simpa using h4
      have i6 : (a.fam == 6) = false := by simpa using h6
      have Hr : Hid (mulA a = false) := Lib.hid (by unfold mulA; rw [if_neg h4, if_neg h6])
      clear h4 h6 hand
      go_enter Tryd.func30, Tryd.ntmps30
      go_wp2_with (first
        | ((with_reducible refine wpList_boxB rfl _ _ rfl rfl ?_); intro g w1 hg hB hb hs; clear hg hs; have c0 := hB.cell 0; rw [adA_0] at c0; have c1 := hB.cell 1; rw [adA_1] at c1))
      go_ret
      exact ⟨by rw [Hr.out]; rfl, hb⟩
end Go.Proofs.YthlnndjkocnfcaaDoor

/- Rows of structs that stand still in a loop; what policy.Rows, route.Routes, route.Ifaces, route.Of answer (plain). -/
namespace Go.Proofs.YthlnndjkocnfcaaDoor
open Go.RowKit
attribute [local go_sem] ba_get ext_take ext_drop ext_any ba_app

/-- the first members that may be. -/
def leftF {α : Type} (p : α → Bool) (most : Nat) (L : List α) : List α := (L.filter p).take most
theorem leftF_stop {α : Type} {p : α → Bool} {most k : Nat} {L : List α} (h : most ≤ ((L.take k).filter p).length) : leftF p most L = ((L.take k).filter p).take most := by
  unfold leftF
  conv => lhs; rw [← List.take_append_drop k L, List.filter_append, List.take_append_of_le_length h]
theorem filt_next {α : Type} {p : α → Bool} {L : List α} {k : Nat} (h : k < L.length) : (L.take (k + 1)).filter p = (L.take k).filter p ++ if p L[k] = true then [L[k]] else [] := by
  rw [List.take_succ_eq_append_getElem h, List.filter_append]
  by_cases hp : p L[k] = true
  · rw [if_pos hp]; simp [hp]
  · rw [if_neg hp]; simp [hp]
def FltRel (w : World) (e : TypeId) (size : Nat) {α : Type} (f : α → List Value) (p : α → Bool) (most : Nat) (L : List α) (k : Nat) (v : Value) (wr : World) : Prop :=
  ((L.take k).filter p).length ≤ most ∧ wr.ownsRow w.heap.size e size v ((L.take k).filter p).length (((L.take k).filter p).flatMap f) ∧ Below w.heap.size w wr
theorem own_anyF {w : World} {base : Nat} {e : TypeId} {size n : Nat} {v : Value} {xs : List Value} (h : w.ownsRow base e size v n xs) : ∃ A c, v = .slice A n c := by
  obtain ⟨A, c, hv, _⟩ := (Sl.own h).any
  exact ⟨A, c, hv⟩
/-- a net: own addresses, routes, policies. -/
structure Nt where
  I : List Ifc
  R : List Rt
  P : List Pol
structure NetRaw (w : World) (vi vr vp : Value) (N : Nt) : Prop where
  i : Sl w 23 vi N.I.length (N.I.flatMap ifcL)
  r : Sl w 21 vr N.R.length (N.R.flatMap rtL)
  p : Sl w 21 vp N.P.length (N.P.flatMap polL)
  il : N.I.length ≤ maxLen
  rl : N.R.length ≤ maxLen
  pl : N.P.length ≤ maxLen
theorem NetRaw.below {w w' : World} {vi vr vp : Value} {N : Nt} (h : NetRaw w vi vr vp N) (hb : Below w.heap.size w w') : NetRaw w' vi vr vp N := ⟨h.i.below hb, h.r.below hb, h.p.below hb, h.il, h.rl, h.pl⟩
/-- a row of structs, one by one, in blocks not below lo. -/
def SRow {α : Type} (f : α → List Value) (s : Nat) (w : World) (A : Option Addr) (R : List α) (lo : Nat) : Prop := ∀ k (hk : k < R.length), ∃ b off, A = some ⟨b, off, none⟩ ∧ lo ≤ b ∧ b < w.heap.size ∧ w.rangeAt b (off + k * s) (f R[k])
theorem SRow.own {α : Type} {f : α → List Value} {s : Nat} (hs : ∀ a, (f a).length = s) {e : TypeId} {w : World} {B : Nat} {A : Option Addr} {c : Nat} {R : List α} (h : w.ownsRow B e s (.slice A R.length c) R.length (R.flatMap f)) : SRow f s w A R B := fun k hk => by
  obtain ⟨b, off, c', hv, hc, hb, hcell⟩ := (Sl.own h).pos (by omega)
  injection hv with e1
  subst e1
  have hlt := h.lt
  have hb0 : off = 0 := by
    obtain ⟨_, h2⟩ := h
    rcases h2 with ⟨h2, _⟩ | ⟨g, cap, cur, h2, _⟩
    · cases h2
    · injection h2 with e
      injection e with e
      injection e
  subst hb0
  exact ⟨b, 0, rfl, (hlt b rfl).1, hb, range_of hs hcell hk⟩
theorem SRow.bel {α : Type} {f : α → List Value} {s : Nat} {w w' : World} {A : Option Addr} {R : List α} {lo : Nat} (h : SRow f s w A R lo) (hb : Below w.heap.size w w') : SRow f s w' A R lo := fun k hk => by
  obtain ⟨b, off, h1, h2, h3, h4⟩ := h k hk
  exact ⟨b, off, h1, h2, Nat.lt_of_lt_of_le h3 hb.size, fun j v hv => (bel_cells hb h3 _).trans (h4 j v hv)⟩
theorem SRow.stays {α : Type} {f : α → List Value} {s : Nat} {w w' : World} {A : Option Addr} {R : List α} {lo g : Nat} (h : SRow f s w A R lo) (hs : Stays g w w') (hg : g < lo) : SRow f s w' A R lo := fun k hk => by
  obtain ⟨b, off, h1, h2, h3, h4⟩ := h k hk
  refine ⟨b, off, h1, h2, by rw [hs.size]; exact h3, fun j v hv => ?_⟩
  rw [← h4 j v hv]
  have := hs.block b (by omega)
  unfold World.cell?
  rw [this]
def okP (p : Pol) : Bool := (p.pf.ad.fam == 6) && (chkP p.pf == 0)
def okR (r : Rt) : Bool := chkP r.pf == 0
def okI (i : Ifc) : Bool := (chkA i.ad == 0) && (!mulA i.ad && (decide (0 ≤ i.bits) && decide (i.bits ≤ bitsA i.ad)))
/-- the rows of policies that hold. -/
def polN (P : List Pol) : List Pol := if (leftF okP 32 P).length = 0 then plainP else leftF okP 32 P
def rtN (R : List Rt) : List Rt := leftF okR 32 R
def ifcN (I : List Ifc) : List Ifc := leftF okI 32 I
def RtsPost (w : World) (L : List Rt) (e : Ending) (w' : World) : Prop := ∃ v, e = .returned v ∧ w'.ownsRow w.heap.size 42 21 v L.length (L.flatMap rtL) ∧ Below w.heap.size w w'
def IfcsPost (w : World) (L : List Ifc) (e : Ending) (w' : World) : Prop := ∃ v, e = .returned v ∧ w'.ownsRow w.heap.size 31 23 v L.length (L.flatMap ifcL) ∧ Below w.heap.size w w'
end Go.Proofs.YthlnndjkocnfcaaDoor

/- policy.Rows and route.Routes at any net. -/
namespace Go.Proofs.YthlnndjkocnfcaaDoor
open Go.RowKit
attribute [local go_sem] ba_get ext_take ext_drop ext_any ba_app

theorem polN_some {L : List Pol} {Q : List Pol} (h : leftF okP 32 L = Q) (h0 : Q.length ≠ 0) : polN L = Q := by unfold polN; rw [h, if_neg h0]
theorem polN_none {L : List Pol} {Q : List Pol} (h : leftF okP 32 L = Q) (h0 : Q.length = 0) : polN L = plainP := by unfold polN; rw [h, if_pos h0]
set_option maxRecDepth 100000 in
set_option maxHeartbeats 4000000 in
theorem prows_any (vi vr vp : Value) (N : Nt) (w : World) (hN : NetRaw w vi vr vp N) (ht : Tab w) (hm : MaxI w) (hl : N.P.length ≤ 1000000) : Calls Tryd.prog 27 #[.agg #[vi, vr, vp]] w (PolsPost w (polN N.P)) := by
  have h0 := hN.p
  clear hN
  generalize N.P = L at *
  obtain ⟨A, c, rfl, hc⟩ := h0.any
  have H := Lib.hid h0
  have Ht := Lib.hid ht
  have Hm := Lib.hid hm
  clear ht hm h0 hc
  go_enter Tryd.func27, Tryd.ntmps27
  go_wp2_with (first
    | ((with_reducible refine wpList_boxB rfl _ _ rfl rfl ?_); intro g1 w1 hg hB1 hb1 hs; have c2 : w1.cell? ⟨g1, 2, none⟩ = some (.slice A L.length c) := hB1.cell 2; clear hg hs))
  have H1 := Lib.hid (H.out.below hb1)
  go_loopw [3, 9] (fun v i wr => ∃ k : Nat, k ≤ L.length ∧ i = .int .i64 k ∧ FltRel w1 57 21 polL okP 32 L k v wr) (fun _ i _ => L.length - (intOf i).toNat)
  case atStart => exact ⟨0, Nat.zero_le _, rfl, by simp, by simpa using World.ownsRow_nil w1 w1.heap.size 57 21, Below.refl _ _⟩
  case round =>
    obtain ⟨k, hk, rfl, hcnt, hown, hbel⟩ := hrel
    obtain ⟨ao, co, rfl⟩ := own_anyF hown
    have Hown := Lib.hid hown
    clear hown c2
    by_cases hlt : k < L.length
    · obtain ⟨b, off, c, hv, hc, hbl, hcell⟩ := H1.out.pos (by omega)
      injection hv with hv1 _ hv2
      subst hv1 hv2
      have hR := range_of polL_len hcell hlt
      have HR : Hid (wr.rangeAt b (off + k * 21) (polL L[k])) := Lib.hid (fun j u hu => ((hbel.cell (p := ⟨b, off + k * 21 + j, none⟩) hbl).trans (hR j u hu)))
      clear hR hcell hbl
      have hltI : (k : Int) < (L.length : Int) := by omega
      by_cases hst : 32 ≤ ((L.take k).filter okP).length
      · have hfin : leftF okP 32 L = (L.take k).filter okP := by rw [leftF_stop hst, List.take_of_length_le hcnt]
        have Hfin := Lib.hid (polN_some hfin (by omega))
        clear hfin
        generalize (L.take k).filter okP = Q at *
        have i15 : ((Q.length : Int) == 32) = true := by rw [beq_iff_eq]; omega
        have i34 : ((Q.length : Int) == 0) = false := by rw [beq_eq_false_iff_ne]; omega
        generalize hql : Q.length = q at *
        go_wp2_with (first
          | (with_reducible refine wpList_loadPolM rfl _ rfl rfl HR.out ?_)
          | ((with_reducible refine wpList_allocPol rfl rfl ?_); intro g2 w2 hg hB2 hb2 hs; have hg2 : wr.heap.size ≤ g2 := Nat.le_of_eq hg.symm; clear hg hs)
          | ((with_reducible refine wpList_storePol rfl _ _ rfl rfl rfl hB2 ?_); intro w4 hB4 hS4))
        go_ret
        have hb4 : Below wr.heap.size wr w4 := hb2.trans (hS4.below (by omega))
        refine ⟨_, rfl, ?_, bel_tr hb1 (hbel.trans (hb4.mono hbel.size))⟩
        rw [Hfin.out, hql]
        exact own_base (own_below Hown.out hb4) hb1.size
      · have hst2 : ((L.take k).filter okP).length < 32 := by omega
        have hnx := filt_next (p := okP) hlt
        have Hnx := Lib.hid hnx
        clear hnx hst
        have hlk : ((L.take k).filter okP).length < 32 := hst2
        generalize hp : L[k] = p at *
        generalize hQ : (L.take k).filter okP = Q at *
        have HQ := Lib.hid hQ
        clear hp hQ
        have i15 : ((Q.length : Int) == 32) = false := by rw [beq_eq_false_iff_ne]; omega
        have Hbd : Hid (Q.length < 32) := Lib.hid hst2
        have hok : ∀ x y : Bool, (p.pf.ad.fam == 6) = x → (chkP p.pf == 0) = y → okP p = (x && y) := by intro x y hx hy; unfold okP; rw [hx, hy]
        have Hok := Lib.hid hok
        clear hok hst2 hlk
        have HH : Hid (∀ w, Calls Tryd.prog 32 #[.agg (pfA p.pf)] w fun e w' => e = .returned (.int .i64 (chkP p.pf)) ∧ Below w.heap.size w w') := Lib.hid (holds_any p.pf)
        generalize hch : chkP p.pf = ch at *
        clear hch
        cases i6 : (p.pf.ad.fam == 6) <;> cases i0 : (ch == 0)
        all_goals
          have Ho := Lib.hid (Hok.out _ _ i6 i0)
          clear Hok
          go_wp2_with (first
            | (with_reducible refine wpList_loadPolM rfl _ rfl rfl HR.out ?_)
            | ((with_reducible refine wpList_allocPol rfl rfl ?_); intro g2 w2 hg hB2 hb2 hs; have hg2 : wr.heap.size ≤ g2 := Nat.le_of_eq hg.symm; clear hg hs)
            | ((with_reducible refine wpList_storePol (o := ⟨none, _, _, _, _, _⟩) rfl _ _ rfl rfl rfl hB2 ?_); intro w4 hB4 hS4; have hb4 : Below wr.heap.size wr w4 := hb2.trans (hS4.below (by omega)); have d0 := hB4.cell 0; rw [polA_0] at d0; have hq4 := hB4.rangePolPf; have HX : Hid (Bk w4 g2 57 (polA p) ∧ Below wr.heap.size wr w4) := Lib.hid ⟨hB4, hb4⟩; clear hB4 hb4 hB2 hb2 hS4 hg2)
            | ((with_reducible show wpList _ _ _ (⟨some 23, _, _, _, _, _⟩ :: _) _ _); refine wpList_guarded (o := ⟨some 23, _, _, _, _, _⟩) rfl ?_; refine wpList_loadPfM (o := ⟨some 23, _, _, _, _, _⟩) rfl _ rfl rfl hq4 ?_)
            | (go_at_call 32; refine (HH.out _).mono ?_; rintro e w5 ⟨rfl, hb5⟩; have HX5 : Hid (Bk w5 g2 57 (polA p) ∧ Below wr.heap.size wr w5) := Lib.hid ⟨HX.out.1.bel hb5, bel_tr HX.out.2 hb5⟩; clear HX d0 hq4 hb5; have HX := HX5; clear HX5)
            | (with_reducible refine wpList_loadPol (o := ⟨some 28, _, _, _, _, _⟩) rfl _ rfl rfl HX.out.1 ?_)
            | ((with_reducible show wpList _ _ _ (⟨some 29, _, _, _, _, _⟩ :: _) _ _); refine wpList_lit (o := ⟨some 29, _, _, _, _, _⟩) rfl _ _ rfl elt_pols [.agg (polA p)] rfl (by decide) (by decide) (fun v hv => by rw [List.mem_singleton.1 hv]; exact polA_size _) rfl ?_; intro w6 hB6 hx6 hb6 hs6; clear hx6 hs6; have hb06 := bel_tr HX.out.2 hb6; have hB6 := bk_list (l := polL p) hB6 rfl)
            | (at_builtin; refine wpList_app rfl (.tmp 27) (.tmp 29) _ rfl elt_pols rfl (own_below Hown.out hb06) rfl (hB6.sl (size := 21) (n := 1) (polL_len _) 1 (Nat.le_refl _)) (polL_one _) (Nat.le_trans hbel.size hb06.size) (by have := Hbd.out; omega) (by have := Hbd.out; omega) ?_; intro v7 w7 ho7 hb7 hg7; clear hg7))
          skip
        · go_roundw
          case rel =>
            refine ⟨k + 1, by omega, by go_num, ?_⟩
            unfold FltRel
            rw [Hnx.out, if_neg (by rw [Ho.out]; decide), List.append_nil]
            exact ⟨Nat.le_of_lt Hbd.out, own_below Hown.out HX.out.2, hbel.trans (HX.out.2.mono hbel.size)⟩
          case measure => simp [intOf]; omega
        · go_roundw
          case rel =>
            refine ⟨k + 1, by omega, by go_num, ?_⟩
            unfold FltRel
            rw [Hnx.out, if_neg (by rw [Ho.out]; decide), List.append_nil]
            exact ⟨Nat.le_of_lt Hbd.out, own_below Hown.out HX.out.2, hbel.trans (HX.out.2.mono hbel.size)⟩
          case measure => simp [intOf]; omega
        · go_roundw
          case rel =>
            refine ⟨k + 1, by omega, by go_num, ?_⟩
            unfold FltRel
            rw [Hnx.out, if_neg (by rw [Ho.out]; decide), List.append_nil]
            exact ⟨Nat.le_of_lt Hbd.out, own_below Hown.out HX.out.2, hbel.trans (HX.out.2.mono hbel.size)⟩
          case measure => simp [intOf]; omega
        · go_roundw
          case rel =>
            refine ⟨k + 1, by omega, by go_num, ?_⟩
            unfold FltRel
            rw [Hnx.out, if_pos (show okP p = true from Ho.out), List.length_append, List.flatMap_append]
            refine ⟨by have := Hbd.out; simp; omega, ?_, (hbel.trans (hb06.mono hbel.size)).trans hb7⟩
            simpa using ho7
          case measure => simp [intOf]; omega
    · have hkl : k = L.length := by omega
      subst hkl
      have hfin : leftF okP 32 L = (L.take L.length).filter okP := by rw [leftF, List.take_length, List.take_of_length_le (by rw [List.take_length] at hcnt; exact hcnt)]
      have hn1 : ((L.take L.length).filter okP).length ≠ 0 → polN L = (L.take L.length).filter okP := polN_some hfin
      have hn2 : ((L.take L.length).filter okP).length = 0 → polN L = plainP := polN_none hfin
      clear hfin
      generalize (L.take L.length).filter okP = Q at *
      by_cases hq : Q.length = 0
      · have Hfin := Lib.hid (hn2 hq)
        have i34 : ((Q.length : Int) == 0) = true := by rw [beq_iff_eq]; omega
        clear hn1 hn2 hq
        generalize hql : Q.length = q at *
        go_wp2_with (first
          | (go_at_call 35; refine (polplain_any _ (Ht.out.below (bel_tr hb1 hbel)) (Hm.out.below (bel_tr hb1 hbel))).mono ?_; rintro e w2 ⟨v, rfl, ho, hb2⟩))
        go_ret
        have hb0 := bel_tr hb1 hbel
        refine ⟨_, rfl, ?_, bel_tr hb0 hb2⟩
        rw [Hfin.out]
        exact own_base ho hb0.size
      · have Hfin := Lib.hid (hn1 hq)
        have i34 : ((Q.length : Int) == 0) = false := by rw [beq_eq_false_iff_ne]; omega
        clear hn1 hn2 hq
        generalize hql : Q.length = q at *
        go_wp2
        go_ret
        refine ⟨_, rfl, ?_, bel_tr hb1 hbel⟩
        rw [Hfin.out, hql]
        exact own_base Hown.out hb1.size
end Go.Proofs.YthlnndjkocnfcaaDoor

/- Laws of single operations in a region that draws its order: a struct is built, loaded. -/
namespace Go.Proofs.YthlnndjkocnfcaaDoor
open Go.RowKit

theorem quiet_bld {w : World} {o : Oper} {a a' : Act} {K : Act → Prop} (t : TypeId) (l : List (Nat × Operand)) (ho : o.op = .build t l.toArray)
    {vals : List (Nat × Value)} {cs : Array Value} (hb : Tryd.prog.built t vals = some cs) (hv : l.map (fun p => (p.1, a.eval p.2)) = vals)
    (ha : a.put o.dst (.agg cs) = a') (hk : K a') : o.quiet Tryd.prog a (fun w' => ∃ y : BelT w, w' = y.at_) K := by
  subst ha hv
  refine ⟨_, ?_, hk⟩
  rintro _ ⟨y, rfl⟩
  have hb' : Tryd.prog.built t (l.toArray.map fun (i, x) => (i, a.eval x)).toList = some cs := by rw [← hb]; simp
  unfold Oper.quietAt execOp
  simp only [ho, Sem.run_bind, run_build y.at_ t _ cs hb', Result.andThen_ok]
  exact ⟨rfl, rfl⟩
/-- a struct of cells l is loaded. -/
theorem quiet_loadL {w : World} {o : Oper} {a a' : Act} {K : Act → Prop} (ty : TypeId) (x : Operand) (ho : o.op = .load ty x) {g off : Nat} (hx : a.eval x = .pointer (some ⟨g, off, none⟩)) {l : List Value} (hB : w.rangeAt g off l)
    {d : TypeDesc} (hu : Tryd.prog.underlying ty = some d) (hd : d.isRow = true) (hi : (Tryd.prog.info? ty).map (·.size) = some l.length)
    (ha : a.put o.dst (.agg l.toArray) = a') (hk : K a') : o.quiet Tryd.prog a (fun w' => ∃ y : BelT w, w' = y.at_) K := by
  subst ha
  refine ⟨_, ?_, hk⟩
  rintro _ ⟨y, rfl⟩
  unfold Oper.quietAt execOp
  have hr : y.at_.rangeAt g off l := fun j v hv => y.cell (hB j v hv)
  simp only [ho, hx, Instr.loadAt, Instr.sureAddr, Sem.run_bind, Sem.run_pure, Result.andThen_ok, run_loadVar_mid y.at_ g off ty l _ hr hu hd hi]
  exact ⟨rfl, rfl⟩
/-- a region that makes one variable: whatever order, what stands behind it. -/
theorem region_cut {P : Program} {c : Code} {Q : Exit → Act → World → Prop} {a : Act} {w : World} {F : Nat → Act} (R : Nat → World → Prop) (h : c.wp P (fun ex a' w' => ex = .normal ∧ ∃ g, a' = F g ∧ R g w') a w) (k : ∀ g w', R g w' → Q .normal (F g) w') : c.wp P Q a w :=
  wp_mono h fun ex a' w' ⟨h1, g, h2, h3⟩ => by rw [h1, h2]; exact k g w' h3
theorem region_cut0 {P : Program} {c : Code} {Q : Exit → Act → World → Prop} {a : Act} {w : World} {F : Act} (R : World → Prop) (h : c.wp P (fun ex a' w' => ex = .normal ∧ a' = F ∧ R w') a w) (k : ∀ w', R w' → Q .normal F w') : c.wp P Q a w :=
  wp_mono h fun ex a' w' ⟨h1, h2, h3⟩ => by rw [h1, h2]; exact k w' h3
theorem gr_of {w w' : World} {row : Option Nat} (h : Below w.heap.size w w') : w.grownBy w' row := ⟨h.os, h.tape, h.output, h.size, fun k hk _ => h.block k hk⟩
theorem gr_st {w w1 w2 : World} {g : Nat} (h : Below w.heap.size w w1) (k : Stays g w1 w2) : w.grownBy w2 (some g) := ⟨k.os.trans h.os, k.tape.trans h.tape, k.output.trans h.output, by rw [k.size]; exact h.size, fun j hj hn => (k.block j (fun e => hn (by rw [e]))).trans (h.block j hj)⟩
end Go.Proofs.YthlnndjkocnfcaaDoor

/- route.Routes and route.Of at any net (printed by mk_srd.py). -/
namespace Go.Proofs.YthlnndjkocnfcaaDoor
open Go.RowKit
attribute [local go_sem] ba_get ext_take ext_drop ext_any ba_app

theorem ret_rtE {fn : Func} {p q : Tmp} (h : fn.results = #[.cell p 42, .tmp q]) {R : Ending → World → Prop} {a : Act} {w : World} {g : Nat} {t : TypeId} {b : Rt} {v : Value}
    (hp : a.tmps.getD p undef = .pointer (some ⟨g, 0, none⟩)) (hq : a.tmps.getD q undef = v) (hB : Bk w g t (rtA b)) (hd : a.defers = []) (hR : R (.returned (.tuple #[.agg (rtA b), v])) w) : bodyPost Tryd.prog fn R .ret a w := by
  refine bodyPost_ret_by (v := .tuple #[.agg (rtA b), v]) ?_ hd hR
  have hp' : a.tmps[p]?.getD undef = .pointer (some ⟨g, 0, none⟩) := by simpa using hp
  have hq' : a.tmps[q]?.getD undef = v := by simpa using hq
  simp [results, h, hp', hq', asAddr, run_loadVar_row (P := Tryd.prog) w g t 42 (rtA b) (0, 0) _ hB rt_under rfl (rt_size' b)]
set_option maxRecDepth 100000 in
set_option maxHeartbeats 4000000 in
theorem routes_any (vi vr vp : Value) (N : Nt) (w : World) (hN : NetRaw w vi vr vp N) (hl : N.R.length ≤ 1000000) : Calls Tryd.prog 23 #[.agg #[vi, vr, vp]] w (RtsPost w (rtN N.R)) := by
  have h0 := hN.r
  clear hN
  generalize N.R = L at *
  obtain ⟨A, c, rfl, hc⟩ := h0.any
  have H := Lib.hid h0
  clear h0 hc
  go_enter Tryd.func23, Tryd.ntmps23
  go_wp2_with (first
    | ((with_reducible refine wpList_boxB rfl _ _ rfl rfl ?_); intro g1 w1 hg hB1 hb1 hs; have c2 : w1.cell? ⟨g1, 1, none⟩ = some (.slice A L.length c) := hB1.cell 1; clear hg hs))
  have H1 := Lib.hid (H.out.below hb1)
  go_loopw [3, 9] (fun v i wr => ∃ k : Nat, k ≤ L.length ∧ i = .int .i64 k ∧ FltRel w1 42 21 rtL okR 32 L k v wr) (fun _ i _ => L.length - (intOf i).toNat)
  case atStart => exact ⟨0, Nat.zero_le _, rfl, by simp, by simpa using World.ownsRow_nil w1 w1.heap.size 42 21, Below.refl _ _⟩
  case round =>
    obtain ⟨k, hk, rfl, hcnt, hown, hbel⟩ := hrel
    obtain ⟨ao, co, rfl⟩ := own_anyF hown
    have Hown := Lib.hid hown
    clear hown c2
    by_cases hlt : k < L.length
    · obtain ⟨b, off, c, hv, hc, hbl, hcell⟩ := H1.out.pos (by omega)
      injection hv with hv1 _ hv2
      subst hv1 hv2
      have hR := range_of rtL_len hcell hlt
      have HR : Hid (wr.rangeAt b (off + k * 21) (rtL L[k])) := Lib.hid (fun j u hu => ((hbel.cell (p := ⟨b, off + k * 21 + j, none⟩) hbl).trans (hR j u hu)))
      clear hR hcell hbl
      have hltI : (k : Int) < (L.length : Int) := by omega
      by_cases hst : 32 ≤ ((L.take k).filter okR).length
      · have hfin : leftF okR 32 L = (L.take k).filter okR := by rw [leftF_stop hst, List.take_of_length_le hcnt]
        have Hfin : Hid (rtN L = (L.take k).filter okR) := Lib.hid hfin
        clear hfin
        generalize (L.take k).filter okR = Q at *
        have i15 : ((Q.length : Int) == 32) = true := by rw [beq_iff_eq]; omega
        generalize hql : Q.length = q at *
        go_wp2_with (first
          | (with_reducible refine wpList_loadM_rt rfl _ rfl rfl HR.out ?_)
          | ((with_reducible refine wpList_alloc_rt rfl rfl ?_); intro g2 w2 hg hB2 hb2 hs; have hg2 : wr.heap.size ≤ g2 := Nat.le_of_eq hg.symm; clear hg hs)
          | ((with_reducible refine wpList_store_rt rfl _ _ rfl rfl rfl hB2 ?_); intro w4 hB4 hS4))
        go_ret
        have hb4 : Below wr.heap.size wr w4 := hb2.trans (hS4.below (by omega))
        refine ⟨_, rfl, ?_, bel_tr hb1 (hbel.trans (hb4.mono hbel.size))⟩
        rw [Hfin.out, hql]
        exact own_base (own_below Hown.out hb4) hb1.size
      · have hst2 : ((L.take k).filter okR).length < 32 := by omega
        have hnx := filt_next (p := okR) hlt
        have Hnx := Lib.hid hnx
        clear hnx hst
        generalize hp : L[k] = p at *
        generalize hQ : (L.take k).filter okR = Q at *
        have i15 : ((Q.length : Int) == 32) = false := by rw [beq_eq_false_iff_ne]; omega
        have Hbd : Hid (Q.length < 32) := Lib.hid hst2
        have hok : ∀ y : Bool, (chkP p.pf == 0) = y → okR p = y := by intro y hy; unfold okR; exact hy
        have Hok := Lib.hid hok
        clear hok hst2 hp hQ
        have HH : Hid (∀ w, Calls Tryd.prog 32 #[.agg (pfA p.pf)] w fun e w' => e = .returned (.int .i64 (chkP p.pf)) ∧ Below w.heap.size w w') := Lib.hid (holds_any p.pf)
        generalize hch : chkP p.pf = ch at *
        clear hch
        cases i0 : (ch == 0)
        all_goals
          have Ho := Lib.hid (Hok.out _ i0)
          clear Hok
          go_wp2_with (first
            | (with_reducible refine wpList_loadM_rt rfl _ rfl rfl HR.out ?_)
            | ((with_reducible refine wpList_alloc_rt rfl rfl ?_); intro g2 w2 hg hB2 hb2 hs; have hg2 : wr.heap.size ≤ g2 := Nat.le_of_eq hg.symm; clear hg hs)
            | ((with_reducible refine wpList_store_rt (o := ⟨none, _, _, _, _, _⟩) rfl _ _ rfl rfl rfl hB2 ?_); intro w4 hB4 hS4; have hb4 : Below wr.heap.size wr w4 := hb2.trans (hS4.below (by omega)); have hq4 := hB4.rangehd_rt; have HX : Hid (Bk w4 g2 42 (rtA p) ∧ Below wr.heap.size wr w4) := Lib.hid ⟨hB4, hb4⟩; clear hB4 hb4 hB2 hb2 hS4 hg2)
            | (with_reducible refine wpList_loadPfM (o := ⟨some 17, _, _, _, _, _⟩) rfl _ rfl rfl hq4 ?_)
            | (go_at_call 32; refine (HH.out _).mono ?_; rintro e w5 ⟨rfl, hb5⟩; have HX5 : Hid (Bk w5 g2 42 (rtA p) ∧ Below wr.heap.size wr w5) := Lib.hid ⟨HX.out.1.bel hb5, bel_tr HX.out.2 hb5⟩; clear HX hq4 hb5; have HX := HX5; clear HX5)
            | (with_reducible refine wpList_load_rt (o := ⟨some 21, _, _, _, _, _⟩) rfl _ rfl rfl HX.out.1 ?_)
            | ((with_reducible show wpList _ _ _ (⟨some 22, _, _, _, _, _⟩ :: _) _ _); refine wpList_lit (o := ⟨some 22, _, _, _, _, _⟩) rfl _ _ rfl elt_rt [.agg (rtA p)] rfl (by decide) (by decide) (fun v hv => by rw [List.mem_singleton.1 hv]; exact rtA_size _) rfl ?_; intro w6 hB6 hx6 hb6 hs6; clear hx6 hs6; have hb06 := bel_tr HX.out.2 hb6; have hB6 := bk_list (l := rtL p) hB6 rfl)
            | (at_builtin; refine wpList_app rfl (.tmp 20) (.tmp 22) _ rfl elt_rt rfl (own_below Hown.out hb06) rfl (hB6.sl (size := 21) (n := 1) (rtL_len _) 1 (Nat.le_refl _)) (rtL_one _) (Nat.le_trans hbel.size hb06.size) (by have := Hbd.out; omega) (by have := Hbd.out; omega) ?_; intro v7 w7 ho7 hb7 hg7; clear hg7))
          skip
        · go_roundw
          case rel =>
            refine ⟨k + 1, by omega, by go_num, ?_⟩
            unfold FltRel
            rw [Hnx.out, if_neg (by rw [Ho.out]; decide), List.append_nil]
            exact ⟨Nat.le_of_lt Hbd.out, own_below Hown.out HX.out.2, hbel.trans (HX.out.2.mono hbel.size)⟩
          case measure => simp [intOf]; omega
        · go_roundw
          case rel =>
            refine ⟨k + 1, by omega, by go_num, ?_⟩
            unfold FltRel
            rw [Hnx.out, if_pos Ho.out, List.length_append, List.flatMap_append]
            refine ⟨by have := Hbd.out; simp; omega, ?_, (hbel.trans (hb06.mono hbel.size)).trans hb7⟩
            simpa using ho7
          case measure => simp [intOf]; omega
    · have hkl : k = L.length := by omega
      subst hkl
      have hfin : leftF okR 32 L = (L.take L.length).filter okR := by rw [leftF, List.take_length, List.take_of_length_le (by rw [List.take_length] at hcnt; exact hcnt)]
      have Hfin : Hid (rtN L = (L.take L.length).filter okR) := Lib.hid hfin
      clear hfin
      generalize (L.take L.length).filter okR = Q at *
      generalize hql : Q.length = q at *
      go_wp2
      go_ret
      refine ⟨_, rfl, ?_, bel_tr hb1 hbel⟩
      rw [Hfin.out, hql]
      exact own_base Hown.out hb1.size

/-! ### route.Of -/
theorem bits_ok (a : Ad) : -9223372036854775808 ≤ bitsA a ∧ bitsA a ≤ 9223372036854775807 := by
  unfold bitsA
  split
  · omega
  · split <;> omega
def fR (a : Ad) (r : Rt) : Bool := withB a r.pf
def gR (r : Rt) : Int := r.pf.bits
/-- the way by the address's own Zone. -/
def zoneR (a : Ad) : Rt := ⟨⟨a, bitsA a, bits_ok a⟩, a.zone, false, a.ok.2.2⟩
/-- the way to an address, and whether there is one. -/
def wayP (a : Ad) (R : List Rt) : Rt × Bool := if chkA a ≠ 0 then (rt0, false) else if a.fam = 6 ∧ 0 < a.zone then (zoneR a, true) else ((bst (fR a) gR R).getD rt0, (bst (fR a) gR R).isSome)
theorem bst_takeR {a : Ad} {R : List Rt} {k : Nat} (hk : k < R.length) : bst (fR a) gR (R.take (k + 1)) = bstp (fR a) gR (bst (fR a) gR (R.take k)) R[k] := by
  rw [List.take_add_one, List.getElem?_eq_getElem hk]
  exact bst_snoc _ _ _ _
structure WayRel (w : World) (g3 g4 g6 : Nat) (A : Ad) (An : Option Addr) (R : List Rt) (lo : Nat) (o : Option Rt) (wr : World) : Prop where
  b3 : Bk wr g3 29 (adA A)
  b4 : Bk wr g4 42 (rtA rt0)
  b6 : Bk wr g6 42 (rtA (o.getD rt0))
  r : SRow rtL 21 wr An R lo
  b : Below w.heap.size w wr
def WayPost (w : World) (x : Rt × Bool) (e : Ending) (w' : World) : Prop := e = .returned (.tuple #[.agg (rtA x.1), .bool x.2]) ∧ Below w.heap.size w w'
theorem built_rt0 : Tryd.prog.built 42 [] = some (rtA rt0) := by kernel_rfl
theorem built_zr (y : Pf) (z : Int) (h : -9223372036854775808 ≤ z ∧ z ≤ 9223372036854775807) : Tryd.prog.built 42 [(0, .agg (pfA y)), (1, .int .i64 z)] = some (rtA ⟨y, z, false, h⟩) := by
  obtain ⟨⟨fam, ip, zone, ok⟩, bits, okb⟩ := y
  obtain ⟨c0, c1, c2, c3, c4, c5, c6, c7, c8, c9, c10, c11, c12, c13, c14, c15, rfl⟩ := len16 ok.1
  kernel_rfl
set_option maxRecDepth 100000 in
set_option maxHeartbeats 4000000 in
theorem way_loop (vi vr vp : Value) (N : Nt) (a : Ad) (w : World) (hN : NetRaw w vi vr vp N) (hl : N.R.length ≤ 1000000) (hc : chkA a = 0) (hz : ¬ (a.fam = 6 ∧ 0 < a.zone)) :
    Calls Tryd.prog 13 #[.agg #[vi, vr, vp], .agg (adA a)] w (WayPost w (wayP a (rtN N.R))) := by
  have HN := Lib.hid hN
  have Hns := Lib.hid (show (Tryd.prog.info? 26).map (·.size) = some (#[vi, vr, vp] : Array Value).size from net_size)
  have hRl : (rtN N.R).length ≤ 32 := by unfold rtN leftF; rw [List.length_take]; omega
  have HRts : Hid (∀ w', NetRaw w' vi vr vp N → Calls Tryd.prog 23 #[.agg #[vi, vr, vp]] w' (RtsPost w' (rtN N.R))) := Lib.hid (fun w' h' => routes_any vi vr vp N w' h' hl)
  generalize rtN N.R = R at *
  have Hof : Hid (wayP a R = ((bst (fR a) gR R).getD rt0, (bst (fR a) gR R).isSome)) := Lib.hid (by unfold wayP; rw [if_neg (by simpa using hc), if_neg hz])
  have Hc := Lib.hid hc
  have hz6 : (a.fam == 6) = false ∨ ((a.fam == 6) = true ∧ decide (0 < a.zone) = false) := by
    by_cases h6 : a.fam = 6
    · right; exact ⟨by simpa using h6, decide_eq_false (fun h => hz ⟨h6, h⟩)⟩
    · left; simpa using h6
  clear hN hc hz hl
  rcases hz6 with h6 | ⟨h6, hz⟩
  all_goals
    go_enter Tryd.func13, Tryd.ntmps13
    go_wp2_with (first
      | ((with_reducible refine wpList_boxB (o := ⟨some 2, _, _, _, _, _⟩) rfl _ _ rfl rfl ?_); intro g2 w1 hg hB2 hb1 hs; have hg2 : w.heap.size ≤ g2 := Nat.le_of_eq hg.symm; clear hg hs)
      | ((with_reducible refine wpList_boxB (o := ⟨some 3, _, _, _, _, _⟩) rfl _ _ rfl rfl ?_); intro g3 w2 hg hB3 hb2 hs; have hg3 : w1.heap.size ≤ g3 := Nat.le_of_eq hg.symm; have hB22 := hB2.bel hb2; have hb02 := bel_tr hb1 hb2; clear hg hs)
      | ((with_reducible refine wpList_alloc_rt (o := ⟨some 4, _, _, _, _, _⟩) rfl rfl ?_); intro g4 w3 hg hB4 hb3 hs; have hg4 : w2.heap.size ≤ g4 := Nat.le_of_eq hg.symm; have hB23 := hB22.bel hb3; have hB33 := hB3.bel hb3; have hb03 := bel_tr hb02 hb3; clear hg hs)
      | (with_reducible refine wpList_loadAd (o := ⟨some 10, _, _, _, _, _⟩) rfl _ rfl rfl hB33 ?_)
      | (go_at_call 21; refine (acheck_any a _).mono ?_; rintro e w4 ⟨rfl, hb4⟩; rw [Hc.out]; have hB24 := hB23.bel hb4; have hB34 := hB33.bel hb4; have hB44 := hB4.bel hb4; have hb04 := bel_tr hb03 hb4
         have c0 := hB34.cell 0; rw [adA_0] at c0
         have c17 := hB34.cell 17; rw [adA_17] at c17)
      | ((with_reducible refine wpList_alloc_rt (o := ⟨some 6, _, _, _, _, _⟩) rfl rfl ?_); intro g6 w5 hg hB6 hb5 hs; have hg6 : w4.heap.size ≤ g6 := Nat.le_of_eq hg.symm; have hl6 := hB6.lt; have hB25 := hB24.bel hb5; have hB35 := hB34.bel hb5; have hB45 := hB44.bel hb5; have hb05 := bel_tr hb04 hb5; clear hg hs c0 c17)
      | (with_reducible refine wpList_loadB (o := ⟨some 29, _, _, _, _, _⟩) rfl _ _ rfl rfl hB25 net_under rfl Hns.out ?_)
      | (go_at_call 23; refine (HRts.out _ (HN.out.below hb05)).mono ?_; rintro e w8 ⟨v8, rfl, ho8, hb8⟩; obtain ⟨A8, c8, rfl, hc8⟩ := (Sl.own ho8).any; have hr8 := SRow.own rtL_len ho8; have hX8 := hB35.bel hb8; have hZ8 := hB45.bel hb8; have hB68 := hB6.bel hb8; have hb08 := bel_tr hb05 hb8))
    have hlo : g3 < g4 ∧ g4 < g6 ∧ g6 < w5.heap.size ∧ w.heap.size ≤ g3 := ⟨by have := hB3.lt; omega, by have := hB44.lt; omega, hl6, by have := hb1.size; omega⟩
    generalize w5.heap.size = lo at *
    have R0 : WayRel w g3 g4 g6 a A8 R lo (bst (fR a) gR (R.take 0)) w8 := ⟨hX8, hZ8, hB68, hr8, hb08⟩
    clear hB2 hB22 hB23 hB24 hB25 hB3 hB33 hB34 hB35 hB4 hB44 hB45 hB6 hB68 hX8 hZ8 hb1 hb2 hb3 hb4 hb5 hb8 hb02 hb03 hb04 hb05 hb08 ho8 hr8 hg2 hg3 hg4 hg6 hl6
    go_loopw [7, 32] (fun f i wr => ∃ (k : Nat) (o : Option Rt), k ≤ R.length ∧ i = .int .i64 k ∧ o = bst (fR a) gR (R.take k) ∧ f = .bool o.isSome ∧ WayRel w g3 g4 g6 a A8 R lo o wr) (fun _ i _ => R.length - (intOf i).toNat)
    case atStart => exact ⟨0, _, by omega, rfl, rfl, rfl, R0⟩
    case round =>
      obtain ⟨k, o, hk, rfl, ho, rfl, r3, r4, r6, rr, rb⟩ := hrel
      clear R0
      by_cases hlt : k < R.length
      · obtain ⟨b, off, rfl, hblo, hblt, hrg⟩ := rr k hlt
        have j0 : (k : Int) < (R.length : Int) := by omega
        have hnx := bst_takeR (a := a) hlt
        rw [← ho] at hnx
        generalize hp : R[k] = p at *
        have Hnx := Lib.hid hnx
        clear hnx ho
        have HW : Hid (∀ w, Calls Tryd.prog 24 #[.agg (adA a), .agg (pfA p.pf)] w fun e w' => e = .returned (.bool (withB a p.pf)) ∧ Below w.heap.size w w') := Lib.hid (within_any a p.pf)
        have hcs : (fR a p = false ∧ bstp (fR a) gR o p = o) ∨ (fR a p = true ∧ o = none ∧ bstp (fR a) gR o p = some p) ∨ (∃ x, fR a p = true ∧ o = some x ∧ x.pf.bits < p.pf.bits ∧ bstp (fR a) gR o p = some p) ∨ (∃ x, fR a p = true ∧ o = some x ∧ ¬ x.pf.bits < p.pf.bits ∧ bstp (fR a) gR o p = some x) := by
          cases hf : fR a p with
          | false => left; refine ⟨rfl, ?_⟩; cases o <;> simp [bstp, hf]
          | true =>
            right
            cases o with
            | none => left; refine ⟨rfl, rfl, ?_⟩; simp [bstp, hf]
            | some x =>
              right
              by_cases hg : x.pf.bits < p.pf.bits
              · left; exact ⟨x, rfl, rfl, hg, by simp [bstp, hf, gR, hg]⟩
              · right; exact ⟨x, rfl, rfl, hg, by simp [bstp, hf, gR, hg]⟩
        have HfW : Hid (fR a p = withB a p.pf) := Lib.hid rfl
        clear hp
        rcases hcs with ⟨hf, hst⟩ | ⟨hf, ho, hst⟩ | ⟨x, hf, ho, hgt, hst⟩ | ⟨x, hf, ho, hgt, hst⟩

        · have Hst := Lib.hid (Hnx.out.trans hst)
          have Hwb := Lib.hid (HfW.out.symm.trans hf)
          generalize withB a p.pf = wb at *
          clear hst hf Hnx HfW
          have c6 := r6.cell 18
          rw [rtA_18] at c6
          go_wp2_with (first
            | (with_reducible refine wpList_loadM_rt (o := ⟨some 35, _, _, _, _, _⟩) rfl _ rfl rfl hrg ?_)
            | ((with_reducible refine wpList_alloc_rt (o := ⟨some 9, _, _, _, _, _⟩) rfl rfl ?_); intro g9 w9 hg hB9 hb9 hs; have hg9 : wr.heap.size ≤ g9 := Nat.le_of_eq hg.symm; clear hg hs)
            | ((with_reducible refine wpList_store_rt (o := ⟨none, _, _, _, _, _⟩) rfl (.tmp 9) _ rfl rfl rfl hB9 ?_); intro wa hB9a hSa; have hba : Below wr.heap.size wr wa := hb9.trans (hSa.below hg9); have r3a := r3.bel hba; have hq9 := hB9a.rangehd_rt; have d9 := hB9a.cell 18; rw [rtA_18] at d9; have d6 := (r6.bel hba).cell 18; rw [rtA_18] at d6)
            | (with_reducible refine wpList_loadAd (o := ⟨some 36, _, _, _, _, _⟩) rfl _ rfl rfl r3a ?_)
            | (with_reducible refine wpList_loadPfM (o := ⟨some 38, _, _, _, _, _⟩) rfl _ rfl rfl hq9 ?_)
            | (go_at_call 24; refine (HW.out _).mono ?_; rintro e wb' ⟨rfl, hbb⟩; rw [Hwb.out]; have hbw := bel_tr hba hbb; have d9b := (hB9a.bel hbb).cell 18; rw [rtA_18] at d9b; have r6b := r6.bel hbw; have d6b := r6b.cell 18; rw [rtA_18] at d6b; have hB9b := hB9a.bel hbb))
          go_roundw
          case rel =>
            refine ⟨k + 1, o, by omega, by go_num, Hst.out.symm, rfl, ?_⟩
            exact ⟨r3.bel hbw, r4.bel hbw, r6b, rr.bel hbw, bel_tr rb hbw⟩
          case measure => simp [intOf]; omega
        · have Hst := Lib.hid (Hnx.out.trans hst)
          have Hwb := Lib.hid (HfW.out.symm.trans hf)
          generalize withB a p.pf = wb at *
          clear hst hf Hnx HfW
          subst ho
          have c6 := r6.cell 18
          rw [rtA_18] at c6
          go_wp2_with (first
            | (with_reducible refine wpList_loadM_rt (o := ⟨some 35, _, _, _, _, _⟩) rfl _ rfl rfl hrg ?_)
            | ((with_reducible refine wpList_alloc_rt (o := ⟨some 9, _, _, _, _, _⟩) rfl rfl ?_); intro g9 w9 hg hB9 hb9 hs; have hg9 : wr.heap.size ≤ g9 := Nat.le_of_eq hg.symm; clear hg hs)
            | ((with_reducible refine wpList_store_rt (o := ⟨none, _, _, _, _, _⟩) rfl (.tmp 9) _ rfl rfl rfl hB9 ?_); intro wa hB9a hSa; have hba : Below wr.heap.size wr wa := hb9.trans (hSa.below hg9); have r3a := r3.bel hba; have hq9 := hB9a.rangehd_rt; have d9 := hB9a.cell 18; rw [rtA_18] at d9; have d6 := (r6.bel hba).cell 18; rw [rtA_18] at d6)
            | (with_reducible refine wpList_loadAd (o := ⟨some 36, _, _, _, _, _⟩) rfl _ rfl rfl r3a ?_)
            | (with_reducible refine wpList_loadPfM (o := ⟨some 38, _, _, _, _, _⟩) rfl _ rfl rfl hq9 ?_)
            | (go_at_call 24; refine (HW.out _).mono ?_; rintro e wb' ⟨rfl, hbb⟩; rw [Hwb.out]; have hbw := bel_tr hba hbb; have d9b := (hB9a.bel hbb).cell 18; rw [rtA_18] at d9b; have r6b := r6.bel hbw; have d6b := r6b.cell 18; rw [rtA_18] at d6b; have hB9b := hB9a.bel hbb)
            | (with_reducible refine wpList_load_rt (o := ⟨some 53, _, _, _, _, _⟩) rfl _ rfl rfl hB9b ?_)
            | ((with_reducible refine wpList_store_rt (o := ⟨none, _, _, _, _, _⟩) rfl (.tmp 6) _ rfl rfl rfl r6b ?_); intro wc hB6c hSc; have hszc := hSc.size))
          go_roundw
          case rel =>
            refine ⟨k + 1, some p, by omega, by go_num, Hst.out.symm, rfl, ?_⟩
            exact ⟨(r3.bel hbw).stays hSc (by omega), (r4.bel hbw).stays hSc (by omega), hB6c, (rr.bel hbw).stays hSc (by omega), (bel_tr rb hbw).trans (hSc.below (by omega))⟩
          case measure => simp [intOf]; omega
        · have Hst := Lib.hid (Hnx.out.trans hst)
          have Hwb := Lib.hid (HfW.out.symm.trans hf)
          generalize withB a p.pf = wb at *
          clear hst hf Hnx HfW
          subst ho
          have i1 : decide (x.pf.bits < p.pf.bits) = true := decide_eq_true hgt
          clear hgt
          have c6 := r6.cell 18
          rw [rtA_18] at c6
          go_wp2_with (first
            | (with_reducible refine wpList_loadM_rt (o := ⟨some 35, _, _, _, _, _⟩) rfl _ rfl rfl hrg ?_)
            | ((with_reducible refine wpList_alloc_rt (o := ⟨some 9, _, _, _, _, _⟩) rfl rfl ?_); intro g9 w9 hg hB9 hb9 hs; have hg9 : wr.heap.size ≤ g9 := Nat.le_of_eq hg.symm; clear hg hs)
            | ((with_reducible refine wpList_store_rt (o := ⟨none, _, _, _, _, _⟩) rfl (.tmp 9) _ rfl rfl rfl hB9 ?_); intro wa hB9a hSa; have hba : Below wr.heap.size wr wa := hb9.trans (hSa.below hg9); have r3a := r3.bel hba; have hq9 := hB9a.rangehd_rt; have d9 := hB9a.cell 18; rw [rtA_18] at d9; have d6 := (r6.bel hba).cell 18; rw [rtA_18] at d6)
            | (with_reducible refine wpList_loadAd (o := ⟨some 36, _, _, _, _, _⟩) rfl _ rfl rfl r3a ?_)
            | (with_reducible refine wpList_loadPfM (o := ⟨some 38, _, _, _, _, _⟩) rfl _ rfl rfl hq9 ?_)
            | (go_at_call 24; refine (HW.out _).mono ?_; rintro e wb' ⟨rfl, hbb⟩; rw [Hwb.out]; have hbw := bel_tr hba hbb; have d9b := (hB9a.bel hbb).cell 18; rw [rtA_18] at d9b; have r6b := r6.bel hbw; have d6b := r6b.cell 18; rw [rtA_18] at d6b; have hB9b := hB9a.bel hbb)
            | (with_reducible refine wpList_load_rt (o := ⟨some 53, _, _, _, _, _⟩) rfl _ rfl rfl hB9b ?_)
            | ((with_reducible refine wpList_store_rt (o := ⟨none, _, _, _, _, _⟩) rfl (.tmp 6) _ rfl rfl rfl r6b ?_); intro wc hB6c hSc; have hszc := hSc.size))
          go_roundw
          case rel =>
            refine ⟨k + 1, some p, by omega, by go_num, Hst.out.symm, rfl, ?_⟩
            exact ⟨(r3.bel hbw).stays hSc (by omega), (r4.bel hbw).stays hSc (by omega), hB6c, (rr.bel hbw).stays hSc (by omega), (bel_tr rb hbw).trans (hSc.below (by omega))⟩
          case measure => simp [intOf]; omega
        · have Hst := Lib.hid (Hnx.out.trans hst)
          have Hwb := Lib.hid (HfW.out.symm.trans hf)
          generalize withB a p.pf = wb at *
          clear hst hf Hnx HfW
          subst ho
          have i1 : decide (x.pf.bits < p.pf.bits) = false := decide_eq_false hgt
          clear hgt
          have c6 := r6.cell 18
          rw [rtA_18] at c6
          go_wp2_with (first
            | (with_reducible refine wpList_loadM_rt (o := ⟨some 35, _, _, _, _, _⟩) rfl _ rfl rfl hrg ?_)
            | ((with_reducible refine wpList_alloc_rt (o := ⟨some 9, _, _, _, _, _⟩) rfl rfl ?_); intro g9 w9 hg hB9 hb9 hs; have hg9 : wr.heap.size ≤ g9 := Nat.le_of_eq hg.symm; clear hg hs)
            | ((with_reducible refine wpList_store_rt (o := ⟨none, _, _, _, _, _⟩) rfl (.tmp 9) _ rfl rfl rfl hB9 ?_); intro wa hB9a hSa; have hba : Below wr.heap.size wr wa := hb9.trans (hSa.below hg9); have r3a := r3.bel hba; have hq9 := hB9a.rangehd_rt; have d9 := hB9a.cell 18; rw [rtA_18] at d9; have d6 := (r6.bel hba).cell 18; rw [rtA_18] at d6)
            | (with_reducible refine wpList_loadAd (o := ⟨some 36, _, _, _, _, _⟩) rfl _ rfl rfl r3a ?_)
            | (with_reducible refine wpList_loadPfM (o := ⟨some 38, _, _, _, _, _⟩) rfl _ rfl rfl hq9 ?_)
            | (go_at_call 24; refine (HW.out _).mono ?_; rintro e wb' ⟨rfl, hbb⟩; rw [Hwb.out]; have hbw := bel_tr hba hbb; have d9b := (hB9a.bel hbb).cell 18; rw [rtA_18] at d9b; have r6b := r6.bel hbw; have d6b := r6b.cell 18; rw [rtA_18] at d6b; have hB9b := hB9a.bel hbb))
          go_roundw
          case rel =>
            refine ⟨k + 1, some x, by omega, by go_num, Hst.out.symm, rfl, ?_⟩
            exact ⟨r3.bel hbw, r4.bel hbw, r6b, rr.bel hbw, bel_tr rb hbw⟩
          case measure => simp [intOf]; omega
      · have hkR : k = R.length := by omega
        subst hkR
        have j0 : ¬ (R.length : Int) < (R.length : Int) := by omega
        rw [List.take_length] at ho
        rw [← ho] at Hof
        clear ho
        go_wp2_with (first
          | (with_reducible refine wpList_load_rt (o := ⟨some 55, _, _, _, _, _⟩) rfl _ rfl rfl r6 ?_)
          | ((with_reducible refine wpList_store_rt (o := ⟨none, _, _, _, _, _⟩) rfl (.tmp 4) _ rfl rfl rfl r4 ?_); intro wc hB4c hSc))
        exact ret_rtE Tryd.results13 rfl rfl hB4c rfl ⟨by rw [Hof.out]; rfl, rb.trans (hSc.below (by omega))⟩
set_option maxRecDepth 100000 in
set_option maxHeartbeats 4000000 in
theorem way_none (vi vr vp : Value) (a : Ad) (w : World) (R : List Rt) (hc : chkA a ≠ 0) :
    Calls Tryd.prog 13 #[.agg #[vi, vr, vp], .agg (adA a)] w (WayPost w (wayP a R)) := by
  have Hof : Hid (wayP a R = (rt0, false)) := Lib.hid (by unfold wayP; rw [if_pos hc])
  have i0 : (chkA a != 0) = true := by simpa using hc
  generalize hch : chkA a = ch at *
  have Hch := Lib.hid hch
  clear hch hc
  go_enter Tryd.func13, Tryd.ntmps13
  go_wp2_with (first
    | ((with_reducible refine wpList_boxB (o := ⟨some 2, _, _, _, _, _⟩) rfl _ _ rfl rfl ?_); intro g2 w1 hg hB2 hb1 hs; have hg2 : w.heap.size ≤ g2 := Nat.le_of_eq hg.symm; clear hg hs)
    | ((with_reducible refine wpList_boxB (o := ⟨some 3, _, _, _, _, _⟩) rfl _ _ rfl rfl ?_); intro g3 w2 hg hB3 hb2 hs; have hg3 : w1.heap.size ≤ g3 := Nat.le_of_eq hg.symm; have hb02 := bel_tr hb1 hb2; clear hg hs)
    | ((with_reducible refine wpList_alloc_rt (o := ⟨some 4, _, _, _, _, _⟩) rfl rfl ?_); intro g4 w3 hg hB4 hb3 hs; have hg4 : w2.heap.size ≤ g4 := Nat.le_of_eq hg.symm; have hB33 := hB3.bel hb3; have hb03 := bel_tr hb02 hb3; have hw4 : w.heap.size ≤ g4 := Nat.le_trans hb02.size hg4; clear hg hs)
    | (with_reducible refine wpList_loadAd (o := ⟨some 10, _, _, _, _, _⟩) rfl _ rfl rfl hB33 ?_)
    | (go_at_call 21; refine (acheck_any a _).mono ?_; rintro e w4 ⟨rfl, hb4⟩; rw [Hch.out]; have hB44 := hB4.bel hb4; have hb04 := bel_tr hb03 hb4)
    | (with_reducible refine wpList_buildL (o := ⟨some 13, _, _, _, _, _⟩) rfl 42 _ rfl built_rt0 rfl ?_)
    | ((with_reducible refine wpList_store_rt (o := ⟨none, _, _, _, _, _⟩) rfl (.tmp 4) _ rfl rfl rfl hB44 ?_); intro wc hB4c hSc))
  exact ret_rtE Tryd.results13 rfl rfl hB4c rfl ⟨by rw [Hof.out]; rfl, hb04.trans (hSc.below hw4)⟩
set_option maxRecDepth 100000 in
set_option maxHeartbeats 4000000 in
theorem way_zone (vi vr vp : Value) (a : Ad) (w : World) (R : List Rt) (hc : chkA a = 0) (hz : a.fam = 6 ∧ 0 < a.zone) :
    Calls Tryd.prog 13 #[.agg #[vi, vr, vp], .agg (adA a)] w (WayPost w (wayP a R)) := by
  have Hof : Hid (wayP a R = (zoneR a, true)) := Lib.hid (by unfold wayP; rw [if_neg (by simpa using hc), if_pos hz])
  have Hc := Lib.hid hc
  have i6 : (a.fam == 6) = true := by simpa using hz.1
  have iz : decide (0 < a.zone) = true := decide_eq_true hz.2
  have H1 := Lib.hid (built_pf a (bitsA a) (bits_ok a))
  have H2 := Lib.hid (built_zr ⟨a, bitsA a, bits_ok a⟩ a.zone a.ok.2.2)
  have HP : Hid ((⟨⟨a, bitsA a, bits_ok a⟩, a.zone, false, a.ok.2.2⟩ : Rt) = zoneR a) := Lib.hid rfl
  generalize hF : (⟨a, bitsA a, bits_ok a⟩ : Pf) = F at *
  rw [HP.out] at H2
  clear HP hF
  have HBt : Hid (∀ w, Calls Tryd.prog 22 #[.agg (adA a)] w fun e w' => e = .returned (.int .i64 (bitsA a)) ∧ Below w.heap.size w w') := Lib.hid (abits_any a)
  generalize bitsA a = bi at *
  generalize zoneR a = Z at *
  clear hc hz
  go_enter Tryd.func13, Tryd.ntmps13
  go_wp2_with (first
    | ((with_reducible refine wpList_boxB (o := ⟨some 2, _, _, _, _, _⟩) rfl _ _ rfl rfl ?_); intro g2 w1 hg hB2 hb1 hs; have hg2 : w.heap.size ≤ g2 := Nat.le_of_eq hg.symm; clear hg hs)
    | ((with_reducible refine wpList_boxB (o := ⟨some 3, _, _, _, _, _⟩) rfl _ _ rfl rfl ?_); intro g3 w2 hg hB3 hb2 hs; have hg3 : w1.heap.size ≤ g3 := Nat.le_of_eq hg.symm; have hb02 := bel_tr hb1 hb2; clear hg hs)
    | ((with_reducible refine wpList_alloc_rt (o := ⟨some 4, _, _, _, _, _⟩) rfl rfl ?_); intro g4 w3 hg hB4 hb3 hs; have hg4 : w2.heap.size ≤ g4 := Nat.le_of_eq hg.symm; have hB33 := hB3.bel hb3; have hb03 := bel_tr hb02 hb3; have hw4 : w.heap.size ≤ g4 := Nat.le_trans hb02.size hg4; clear hg hs)
    | (with_reducible refine wpList_loadAd (o := ⟨some 10, _, _, _, _, _⟩) rfl _ rfl rfl hB33 ?_)
    | (go_at_call 21; refine (acheck_any a _).mono ?_; rintro e w4 ⟨rfl, hb4⟩; rw [Hc.out]; have hB34 := hB33.bel hb4; have hB44 := hB4.bel hb4; have hb04 := bel_tr hb03 hb4
       have c0 := hB34.cell 0; rw [adA_0] at c0
       have c17 := hB34.cell 17; rw [adA_17] at c17))
  have hR := hB34.rangeAd
  have x17 := fun x : BelT w4 => x.cell c17
  refine wp_region_bel_tail 7 (by kernel_rfl) (by kernel_rfl) ?_
  simp only [List.take_succ_cons, List.take_zero, List.drop_succ_cons, List.drop_zero]
  repeat (first
    | go_big_quiet_skip
    | (go_big_quiet_want; first
        | (refine quiet_loadAd _ rfl rfl hR (by simp only [Act.put, List.setIfInBounds_toArray, List.set_cons_succ, List.set_cons_zero]; exact rfl) ?_; go_big_quiet_on)
        | (refine quiet_bld (o := ⟨some 25, _, _, _, _, _⟩) 40 _ rfl H1.out rfl (by simp only [Act.put, List.setIfInBounds_toArray, List.set_cons_succ, List.set_cons_zero]; exact rfl) ?_; go_big_quiet_on)
        | (refine quiet_bld (o := ⟨some 28, _, _, _, _, _⟩) 42 _ rfl H2.out rfl (by simp only [Act.put, List.setIfInBounds_toArray, List.set_cons_succ, List.set_cons_zero]; exact rfl) ?_; go_big_quiet_on)
        | (go_big_quiet_op; first | go_big_quiet_on | go_big_quiet_call ((go_at_call 22; refine bel_call (HBt.out _))))))
  refine wpQuiet_nil ?_
  rintro _ ⟨x, rfl⟩
  have hB4x := hB44.bel x.bel
  have hbx := bel_tr hb04 x.bel
  clear x17 hR hB44 hB34
  go_wp2_with (first
    | ((with_reducible refine wpList_store_rt (o := ⟨none, _, _, _, _, _⟩) rfl (.tmp 4) _ rfl rfl rfl hB4x ?_); intro wc hB4c hSc))
  exact ret_rtE Tryd.results13 rfl rfl hB4c rfl ⟨by rw [Hof.out]; rfl, hbx.trans (hSc.below hw4)⟩
theorem way_any (vi vr vp : Value) (N : Nt) (a : Ad) (w : World) (hN : NetRaw w vi vr vp N) (hl : N.R.length ≤ 1000000) : Calls Tryd.prog 13 #[.agg #[vi, vr, vp], .agg (adA a)] w (WayPost w (wayP a (rtN N.R))) := by
  by_cases hc : chkA a = 0
  · by_cases hz : a.fam = 6 ∧ 0 < a.zone
    · exact way_zone vi vr vp a w _ hc hz
    · exact way_loop vi vr vp N a w hN hl hc hz
  · exact way_none vi vr vp a w _ hc
end Go.Proofs.YthlnndjkocnfcaaDoor

/- source: what counts of the address that one speaks to, and of an own one (printed by mk_sre.py). -/
namespace Go.Proofs.YthlnndjkocnfcaaDoor
open Go.RowKit
attribute [local go_sem] ba_get ext_take ext_drop ext_any ba_app

structure Aim where
  ad : Ad
  sco : Int
  lab : Int
  idx : Int
  way : Bool
  ok : (-9223372036854775808 ≤ sco ∧ sco ≤ 9223372036854775807) ∧ (-9223372036854775808 ≤ lab ∧ lab ≤ 9223372036854775807) ∧ (-9223372036854775808 ≤ idx ∧ idx ≤ 9223372036854775807)
theorem Aim.same_iff {a b : Aim} : (a.ad = b.ad ∧ a.sco = b.sco ∧ a.lab = b.lab ∧ a.idx = b.idx ∧ a.way = b.way) ↔ a = b := ⟨fun ⟨h0, h1, h2, h3, h4⟩ => by cases a; cases b; simp only at h0 h1 h2 h3 h4; subst h0 h1 h2 h3 h4; rfl, fun h => by rw [h]; exact ⟨rfl, rfl, rfl, rfl, rfl⟩⟩
instance : DecidableEq Aim := fun _ _ => decidable_of_iff _ Aim.same_iff
def aimL (x : Aim) : List Value := adL x.ad ++ [.int .i64 x.sco, .int .i64 x.lab, .int .i64 x.idx, .bool x.way]
def aimA (x : Aim) : Array Value := (aimL x).toArray
theorem aimL_len (x : Aim) : (aimL x).length = 22 := by unfold aimL; rw [List.length_append, adL_len]; rfl
theorem aimA_size (x : Aim) : (aimA x).size = 22 := by unfold aimA; rw [List.size_toArray, aimL_len]
theorem aimL_hd (x : Aim) {i : Nat} (h : i < 18) : (aimL x)[i]? = (adL x.ad)[i]? := by unfold aimL; rw [List.getElem?_append_left (by rw [adL_len]; exact h)]
theorem aimA_17 (x : Aim) : (aimA x)[17]? = some (.int .i64 x.ad.zone) := by unfold aimA; rw [List.getElem?_toArray, aimL_hd x (by omega)]; exact adL_17 x.ad
theorem aimA_18 (x : Aim) : (aimA x)[18]? = some (.int .i64 x.sco) := by unfold aimA aimL; rw [List.getElem?_toArray, List.getElem?_append_right (by rw [adL_len]; omega), adL_len]; rfl
theorem aimA_19 (x : Aim) : (aimA x)[19]? = some (.int .i64 x.lab) := by unfold aimA aimL; rw [List.getElem?_toArray, List.getElem?_append_right (by rw [adL_len]; omega), adL_len]; rfl
theorem aimA_20 (x : Aim) : (aimA x)[20]? = some (.int .i64 x.idx) := by unfold aimA aimL; rw [List.getElem?_toArray, List.getElem?_append_right (by rw [adL_len]; omega), adL_len]; rfl
theorem aimA_21 (x : Aim) : (aimA x)[21]? = some (.bool x.way) := by unfold aimA aimL; rw [List.getElem?_toArray, List.getElem?_append_right (by rw [adL_len]; omega), adL_len]; rfl
theorem aimL_one (x : Aim) : ∀ v ∈ aimL x, v.oneCell' = true := by
  intro v hv
  unfold aimL at hv
  rw [List.mem_append] at hv
  rcases hv with hv | hv
  · exact adL_one x.ad v hv
  · simp at hv; rcases hv with rfl | rfl | rfl | rfl <;> rfl
theorem aimA_one (x : Aim) : (aimA x).all (·.oneCell') = true := all_oneCell_toArray (aimL_one x)
theorem Bk.range_aim {w : World} {g : Nat} {t : TypeId} {x : Aim} (h : Bk w g t (aimA x)) : w.rangeAt g 0 (aimL x) := h.rangeL (cs := aimL x) 0 (aimL x) [] (by simp)
theorem Bk.rangehd_aim {w : World} {g : Nat} {t : TypeId} {x : Aim} (h : Bk w g t (aimA x)) : w.rangeAt g 0 (adL x.ad) := h.rangeL (cs := aimL x) 0 (adL x.ad) [.int .i64 x.sco, .int .i64 x.lab, .int .i64 x.idx, .bool x.way] rfl
theorem aim_under : Tryd.prog.underlying 46 = some (.struct (Tryd.prog.fieldsOf 46)) := by kernel_rfl
theorem aim_size : (Tryd.prog.info? 46).map (·.size) = some 22 := by kernel_rfl
theorem aim_size' (x : Aim) : (Tryd.prog.info? 46).map (·.size) = some (aimA x).size := by rw [aimA_size]; exact aim_size
def aim0 : Aim := ⟨ad0, 0, 0, 0, false, by decide⟩
theorem aim_zero : ZeroIs Tryd.prog 46 (aimA aim0) := by unfold ZeroIs; kernel_rfl
theorem wpList_alloc_aim {w : World} {ops : Array Oper} {rest : List Oper} {o : Oper} {a : Act} {Q : Exit → Act → World → Prop} (hgd : o.guard = none) (ho : o.op = .alloc 46)
    (h : ∀ g w', g = w.heap.size → Bk w' g 46 (aimA aim0) → Below w.heap.size w w' → w'.heap.size = g + 1 → wpList Tryd.prog ops Q rest (a.put o.dst (.pointer (some ⟨g, 0, none⟩))) w') : wpList Tryd.prog ops Q (o :: rest) a w :=
  wpList_allocZ hgd _ ho aim_zero h
theorem wpList_load_aim {w : World} {ops : Array Oper} {rest : List Oper} {o : Oper} {a : Act} {Q : Exit → Act → World → Prop} (hgd : o.guard = none) (x : Operand) (ho : o.op = .load 46 x) {g : Nat} (hx : a.eval x = .pointer (some ⟨g, 0, none⟩))
    {t : TypeId} {b : Aim} (hB : Bk w g t (aimA b)) (h : wpList Tryd.prog ops Q rest (a.put o.dst (.agg (aimA b))) w) : wpList Tryd.prog ops Q (o :: rest) a w :=
  wpList_loadB hgd _ x ho hx hB aim_under rfl (aim_size' b) h
theorem wpList_store_aim {w : World} {ops : Array Oper} {rest : List Oper} {o : Oper} {a : Act} {Q : Exit → Act → World → Prop} (hgd : o.guard = none) (x y : Operand) (ho : o.op = .store 46 x y) {g : Nat} {b c : Aim} (hx : a.eval x = .pointer (some ⟨g, 0, none⟩)) (hy : a.eval y = .agg (aimA b))
    {t : TypeId} (hB : Bk w g t (aimA c)) (h : ∀ w', Bk w' g t (aimA b) → Stays g w w' → wpList Tryd.prog ops Q rest (a.put o.dst undef) w') : wpList Tryd.prog ops Q (o :: rest) a w :=
  wpList_storeB hgd _ x y ho hx hy hB (aim_size' b) (by rw [aimA_size, aimA_size]) (aimA_one b) h
theorem ret_aim {fn : Func} {p : Tmp} (h : fn.results = #[.cell p 46]) {R : Ending → World → Prop} {a : Act} {w : World} {g : Nat} {t : TypeId} {b : Aim}
    (hp : a.tmps.getD p undef = .pointer (some ⟨g, 0, none⟩)) (hB : Bk w g t (aimA b)) (hd : a.defers = []) (hR : R (.returned (.agg (aimA b))) w) : bodyPost Tryd.prog fn R .ret a w :=
  bodyPost_ret_by (results_cell_row h a.tmps w g t (aimA b) (0, 0) _ hp hB aim_under rfl (aim_size' b)) hd hR
theorem built_aim (y : Ad) (sco : Int) (lab : Int) (idx : Int) (way : Bool) (h : (-9223372036854775808 ≤ sco ∧ sco ≤ 9223372036854775807) ∧ (-9223372036854775808 ≤ lab ∧ lab ≤ 9223372036854775807) ∧ (-9223372036854775808 ≤ idx ∧ idx ≤ 9223372036854775807)) : Tryd.prog.built 46 [(0, .agg (adA y)), (1, .int .i64 sco), (2, .int .i64 lab), (3, .int .i64 idx), (4, .bool way)] = some (aimA ⟨y, sco, lab, idx, way, h⟩) := by
  obtain ⟨fam, ip, zone, ok⟩ := y
  obtain ⟨c0, c1, c2, c3, c4, c5, c6, c7, c8, c9, c10, c11, c12, c13, c14, c15, rfl⟩ := len16 ok.1
  kernel_rfl
structure Wor where
  same : Bool
  sco : Int
  cur : Bool
  hom : Bool
  nea : Bool
  lab : Bool
  tem : Bool
  com : Int
  ok : (-9223372036854775808 ≤ sco ∧ sco ≤ 9223372036854775807) ∧ (-9223372036854775808 ≤ com ∧ com ≤ 9223372036854775807)
theorem Wor.same_iff {a b : Wor} : (a.same = b.same ∧ a.sco = b.sco ∧ a.cur = b.cur ∧ a.hom = b.hom ∧ a.nea = b.nea ∧ a.lab = b.lab ∧ a.tem = b.tem ∧ a.com = b.com) ↔ a = b := ⟨fun ⟨h0, h1, h2, h3, h4, h5, h6, h7⟩ => by cases a; cases b; simp only at h0 h1 h2 h3 h4 h5 h6 h7; subst h0 h1 h2 h3 h4 h5 h6 h7; rfl, fun h => by rw [h]; exact ⟨rfl, rfl, rfl, rfl, rfl, rfl, rfl, rfl⟩⟩
instance : DecidableEq Wor := fun _ _ => decidable_of_iff _ Wor.same_iff
def worL (x : Wor) : List Value := [.bool x.same, .int .i64 x.sco, .bool x.cur, .bool x.hom, .bool x.nea, .bool x.lab, .bool x.tem, .int .i64 x.com]
def worA (x : Wor) : Array Value := (worL x).toArray
theorem worL_len (x : Wor) : (worL x).length = 8 := rfl
theorem worA_size (x : Wor) : (worA x).size = 8 := by unfold worA; rw [List.size_toArray, worL_len]
theorem worA_0 (x : Wor) : (worA x)[0]? = some (.bool x.same) := by rfl
theorem worA_1 (x : Wor) : (worA x)[1]? = some (.int .i64 x.sco) := by rfl
theorem worA_2 (x : Wor) : (worA x)[2]? = some (.bool x.cur) := by rfl
theorem worA_3 (x : Wor) : (worA x)[3]? = some (.bool x.hom) := by rfl
theorem worA_4 (x : Wor) : (worA x)[4]? = some (.bool x.nea) := by rfl
theorem worA_5 (x : Wor) : (worA x)[5]? = some (.bool x.lab) := by rfl
theorem worA_6 (x : Wor) : (worA x)[6]? = some (.bool x.tem) := by rfl
theorem worA_7 (x : Wor) : (worA x)[7]? = some (.int .i64 x.com) := by rfl
theorem worL_one (x : Wor) : ∀ v ∈ worL x, v.oneCell' = true := by
  intro v hv
  unfold worL at hv
  simp at hv
  rcases hv with rfl | rfl | rfl | rfl | rfl | rfl | rfl | rfl <;> rfl
theorem worA_one (x : Wor) : (worA x).all (·.oneCell') = true := all_oneCell_toArray (worL_one x)
theorem Bk.range_wor {w : World} {g : Nat} {t : TypeId} {x : Wor} (h : Bk w g t (worA x)) : w.rangeAt g 0 (worL x) := h.rangeL (cs := worL x) 0 (worL x) [] (by simp)
theorem wor_under : Tryd.prog.underlying 50 = some (.struct (Tryd.prog.fieldsOf 50)) := by kernel_rfl
theorem wor_size : (Tryd.prog.info? 50).map (·.size) = some 8 := by kernel_rfl
theorem wor_size' (x : Wor) : (Tryd.prog.info? 50).map (·.size) = some (worA x).size := by rw [worA_size]; exact wor_size
def wor0 : Wor := ⟨false, 0, false, false, false, false, false, 0, by decide⟩
theorem wor_zero : ZeroIs Tryd.prog 50 (worA wor0) := by unfold ZeroIs; kernel_rfl
theorem wpList_alloc_wor {w : World} {ops : Array Oper} {rest : List Oper} {o : Oper} {a : Act} {Q : Exit → Act → World → Prop} (hgd : o.guard = none) (ho : o.op = .alloc 50)
    (h : ∀ g w', g = w.heap.size → Bk w' g 50 (worA wor0) → Below w.heap.size w w' → w'.heap.size = g + 1 → wpList Tryd.prog ops Q rest (a.put o.dst (.pointer (some ⟨g, 0, none⟩))) w') : wpList Tryd.prog ops Q (o :: rest) a w :=
  wpList_allocZ hgd _ ho wor_zero h
theorem wpList_load_wor {w : World} {ops : Array Oper} {rest : List Oper} {o : Oper} {a : Act} {Q : Exit → Act → World → Prop} (hgd : o.guard = none) (x : Operand) (ho : o.op = .load 50 x) {g : Nat} (hx : a.eval x = .pointer (some ⟨g, 0, none⟩))
    {t : TypeId} {b : Wor} (hB : Bk w g t (worA b)) (h : wpList Tryd.prog ops Q rest (a.put o.dst (.agg (worA b))) w) : wpList Tryd.prog ops Q (o :: rest) a w :=
  wpList_loadB hgd _ x ho hx hB wor_under rfl (wor_size' b) h
theorem wpList_store_wor {w : World} {ops : Array Oper} {rest : List Oper} {o : Oper} {a : Act} {Q : Exit → Act → World → Prop} (hgd : o.guard = none) (x y : Operand) (ho : o.op = .store 50 x y) {g : Nat} {b c : Wor} (hx : a.eval x = .pointer (some ⟨g, 0, none⟩)) (hy : a.eval y = .agg (worA b))
    {t : TypeId} (hB : Bk w g t (worA c)) (h : ∀ w', Bk w' g t (worA b) → Stays g w w' → wpList Tryd.prog ops Q rest (a.put o.dst undef) w') : wpList Tryd.prog ops Q (o :: rest) a w :=
  wpList_storeB hgd _ x y ho hx hy hB (wor_size' b) (by rw [worA_size, worA_size]) (worA_one b) h
theorem ret_wor {fn : Func} {p : Tmp} (h : fn.results = #[.cell p 50]) {R : Ending → World → Prop} {a : Act} {w : World} {g : Nat} {t : TypeId} {b : Wor}
    (hp : a.tmps.getD p undef = .pointer (some ⟨g, 0, none⟩)) (hB : Bk w g t (worA b)) (hd : a.defers = []) (hR : R (.returned (.agg (worA b))) w) : bodyPost Tryd.prog fn R .ret a w :=
  bodyPost_ret_by (results_cell_row h a.tmps w g t (worA b) (0, 0) _ hp hB wor_under rfl (wor_size' b)) hd hR
theorem built_wor (same : Bool) (sco : Int) (cur : Bool) (hom : Bool) (nea : Bool) (lab : Bool) (tem : Bool) (com : Int) (h : (-9223372036854775808 ≤ sco ∧ sco ≤ 9223372036854775807) ∧ (-9223372036854775808 ≤ com ∧ com ≤ 9223372036854775807)) : Tryd.prog.built 50 [(0, .bool same), (1, .int .i64 sco), (2, .bool cur), (3, .bool hom), (4, .bool nea), (5, .bool lab), (6, .bool tem), (7, .int .i64 com)] = some (worA ⟨same, sco, cur, hom, nea, lab, tem, com, h⟩) := by
  kernel_rfl

theorem polN_len (P : List Pol) : (polN P).length ≤ 1000000 := by
  unfold polN leftF
  split
  · show plainP.length ≤ 1000000
    decide
  · rw [List.length_take]; omega
theorem polof_any (vi vr vp : Value) (N : Nt) (a : Ad) (w : World) (hN : NetRaw w vi vr vp N) (ht : Tab w) (hm : MaxI w) (hl : N.P.length ≤ 1000000) : Calls Tryd.prog 15 #[.agg #[vi, vr, vp], .agg (adA a)] w (PolPost w (ofP a (polN N.P))) :=
  pof_any #[vi, vr, vp] rfl (polN N.P) a w (polN_len _) (fun w' hb => prows_any vi vr vp N w' (hN.below hb) (ht.below hb) (hm.below hb) hl)
theorem sc4_ok (a : Ad) : 0 ≤ sc4 a ∧ sc4 a ≤ 14 := by
  unfold sc4
  repeat' split
  all_goals omega
theorem scoA_ok (a : Ad) : 0 ≤ scoA a ∧ scoA a ≤ 15 := by
  have h1 := sc4_ok a
  have h2 := sc4_ok (ad12 a)
  unfold scoA sc6 sc6r
  repeat' split
  all_goals omega
def z0A (a : Ad) : Ad := a.setZ 0 (by decide)
/-- what counts of the address that one speaks to. -/
def aimN (N : Nt) (d : Ad) : Aim := ⟨z0A d, scoA d, (ofP d (polN N.P)).lab, (wayP d (rtN N.R)).1.idx, (wayP d (rtN N.R)).2, by have := scoA_ok d; omega, (ofP d (polN N.P)).ok.2, (wayP d (rtN N.R)).1.ok⟩
theorem comA_ok (a b : Ad) : (comA a b : Int) ≤ 128 := by
  have := comA_le a b
  have h : mostA a ≤ 128 := by unfold mostA; split <;> (try split) <;> omega
  omega
/-- what counts of an own address. -/
def worN (N : Nt) (t : Aim) (f : Ifc) : Wor := ⟨decide (z0A f.ad = t.ad), scoA f.ad, !f.dep, f.hom, t.way && (f.idx == t.idx), (ofP f.ad (polN N.P)).lab == t.lab, f.tem, min (comA f.ad t.ad : Int) f.bits, by have := scoA_ok f.ad; omega, by have := comA_ok f.ad t.ad; have := f.ok.2; omega⟩
def telL (t : Aim) (a b : Wor) : List Int := [ordB a.same b.same, scoI a.sco b.sco t.sco, ordB a.cur b.cur, ordB a.hom b.hom, ordB a.nea b.nea, ordB a.lab b.lab, ordB a.tem b.tem, cmpI a.com b.com]
theorem telL_thr (t : Aim) (a b c : Wor) : Thr (fst1 (telL t a b)) (fst1 (telL t b c)) (fst1 (telL t a c)) := by
  refine thr_fst _ _ _ rfl rfl fun i => ?_
  match i with
  | 0 => exact thr_b _ _ _
  | 1 => exact thr_s _ _ _ _
  | 2 => exact thr_b _ _ _
  | 3 => exact thr_b _ _ _
  | 4 => exact thr_b _ _ _
  | 5 => exact thr_b _ _ _
  | 6 => exact thr_b _ _ _
  | 7 => exact thr_i _ _ _
  | n + 8 => simp [telL, Thr]
set_option maxRecDepth 100000 in
theorem sorder_any (a b : Bool) (w : World) : Calls Tryd.prog 16 #[.bool a, .bool b] w (InPost w (ordB a b)) := by
  cases a <;> cases b
  all_goals
    go_enter Tryd.func16, Tryd.ntmps16
    go_wp2
    go_ret
    exact ⟨rfl, Below.refl _ _⟩
theorem cmp_any (a b : Int) (w : World) : Calls Tryd.prog 18 #[.int .i64 a, .int .i64 b] w (InPost w (cmpI a b)) :=
  (Tryd.cmp_Compare_int a b w).mono fun e w' ⟨he, hw⟩ => ⟨he, by rw [hw]; exact Below.refl _ _⟩
set_option maxRecDepth 100000 in
theorem scopes_any (a b t : Int) (w : World) : Calls Tryd.prog 17 #[.int .i64 a, .int .i64 b, .int .i64 t] w (InPost w (scoI a b t)) := by
  by_cases h1 : a < t
  · have Hr : Hid (scoI a b t = cmpI a b) := Lib.hid (by unfold scoI; rw [if_pos (.inl h1)])
    have i1 : decide (a < t) = true := decide_eq_true h1
    clear h1
    go_enter Tryd.func17, Tryd.ntmps17
    go_wp2_with (go_at_call 18; refine (cmp_any a b _).mono ?_; rintro e w1 ⟨rfl, hb1⟩)
    go_ret
    exact ⟨by rw [Hr.out]; rfl, hb1⟩
  · have i1 : decide (a < t) = false := decide_eq_false h1
    by_cases h2 : b < t
    · have Hr : Hid (scoI a b t = cmpI a b) := Lib.hid (by unfold scoI; rw [if_pos (.inr h2)])
      have i2 : decide (b < t) = true := decide_eq_true h2
      clear h1 h2
      go_enter Tryd.func17, Tryd.ntmps17
      go_wp2_with (go_at_call 18; refine (cmp_any a b _).mono ?_; rintro e w1 ⟨rfl, hb1⟩)
      go_ret
      exact ⟨by rw [Hr.out]; rfl, hb1⟩
    · have Hr : Hid (scoI a b t = cmpI b a) := Lib.hid (by unfold scoI; rw [if_neg (by omega)])
      have i2 : decide (b < t) = false := decide_eq_false h2
      clear h1 h2
      go_enter Tryd.func17, Tryd.ntmps17
      go_wp2_with (go_at_call 18; refine (cmp_any b a _).mono ?_; rintro e w1 ⟨rfl, hb1⟩)
      go_ret
      exact ⟨by rw [Hr.out]; rfl, hb1⟩

end Go.Proofs.YthlnndjkocnfcaaDoor

/- source.aimOf (its drawn region is printed by mk_srf.py). -/
namespace Go.Proofs.YthlnndjkocnfcaaDoor
open Go.RowKit
attribute [local go_sem] ba_get ext_take ext_drop ext_any ba_app

/-! ### aimOf -/
structure EnvS (w : World) : Prop where
  t : Tab w
  m : MaxI w
  a : TabA w
theorem EnvS.below {w w' : World} (h : EnvS w) (hb : Below w.heap.size w w') : EnvS w' := ⟨h.t.below hb, h.m.below hb, h.a.below hb⟩
def AimPost (w : World) (x : Aim) (e : Ending) (w' : World) : Prop := e = .returned (.agg (aimA x)) ∧ Below w.heap.size w w'
theorem Bk.rangeNet {w : World} {g : Nat} {t : TypeId} {vi vr vp : Value} (h : Bk w g t #[vi, vr, vp]) : w.rangeAt g 0 [vi, vr, vp] := h.rangeL (cs := [vi, vr, vp]) 0 [vi, vr, vp] [] (by simp)
theorem aimA_z (d : Ad) (s l i : Int) (b : Bool) (h : (-9223372036854775808 ≤ s ∧ s ≤ 9223372036854775807) ∧ (-9223372036854775808 ≤ l ∧ l ≤ 9223372036854775807) ∧ (-9223372036854775808 ≤ i ∧ i ≤ 9223372036854775807)) : (aimA ⟨d, s, l, i, b, h⟩).setIfInBounds 17 (.int .i64 0) = aimA ⟨z0A d, s, l, i, b, h⟩ := by
  unfold aimA aimL
  simp only
  rw [List.setIfInBounds_toArray, List.set_append_left _ _ (by rw [adL_len]; omega)]
  have := adA_setZ d 0 (by decide)
  unfold adA at this
  rw [List.setIfInBounds_toArray] at this
  have := congrArg Array.toList this
  simp only at this
  rw [this]
  rfl
set_option maxRecDepth 100000 in
set_option maxHeartbeats 4000000 in
theorem aimof_any (vi vr vp : Value) (N : Nt) (d : Ad) (w : World) (hN : NetRaw w vi vr vp N) (hE : EnvS w) (hlP : N.P.length ≤ 1000000) (hlR : N.R.length ≤ 1000000) :
    Calls Tryd.prog 9 #[.agg #[vi, vr, vp], .agg (adA d)] w (AimPost w (aimN N d)) := by
  have HN := Lib.hid hN
  have HE := Lib.hid hE
  have Hns := Lib.hid (show (Tryd.prog.info? 26).map (·.size) = some (#[vi, vr, vp] : Array Value).size from net_size)
  have HW : Hid (∀ w', NetRaw w' vi vr vp N → Calls Tryd.prog 13 #[.agg #[vi, vr, vp], .agg (adA d)] w' (WayPost w' (wayP d (rtN N.R)))) := Lib.hid (fun w' h' => way_any vi vr vp N d w' h' hlR)
  have HP : Hid (∀ w', NetRaw w' vi vr vp N → EnvS w' → Calls Tryd.prog 15 #[.agg #[vi, vr, vp], .agg (adA d)] w' (PolPost w' (ofP d (polN N.P)))) := Lib.hid (fun w' h' k => polof_any vi vr vp N d w' h' k.t k.m hlP)
  have HS : Hid (∀ w', EnvS w' → Calls Tryd.prog 14 #[.agg (adA d)] w' (InPost w' (scoA d))) := Lib.hid (fun w' k => scope_any d w' k.a)
  have H1 := Lib.hid (built_aim d (scoA d) (ofP d (polN N.P)).lab (wayP d (rtN N.R)).1.idx (wayP d (rtN N.R)).2 ⟨by have := scoA_ok d; omega, (ofP d (polN N.P)).ok.2, (wayP d (rtN N.R)).1.ok⟩)
  have Hz := Lib.hid (aimA_z d (scoA d) (ofP d (polN N.P)).lab (wayP d (rtN N.R)).1.idx (wayP d (rtN N.R)).2 ⟨by have := scoA_ok d; omega, (ofP d (polN N.P)).ok.2, (wayP d (rtN N.R)).1.ok⟩)
  generalize hA : (⟨d, scoA d, (ofP d (polN N.P)).lab, (wayP d (rtN N.R)).1.idx, (wayP d (rtN N.R)).2, ⟨by have := scoA_ok d; omega, (ofP d (polN N.P)).ok.2, (wayP d (rtN N.R)).1.ok⟩⟩ : Aim) = A at *
  have Hf : Hid ((aimA A).setIfInBounds 17 (.int .i64 0) = aimA (aimN N d)) := Lib.hid Hz.out
  clear hN hE Hz hA hlP hlR
  generalize aimN N d = A2 at *
  generalize hw : wayP d (rtN N.R) = wv at *
  obtain ⟨r, wb⟩ := wv
  generalize ofP d (polN N.P) = P at *
  generalize scoA d = s at *
  clear hw
  go_enter Tryd.func9, Tryd.ntmps9
  go_wp2_with (first
    | ((with_reducible refine wpList_boxB (o := ⟨some 2, _, _, _, _, _⟩) rfl _ _ rfl rfl ?_); intro g2 w1 hg hB2 hb1 hs; have hg2 : w.heap.size ≤ g2 := Nat.le_of_eq hg.symm; clear hg hs)
    | ((with_reducible refine wpList_boxB (o := ⟨some 3, _, _, _, _, _⟩) rfl _ _ rfl rfl ?_); intro g3 w2 hg hB3 hb2 hs; have hg3 : w1.heap.size ≤ g3 := Nat.le_of_eq hg.symm; have hB22 := hB2.bel hb2; have hb02 := bel_tr hb1 hb2; clear hg hs)
    | ((with_reducible refine wpList_alloc_aim (o := ⟨some 4, _, _, _, _, _⟩) rfl rfl ?_); intro g4 w3 hg hB4 hb3 hs; have hg4 : w2.heap.size ≤ g4 := Nat.le_of_eq hg.symm; have hB23 := hB22.bel hb3; have hB33 := hB3.bel hb3; have hb03 := bel_tr hb02 hb3; have hw4 : w.heap.size ≤ g4 := Nat.le_trans hb02.size hg4; clear hg hs)
    | (with_reducible refine wpList_loadB (o := ⟨some 9, _, _, _, _, _⟩) rfl _ _ rfl rfl hB23 net_under rfl Hns.out ?_)
    | (with_reducible refine wpList_loadAd (o := ⟨some 10, _, _, _, _, _⟩) rfl _ rfl rfl hB33 ?_)
    | (go_at_call 13; refine (HW.out _ (HN.out.below hb03)).mono ?_; rintro e w4 ⟨rfl, hb4⟩; have hB24 := hB23.bel hb4; have hB34 := hB33.bel hb4; have hB44 := hB4.bel hb4; have hb04 := bel_tr hb03 hb4)
    | ((with_reducible refine wpList_alloc_rt (o := ⟨some 5, _, _, _, _, _⟩) rfl rfl ?_); intro g5 w5 hg hB5 hb5 hs; have hg5 : w4.heap.size ≤ g5 := Nat.le_of_eq hg.symm; have hB25 := hB24.bel hb5; have hB35 := hB34.bel hb5; have hB45 := hB44.bel hb5; have hb05 := bel_tr hb04 hb5; clear hg hs)
    | ((with_reducible refine wpList_store_rt (o := ⟨none, _, _, _, _, _⟩) rfl (.tmp 5) _ rfl rfl rfl hB5 ?_); intro w6 hB56 hS6
       have hB26 := hB25.stays hS6 (by have := hB24.lt; omega)
       have hB36 := hB35.stays hS6 (by have := hB34.lt; omega)
       have hB46 := hB45.stays hS6 (by have := hB44.lt; omega)
       have hb06 : Below w.heap.size w w6 := hb05.trans (hS6.below (Nat.le_trans hb04.size hg5))
       clear hB25 hB35 hB45 hB24 hB34 hB44 hB23 hB33 hB22 hB2 hB3 hB4 hB5 hS6))
  have hR2 : ∀ w', Below w6.heap.size w6 w' → w'.rangeAt g2 0 [vi, vr, vp] := fun w' h => (hB26.bel h).rangeNet
  have hR3 : ∀ w', Below w6.heap.size w6 w' → w'.rangeAt g3 0 (adL d) := fun w' h => (hB36.bel h).rangeAd
  have hC5 : ∀ w', Below w6.heap.size w6 w' → w'.cell? ⟨g5, 19, none⟩ = some (.int .i64 r.idx) := fun w' h => by have := (hB56.bel h).cell 19; rw [rtA_19] at this; exact this
  apply region_cut (R := fun g w' => Bk w' g 46 (aimA A) ∧ w6.heap.size ≤ g ∧ Below w6.heap.size w6 w')
  case h =>
    refine wp_region_held (S := fun w' => Below w6.heap.size w6 w') (by kernel_rfl) ?_
    refine wpAnyH_take (i := 0) (oi := ⟨some 14, Op.load 29 (Operand.tmp 3), _, _, _, none⟩) (v := Value.agg (adA d)) rfl (by kernel_rfl) (by kernel_rfl) (by kernel_rfl) (fun _ _ _ h => nomatch h.1) (yieldsIf_loadAd (by rfl) _ rfl rfl hR3) (Below.refl _ _).drew ?_
    simp only [Act.put, List.setIfInBounds_toArray, List.set_cons_zero, List.set_cons_succ]
    refine wpAnyH_take (i := 1) (oi := ⟨some 15, Op.load 29 (Operand.tmp 3), _, _, _, none⟩) (v := Value.agg (adA d)) rfl (by kernel_rfl) (by kernel_rfl) (by kernel_rfl) (fun _ _ _ h => nomatch h.1) (yieldsIf_loadAd (by rfl) _ rfl rfl hR3) (Below.refl _ _).drew ?_
    simp only [Act.put, List.setIfInBounds_toArray, List.set_cons_zero, List.set_cons_succ]
    refine wpAnyH_take (i := 3) (oi := ⟨some 17, Op.load 26 (Operand.tmp 2), _, _, _, none⟩) (v := Value.agg #[vi, vr, vp]) rfl (by kernel_rfl) (by kernel_rfl) (by kernel_rfl) (fun _ _ _ h => nomatch h.1) (yieldsIf_load_mid (by rfl) _ _ rfl _ _ rfl [vi, vr, vp] _ hR2 net_under rfl net_size) (Below.refl _ _).drew ?_
    simp only [Act.put, List.setIfInBounds_toArray, List.set_cons_zero, List.set_cons_succ]
    refine wpAnyH_take (i := 4) (oi := ⟨some 18, Op.load 29 (Operand.tmp 3), _, _, _, none⟩) (v := Value.agg (adA d)) rfl (by kernel_rfl) (by kernel_rfl) (by kernel_rfl) (fun _ _ _ h => nomatch h.1) (yieldsIf_loadAd (by rfl) _ rfl rfl hR3) (Below.refl _ _).drew ?_
    simp only [Act.put, List.setIfInBounds_toArray, List.set_cons_zero, List.set_cons_succ]
    refine wpAnyH_take (i := 7) (oi := ⟨some 21, Op.fieldAddr 42 (Operand.tmp 5) 1, _, _, _, none⟩) (v := Value.pointer (some ⟨g5, 19, none⟩)) rfl (by kernel_rfl) (by kernel_rfl) (by kernel_rfl) (fun _ _ _ h => nomatch h.1) (Or.inl ⟨by rfl, fun w' hS' => by go_simp⟩) (Below.refl _ _).drew ?_
    simp only [Act.put, List.setIfInBounds_toArray, List.set_cons_zero, List.set_cons_succ]
    refine wpAnyH_take (i := 8) (oi := ⟨some 22, Op.load 3 (Operand.tmp 21), _, _, _, none⟩) (v := Value.int .i64 r.idx) rfl (by kernel_rfl) (by kernel_rfl) (by kernel_rfl) (fun _ _ _ h => nomatch h.1) (yieldsIf_loadC (by rfl) _ _ rfl rfl hC5 Tryd.underlying3 rfl) (Below.refl _ _).drew ?_
    simp only [Act.put, List.setIfInBounds_toArray, List.set_cons_zero, List.set_cons_succ]
    refine wpAnyH_take (i := 9) (oi := ⟨some 23, Op.move (Operand.tmp 6), _, _, _, none⟩) (v := Value.bool wb) rfl (by kernel_rfl) (by kernel_rfl) (by kernel_rfl) (fun _ _ _ h => nomatch h.1) (Or.inl ⟨by rfl, fun w' hS' => by go_simp⟩) (Below.refl _ _).drew ?_
    simp only [Act.put, List.setIfInBounds_toArray, List.set_cons_zero, List.set_cons_succ]
    refine wpAnyH_all (rs := [2, 11]) (by kernel_rfl) (by decide) ?_
    intro i hi
    simp only [List.mem_cons, List.not_mem_nil, or_false] at hi
    rcases hi with rfl | rfl
    · skip
      refine wpOp_callM (o := ⟨some 16, Op.call { callee := Callee.value (Operand.func 14), args := #[Operand.tmp 15], argTypes := #[29] }, _, _, _, none⟩) rfl (by rfl) (by go_simp) (HS.out _ (HE.out.below (bel_tr hb06 ((Below.refl _ _).drew)))) ?_
      rintro e x1 ⟨rfl, hy1⟩
      have hx1 := bel_drew hy1
      refine ⟨_, rfl, ?_⟩
      show _ ∧ _
      refine ⟨hx1, ?_⟩
      simp only [Act.put, List.setIfInBounds_toArray, List.set_cons_zero, List.set_cons_succ]
      refine wpAnyH_all (rs := [5, 11]) (by kernel_rfl) (by decide) ?_
      intro i hi
      simp only [List.mem_cons, List.not_mem_nil, or_false] at hi
      rcases hi with rfl | rfl
      · skip
        refine wpOp_callM (o := ⟨some 19, Op.call { callee := Callee.value (Operand.func 15), args := #[Operand.tmp 17, Operand.tmp 18], argTypes := #[26, 29] }, _, _, _, none⟩) rfl (by rfl) (by go_simp) (HP.out _ (HN.out.below (bel_tr hb06 (hx1))) (HE.out.below (bel_tr hb06 (hx1)))) ?_
        rintro e x2 ⟨rfl, hy2⟩
        have hx2 := bel_tr hx1 hy2
        refine ⟨_, rfl, ?_⟩
        show _ ∧ _
        refine ⟨hx2, ?_⟩
        simp only [Act.put, List.setIfInBounds_toArray, List.set_cons_zero, List.set_cons_succ]
        refine wpAnyH_take (i := 6) (oi := ⟨some 20, Op.field 57 (Operand.tmp 19) 2, _, _, _, none⟩) (v := Value.int .i64 P.lab) rfl (by kernel_rfl) (by kernel_rfl) (by kernel_rfl) (fun _ _ _ h => nomatch h.1) (yieldsIf_fieldOne (by rfl) _ _ 2 rfl rfl pol_under (ty := 3) (off := 20) (by kernel_rfl) Tryd.underlying3 rfl (polA_20 _)) hx2 ?_
        simp only [Act.put, List.setIfInBounds_toArray, List.set_cons_zero, List.set_cons_succ]
        refine wpAnyH_take (i := 10) (oi := ⟨some 24, Op.build 46 #[(0 , Operand.tmp 14), (1 , Operand.tmp 16), (2 , Operand.tmp 20), (3 , Operand.tmp 22), (4 , Operand.tmp 23)], _, _, _, none⟩) (v := Value.agg (aimA A)) rfl (by kernel_rfl) (by kernel_rfl) (by kernel_rfl) (fun _ _ _ h => nomatch h.1) (yieldsIf_buildL (by rfl) 46 _ rfl H1.out rfl) hx2 ?_
        simp only [Act.put, List.setIfInBounds_toArray, List.set_cons_zero, List.set_cons_succ]
        refine wpAnyH_all (rs := [11]) (by kernel_rfl) (by decide) ?_
        intro i hi
        obtain rfl := List.mem_singleton.1 hi
        refine wpOp_of_list (o := ⟨some 7, Op.alloc 46, _, _, _, none⟩) rfl ?_
        refine wpList_allocZ rfl _ rfl aim_zero ?_
        intro g7 x3 hgg7 hBg7 hy3 hs
        have hlg7 : w6.heap.size ≤ g7 := Nat.le_trans (hx2 : Below w6.heap.size w6 _).size (Nat.le_of_eq hgg7.symm)
        clear hgg7 hs
        have hx3 := bel_tr hx2 hy3
        show _ ∧ _
        refine ⟨hx3, ?_⟩
        simp only [Act.put, List.setIfInBounds_toArray, List.set_cons_zero, List.set_cons_succ]
        refine wpAnyH_all (rs := [12]) (by kernel_rfl) (by decide) ?_
        intro i hi
        obtain rfl := List.mem_singleton.1 hi
        refine wpOp_of_list (o := ⟨none, Op.store 46 (Operand.tmp 7) (Operand.tmp 24), _, _, _, none⟩) rfl ?_
        refine wpList_store_aim rfl _ _ rfl rfl rfl hBg7 ?_
        intro x4 hBz hSz
        have hx4 := (hx3 : Below w6.heap.size w6 _).trans (hSz.below hlg7)
        show _ ∧ _
        refine ⟨hx4, ?_⟩
        simp only [Act.put]
        refine wpAnyH_done (by kernel_rfl) ?_ _
        exact ⟨rfl, g7, rfl, hBz, hlg7, hx4⟩
      · skip
        refine wpOp_of_list (o := ⟨some 7, Op.alloc 46, _, _, _, none⟩) rfl ?_
        refine wpList_allocZ rfl _ rfl aim_zero ?_
        intro g7 x2 hgg7 hBg7 hy2 hs
        have hlg7 : w6.heap.size ≤ g7 := Nat.le_trans (hx1 : Below w6.heap.size w6 _).size (Nat.le_of_eq hgg7.symm)
        clear hgg7 hs
        have hx2 := bel_tr hx1 hy2
        show _ ∧ _
        refine ⟨hx2, ?_⟩
        simp only [Act.put, List.setIfInBounds_toArray, List.set_cons_zero, List.set_cons_succ]
        refine wpAnyH_all (rs := [5]) (by kernel_rfl) (by decide) ?_
        intro i hi
        obtain rfl := List.mem_singleton.1 hi
        refine wpOp_callM (o := ⟨some 19, Op.call { callee := Callee.value (Operand.func 15), args := #[Operand.tmp 17, Operand.tmp 18], argTypes := #[26, 29] }, _, _, _, none⟩) rfl (by rfl) (by go_simp) (HP.out _ (HN.out.below (bel_tr hb06 (hx2))) (HE.out.below (bel_tr hb06 (hx2)))) ?_
        rintro e x3 ⟨rfl, hy3⟩
        have hx3 := bel_tr hx2 hy3
        have hBg7 := hBg7.bel hy3
        refine ⟨_, rfl, ?_⟩
        show _ ∧ _
        refine ⟨hx3, ?_⟩
        simp only [Act.put, List.setIfInBounds_toArray, List.set_cons_zero, List.set_cons_succ]
        refine wpAnyH_take (i := 6) (oi := ⟨some 20, Op.field 57 (Operand.tmp 19) 2, _, _, _, none⟩) (v := Value.int .i64 P.lab) rfl (by kernel_rfl) (by kernel_rfl) (by kernel_rfl) (fun _ _ _ h => nomatch h.1) (yieldsIf_fieldOne (by rfl) _ _ 2 rfl rfl pol_under (ty := 3) (off := 20) (by kernel_rfl) Tryd.underlying3 rfl (polA_20 _)) hx3 ?_
        simp only [Act.put, List.setIfInBounds_toArray, List.set_cons_zero, List.set_cons_succ]
        refine wpAnyH_take (i := 10) (oi := ⟨some 24, Op.build 46 #[(0 , Operand.tmp 14), (1 , Operand.tmp 16), (2 , Operand.tmp 20), (3 , Operand.tmp 22), (4 , Operand.tmp 23)], _, _, _, none⟩) (v := Value.agg (aimA A)) rfl (by kernel_rfl) (by kernel_rfl) (by kernel_rfl) (fun _ _ _ h => nomatch h.1) (yieldsIf_buildL (by rfl) 46 _ rfl H1.out rfl) hx3 ?_
        simp only [Act.put, List.setIfInBounds_toArray, List.set_cons_zero, List.set_cons_succ]
        refine wpAnyH_all (rs := [12]) (by kernel_rfl) (by decide) ?_
        intro i hi
        obtain rfl := List.mem_singleton.1 hi
        refine wpOp_of_list (o := ⟨none, Op.store 46 (Operand.tmp 7) (Operand.tmp 24), _, _, _, none⟩) rfl ?_
        refine wpList_store_aim rfl _ _ rfl rfl rfl hBg7 ?_
        intro x4 hBz hSz
        have hx4 := (hx3 : Below w6.heap.size w6 _).trans (hSz.below hlg7)
        show _ ∧ _
        refine ⟨hx4, ?_⟩
        simp only [Act.put]
        refine wpAnyH_done (by kernel_rfl) ?_ _
        exact ⟨rfl, g7, rfl, hBz, hlg7, hx4⟩
    · skip
      refine wpOp_of_list (o := ⟨some 7, Op.alloc 46, _, _, _, none⟩) rfl ?_
      refine wpList_allocZ rfl _ rfl aim_zero ?_
      intro g7 x1 hgg7 hBg7 hy1 hs
      have hlg7 : w6.heap.size ≤ g7 := Nat.le_trans ((Below.refl _ _).drew : Below w6.heap.size w6 _).size (Nat.le_of_eq hgg7.symm)
      clear hgg7 hs
      have hx1 := bel_drew hy1
      show _ ∧ _
      refine ⟨hx1, ?_⟩
      simp only [Act.put, List.setIfInBounds_toArray, List.set_cons_zero, List.set_cons_succ]
      refine wpAnyH_all (rs := [2]) (by kernel_rfl) (by decide) ?_
      intro i hi
      obtain rfl := List.mem_singleton.1 hi
      refine wpOp_callM (o := ⟨some 16, Op.call { callee := Callee.value (Operand.func 14), args := #[Operand.tmp 15], argTypes := #[29] }, _, _, _, none⟩) rfl (by rfl) (by go_simp) (HS.out _ (HE.out.below (bel_tr hb06 (hx1)))) ?_
      rintro e x2 ⟨rfl, hy2⟩
      have hx2 := bel_tr hx1 hy2
      have hBg7 := hBg7.bel hy2
      refine ⟨_, rfl, ?_⟩
      show _ ∧ _
      refine ⟨hx2, ?_⟩
      simp only [Act.put, List.setIfInBounds_toArray, List.set_cons_zero, List.set_cons_succ]
      refine wpAnyH_all (rs := [5]) (by kernel_rfl) (by decide) ?_
      intro i hi
      obtain rfl := List.mem_singleton.1 hi
      refine wpOp_callM (o := ⟨some 19, Op.call { callee := Callee.value (Operand.func 15), args := #[Operand.tmp 17, Operand.tmp 18], argTypes := #[26, 29] }, _, _, _, none⟩) rfl (by rfl) (by go_simp) (HP.out _ (HN.out.below (bel_tr hb06 (hx2))) (HE.out.below (bel_tr hb06 (hx2)))) ?_
      rintro e x3 ⟨rfl, hy3⟩
      have hx3 := bel_tr hx2 hy3
      have hBg7 := hBg7.bel hy3
      refine ⟨_, rfl, ?_⟩
      show _ ∧ _
      refine ⟨hx3, ?_⟩
      simp only [Act.put, List.setIfInBounds_toArray, List.set_cons_zero, List.set_cons_succ]
      refine wpAnyH_take (i := 6) (oi := ⟨some 20, Op.field 57 (Operand.tmp 19) 2, _, _, _, none⟩) (v := Value.int .i64 P.lab) rfl (by kernel_rfl) (by kernel_rfl) (by kernel_rfl) (fun _ _ _ h => nomatch h.1) (yieldsIf_fieldOne (by rfl) _ _ 2 rfl rfl pol_under (ty := 3) (off := 20) (by kernel_rfl) Tryd.underlying3 rfl (polA_20 _)) hx3 ?_
      simp only [Act.put, List.setIfInBounds_toArray, List.set_cons_zero, List.set_cons_succ]
      refine wpAnyH_take (i := 10) (oi := ⟨some 24, Op.build 46 #[(0 , Operand.tmp 14), (1 , Operand.tmp 16), (2 , Operand.tmp 20), (3 , Operand.tmp 22), (4 , Operand.tmp 23)], _, _, _, none⟩) (v := Value.agg (aimA A)) rfl (by kernel_rfl) (by kernel_rfl) (by kernel_rfl) (fun _ _ _ h => nomatch h.1) (yieldsIf_buildL (by rfl) 46 _ rfl H1.out rfl) hx3 ?_
      simp only [Act.put, List.setIfInBounds_toArray, List.set_cons_zero, List.set_cons_succ]
      refine wpAnyH_all (rs := [12]) (by kernel_rfl) (by decide) ?_
      intro i hi
      obtain rfl := List.mem_singleton.1 hi
      refine wpOp_of_list (o := ⟨none, Op.store 46 (Operand.tmp 7) (Operand.tmp 24), _, _, _, none⟩) rfl ?_
      refine wpList_store_aim rfl _ _ rfl rfl rfl hBg7 ?_
      intro x4 hBz hSz
      have hx4 := (hx3 : Below w6.heap.size w6 _).trans (hSz.below hlg7)
      show _ ∧ _
      refine ⟨hx4, ?_⟩
      simp only [Act.put]
      refine wpAnyH_done (by kernel_rfl) ?_ _
      exact ⟨rfl, g7, rfl, hBz, hlg7, hx4⟩
  case k =>
    rintro g7 w8 ⟨hB78, hlg7, hb68⟩
    have hw7 : w.heap.size ≤ g7 := Nat.le_trans hb06.size hlg7
    have hB48 := hB46.bel hb68
    have n47 : g4 ≠ g7 := by have := hB46.lt; omega
    have hb08 := bel_tr hb06 hb68
    have c17 := hB78.cell 17
    rw [aimA_17] at c17
    have f17 := hB78.free 17
    have hX := hB78.set_ 17 (.int .i64 0)
    rw [Hf.out] at hX
    have hY := hB48.far (p := ⟨g7, 17, none⟩) (by show g4 ≠ g7; exact n47) (.int .i64 0)
    have hby := hb08.setCell (p := ⟨g7, 17, none⟩) (show w.heap.size ≤ g7 from hw7) (.int .i64 0)
    clear hB78 hB48 hB26 hB36 hB46 hB56 hR2 hR3 hC5 hb08 hb68
    go_wp2_with (first
      | (with_reducible refine wpList_load_aim (o := ⟨some 27, _, _, _, _, _⟩) rfl _ rfl rfl hX ?_)
      | ((with_reducible refine wpList_store_aim (o := ⟨none, .store _ (.tmp 4) _, _, _, _, _⟩) rfl (.tmp 4) _ rfl rfl rfl hY ?_); intro wc hBc hSc))
    exact ret_aim Tryd.results9 rfl hBc rfl ⟨rfl, hby.trans (hSc.below hw4)⟩
end Go.Proofs.YthlnndjkocnfcaaDoor

/- source.worthOf (printed by mk_srg.py). -/
namespace Go.Proofs.YthlnndjkocnfcaaDoor
open Go.RowKit
attribute [local go_sem] ba_get ext_take ext_drop ext_any ba_app

def WorPost (w : World) (x : Wor) (e : Ending) (w' : World) : Prop := e = .returned (.agg (worA x)) ∧ Below w.heap.size w w'
set_option maxRecDepth 100000 in
set_option maxHeartbeats 4000000 in
theorem worthof_any (vi vr vp : Value) (N : Nt) (t : Aim) (f : Ifc) (w : World) (hN : NetRaw w vi vr vp N) (hE : EnvS w) (hlP : N.P.length ≤ 1000000) :
    Calls Tryd.prog 11 #[.agg #[vi, vr, vp], .agg (aimA t), .agg (ifcA f)] w (WorPost w (worN N t f)) := by
  have HN := Lib.hid hN
  have HE := Lib.hid hE
  have HP : Hid (∀ w', NetRaw w' vi vr vp N → EnvS w' → Calls Tryd.prog 15 #[.agg #[vi, vr, vp], .agg (adA f.ad)] w' (PolPost w' (ofP f.ad (polN N.P)))) := Lib.hid (fun w' h' k => polof_any vi vr vp N f.ad w' h' k.t k.m hlP)
  have HS : Hid (∀ w', EnvS w' → Calls Tryd.prog 14 #[.agg (adA f.ad)] w' (InPost w' (scoA f.ad))) := Lib.hid (fun w' k => scope_any f.ad w' k.a)
  have HC : Hid (∀ w', Calls Tryd.prog 19 #[.agg (adA f.ad), .agg (adA t.ad)] w' (InPost w' (comA f.ad t.ad : Int))) := Lib.hid (fun w' => common_any f.ad t.ad w')
  have H1 : Hid (Tryd.prog.built 50 [(0, .bool (decide (z0A f.ad = t.ad))), (1, .int .i64 (scoA f.ad)), (2, .bool (!f.dep)), (3, .bool f.hom), (4, .bool (t.way && (f.idx == t.idx))), (5, .bool ((ofP f.ad (polN N.P)).lab == t.lab)), (6, .bool f.tem), (7, .int .i64 (min (comA f.ad t.ad : Int) f.bits))] = some (worA (worN N t f))) := Lib.hid (built_wor _ _ _ _ _ _ _ _ _)
  have HzerA : Hid (z0A f.ad = f.ad.setZ 0 (by decide)) := Lib.hid rfl
  clear hN hE hlP
  generalize worN N t f = W at *
  generalize ofP f.ad (polN N.P) = P at *
  generalize scoA f.ad = s at *
  generalize ((comA f.ad t.ad : Nat) : Int) = cm at *
  go_enter Tryd.func11, Tryd.ntmps11
  go_wp2_with (first
    | ((with_reducible refine wpList_boxB (o := ⟨some 3, _, _, _, _, _⟩) rfl _ _ rfl rfl ?_); intro g3 w1 hg hB3 hb1 hs; have hg3 : w.heap.size ≤ g3 := Nat.le_of_eq hg.symm; clear hg hs)
    | ((with_reducible refine wpList_boxB (o := ⟨some 4, _, _, _, _, _⟩) rfl _ _ rfl rfl ?_); intro g4 w2 hg hB4 hb2 hs; have hg4 : w1.heap.size ≤ g4 := Nat.le_of_eq hg.symm; have hB32 := hB3.bel hb2; have hb02 := bel_tr hb1 hb2; clear hg hs)
    | ((with_reducible refine wpList_boxB (o := ⟨some 5, _, _, _, _, _⟩) rfl _ _ rfl rfl ?_); intro g5 w3 hg hB5 hb3 hs; have hg5 : w2.heap.size ≤ g5 := Nat.le_of_eq hg.symm; have hB33 := hB32.bel hb3; have hB43 := hB4.bel hb3; have hb03 := bel_tr hb02 hb3; clear hg hs)
    | ((with_reducible refine wpList_alloc_wor (o := ⟨some 6, _, _, _, _, _⟩) rfl rfl ?_); intro g6 w4 hg hB6 hb4 hs; have hg6 : w3.heap.size ≤ g6 := Nat.le_of_eq hg.symm; have hB34 := hB33.bel hb4; have hB44 := hB43.bel hb4; have hB54 := hB5.bel hb4; have hb04 := bel_tr hb03 hb4; have hR5 := hB54.rangehd_ifc; clear hg hs)
    | (with_reducible refine wpList_loadAdM (o := ⟨some 9, _, _, _, _, _⟩) rfl _ rfl rfl hR5 ?_)
    | ((with_reducible refine wpList_allocAd (o := ⟨some 7, _, _, _, _, _⟩) rfl rfl ?_); intro g7 w5 hg hB7 hb5 hs; have hg7 : w4.heap.size ≤ g7 := Nat.le_of_eq hg.symm; have hB35 := hB34.bel hb5; have hB45 := hB44.bel hb5; have hB55 := hB54.bel hb5; have hB65 := hB6.bel hb5; have hb05 := bel_tr hb04 hb5; clear hg hs)
    | ((with_reducible refine wpList_storeAd (o := ⟨none, _, _, _, _, _⟩) rfl (.tmp 7) _ rfl rfl rfl hB7 ?_); intro w6 hB76 hS6
       have l3 := hB34.lt
       have l4 := hB44.lt
       have l5 := hB54.lt
       have l6 := hB6.lt
       have hB36 := hB35.stays hS6 (by omega)
       have hB46 := hB45.stays hS6 (by omega)
       have hB56 := hB55.stays hS6 (by omega)
       have hB66 := hB65.stays hS6 (by omega)
       have hb06 : Below w.heap.size w w6 := hb05.trans (hS6.below (Nat.le_trans hb04.size hg7))
       have c17 := hB76.cell 17
       rw [adA_17] at c17
       have f17 := hB76.free 17
       have hne : g3 < g7 ∧ g4 < g7 ∧ g5 < g7 ∧ g6 < g7 ∧ w.heap.size ≤ g6 ∧ w.heap.size ≤ g7 ∧ g3 < g6 ∧ g4 < g6 ∧ g5 < g6 := ⟨by omega, by omega, by omega, by omega, by have := hb03.size; omega, by have := hb04.size; omega, by have := hB33.lt; omega, by have := hB43.lt; omega, by have := hB5.lt; omega⟩
       clear l3 l4 l5 l6
       refine hold ?_))
  refine Lib.hid ?_
  have hX := hB76.set_ 17 (.int .i64 0)
  rw [adA_setZ f.ad 0 (by decide), ← HzerA.out] at hX
  have hY3 := hB36.far (p := ⟨g7, 17, none⟩) (by show g3 ≠ g7; omega) (.int .i64 0)
  have hY4 := hB46.far (p := ⟨g7, 17, none⟩) (by show g4 ≠ g7; omega) (.int .i64 0)
  have hY5 := hB56.far (p := ⟨g7, 17, none⟩) (by show g5 ≠ g7; omega) (.int .i64 0)
  have hY6 := hB66.far (p := ⟨g7, 17, none⟩) (by show g6 ≠ g7; omega) (.int .i64 0)
  have hby := hb06.setCell (p := ⟨g7, 17, none⟩) (show w.heap.size ≤ g7 by omega) (.int .i64 0)
  have hw6 : w.heap.size ≤ g6 := hne.2.2.2.2.1
  have n3 : some g3 ≠ some g6 := fun e => by injection e; omega
  have n4 : some g4 ≠ some g6 := fun e => by injection e; omega
  have n5 : some g5 ≠ some g6 := fun e => by injection e; omega
  have n7 : some g7 ≠ some g6 := fun e => by injection e; omega
  generalize z0A f.ad = B at *
  clear HzerA hB3 hB32 hB33 hB34 hB35 hB36 hB4 hB43 hB44 hB45 hB46 hB5 hB54 hB55 hB56 hB6 hB65 hB66 hB7 hB76 hS6 hb1 hb2 hb3 hb4 hb5 hb02 hb03 hb04 hb05 hb06 hne hg3 hg4 hg5 hg6 hg7 hR5
  go_wp2_with (fail)
  obtain ⟨wy, hwy⟩ : ∃ wy, wy = w6.setCell ⟨g7, 17, none⟩ (.int .i64 0) := ⟨_, rfl⟩
  rw [← hwy] at hX hY3 hY4 hY5 hY6 hby ⊢
  clear hwy c17 f17
  have hR3 : Hid (∀ w', wy.grownBy w' (some g6) → w'.rangeAt g3 0 [vi, vr, vp]) := Lib.hid (fun w' h => (hY3.grown h n3).rangeNet)
  have hR4 : Hid (∀ w', wy.grownBy w' (some g6) → w'.rangeAt g4 0 (adL t.ad)) := Lib.hid (fun w' h => (hY4.grown h n4).rangehd_aim)
  have hR5 : Hid (∀ w', wy.grownBy w' (some g6) → w'.rangeAt g5 0 (adL f.ad)) := Lib.hid (fun w' h => (hY5.grown h n5).rangehd_ifc)
  have hR7 : Hid (∀ w', wy.grownBy w' (some g6) → w'.rangeAt g7 0 (adL B)) := Lib.hid (fun w' h => (hX.grown h n7).rangeAd)
  have k19 : Hid (∀ w', wy.grownBy w' (some g6) → w'.cell? ⟨g4, 19, none⟩ = some (.int .i64 t.lab)) := Lib.hid (fun w' h => by have := (hY4.grown h n4).cell 19; rw [aimA_19] at this; exact this)
  have k20 : Hid (∀ w', wy.grownBy w' (some g6) → w'.cell? ⟨g4, 20, none⟩ = some (.int .i64 t.idx)) := Lib.hid (fun w' h => by have := (hY4.grown h n4).cell 20; rw [aimA_20] at this; exact this)
  have f18 : Hid (∀ w', wy.grownBy w' (some g6) → w'.cell? ⟨g5, 18, none⟩ = some (.int .i64 f.idx)) := Lib.hid (fun w' h => by have := (hY5.grown h n5).cell 18; rw [ifcA_18] at this; exact this)
  have f19 : Hid (∀ w', wy.grownBy w' (some g6) → w'.cell? ⟨g5, 19, none⟩ = some (.int .i64 f.bits)) := Lib.hid (fun w' h => by have := (hY5.grown h n5).cell 19; rw [ifcA_19] at this; exact this)
  have f20 : Hid (∀ w', wy.grownBy w' (some g6) → w'.cell? ⟨g5, 20, none⟩ = some (.bool f.dep)) := Lib.hid (fun w' h => by have := (hY5.grown h n5).cell 20; rw [ifcA_20] at this; exact this)
  have f21 : Hid (∀ w', wy.grownBy w' (some g6) → w'.cell? ⟨g5, 21, none⟩ = some (.bool f.hom)) := Lib.hid (fun w' h => by have := (hY5.grown h n5).cell 21; rw [ifcA_21] at this; exact this)
  have f22 : Hid (∀ w', wy.grownBy w' (some g6) → w'.cell? ⟨g5, 22, none⟩ = some (.bool f.tem)) := Lib.hid (fun w' h => by have := (hY5.grown h n5).cell 22; rw [ifcA_22] at this; exact this)
  cases hway : t.way
  · have k21 : Hid (∀ w', wy.grownBy w' (some g6) → w'.cell? ⟨g4, 21, none⟩ = some (.bool false)) := Lib.hid (fun w' h => by have := (hY4.grown h n4).cell 21; rw [aimA_21, hway] at this; exact this)
    rw [hway] at H1
    have HY6 := Lib.hid hY6
    clear hway hX hY3 hY4 hY5 hY6 n3 n4 n5 n7
    apply region_cut0 (R := fun w' => Bk w' g6 50 (worA W) ∧ Below w.heap.size w w')
    case h =>
      refine wp_region_held (S := fun w' => wy.grownBy w' (some g6)) (by kernel_rfl) ?_
      refine wpAnyH_take (i := 0) (oi := ⟨some 11, Op.load 29 (Operand.tmp 7), _, _, _, none⟩) (v := Value.agg (adA B)) rfl (by kernel_rfl) (by kernel_rfl) (by kernel_rfl) (fun _ _ _ h => nomatch h.1) (yieldsIf_loadAd (by rfl) _ rfl rfl hR7.out) (gr_of (Below.refl _ _).drew) ?_
      simp only [Act.put, List.setIfInBounds_toArray, List.set_cons_zero, List.set_cons_succ]
      refine wpAnyH_take (i := 1) (oi := ⟨some 12, Op.fieldAddr 46 (Operand.tmp 4) 0, _, _, _, none⟩) (v := Value.pointer (some ⟨g4, 0, none⟩)) rfl (by kernel_rfl) (by kernel_rfl) (by kernel_rfl) (fun _ _ _ h => nomatch h.1) (Or.inl ⟨by rfl, fun w' hS' => by go_simp⟩) (gr_of (Below.refl _ _).drew) ?_
      simp only [Act.put, List.setIfInBounds_toArray, List.set_cons_zero, List.set_cons_succ]
      refine wpAnyH_take (i := 2) (oi := ⟨some 13, Op.load 29 (Operand.tmp 12), _, _, _, none⟩) (v := Value.agg (adA t.ad)) rfl (by kernel_rfl) (by kernel_rfl) (by kernel_rfl) (fun _ _ _ h => nomatch h.1) (yieldsIf_loadAd (by rfl) _ rfl rfl hR4.out) (gr_of (Below.refl _ _).drew) ?_
      simp only [Act.put, List.setIfInBounds_toArray, List.set_cons_zero, List.set_cons_succ]
      refine wpAnyH_take (i := 3) (oi := ⟨some 14, Op.binOp BinOp.eql 29 (Operand.tmp 11) (Operand.tmp 13) 29, _, _, _, none⟩) (v := Value.bool (decide (B = t.ad))) rfl (by kernel_rfl) (by kernel_rfl) (by kernel_rfl) (fun _ _ _ h => nomatch h.1) (yieldsIf_eqlAd (by rfl) _ _ rfl rfl rfl rfl) (gr_of (Below.refl _ _).drew) ?_
      simp only [Act.put, List.setIfInBounds_toArray, List.set_cons_zero, List.set_cons_succ]
      refine wpAnyH_take (i := 4) (oi := ⟨some 15, Op.fieldAddr 31 (Operand.tmp 5) 0, _, _, _, none⟩) (v := Value.pointer (some ⟨g5, 0, none⟩)) rfl (by kernel_rfl) (by kernel_rfl) (by kernel_rfl) (fun _ _ _ h => nomatch h.1) (Or.inl ⟨by rfl, fun w' hS' => by go_simp⟩) (gr_of (Below.refl _ _).drew) ?_
      simp only [Act.put, List.setIfInBounds_toArray, List.set_cons_zero, List.set_cons_succ]
      refine wpAnyH_take (i := 5) (oi := ⟨some 16, Op.load 29 (Operand.tmp 15), _, _, _, none⟩) (v := Value.agg (adA f.ad)) rfl (by kernel_rfl) (by kernel_rfl) (by kernel_rfl) (fun _ _ _ h => nomatch h.1) (yieldsIf_loadAd (by rfl) _ rfl rfl hR5.out) (gr_of (Below.refl _ _).drew) ?_
      simp only [Act.put, List.setIfInBounds_toArray, List.set_cons_zero, List.set_cons_succ]
      refine wpAnyH_take (i := 7) (oi := ⟨some 18, Op.fieldAddr 31 (Operand.tmp 5) 3, _, _, _, none⟩) (v := Value.pointer (some ⟨g5, 20, none⟩)) rfl (by kernel_rfl) (by kernel_rfl) (by kernel_rfl) (fun _ _ _ h => nomatch h.1) (Or.inl ⟨by rfl, fun w' hS' => by go_simp⟩) (gr_of (Below.refl _ _).drew) ?_
      simp only [Act.put, List.setIfInBounds_toArray, List.set_cons_zero, List.set_cons_succ]
      refine wpAnyH_take (i := 8) (oi := ⟨some 19, Op.load 4 (Operand.tmp 18), _, _, _, none⟩) (v := Value.bool f.dep) rfl (by kernel_rfl) (by kernel_rfl) (by kernel_rfl) (fun _ _ _ h => nomatch h.1) (yieldsIf_loadC (by rfl) _ _ rfl rfl f20.out Tryd.underlying4 rfl) (gr_of (Below.refl _ _).drew) ?_
      simp only [Act.put, List.setIfInBounds_toArray, List.set_cons_zero, List.set_cons_succ]
      refine wpAnyH_take (i := 9) (oi := ⟨some 20, Op.unOp UnOp.not 4 (Operand.tmp 19), _, _, _, none⟩) (v := Value.bool (!f.dep)) rfl (by kernel_rfl) (by kernel_rfl) (by kernel_rfl) (fun _ _ _ h => nomatch h.1) (Or.inl ⟨by rfl, fun w' hS' => by go_simp⟩) (gr_of (Below.refl _ _).drew) ?_
      simp only [Act.put, List.setIfInBounds_toArray, List.set_cons_zero, List.set_cons_succ]
      refine wpAnyH_take (i := 10) (oi := ⟨some 21, Op.fieldAddr 31 (Operand.tmp 5) 4, _, _, _, none⟩) (v := Value.pointer (some ⟨g5, 21, none⟩)) rfl (by kernel_rfl) (by kernel_rfl) (by kernel_rfl) (fun _ _ _ h => nomatch h.1) (Or.inl ⟨by rfl, fun w' hS' => by go_simp⟩) (gr_of (Below.refl _ _).drew) ?_
      simp only [Act.put, List.setIfInBounds_toArray, List.set_cons_zero, List.set_cons_succ]
      refine wpAnyH_take (i := 11) (oi := ⟨some 22, Op.load 4 (Operand.tmp 21), _, _, _, none⟩) (v := Value.bool f.hom) rfl (by kernel_rfl) (by kernel_rfl) (by kernel_rfl) (fun _ _ _ h => nomatch h.1) (yieldsIf_loadC (by rfl) _ _ rfl rfl f21.out Tryd.underlying4 rfl) (gr_of (Below.refl _ _).drew) ?_
      simp only [Act.put, List.setIfInBounds_toArray, List.set_cons_zero, List.set_cons_succ]
      refine wpAnyH_take (i := 12) (oi := ⟨some 23, Op.fieldAddr 46 (Operand.tmp 4) 4, _, _, _, none⟩) (v := Value.pointer (some ⟨g4, 21, none⟩)) rfl (by kernel_rfl) (by kernel_rfl) (by kernel_rfl) (fun _ _ _ h => nomatch h.1) (Or.inl ⟨by rfl, fun w' hS' => by go_simp⟩) (gr_of (Below.refl _ _).drew) ?_
      simp only [Act.put, List.setIfInBounds_toArray, List.set_cons_zero, List.set_cons_succ]
      refine wpAnyH_take (i := 13) (oi := ⟨some 24, Op.load 4 (Operand.tmp 23), _, _, _, none⟩) (v := Value.bool false) rfl (by kernel_rfl) (by kernel_rfl) (by kernel_rfl) (fun _ _ _ h => nomatch h.1) (yieldsIf_loadC (by rfl) _ _ rfl rfl k21.out Tryd.underlying4 rfl) (gr_of (Below.refl _ _).drew) ?_
      simp only [Act.put, List.setIfInBounds_toArray, List.set_cons_zero, List.set_cons_succ]
      refine wpAnyH_take (i := 21) (oi := ⟨some 32, Op.load 26 (Operand.tmp 3), _, _, _, none⟩) (v := Value.agg #[vi, vr, vp]) rfl (by kernel_rfl) (by kernel_rfl) (by kernel_rfl) (fun _ _ _ h => nomatch h.1) (yieldsIf_load_mid (by rfl) _ _ rfl _ _ rfl [vi, vr, vp] _ hR3.out net_under rfl net_size) (gr_of (Below.refl _ _).drew) ?_
      simp only [Act.put, List.setIfInBounds_toArray, List.set_cons_zero, List.set_cons_succ]
      refine wpAnyH_take (i := 22) (oi := ⟨some 33, Op.fieldAddr 31 (Operand.tmp 5) 0, _, _, _, none⟩) (v := Value.pointer (some ⟨g5, 0, none⟩)) rfl (by kernel_rfl) (by kernel_rfl) (by kernel_rfl) (fun _ _ _ h => nomatch h.1) (Or.inl ⟨by rfl, fun w' hS' => by go_simp⟩) (gr_of (Below.refl _ _).drew) ?_
      simp only [Act.put, List.setIfInBounds_toArray, List.set_cons_zero, List.set_cons_succ]
      refine wpAnyH_take (i := 23) (oi := ⟨some 34, Op.load 29 (Operand.tmp 33), _, _, _, none⟩) (v := Value.agg (adA f.ad)) rfl (by kernel_rfl) (by kernel_rfl) (by kernel_rfl) (fun _ _ _ h => nomatch h.1) (yieldsIf_loadAd (by rfl) _ rfl rfl hR5.out) (gr_of (Below.refl _ _).drew) ?_
      simp only [Act.put, List.setIfInBounds_toArray, List.set_cons_zero, List.set_cons_succ]
      refine wpAnyH_take (i := 26) (oi := ⟨some 37, Op.fieldAddr 46 (Operand.tmp 4) 2, _, _, _, none⟩) (v := Value.pointer (some ⟨g4, 19, none⟩)) rfl (by kernel_rfl) (by kernel_rfl) (by kernel_rfl) (fun _ _ _ h => nomatch h.1) (Or.inl ⟨by rfl, fun w' hS' => by go_simp⟩) (gr_of (Below.refl _ _).drew) ?_
      simp only [Act.put, List.setIfInBounds_toArray, List.set_cons_zero, List.set_cons_succ]
      refine wpAnyH_take (i := 27) (oi := ⟨some 38, Op.load 3 (Operand.tmp 37), _, _, _, none⟩) (v := Value.int .i64 t.lab) rfl (by kernel_rfl) (by kernel_rfl) (by kernel_rfl) (fun _ _ _ h => nomatch h.1) (yieldsIf_loadC (by rfl) _ _ rfl rfl k19.out Tryd.underlying3 rfl) (gr_of (Below.refl _ _).drew) ?_
      simp only [Act.put, List.setIfInBounds_toArray, List.set_cons_zero, List.set_cons_succ]
      refine wpAnyH_take (i := 29) (oi := ⟨some 40, Op.fieldAddr 31 (Operand.tmp 5) 5, _, _, _, none⟩) (v := Value.pointer (some ⟨g5, 22, none⟩)) rfl (by kernel_rfl) (by kernel_rfl) (by kernel_rfl) (fun _ _ _ h => nomatch h.1) (Or.inl ⟨by rfl, fun w' hS' => by go_simp⟩) (gr_of (Below.refl _ _).drew) ?_
      simp only [Act.put, List.setIfInBounds_toArray, List.set_cons_zero, List.set_cons_succ]
      refine wpAnyH_take (i := 30) (oi := ⟨some 41, Op.load 4 (Operand.tmp 40), _, _, _, none⟩) (v := Value.bool f.tem) rfl (by kernel_rfl) (by kernel_rfl) (by kernel_rfl) (fun _ _ _ h => nomatch h.1) (yieldsIf_loadC (by rfl) _ _ rfl rfl f22.out Tryd.underlying4 rfl) (gr_of (Below.refl _ _).drew) ?_
      simp only [Act.put, List.setIfInBounds_toArray, List.set_cons_zero, List.set_cons_succ]
      refine wpAnyH_take (i := 31) (oi := ⟨some 42, Op.fieldAddr 31 (Operand.tmp 5) 0, _, _, _, none⟩) (v := Value.pointer (some ⟨g5, 0, none⟩)) rfl (by kernel_rfl) (by kernel_rfl) (by kernel_rfl) (fun _ _ _ h => nomatch h.1) (Or.inl ⟨by rfl, fun w' hS' => by go_simp⟩) (gr_of (Below.refl _ _).drew) ?_
      simp only [Act.put, List.setIfInBounds_toArray, List.set_cons_zero, List.set_cons_succ]
      refine wpAnyH_take (i := 32) (oi := ⟨some 43, Op.load 29 (Operand.tmp 42), _, _, _, none⟩) (v := Value.agg (adA f.ad)) rfl (by kernel_rfl) (by kernel_rfl) (by kernel_rfl) (fun _ _ _ h => nomatch h.1) (yieldsIf_loadAd (by rfl) _ rfl rfl hR5.out) (gr_of (Below.refl _ _).drew) ?_
      simp only [Act.put, List.setIfInBounds_toArray, List.set_cons_zero, List.set_cons_succ]
      refine wpAnyH_take (i := 33) (oi := ⟨some 44, Op.fieldAddr 46 (Operand.tmp 4) 0, _, _, _, none⟩) (v := Value.pointer (some ⟨g4, 0, none⟩)) rfl (by kernel_rfl) (by kernel_rfl) (by kernel_rfl) (fun _ _ _ h => nomatch h.1) (Or.inl ⟨by rfl, fun w' hS' => by go_simp⟩) (gr_of (Below.refl _ _).drew) ?_
      simp only [Act.put, List.setIfInBounds_toArray, List.set_cons_zero, List.set_cons_succ]
      refine wpAnyH_take (i := 34) (oi := ⟨some 45, Op.load 29 (Operand.tmp 44), _, _, _, none⟩) (v := Value.agg (adA t.ad)) rfl (by kernel_rfl) (by kernel_rfl) (by kernel_rfl) (fun _ _ _ h => nomatch h.1) (yieldsIf_loadAd (by rfl) _ rfl rfl hR4.out) (gr_of (Below.refl _ _).drew) ?_
      simp only [Act.put, List.setIfInBounds_toArray, List.set_cons_zero, List.set_cons_succ]
      refine wpAnyH_take (i := 36) (oi := ⟨some 47, Op.fieldAddr 31 (Operand.tmp 5) 2, _, _, _, none⟩) (v := Value.pointer (some ⟨g5, 19, none⟩)) rfl (by kernel_rfl) (by kernel_rfl) (by kernel_rfl) (fun _ _ _ h => nomatch h.1) (Or.inl ⟨by rfl, fun w' hS' => by go_simp⟩) (gr_of (Below.refl _ _).drew) ?_
      simp only [Act.put, List.setIfInBounds_toArray, List.set_cons_zero, List.set_cons_succ]
      refine wpAnyH_take (i := 37) (oi := ⟨some 48, Op.load 3 (Operand.tmp 47), _, _, _, none⟩) (v := Value.int .i64 f.bits) rfl (by kernel_rfl) (by kernel_rfl) (by kernel_rfl) (fun _ _ _ h => nomatch h.1) (yieldsIf_loadC (by rfl) _ _ rfl rfl f19.out Tryd.underlying3 rfl) (gr_of (Below.refl _ _).drew) ?_
      simp only [Act.put, List.setIfInBounds_toArray, List.set_cons_zero, List.set_cons_succ]
      refine wpAnyH_all (rs := [6]) (by kernel_rfl) (by decide) ?_
      intro i hi
      obtain rfl := List.mem_singleton.1 hi
      refine wpOp_callM (o := ⟨some 17, Op.call { callee := Callee.value (Operand.func 14), args := #[Operand.tmp 16], argTypes := #[29] }, _, _, _, none⟩) rfl (by rfl) (by go_simp) (HS.out _ (HE.out.below (bel_tr hby ((Below.refl _ _).drew)))) ?_
      rintro e x1 ⟨rfl, hy1⟩
      have hx1 := bel_drew hy1
      refine ⟨_, rfl, ?_⟩
      show _ ∧ _
      refine ⟨(gr_of hx1), ?_⟩
      simp only [Act.put, List.setIfInBounds_toArray, List.set_cons_zero, List.set_cons_succ]
      refine wpAnyH_take (i := 14) (oi := ⟨some 25, Op.move (Operand.tmp 24), _, _, _, none⟩) (v := Value.bool false) rfl (by kernel_rfl) (by kernel_rfl) (by kernel_rfl) (fun _ _ _ h => nomatch h.1) (Or.inl ⟨by rfl, fun w' hS' => by go_simp⟩) (gr_of hx1) ?_
      simp only [Act.put, List.setIfInBounds_toArray, List.set_cons_zero, List.set_cons_succ]
      refine wpAnyH_take (i := 15) (oi := ⟨some 26, Op.fieldAddr 31 (Operand.tmp 5) 1, _, _, _, some (14 , true)⟩) (v := undef) rfl (by kernel_rfl) (by kernel_rfl) (by kernel_rfl) (fun _ _ _ h => nomatch h.1) (Or.inr ⟨by rfl, rfl⟩) (gr_of hx1) ?_
      simp only [Act.put, List.setIfInBounds_toArray, List.set_cons_zero, List.set_cons_succ]
      refine wpAnyH_take (i := 16) (oi := ⟨some 27, Op.load 3 (Operand.tmp 26), _, _, _, some (14 , true)⟩) (v := undef) rfl (by kernel_rfl) (by kernel_rfl) (by kernel_rfl) (fun _ _ _ h => nomatch h.1) (Or.inr ⟨by rfl, rfl⟩) (gr_of hx1) ?_
      simp only [Act.put, List.setIfInBounds_toArray, List.set_cons_zero, List.set_cons_succ]
      refine wpAnyH_take (i := 17) (oi := ⟨some 28, Op.fieldAddr 46 (Operand.tmp 4) 3, _, _, _, some (14 , true)⟩) (v := undef) rfl (by kernel_rfl) (by kernel_rfl) (by kernel_rfl) (fun _ _ _ h => nomatch h.1) (Or.inr ⟨by rfl, rfl⟩) (gr_of hx1) ?_
      simp only [Act.put, List.setIfInBounds_toArray, List.set_cons_zero, List.set_cons_succ]
      refine wpAnyH_take (i := 18) (oi := ⟨some 29, Op.load 3 (Operand.tmp 28), _, _, _, some (14 , true)⟩) (v := undef) rfl (by kernel_rfl) (by kernel_rfl) (by kernel_rfl) (fun _ _ _ h => nomatch h.1) (Or.inr ⟨by rfl, rfl⟩) (gr_of hx1) ?_
      simp only [Act.put, List.setIfInBounds_toArray, List.set_cons_zero, List.set_cons_succ]
      refine wpAnyH_take (i := 19) (oi := ⟨some 30, Op.binOp BinOp.eql 3 (Operand.tmp 27) (Operand.tmp 29) 3, _, _, _, some (14 , true)⟩) (v := undef) rfl (by kernel_rfl) (by kernel_rfl) (by kernel_rfl) (fun _ _ _ h => nomatch h.1) (Or.inr ⟨by rfl, rfl⟩) (gr_of hx1) ?_
      simp only [Act.put, List.setIfInBounds_toArray, List.set_cons_zero, List.set_cons_succ]
      refine wpAnyH_take (i := 20) (oi := ⟨some 31, Op.pick (Operand.tmp 25) (Operand.tmp 30) (Operand.const (Value.bool false)), _, _, _, none⟩) (v := Value.bool false) rfl (by kernel_rfl) (by kernel_rfl) (by kernel_rfl) (fun _ _ _ h => nomatch h.1) (Or.inl ⟨by rfl, fun w' hS' => by go_simp⟩) (gr_of hx1) ?_
      simp only [Act.put, List.setIfInBounds_toArray, List.set_cons_zero, List.set_cons_succ]
      refine wpAnyH_all (rs := [24]) (by kernel_rfl) (by decide) ?_
      intro i hi
      obtain rfl := List.mem_singleton.1 hi
      refine wpOp_callM (o := ⟨some 35, Op.call { callee := Callee.value (Operand.func 15), args := #[Operand.tmp 32, Operand.tmp 34], argTypes := #[26, 29] }, _, _, _, none⟩) rfl (by rfl) (by go_simp) (HP.out _ (HN.out.below (bel_tr hby (hx1))) (HE.out.below (bel_tr hby (hx1)))) ?_
      rintro e x2 ⟨rfl, hy2⟩
      have hx2 := bel_tr hx1 hy2
      refine ⟨_, rfl, ?_⟩
      show _ ∧ _
      refine ⟨(gr_of hx2), ?_⟩
      simp only [Act.put, List.setIfInBounds_toArray, List.set_cons_zero, List.set_cons_succ]
      refine wpAnyH_take (i := 25) (oi := ⟨some 36, Op.field 57 (Operand.tmp 35) 2, _, _, _, none⟩) (v := Value.int .i64 P.lab) rfl (by kernel_rfl) (by kernel_rfl) (by kernel_rfl) (fun _ _ _ h => nomatch h.1) (yieldsIf_fieldOne (by rfl) _ _ 2 rfl rfl pol_under (ty := 3) (off := 20) (by kernel_rfl) Tryd.underlying3 rfl (polA_20 _)) (gr_of hx2) ?_
      simp only [Act.put, List.setIfInBounds_toArray, List.set_cons_zero, List.set_cons_succ]
      refine wpAnyH_take (i := 28) (oi := ⟨some 39, Op.binOp BinOp.eql 3 (Operand.tmp 36) (Operand.tmp 38) 3, _, _, _, none⟩) (v := Value.bool (P.lab == t.lab)) rfl (by kernel_rfl) (by kernel_rfl) (by kernel_rfl) (fun _ _ _ h => nomatch h.1) (Or.inl ⟨by rfl, fun w' hS' => by go_simp⟩) (gr_of hx2) ?_
      simp only [Act.put, List.setIfInBounds_toArray, List.set_cons_zero, List.set_cons_succ]
      refine wpAnyH_all (rs := [35]) (by kernel_rfl) (by decide) ?_
      intro i hi
      obtain rfl := List.mem_singleton.1 hi
      refine wpOp_callM (o := ⟨some 46, Op.call { callee := Callee.value (Operand.func 19), args := #[Operand.tmp 43, Operand.tmp 45], argTypes := #[29, 29] }, _, _, _, none⟩) rfl (by rfl) (by go_simp) (HC.out _) ?_
      rintro e x3 ⟨rfl, hy3⟩
      have hx3 := bel_tr hx2 hy3
      refine ⟨_, rfl, ?_⟩
      show _ ∧ _
      refine ⟨(gr_of hx3), ?_⟩
      simp only [Act.put, List.setIfInBounds_toArray, List.set_cons_zero, List.set_cons_succ]
      refine wpAnyH_take (i := 38) (oi := ⟨some 49, Op.call { callee := Callee.builtin Builtin.min, args := #[Operand.tmp 46, Operand.tmp 48], argTypes := #[3, 3] }, _, _, _, none⟩) (v := Value.int .i64 (min cm f.bits)) rfl (by kernel_rfl) (by kernel_rfl) (by kernel_rfl) (fun _ _ _ h => nomatch h.1) (Or.inl ⟨by rfl, fun w' hS' => by go_simp⟩) (gr_of hx3) ?_
      simp only [Act.put, List.setIfInBounds_toArray, List.set_cons_zero, List.set_cons_succ]
      refine wpAnyH_take (i := 39) (oi := ⟨some 50, Op.build 50 #[(0 , Operand.tmp 14), (1 , Operand.tmp 17), (2 , Operand.tmp 20), (3 , Operand.tmp 22), (4 , Operand.tmp 31), (5 , Operand.tmp 39), (6 , Operand.tmp 41), (7 , Operand.tmp 49)], _, _, _, none⟩) (v := Value.agg (worA W)) rfl (by kernel_rfl) (by kernel_rfl) (by kernel_rfl) (fun _ _ _ h => nomatch h.1) (yieldsIf_buildL (by rfl) 50 _ rfl H1.out rfl) (gr_of hx3) ?_
      simp only [Act.put, List.setIfInBounds_toArray, List.set_cons_zero, List.set_cons_succ]
      refine wpAnyH_all (rs := [40]) (by kernel_rfl) (by decide) ?_
      intro i hi
      obtain rfl := List.mem_singleton.1 hi
      refine wpOp_of_list (o := ⟨none, Op.store 50 (Operand.tmp 6) (Operand.tmp 50), _, _, _, none⟩) rfl ?_
      have hB6z := HY6.out.bel (hx3 : Below wy.heap.size wy _)
      refine wpList_store_wor rfl _ _ rfl rfl rfl hB6z ?_
      intro x4 hBz hSz
      have hgS := gr_st (hx3 : Below wy.heap.size wy _) hSz
      have hx4 := (bel_tr hby (hx3 : Below wy.heap.size wy _)).trans (hSz.below hw6)
      show _ ∧ _
      refine ⟨hgS, ?_⟩
      simp only [Act.put]
      refine wpAnyH_done (by kernel_rfl) ?_ _
      exact ⟨rfl, rfl, hBz, hx4⟩
    case k =>
      rintro w9 ⟨hB9, hb9⟩
      go_wp2_with (fail)
      exact ret_wor Tryd.results11 rfl hB9 rfl ⟨rfl, hb9⟩
  · have k21 : Hid (∀ w', wy.grownBy w' (some g6) → w'.cell? ⟨g4, 21, none⟩ = some (.bool true)) := Lib.hid (fun w' h => by have := (hY4.grown h n4).cell 21; rw [aimA_21, hway] at this; exact this)
    rw [hway] at H1
    have HY6 := Lib.hid hY6
    clear hway hX hY3 hY4 hY5 hY6 n3 n4 n5 n7
    apply region_cut0 (R := fun w' => Bk w' g6 50 (worA W) ∧ Below w.heap.size w w')
    case h =>
      refine wp_region_held (S := fun w' => wy.grownBy w' (some g6)) (by kernel_rfl) ?_
      refine wpAnyH_take (i := 0) (oi := ⟨some 11, Op.load 29 (Operand.tmp 7), _, _, _, none⟩) (v := Value.agg (adA B)) rfl (by kernel_rfl) (by kernel_rfl) (by kernel_rfl) (fun _ _ _ h => nomatch h.1) (yieldsIf_loadAd (by rfl) _ rfl rfl hR7.out) (gr_of (Below.refl _ _).drew) ?_
      simp only [Act.put, List.setIfInBounds_toArray, List.set_cons_zero, List.set_cons_succ]
      refine wpAnyH_take (i := 1) (oi := ⟨some 12, Op.fieldAddr 46 (Operand.tmp 4) 0, _, _, _, none⟩) (v := Value.pointer (some ⟨g4, 0, none⟩)) rfl (by kernel_rfl) (by kernel_rfl) (by kernel_rfl) (fun _ _ _ h => nomatch h.1) (Or.inl ⟨by rfl, fun w' hS' => by go_simp⟩) (gr_of (Below.refl _ _).drew) ?_
      simp only [Act.put, List.setIfInBounds_toArray, List.set_cons_zero, List.set_cons_succ]
      refine wpAnyH_take (i := 2) (oi := ⟨some 13, Op.load 29 (Operand.tmp 12), _, _, _, none⟩) (v := Value.agg (adA t.ad)) rfl (by kernel_rfl) (by kernel_rfl) (by kernel_rfl) (fun _ _ _ h => nomatch h.1) (yieldsIf_loadAd (by rfl) _ rfl rfl hR4.out) (gr_of (Below.refl _ _).drew) ?_
      simp only [Act.put, List.setIfInBounds_toArray, List.set_cons_zero, List.set_cons_succ]
      refine wpAnyH_take (i := 3) (oi := ⟨some 14, Op.binOp BinOp.eql 29 (Operand.tmp 11) (Operand.tmp 13) 29, _, _, _, none⟩) (v := Value.bool (decide (B = t.ad))) rfl (by kernel_rfl) (by kernel_rfl) (by kernel_rfl) (fun _ _ _ h => nomatch h.1) (yieldsIf_eqlAd (by rfl) _ _ rfl rfl rfl rfl) (gr_of (Below.refl _ _).drew) ?_
      simp only [Act.put, List.setIfInBounds_toArray, List.set_cons_zero, List.set_cons_succ]
      refine wpAnyH_take (i := 4) (oi := ⟨some 15, Op.fieldAddr 31 (Operand.tmp 5) 0, _, _, _, none⟩) (v := Value.pointer (some ⟨g5, 0, none⟩)) rfl (by kernel_rfl) (by kernel_rfl) (by kernel_rfl) (fun _ _ _ h => nomatch h.1) (Or.inl ⟨by rfl, fun w' hS' => by go_simp⟩) (gr_of (Below.refl _ _).drew) ?_
      simp only [Act.put, List.setIfInBounds_toArray, List.set_cons_zero, List.set_cons_succ]
      refine wpAnyH_take (i := 5) (oi := ⟨some 16, Op.load 29 (Operand.tmp 15), _, _, _, none⟩) (v := Value.agg (adA f.ad)) rfl (by kernel_rfl) (by kernel_rfl) (by kernel_rfl) (fun _ _ _ h => nomatch h.1) (yieldsIf_loadAd (by rfl) _ rfl rfl hR5.out) (gr_of (Below.refl _ _).drew) ?_
      simp only [Act.put, List.setIfInBounds_toArray, List.set_cons_zero, List.set_cons_succ]
      refine wpAnyH_take (i := 7) (oi := ⟨some 18, Op.fieldAddr 31 (Operand.tmp 5) 3, _, _, _, none⟩) (v := Value.pointer (some ⟨g5, 20, none⟩)) rfl (by kernel_rfl) (by kernel_rfl) (by kernel_rfl) (fun _ _ _ h => nomatch h.1) (Or.inl ⟨by rfl, fun w' hS' => by go_simp⟩) (gr_of (Below.refl _ _).drew) ?_
      simp only [Act.put, List.setIfInBounds_toArray, List.set_cons_zero, List.set_cons_succ]
      refine wpAnyH_take (i := 8) (oi := ⟨some 19, Op.load 4 (Operand.tmp 18), _, _, _, none⟩) (v := Value.bool f.dep) rfl (by kernel_rfl) (by kernel_rfl) (by kernel_rfl) (fun _ _ _ h => nomatch h.1) (yieldsIf_loadC (by rfl) _ _ rfl rfl f20.out Tryd.underlying4 rfl) (gr_of (Below.refl _ _).drew) ?_
      simp only [Act.put, List.setIfInBounds_toArray, List.set_cons_zero, List.set_cons_succ]
      refine wpAnyH_take (i := 9) (oi := ⟨some 20, Op.unOp UnOp.not 4 (Operand.tmp 19), _, _, _, none⟩) (v := Value.bool (!f.dep)) rfl (by kernel_rfl) (by kernel_rfl) (by kernel_rfl) (fun _ _ _ h => nomatch h.1) (Or.inl ⟨by rfl, fun w' hS' => by go_simp⟩) (gr_of (Below.refl _ _).drew) ?_
      simp only [Act.put, List.setIfInBounds_toArray, List.set_cons_zero, List.set_cons_succ]
      refine wpAnyH_take (i := 10) (oi := ⟨some 21, Op.fieldAddr 31 (Operand.tmp 5) 4, _, _, _, none⟩) (v := Value.pointer (some ⟨g5, 21, none⟩)) rfl (by kernel_rfl) (by kernel_rfl) (by kernel_rfl) (fun _ _ _ h => nomatch h.1) (Or.inl ⟨by rfl, fun w' hS' => by go_simp⟩) (gr_of (Below.refl _ _).drew) ?_
      simp only [Act.put, List.setIfInBounds_toArray, List.set_cons_zero, List.set_cons_succ]
      refine wpAnyH_take (i := 11) (oi := ⟨some 22, Op.load 4 (Operand.tmp 21), _, _, _, none⟩) (v := Value.bool f.hom) rfl (by kernel_rfl) (by kernel_rfl) (by kernel_rfl) (fun _ _ _ h => nomatch h.1) (yieldsIf_loadC (by rfl) _ _ rfl rfl f21.out Tryd.underlying4 rfl) (gr_of (Below.refl _ _).drew) ?_
      simp only [Act.put, List.setIfInBounds_toArray, List.set_cons_zero, List.set_cons_succ]
      refine wpAnyH_take (i := 12) (oi := ⟨some 23, Op.fieldAddr 46 (Operand.tmp 4) 4, _, _, _, none⟩) (v := Value.pointer (some ⟨g4, 21, none⟩)) rfl (by kernel_rfl) (by kernel_rfl) (by kernel_rfl) (fun _ _ _ h => nomatch h.1) (Or.inl ⟨by rfl, fun w' hS' => by go_simp⟩) (gr_of (Below.refl _ _).drew) ?_
      simp only [Act.put, List.setIfInBounds_toArray, List.set_cons_zero, List.set_cons_succ]
      refine wpAnyH_take (i := 13) (oi := ⟨some 24, Op.load 4 (Operand.tmp 23), _, _, _, none⟩) (v := Value.bool true) rfl (by kernel_rfl) (by kernel_rfl) (by kernel_rfl) (fun _ _ _ h => nomatch h.1) (yieldsIf_loadC (by rfl) _ _ rfl rfl k21.out Tryd.underlying4 rfl) (gr_of (Below.refl _ _).drew) ?_
      simp only [Act.put, List.setIfInBounds_toArray, List.set_cons_zero, List.set_cons_succ]
      refine wpAnyH_take (i := 21) (oi := ⟨some 32, Op.load 26 (Operand.tmp 3), _, _, _, none⟩) (v := Value.agg #[vi, vr, vp]) rfl (by kernel_rfl) (by kernel_rfl) (by kernel_rfl) (fun _ _ _ h => nomatch h.1) (yieldsIf_load_mid (by rfl) _ _ rfl _ _ rfl [vi, vr, vp] _ hR3.out net_under rfl net_size) (gr_of (Below.refl _ _).drew) ?_
      simp only [Act.put, List.setIfInBounds_toArray, List.set_cons_zero, List.set_cons_succ]
      refine wpAnyH_take (i := 22) (oi := ⟨some 33, Op.fieldAddr 31 (Operand.tmp 5) 0, _, _, _, none⟩) (v := Value.pointer (some ⟨g5, 0, none⟩)) rfl (by kernel_rfl) (by kernel_rfl) (by kernel_rfl) (fun _ _ _ h => nomatch h.1) (Or.inl ⟨by rfl, fun w' hS' => by go_simp⟩) (gr_of (Below.refl _ _).drew) ?_
      simp only [Act.put, List.setIfInBounds_toArray, List.set_cons_zero, List.set_cons_succ]
      refine wpAnyH_take (i := 23) (oi := ⟨some 34, Op.load 29 (Operand.tmp 33), _, _, _, none⟩) (v := Value.agg (adA f.ad)) rfl (by kernel_rfl) (by kernel_rfl) (by kernel_rfl) (fun _ _ _ h => nomatch h.1) (yieldsIf_loadAd (by rfl) _ rfl rfl hR5.out) (gr_of (Below.refl _ _).drew) ?_
      simp only [Act.put, List.setIfInBounds_toArray, List.set_cons_zero, List.set_cons_succ]
      refine wpAnyH_take (i := 26) (oi := ⟨some 37, Op.fieldAddr 46 (Operand.tmp 4) 2, _, _, _, none⟩) (v := Value.pointer (some ⟨g4, 19, none⟩)) rfl (by kernel_rfl) (by kernel_rfl) (by kernel_rfl) (fun _ _ _ h => nomatch h.1) (Or.inl ⟨by rfl, fun w' hS' => by go_simp⟩) (gr_of (Below.refl _ _).drew) ?_
      simp only [Act.put, List.setIfInBounds_toArray, List.set_cons_zero, List.set_cons_succ]
      refine wpAnyH_take (i := 27) (oi := ⟨some 38, Op.load 3 (Operand.tmp 37), _, _, _, none⟩) (v := Value.int .i64 t.lab) rfl (by kernel_rfl) (by kernel_rfl) (by kernel_rfl) (fun _ _ _ h => nomatch h.1) (yieldsIf_loadC (by rfl) _ _ rfl rfl k19.out Tryd.underlying3 rfl) (gr_of (Below.refl _ _).drew) ?_
      simp only [Act.put, List.setIfInBounds_toArray, List.set_cons_zero, List.set_cons_succ]
      refine wpAnyH_take (i := 29) (oi := ⟨some 40, Op.fieldAddr 31 (Operand.tmp 5) 5, _, _, _, none⟩) (v := Value.pointer (some ⟨g5, 22, none⟩)) rfl (by kernel_rfl) (by kernel_rfl) (by kernel_rfl) (fun _ _ _ h => nomatch h.1) (Or.inl ⟨by rfl, fun w' hS' => by go_simp⟩) (gr_of (Below.refl _ _).drew) ?_
      simp only [Act.put, List.setIfInBounds_toArray, List.set_cons_zero, List.set_cons_succ]
      refine wpAnyH_take (i := 30) (oi := ⟨some 41, Op.load 4 (Operand.tmp 40), _, _, _, none⟩) (v := Value.bool f.tem) rfl (by kernel_rfl) (by kernel_rfl) (by kernel_rfl) (fun _ _ _ h => nomatch h.1) (yieldsIf_loadC (by rfl) _ _ rfl rfl f22.out Tryd.underlying4 rfl) (gr_of (Below.refl _ _).drew) ?_
      simp only [Act.put, List.setIfInBounds_toArray, List.set_cons_zero, List.set_cons_succ]
      refine wpAnyH_take (i := 31) (oi := ⟨some 42, Op.fieldAddr 31 (Operand.tmp 5) 0, _, _, _, none⟩) (v := Value.pointer (some ⟨g5, 0, none⟩)) rfl (by kernel_rfl) (by kernel_rfl) (by kernel_rfl) (fun _ _ _ h => nomatch h.1) (Or.inl ⟨by rfl, fun w' hS' => by go_simp⟩) (gr_of (Below.refl _ _).drew) ?_
      simp only [Act.put, List.setIfInBounds_toArray, List.set_cons_zero, List.set_cons_succ]
      refine wpAnyH_take (i := 32) (oi := ⟨some 43, Op.load 29 (Operand.tmp 42), _, _, _, none⟩) (v := Value.agg (adA f.ad)) rfl (by kernel_rfl) (by kernel_rfl) (by kernel_rfl) (fun _ _ _ h => nomatch h.1) (yieldsIf_loadAd (by rfl) _ rfl rfl hR5.out) (gr_of (Below.refl _ _).drew) ?_
      simp only [Act.put, List.setIfInBounds_toArray, List.set_cons_zero, List.set_cons_succ]
      refine wpAnyH_take (i := 33) (oi := ⟨some 44, Op.fieldAddr 46 (Operand.tmp 4) 0, _, _, _, none⟩) (v := Value.pointer (some ⟨g4, 0, none⟩)) rfl (by kernel_rfl) (by kernel_rfl) (by kernel_rfl) (fun _ _ _ h => nomatch h.1) (Or.inl ⟨by rfl, fun w' hS' => by go_simp⟩) (gr_of (Below.refl _ _).drew) ?_
      simp only [Act.put, List.setIfInBounds_toArray, List.set_cons_zero, List.set_cons_succ]
      refine wpAnyH_take (i := 34) (oi := ⟨some 45, Op.load 29 (Operand.tmp 44), _, _, _, none⟩) (v := Value.agg (adA t.ad)) rfl (by kernel_rfl) (by kernel_rfl) (by kernel_rfl) (fun _ _ _ h => nomatch h.1) (yieldsIf_loadAd (by rfl) _ rfl rfl hR4.out) (gr_of (Below.refl _ _).drew) ?_
      simp only [Act.put, List.setIfInBounds_toArray, List.set_cons_zero, List.set_cons_succ]
      refine wpAnyH_take (i := 36) (oi := ⟨some 47, Op.fieldAddr 31 (Operand.tmp 5) 2, _, _, _, none⟩) (v := Value.pointer (some ⟨g5, 19, none⟩)) rfl (by kernel_rfl) (by kernel_rfl) (by kernel_rfl) (fun _ _ _ h => nomatch h.1) (Or.inl ⟨by rfl, fun w' hS' => by go_simp⟩) (gr_of (Below.refl _ _).drew) ?_
      simp only [Act.put, List.setIfInBounds_toArray, List.set_cons_zero, List.set_cons_succ]
      refine wpAnyH_take (i := 37) (oi := ⟨some 48, Op.load 3 (Operand.tmp 47), _, _, _, none⟩) (v := Value.int .i64 f.bits) rfl (by kernel_rfl) (by kernel_rfl) (by kernel_rfl) (fun _ _ _ h => nomatch h.1) (yieldsIf_loadC (by rfl) _ _ rfl rfl f19.out Tryd.underlying3 rfl) (gr_of (Below.refl _ _).drew) ?_
      simp only [Act.put, List.setIfInBounds_toArray, List.set_cons_zero, List.set_cons_succ]
      refine wpAnyH_all (rs := [6]) (by kernel_rfl) (by decide) ?_
      intro i hi
      obtain rfl := List.mem_singleton.1 hi
      refine wpOp_callM (o := ⟨some 17, Op.call { callee := Callee.value (Operand.func 14), args := #[Operand.tmp 16], argTypes := #[29] }, _, _, _, none⟩) rfl (by rfl) (by go_simp) (HS.out _ (HE.out.below (bel_tr hby ((Below.refl _ _).drew)))) ?_
      rintro e x1 ⟨rfl, hy1⟩
      have hx1 := bel_drew hy1
      refine ⟨_, rfl, ?_⟩
      show _ ∧ _
      refine ⟨(gr_of hx1), ?_⟩
      simp only [Act.put, List.setIfInBounds_toArray, List.set_cons_zero, List.set_cons_succ]
      refine wpAnyH_take (i := 14) (oi := ⟨some 25, Op.move (Operand.tmp 24), _, _, _, none⟩) (v := Value.bool true) rfl (by kernel_rfl) (by kernel_rfl) (by kernel_rfl) (fun _ _ _ h => nomatch h.1) (Or.inl ⟨by rfl, fun w' hS' => by go_simp⟩) (gr_of hx1) ?_
      simp only [Act.put, List.setIfInBounds_toArray, List.set_cons_zero, List.set_cons_succ]
      refine wpAnyH_take (i := 15) (oi := ⟨some 26, Op.fieldAddr 31 (Operand.tmp 5) 1, _, _, _, some (14 , true)⟩) (v := Value.pointer (some ⟨g5, 18, none⟩)) rfl (by kernel_rfl) (by kernel_rfl) (by kernel_rfl) (fun _ _ _ h => nomatch h.1) (Or.inl ⟨by rfl, fun w' hS' => by go_simp⟩) (gr_of hx1) ?_
      simp only [Act.put, List.setIfInBounds_toArray, List.set_cons_zero, List.set_cons_succ]
      refine wpAnyH_take (i := 16) (oi := ⟨some 27, Op.load 3 (Operand.tmp 26), _, _, _, some (14 , true)⟩) (v := Value.int .i64 f.idx) rfl (by kernel_rfl) (by kernel_rfl) (by kernel_rfl) (fun _ _ _ h => nomatch h.1) (yieldsIf_loadC (by rfl) _ _ rfl rfl f18.out Tryd.underlying3 rfl) (gr_of hx1) ?_
      simp only [Act.put, List.setIfInBounds_toArray, List.set_cons_zero, List.set_cons_succ]
      refine wpAnyH_take (i := 17) (oi := ⟨some 28, Op.fieldAddr 46 (Operand.tmp 4) 3, _, _, _, some (14 , true)⟩) (v := Value.pointer (some ⟨g4, 20, none⟩)) rfl (by kernel_rfl) (by kernel_rfl) (by kernel_rfl) (fun _ _ _ h => nomatch h.1) (Or.inl ⟨by rfl, fun w' hS' => by go_simp⟩) (gr_of hx1) ?_
      simp only [Act.put, List.setIfInBounds_toArray, List.set_cons_zero, List.set_cons_succ]
      refine wpAnyH_take (i := 18) (oi := ⟨some 29, Op.load 3 (Operand.tmp 28), _, _, _, some (14 , true)⟩) (v := Value.int .i64 t.idx) rfl (by kernel_rfl) (by kernel_rfl) (by kernel_rfl) (fun _ _ _ h => nomatch h.1) (yieldsIf_loadC (by rfl) _ _ rfl rfl k20.out Tryd.underlying3 rfl) (gr_of hx1) ?_
      simp only [Act.put, List.setIfInBounds_toArray, List.set_cons_zero, List.set_cons_succ]
      refine wpAnyH_take (i := 19) (oi := ⟨some 30, Op.binOp BinOp.eql 3 (Operand.tmp 27) (Operand.tmp 29) 3, _, _, _, some (14 , true)⟩) (v := Value.bool (f.idx == t.idx)) rfl (by kernel_rfl) (by kernel_rfl) (by kernel_rfl) (fun _ _ _ h => nomatch h.1) (Or.inl ⟨by rfl, fun w' hS' => by go_simp⟩) (gr_of hx1) ?_
      simp only [Act.put, List.setIfInBounds_toArray, List.set_cons_zero, List.set_cons_succ]
      refine wpAnyH_take (i := 20) (oi := ⟨some 31, Op.pick (Operand.tmp 25) (Operand.tmp 30) (Operand.const (Value.bool false)), _, _, _, none⟩) (v := Value.bool (f.idx == t.idx)) rfl (by kernel_rfl) (by kernel_rfl) (by kernel_rfl) (fun _ _ _ h => nomatch h.1) (Or.inl ⟨by rfl, fun w' hS' => by go_simp⟩) (gr_of hx1) ?_
      simp only [Act.put, List.setIfInBounds_toArray, List.set_cons_zero, List.set_cons_succ]
      refine wpAnyH_all (rs := [24]) (by kernel_rfl) (by decide) ?_
      intro i hi
      obtain rfl := List.mem_singleton.1 hi
      refine wpOp_callM (o := ⟨some 35, Op.call { callee := Callee.value (Operand.func 15), args := #[Operand.tmp 32, Operand.tmp 34], argTypes := #[26, 29] }, _, _, _, none⟩) rfl (by rfl) (by go_simp) (HP.out _ (HN.out.below (bel_tr hby (hx1))) (HE.out.below (bel_tr hby (hx1)))) ?_
      rintro e x2 ⟨rfl, hy2⟩
      have hx2 := bel_tr hx1 hy2
      refine ⟨_, rfl, ?_⟩
      show _ ∧ _
      refine ⟨(gr_of hx2), ?_⟩
      simp only [Act.put, List.setIfInBounds_toArray, List.set_cons_zero, List.set_cons_succ]
      refine wpAnyH_take (i := 25) (oi := ⟨some 36, Op.field 57 (Operand.tmp 35) 2, _, _, _, none⟩) (v := Value.int .i64 P.lab) rfl (by kernel_rfl) (by kernel_rfl) (by kernel_rfl) (fun _ _ _ h => nomatch h.1) (yieldsIf_fieldOne (by rfl) _ _ 2 rfl rfl pol_under (ty := 3) (off := 20) (by kernel_rfl) Tryd.underlying3 rfl (polA_20 _)) (gr_of hx2) ?_
      simp only [Act.put, List.setIfInBounds_toArray, List.set_cons_zero, List.set_cons_succ]
      refine wpAnyH_take (i := 28) (oi := ⟨some 39, Op.binOp BinOp.eql 3 (Operand.tmp 36) (Operand.tmp 38) 3, _, _, _, none⟩) (v := Value.bool (P.lab == t.lab)) rfl (by kernel_rfl) (by kernel_rfl) (by kernel_rfl) (fun _ _ _ h => nomatch h.1) (Or.inl ⟨by rfl, fun w' hS' => by go_simp⟩) (gr_of hx2) ?_
      simp only [Act.put, List.setIfInBounds_toArray, List.set_cons_zero, List.set_cons_succ]
      refine wpAnyH_all (rs := [35]) (by kernel_rfl) (by decide) ?_
      intro i hi
      obtain rfl := List.mem_singleton.1 hi
      refine wpOp_callM (o := ⟨some 46, Op.call { callee := Callee.value (Operand.func 19), args := #[Operand.tmp 43, Operand.tmp 45], argTypes := #[29, 29] }, _, _, _, none⟩) rfl (by rfl) (by go_simp) (HC.out _) ?_
      rintro e x3 ⟨rfl, hy3⟩
      have hx3 := bel_tr hx2 hy3
      refine ⟨_, rfl, ?_⟩
      show _ ∧ _
      refine ⟨(gr_of hx3), ?_⟩
      simp only [Act.put, List.setIfInBounds_toArray, List.set_cons_zero, List.set_cons_succ]
      refine wpAnyH_take (i := 38) (oi := ⟨some 49, Op.call { callee := Callee.builtin Builtin.min, args := #[Operand.tmp 46, Operand.tmp 48], argTypes := #[3, 3] }, _, _, _, none⟩) (v := Value.int .i64 (min cm f.bits)) rfl (by kernel_rfl) (by kernel_rfl) (by kernel_rfl) (fun _ _ _ h => nomatch h.1) (Or.inl ⟨by rfl, fun w' hS' => by go_simp⟩) (gr_of hx3) ?_
      simp only [Act.put, List.setIfInBounds_toArray, List.set_cons_zero, List.set_cons_succ]
      refine wpAnyH_take (i := 39) (oi := ⟨some 50, Op.build 50 #[(0 , Operand.tmp 14), (1 , Operand.tmp 17), (2 , Operand.tmp 20), (3 , Operand.tmp 22), (4 , Operand.tmp 31), (5 , Operand.tmp 39), (6 , Operand.tmp 41), (7 , Operand.tmp 49)], _, _, _, none⟩) (v := Value.agg (worA W)) rfl (by kernel_rfl) (by kernel_rfl) (by kernel_rfl) (fun _ _ _ h => nomatch h.1) (yieldsIf_buildL (by rfl) 50 _ rfl H1.out rfl) (gr_of hx3) ?_
      simp only [Act.put, List.setIfInBounds_toArray, List.set_cons_zero, List.set_cons_succ]
      refine wpAnyH_all (rs := [40]) (by kernel_rfl) (by decide) ?_
      intro i hi
      obtain rfl := List.mem_singleton.1 hi
      refine wpOp_of_list (o := ⟨none, Op.store 50 (Operand.tmp 6) (Operand.tmp 50), _, _, _, none⟩) rfl ?_
      have hB6z := HY6.out.bel (hx3 : Below wy.heap.size wy _)
      refine wpList_store_wor rfl _ _ rfl rfl rfl hB6z ?_
      intro x4 hBz hSz
      have hgS := gr_st (hx3 : Below wy.heap.size wy _) hSz
      have hx4 := (bel_tr hby (hx3 : Below wy.heap.size wy _)).trans (hSz.below hw6)
      show _ ∧ _
      refine ⟨hgS, ?_⟩
      simp only [Act.put]
      refine wpAnyH_done (by kernel_rfl) ?_ _
      exact ⟨rfl, rfl, hBz, hx4⟩
    case k =>
      rintro w9 ⟨hB9, hb9⟩
      go_wp2_with (fail)
      exact ret_wor Tryd.results11 rfl hB9 rfl ⟨rfl, hb9⟩
end Go.Proofs.YthlnndjkocnfcaaDoor
