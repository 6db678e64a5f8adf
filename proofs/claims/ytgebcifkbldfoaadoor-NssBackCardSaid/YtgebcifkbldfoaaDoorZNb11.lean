/- Contracts and plain lemmas of our own, merged. -/
import Derived.Test.YtgebcifkbldfoaaDoorZNb10
import Derived.Test.YtgebcifkbldfoaaDoorZNb5
import Derived.Test.YtgebcifkbldfoaaDoorZNb9
import Derived.Great.BuildSlice
/- Rows of structs: reading a member, a literal of one member; setup.left at addresses. -/
namespace Go.Proofs.YtgebcifkbldfoaaDoor
open Go.RowKit

/-- members of one size, side by side. -/
theorem flat_at {α β : Type} {f : α → List β} {s : Nat} (hs : ∀ a, (f a).length = s) : ∀ (L : List α) (k : Nat) (hk : k < L.length) (j : Nat), j < s → (L.flatMap f)[k * s + j]? = (f L[k])[j]?
  | x :: L, 0, _, j, hj => by
    rw [List.flatMap_cons, List.getElem?_append_left (by rw [hs]; omega)]
    simp
  | x :: L, k + 1, hk, j, hj => by
    have e : (k + 1) * s + j = s + (k * s + j) := by rw [Nat.add_mul]; omega
    rw [List.flatMap_cons, e, List.getElem?_append_right (by rw [hs]; omega), hs]
    have e2 : s + (k * s + j) - s = k * s + j := by omega
    rw [e2, flat_at hs L k (by simpa using hk) j hj]
    simp
theorem flat_len {α β : Type} {f : α → List β} {s : Nat} (hs : ∀ a, (f a).length = s) (L : List α) : (L.flatMap f).length = L.length * s := by
  induction L with
  | nil => simp
  | cons x L ih => rw [List.flatMap_cons, List.length_append, hs, ih, List.length_cons, Nat.add_mul]; omega
theorem range_of {w : World} {α : Type} {f : α → List Value} {s : Nat} (hs : ∀ a, (f a).length = s) {L : List α} {b off : Nat} (hc : ∀ j u, (L.flatMap f)[j]? = some u → w.cell? ⟨b, off + j, none⟩ = some u) {k : Nat} (hk : k < L.length) : w.rangeAt b (off + k * s) (f L[k]) := fun j v hv => by
  have hj : j < s := by have := (List.getElem?_eq_some_iff.1 hv).1; rw [hs] at this; exact this
  have := hc (k * s + j) v ((flat_at hs L k hk j hj).trans hv)
  rwa [← Nat.add_assoc] at this
/-- a slice literal of members that are aggregates of one size. -/
theorem wpList_lit {P : Program} {ops : Array Oper} {rest : List Oper} {o : Oper} {a : Act} {w : World} {Q : Exit → Act → World → Prop} (hg : o.guard = none) (t : TypeId) (parts : Array (Nat × Operand)) {len : Nat} (ho : o.op = .buildSlice t len parts)
    {e : TypeId} {size bytes : Nat} (el : Elt P t e size bytes) (vs : List Value) (hlen : vs.length = len) (hpos : 0 < len) (hsm : len * size ≤ 16777216) (hv : ∀ v ∈ vs, v.cells.size = size)
    (hp : parts.toList.map (fun p => (p.1, a.eval p.2)) = (vs.zipIdx 0).map fun x => (x.2, x.1))
    (h : ∀ w', Bk w' w.heap.size e (vs.flatMap fun v => v.cells.toList).toArray → w'.ownsRow w.heap.size e size (.slice (some ⟨w.heap.size, 0, none⟩) len len) len (vs.flatMap fun v => v.cells.toList) → Below w.heap.size w w' → w'.heap.size = w.heap.size + 1 →
      wpList P ops Q rest (a.put o.dst (.slice (some ⟨w.heap.size, 0, none⟩) len len)) w') : wpList P ops Q (o :: rest) a w := by
  obtain ⟨i, z, hi, hz, hz1, hz2, hz3⟩ := el.info
  have hps := Nat.mul_pos hpos el.pos
  have hfl : (vs.flatMap fun v => v.cells.toList).length = len * size := by
    rw [← hlen]
    clear hp h hsm hps hlen
    induction vs with
    | nil => simp
    | cons x l ih =>
      rw [List.flatMap_cons, List.length_append, ih (fun v hv' => hv v (List.mem_cons_of_mem _ hv')), List.length_cons, Nat.add_mul, Array.length_toList, hv x (by simp)]
      omega
  refine wpList_buildSlice hg t e len parts ho (vs.flatMap fun v => v.cells.toList).toArray i z el.under hi hz (by rw [hz1]; omega) (by rw [hz1]; omega) ?_ (h _ (Bk.new _ _ _) ?_ ((Below.refl _ _).alloc (Nat.le_refl _) _) (by simp))
  · rw [hz1, Array.toList_map]
    have e2 : (parts.toList.map fun x => match x with | (i, x) => (i, a.eval x)) = (vs.zipIdx 0).map fun x => (x.2, x.1) := hp
    rw [e2]
    exact Great.fill_whole el.pos vs _ hv (by simp [hlen])
  · have := World.ownsRow_lit (base := w.heap.size) (e := e) (size := size) w (vs.flatMap fun v => v.cells.toList).toArray len (Nat.le_refl _) (by have := Nat.le_mul_of_pos_right len el.pos; unfold maxLen; omega) (by rw [List.size_toArray]; exact hfl)
    simpa using this
theorem bk_list {w : World} {g : Nat} {e : TypeId} {l : List Value} {cs : Array Value} (h : Bk w g e ([Value.agg cs].flatMap fun v => v.cells.toList).toArray) (hc : cs.toList = l) : Bk w g e l.toArray := by
  subst hc
  simpa [Value.cells] using h

end Go.Proofs.YtgebcifkbldfoaaDoor

/- Sources (nss): a number and four flags, with their laws. -/
namespace Go.Proofs.YtgebcifkbldfoaaDoor
open Go.RowKit

/-- a source: its kind, and whether one stops at each status. -/
structure So where
  k : Int
  st : List Bool
  ok : st.length = 4
theorem So.same {a b : So} (h1 : a.k = b.k) (h2 : a.st = b.st) : a = b := by cases a; cases b; simp only at h1 h2; subst h1 h2; rfl
theorem So.same_iff {a b : So} : (a.k = b.k ∧ a.st = b.st) ↔ a = b := ⟨fun ⟨h1, h2⟩ => So.same h1 h2, fun h => by rw [h]; exact ⟨rfl, rfl⟩⟩
instance : DecidableEq So := fun _ _ => decidable_of_iff _ So.same_iff
theorem So.len (s : So) : s.st.length = 4 := s.ok
def soL (s : So) : List Value := .int .i64 s.k :: s.st.map .bool
def soA (s : So) : Array Value := (soL s).toArray
def stA (l : List Bool) : Array Value := (l.map Value.bool).toArray
theorem soL_len (s : So) : (soL s).length = 5 := by simp [soL, s.len]
theorem soA_size (s : So) : (soA s).size = 5 := by unfold soA; rw [List.size_toArray, soL_len]
theorem soL_one (s : So) : ∀ v ∈ soL s, v.oneCell' = true := by
  intro v hv
  unfold soL at hv
  rcases List.mem_cons.1 hv with rfl | hv
  · rfl
  · obtain ⟨b, _, rfl⟩ := List.mem_map.1 hv; rfl
theorem soA_one (s : So) : (soA s).all (·.oneCell') = true := all_oneCell_toArray (soL_one s)
theorem soL_0 (s : So) : (soL s)[0]? = some (.int .i64 s.k) := rfl
theorem soL_st (s : So) {i : Nat} (h : i < 4) : (soL s)[i + 1]? = some (.bool (s.st[i]'(by rw [s.len]; exact h))) := by
  unfold soL
  rw [List.getElem?_cons_succ, List.getElem?_map, List.getElem?_eq_getElem (by rw [s.len]; exact h)]
  rfl
theorem len4 {l : List Bool} (h : l.length = 4) : ∃ a b c d, l = [a, b, c, d] := by
  match l, h with
  | [a, b, c, d], _ => exact ⟨a, b, c, d, rfl⟩
theorem so_under : Tryd.prog.underlying 27 = some (.struct (Tryd.prog.fieldsOf 27)) := by kernel_rfl
theorem so_size : (Tryd.prog.info? 27).map (·.size) = some 5 := by kernel_rfl
theorem so_size' (x : So) : (Tryd.prog.info? 27).map (·.size) = some (soA x).size := by rw [soA_size]; exact so_size
def so0 : So := ⟨0, [false, false, false, false], rfl⟩
/-- a source of a kind that stops just at success. -/
def soK (k : Int) : So := ⟨k, [true, false, false, false], rfl⟩
theorem so_zero : ZeroIs Tryd.prog 27 (soA so0) := by unfold ZeroIs; kernel_rfl
theorem elt_so : Elt Tryd.prog 22 27 5 16 := Elt.mk' (z := .agg (soA so0)) Tryd.underlying22 (by kernel_rfl) (by kernel_rfl) (by decide)
theorem built_so (k : Int) : Tryd.prog.built 27 [(0, .int .i64 k)] = some (soA ⟨k, [false, false, false, false], rfl⟩) := by kernel_rfl
theorem wpList_allocSo {w : World} {ops : Array Oper} {rest : List Oper} {o : Oper} {a : Act} {Q : Exit → Act → World → Prop} (hgd : o.guard = none) (ho : o.op = .alloc 27)
    (h : ∀ g w', g = w.heap.size → Bk w' g 27 (soA so0) → Below w.heap.size w w' → w'.heap.size = g + 1 → wpList Tryd.prog ops Q rest (a.put o.dst (.pointer (some ⟨g, 0, none⟩))) w') : wpList Tryd.prog ops Q (o :: rest) a w :=
  wpList_allocZ hgd _ ho so_zero h
theorem wpList_loadSo {w : World} {ops : Array Oper} {rest : List Oper} {o : Oper} {a : Act} {Q : Exit → Act → World → Prop} (hgd : o.guard = none) (x : Operand) (ho : o.op = .load 27 x) {g : Nat} (hx : a.eval x = .pointer (some ⟨g, 0, none⟩))
    {t : TypeId} {b : So} (hB : Bk w g t (soA b)) (h : wpList Tryd.prog ops Q rest (a.put o.dst (.agg (soA b))) w) : wpList Tryd.prog ops Q (o :: rest) a w :=
  wpList_loadB hgd _ x ho hx hB so_under rfl (so_size' b) h
theorem wpList_storeSo {w : World} {ops : Array Oper} {rest : List Oper} {o : Oper} {a : Act} {Q : Exit → Act → World → Prop} (hgd : o.guard = none) (x y : Operand) (ho : o.op = .store 27 x y) {g : Nat} {b c : So} (hx : a.eval x = .pointer (some ⟨g, 0, none⟩)) (hy : a.eval y = .agg (soA b))
    {t : TypeId} (hB : Bk w g t (soA c)) (h : ∀ w', Bk w' g t (soA b) → Stays g w w' → wpList Tryd.prog ops Q rest (a.put o.dst undef) w') : wpList Tryd.prog ops Q (o :: rest) a w :=
  wpList_storeB hgd _ x y ho hx hy hB (so_size' b) (by rw [soA_size, soA_size]) (soA_one b) h
theorem wpList_loadSoM {w : World} {ops : Array Oper} {rest : List Oper} {o : Oper} {a : Act} {Q : Exit → Act → World → Prop} (hgd : o.guard = none) (x : Operand) (ho : o.op = .load 27 x) {g off : Nat} (hx : a.eval x = .pointer (some ⟨g, off, none⟩))
    {b : So} (hB : w.rangeAt g off (soL b)) (h : wpList Tryd.prog ops Q rest (a.put o.dst (.agg (soA b))) w) : wpList Tryd.prog ops Q (o :: rest) a w :=
  wpList_load_mid hgd _ x ho g off hx (soL b) _ hB so_under rfl (by rw [soL_len]; exact so_size) h
theorem Bk.range_so {w : World} {g : Nat} {t : TypeId} {x : So} (h : Bk w g t (soA x)) : w.rangeAt g 0 (soL x) := h.rangeL (cs := soL x) 0 (soL x) [] (by simp)
/-- a source is handed back. -/
theorem ret_so {fn : Func} {p : Tmp} (h : fn.results = #[.cell p 27]) {R : Ending → World → Prop} {a : Act} {w : World} {g : Nat} {t : TypeId} {b : So}
    (hp : a.tmps.getD p undef = .pointer (some ⟨g, 0, none⟩)) (hB : Bk w g t (soA b)) (hd : a.defers = []) (hR : R (.returned (.agg (soA b))) w) : bodyPost Tryd.prog fn R .ret a w := by
  refine bodyPost_ret_by (v := .agg (soA b)) ?_ hd hR
  have hp' : a.tmps[p]?.getD undef = .pointer (some ⟨g, 0, none⟩) := by simpa using hp
  simp [results, h, hp', asAddr, run_loadVar_row (P := Tryd.prog) w g t 27 (soA b) (0, 0) _ hB so_under rfl (so_size' b)]
/-! ### equality -/
theorem all_range_eqB : ∀ (xs ys : List Bool), xs.length = ys.length → ((List.range xs.length).all fun i => xs.getD i false == ys.getD i false) = (xs == ys)
  | [], [], _ => rfl
  | x :: xs, y :: ys, h => by
    have ih := all_range_eqB xs ys (by simpa using h)
    rw [List.length_cons, List.range_succ_eq_map, List.all_cons, List.all_map]
    simp only [List.getD_cons_zero, Function.comp_def, List.getD_cons_succ, ih]
    simp [List.cons_beq_cons]
  | [], _ :: _, h => by simp at h
  | _ :: _, [], h => by simp at h
theorem size_bool (w : World) : (sizeOf 4).run Tryd.prog w = .ok 1 w := by
  have h : (Tryd.prog.info? 4).map (·.size) = some 1 := by kernel_rfl
  cases hq : Tryd.prog.info? 4 with
  | none => rw [hq] at h; cases h
  | some i => rw [hq] at h; simp [sizeOf, typeInfo, hq]; simpa using h
theorem equalIn_st (w : World) (d : Nat) (xs ys : List Bool) (hx : xs.length = 4) (hy : ys.length = 4) : (Op.equalIn (d + 2) 25 (.agg (stA xs)) (.agg (stA ys))).run Tryd.prog w = .ok (xs == ys) w := by
  unfold stA
  rw [← all_range_eqB xs ys (hx.trans hy.symm), hx, List.range_eq_range', Op.equalIn]
  simp only [Sem.run_bind, run_underlying Tryd.underlying25, Result.andThen_ok, size_bool, Std.Legacy.Range.forIn_eq_forIn_range', Std.Legacy.Range.size, Nat.sub_zero, Nat.add_sub_cancel, Nat.div_one]
  have hl : ∀ i ∈ List.range' 0 4 1, i < 4 := fun i hi => by simpa using (List.mem_range'_1.1 hi).2
  generalize List.range' 0 4 1 = l at hl ⊢
  induction l with
  | nil => simp
  | cons i l ih =>
    have hi : i < 4 := hl i (by simp)
    have px : (part 4 (xs.map Value.bool).toArray (i * 1)).run Tryd.prog w = .ok (.bool (xs.getD i false)) w := by
      simp [part, isAgg, run_underlying Tryd.underlying4, List.getD, List.getElem?_eq_getElem (show i < xs.length by omega)]
    have py : (part 4 (ys.map Value.bool).toArray (i * 1)).run Tryd.prog w = .ok (.bool (ys.getD i false)) w := by
      simp [part, isAgg, run_underlying Tryd.underlying4, List.getD, List.getElem?_eq_getElem (show i < ys.length by omega)]
    have pe : (Op.equalIn (d + 1) 4 (.bool (xs.getD i false)) (.bool (ys.getD i false))).run Tryd.prog w = .ok (xs.getD i false == ys.getD i false) w := run_equalIn_bool w d 4 _ _ Tryd.underlying4
    simp only [List.forIn_cons, Sem.run_bind, px, py, pe, Result.andThen_ok, List.all_cons]
    cases hb : (xs.getD i false == ys.getD i false)
    · simp
    · simp only [Bool.not_true, Bool.false_eq_true, if_false, Sem.run_pure, Result.andThen_ok, Bool.true_and]
      exact ih fun j hj => hl j (by simp [hj])
theorem st_eql (w : World) (xs ys : List Bool) (hx : xs.length = 4) (hy : ys.length = 4) : (binOp .eql 25 (.agg (stA xs)) (.agg (stA ys))).run Tryd.prog w = .ok (.bool (xs == ys)) w := by
  rw [run_eql_struct, equalIn_st w 9998 xs ys hx hy]; rfl
theorem so_fields : (Tryd.prog.fieldsOf 27).toList.map (fun f => (f.name == "_", f.type, f.offset)) = [(false, 3, 0), (false, 25, 1)] := by kernel_rfl
theorem list2 {α β : Type} {f : α → β} {l : List α} {x y : β} (h : l.map f = [x, y]) : ∃ a b, l = [a, b] ∧ f a = x ∧ f b = y := by
  match l, h with
  | [a, b], h => simp at h; exact ⟨a, b, rfl, h⟩
theorem size_st (w : World) : (sizeOf 25).run Tryd.prog w = .ok 4 w := by
  have h : (Tryd.prog.info? 25).map (·.size) = some 4 := by kernel_rfl
  cases hq : Tryd.prog.info? 25 with
  | none => rw [hq] at h; cases h
  | some i => rw [hq] at h; simp [sizeOf, typeInfo, hq]; simpa using h
theorem soA_part1 (a : So) : (soA a).extract 1 (1 + 4) = stA a.st := by
  unfold soA stA soL
  rw [List.extract_toArray]
  have h : (a.st.map Value.bool).take 4 = a.st.map Value.bool := List.take_of_length_le (by simp [a.len])
  simp [h]
theorem part_k (w : World) (x : So) : (part 3 (soA x) 0).run Tryd.prog w = .ok (.int .i64 x.k) w := by
  have h : (soA x)[0]? = some (.int .i64 x.k) := by unfold soA; rw [List.getElem?_toArray]; exact soL_0 x
  simp [part, isAgg, run_underlying Tryd.underlying3, h]
theorem part_st (w : World) (x : So) : (part 25 (soA x) 1).run Tryd.prog w = .ok (.agg (stA x.st)) w := by
  simp only [part, isAgg, Sem.run_bind, run_underlying Tryd.underlying25, Result.andThen_ok, Sem.run_pure, if_true, size_st, soA_part1]
theorem eqf2 {P : Program} (w : World) (d : Nat) (xs ys : Array Value) (f0 f1 : Field) (m0 : f0.name ≠ "_") (m1 : f1.name ≠ "_") {x0 x1 y0 y1 : Value} {b0 b1 : Bool}
    (p0 : (part f0.type xs f0.offset).run P w = .ok x0 w) (q0 : (part f0.type ys f0.offset).run P w = .ok y0 w) (e0 : (Op.equalIn d f0.type x0 y0).run P w = .ok b0 w)
    (p1 : (part f1.type xs f1.offset).run P w = .ok x1 w) (q1 : (part f1.type ys f1.offset).run P w = .ok y1 w) (e1 : (Op.equalIn d f1.type x1 y1).run P w = .ok b1 w) :
    (Op.eqFields d xs ys [f0, f1]).run P w = .ok (b0 && b1) w := by
  cases b0
  · simp [Op.eqFields, m0, p0, q0, e0]
  · cases b1 <;> simp [Op.eqFields, m0, m1, p0, q0, e0, p1, q1, e1]
theorem run_so_eq (w : World) (d : Nat) (a b : So) : (Op.equalIn (d + 3) 27 (.agg (soA a)) (.agg (soA b))).run Tryd.prog w = .ok (decide (a = b)) w := by
  rw [run_equalIn_struct w (d + 2) _ _ _ so_under Tryd.stoodInHeld27]
  obtain ⟨f0, f1, hl, h0, h1⟩ := list2 so_fields
  rw [hl]
  simp only [Prod.mk.injEq] at h0 h1
  obtain ⟨n0, t0, o0⟩ := h0
  obtain ⟨n1, t1, o1⟩ := h1
  rw [eqf2 w (d + 2) (soA a) (soA b) f0 f1 (by simpa using n0) (by simpa using n1)
    (by rw [t0, o0]; exact part_k w a) (by rw [t0, o0]; exact part_k w b) (by rw [t0]; exact run_equalIn_int w (d + 1) 3 .i64 .i64 a.k b.k Tryd.underlying3)
    (by rw [t1, o1]; exact part_st w a) (by rw [t1, o1]; exact part_st w b) (by rw [t1]; exact equalIn_st w d a.st b.st a.len b.len)]
  have hb : ((a.k == b.k) && (a.st == b.st)) = decide (a = b) := by
    rw [Bool.eq_iff_iff]
    simp [← So.same_iff]
  rw [hb]
theorem so_neq (w : World) (a b : So) : (binOp .neq 27 (.agg (soA a)) (.agg (soA b))).run Tryd.prog w = .ok (.bool (!decide (a = b))) w := by
  rw [run_neq_struct, run_so_eq w 9997 a b]; rfl
end Go.Proofs.YtgebcifkbldfoaaDoor

/- setup.left at addresses, prefixes and names, with the functions that it is handed. -/
namespace Go.Proofs.YtgebcifkbldfoaaDoor
open Go.RowKit

theorem own_any {w : World} {base : Nat} {e : TypeId} {size n : Nat} {v : Value} {xs : List Value} (h : w.ownsRow base e size v n xs) : ∃ A c, v = .slice A n c := by
  obtain ⟨A, c, hv, _⟩ := (Sl.own h).any
  exact ⟨A, c, hv⟩

end Go.Proofs.YtgebcifkbldfoaaDoor

/- setup.left at prefixes and at names. -/
namespace Go.Proofs.YtgebcifkbldfoaaDoor
open Go.RowKit

/-- names in a row: each with its slice. -/
structure NmOk (w : World) (p : Value × List (List UInt8)) : Prop where
  sl : Sl w 1 p.1 p.2.length (p.2.map stv)
  few : p.2.length ≤ 1000000000
  len : ∀ l ∈ p.2, l.length ≤ 140737488351232
theorem NmOk.bel {w w' : World} {p : Value × List (List UInt8)} (h : NmOk w p) (hb : Below w.heap.size w w') : NmOk w' p := ⟨h.sl.below hb, h.few, h.len⟩
def nmF (p : Value × List (List UInt8)) : List Value := [p.1]
end Go.Proofs.YtgebcifkbldfoaaDoor

/- Rows of rows: which blocks the members of a row of names lie in; domain.Cat with its row its own. -/
namespace Go.Proofs.YtgebcifkbldfoaaDoor
open Go.RowKit

/-- what reads so lies below b, or in a block of element type t. -/
structure SlB (b : Nat) (t : TypeId) (w : World) (size : Nat) (v : Value) (n : Nat) (xs : List Value) : Prop where
  sl : Sl w size v n xs
  far : ∀ g off c, v = .slice (some ⟨g, off, none⟩) n c → 0 < n → g < b ∨ ∃ cur fr, w.heap[g]? = some (.cells cur t fr)
section
variable {b b' size n : Nat} {t : TypeId} {w w' : World} {v : Value} {xs : List Value}
theorem SlB.own (h : w.ownsRow b' t size v n xs) : SlB b t w size v n xs := by
  refine ⟨Sl.own h, fun g off c hv hn => .inr ?_⟩
  rcases h.2 with ⟨rfl, _⟩ | ⟨g', cap, cur, rfl, _, hg, _⟩
  · cases hv
  · injection hv with hv _ _
    injection hv with hv
    injection hv with hv _
    subst hv
    exact ⟨cur, _, hg⟩
theorem SlB.old (h : Sl w size v n xs) (hb : w.heap.size ≤ b) : SlB b t w size v n xs := by
  refine ⟨h, fun g off c hv hn => .inl ?_⟩
  obtain ⟨b2, off2, c2, hv2, _, hl, _⟩ := h.pos hn
  rw [hv2] at hv
  injection hv with hv _ _
  injection hv with hv
  injection hv with hv _
  omega
theorem SlB.bel (h : SlB b t w size v n xs) (hb : Below w.heap.size w w') : SlB b t w' size v n xs := by
  refine ⟨h.sl.below hb, fun g off c hv hn => ?_⟩
  rcases h.far g off c hv hn with hl | ⟨cur, fr, hg⟩
  · exact .inl hl
  · refine .inr ⟨cur, fr, (hb.block g ?_).trans hg⟩
    rcases Nat.lt_or_ge g w.heap.size with hlt | hge
    · exact hlt
    · rw [Array.getElem?_eq_none hge] at hg; cases hg
/-- an append to a row of another element type leaves it as it was. -/
theorem SlB.grown (h : SlB b t w size v n xs) {e : TypeId} {vo : Value} {so no : Nat} {xo : List Value} (ho : w.ownsRow b e so vo no xo) (he : t ≠ e) (hg : w.grownBy w' vo.ownBlock) : SlB b t w' size v n xs := by
  have key : ∀ g off c, v = .slice (some ⟨g, off, none⟩) n c → 0 < n → some g ≠ vo.ownBlock := by
    intro g off c hv hn hgo
    rcases ho.2 with ⟨rfl, _⟩ | ⟨g', cap, cur, rfl, hb', hg', _⟩
    · cases hgo
    · have hgg : g = g' := by simpa [Value.ownBlock] using hgo
      subst hgg
      rcases h.far g off c hv hn with hl | ⟨cur2, fr, h2⟩
      · omega
      · rw [hg'] at h2
        injection h2 with h2
        injection h2 with _ h2 _
        exact he h2.symm
  refine ⟨?_, fun g off c hv hn => ?_⟩
  · obtain ⟨h0, A, c, rfl, hc, hA, hcell⟩ := h.sl
    refine ⟨h0, A, c, rfl, hc, hA, fun ad had hn => ?_⟩
    obtain ⟨h1, h2, h3⟩ := hcell ad had hn
    obtain ⟨g, off, sp⟩ := ad
    dsimp only at h1 h2 h3
    subst had h2
    exact ⟨Nat.lt_of_lt_of_le h1 hg.size, rfl, fun j u hu => hg.cell (h3 j u hu) (key g off c rfl hn)⟩
  · rcases h.far g off c hv hn with hl | ⟨cur, fr, hh⟩
    · exact .inl hl
    · refine .inr ⟨cur, fr, (hg.block g ?_ (key g off c hv hn)).trans hh⟩
      rcases Nat.lt_or_ge g w.heap.size with hlt | hge
      · exact hlt
      · rw [Array.getElem?_eq_none hge] at hh; cases hh
end
/-- a name that is a member of a row. -/
structure NmB (b : Nat) (w : World) (q : Value × List (List UInt8)) : Prop where
  sl : SlB b 9 w 1 q.1 q.2.length (q.2.map stv)
  few : q.2.length ≤ 1000000000
  len : ∀ l ∈ q.2, l.length ≤ 140737488351232
theorem NmB.ok {b : Nat} {w : World} {q : Value × List (List UInt8)} (h : NmB b w q) : NmOk w q := ⟨h.sl.sl, h.few, h.len⟩
theorem NmB.bel {b : Nat} {w w' : World} {q : Value × List (List UInt8)} (h : NmB b w q) (hb : Below w.heap.size w w') : NmB b w' q := ⟨h.sl.bel hb, h.few, h.len⟩
theorem NmB.old {b : Nat} {w : World} {q : Value × List (List UInt8)} (h : NmOk w q) (hb : w.heap.size ≤ b) : NmB b w q := ⟨.old h.sl hb, h.few, h.len⟩
theorem NmB.grown {b : Nat} {w w' : World} {q : Value × List (List UInt8)} (h : NmB b w q) {vo : Value} {no : Nat} {xo : List Value} (ho : w.ownsRow b 51 1 vo no xo) (hg : w.grownBy w' vo.ownBlock) : NmB b w' q := ⟨h.sl.grown ho (by decide) hg, h.few, h.len⟩

/-- both together, the row being of the call's own. -/
def CatOwn (w : World) (A B : List (List UInt8)) (e : Ending) (w' : World) : Prop :=
  ∃ v, e = .returned (.tuple #[v, .int .i64 (chk (A ++ B))]) ∧ (∃ C : List (List UInt8), C = (if chk (A ++ B) = 0 then A ++ B else []) ∧ w'.ownsRow w.heap.size 9 1 v C.length (C.map stv)) ∧ Below w.heap.size w w'
theorem CatOwn.ok {w w' : World} {A B : List (List UInt8)} {v : Value} (h : chk (A ++ B) = 0) (hs : w'.ownsRow w.heap.size 9 1 v (A ++ B).length ((A ++ B).map stv)) (hb : Below w.heap.size w w') : CatOwn w A B (.returned (.tuple #[v, .int .i64 0])) w' :=
  ⟨v, by rw [h], ⟨_, rfl, by rw [if_pos h]; exact hs⟩, hb⟩
theorem CatOwn.no {w w' : World} {A B : List (List UInt8)} (h : chk (A ++ B) ≠ 0) (hb : Below w.heap.size w w') : CatOwn w A B (.returned (.tuple #[.slice none 0 0, .int .i64 (chk (A ++ B))])) w' :=
  ⟨_, rfl, ⟨_, rfl, by rw [if_neg h]; simpa using World.ownsRow_nil w' w.heap.size 9 1⟩, hb⟩

end Go.Proofs.YtgebcifkbldfoaaDoor

/- Rows of names (what XSeQ has, for seats without resolv). -/
namespace Go.Proofs.YtgebcifkbldfoaaDoor
open Go.RowKit

abbrev NmL := List (List UInt8)
/-- a row of names of the call's own. -/
structure NmsOwn (b : Nat) (w : World) (v : Value) (C : List NmL) (N : List (Value × NmL)) : Prop where
  own : w.ownsRow b 51 1 v N.length (N.flatMap nmF)
  ok : ∀ q ∈ N, NmB b w q
  is : N.map (·.2) = C
theorem NmsOwn.nil (b : Nat) (w : World) : NmsOwn b w (.slice none 0 0) [] [] := ⟨by simpa using World.ownsRow_nil w b 51 1, fun _ h => (by cases h), rfl⟩
theorem NmsOwn.bel {b : Nat} {w w' : World} {v : Value} {C : List NmL} {N : List (Value × NmL)} (h : NmsOwn b w v C N) (hb : Below w.heap.size w w') : NmsOwn b w' v C N := ⟨own_below h.own hb, fun q hq => (h.ok q hq).bel hb, h.is⟩
theorem NmsOwn.add {b : Nat} {w w' : World} {v v' : Value} {C : List NmL} {N : List (Value × NmL)} (h : NmsOwn b w v C N) {x : Value} {n : NmL} (ho : w'.ownsRow b 51 1 v' (N.length + 1) (N.flatMap nmF ++ [x])) (hok : ∀ q ∈ N, NmB b w' q) (hx : NmB b w' (x, n)) : NmsOwn b w' v' (C ++ [n]) (N ++ [(x, n)]) := by
  refine ⟨?_, fun q hq => ?_, by rw [List.map_append, h.is]; rfl⟩
  · rw [List.length_append, List.flatMap_append]
    simpa [nmF] using ho
  · rcases List.mem_append.1 hq with hq | hq
    · exact hok q hq
    · rw [List.mem_singleton.1 hq]; exact hx
/-- a row of names that is read. -/
structure NmsAt (w : World) (v : Value) (C : List NmL) (N : List (Value × NmL)) : Prop where
  sl : Sl w 1 v N.length (N.flatMap nmF)
  ok : ∀ q ∈ N, NmOk w q
  is : N.map (·.2) = C
theorem NmsOwn.at_ {b : Nat} {w : World} {v : Value} {C : List NmL} {N : List (Value × NmL)} (h : NmsOwn b w v C N) : NmsAt w v C N := ⟨Sl.own h.own, fun q hq => (h.ok q hq).ok, h.is⟩
theorem NmsAt.bel {w w' : World} {v : Value} {C : List NmL} {N : List (Value × NmL)} (h : NmsAt w v C N) (hb : Below w.heap.size w w') : NmsAt w' v C N := ⟨h.sl.below hb, fun q hq => (h.ok q hq).bel hb, h.is⟩
end Go.Proofs.YtgebcifkbldfoaaDoor

/- The reference's Same of sources (19). -/
namespace Go.Proofs.YtgebcifkbldfoaaDoor
open Go.RowKit

theorem quiet_loadSo {w : World} {o : Oper} {a a' : Act} {K : Act → Prop} (x : Operand) (ho : o.op = .load 27 x) {g off : Nat} (hx : a.eval x = .pointer (some ⟨g, off, none⟩)) {b : So} (hB : w.rangeAt g off (soL b))
    (ha : a.put o.dst (.agg (soA b)) = a') (hk : K a') : o.quiet Tryd.prog a (fun w' => ∃ y : BelT w, w' = y.at_) K := by
  subst ha
  refine ⟨_, ?_, hk⟩
  rintro _ ⟨y, rfl⟩
  unfold Oper.quietAt execOp
  have hr : y.at_.rangeAt g off (soL b) := fun j v hv => y.cell (hB j v hv)
  simp only [ho, hx, Instr.loadAt, Instr.sureAddr, Sem.run_bind, Sem.run_pure, Result.andThen_ok, run_loadVar_mid y.at_ g off 27 (soL b) _ hr so_under rfl (by rw [soL_len]; exact so_size)]
  exact ⟨rfl, rfl⟩
theorem quiet_neqSo {w : World} {o : Oper} {a a' : Act} {K : Act → Prop} (x y : Operand) {t : TypeId} (ho : o.op = .binOp .neq 27 x y t) {b c : So} (hx : a.eval x = .agg (soA b)) (hy : a.eval y = .agg (soA c)) {r : Bool} (hr : (!decide (b = c)) = r)
    (ha : a.put o.dst (.bool r) = a') (hk : K a') : o.quiet Tryd.prog a (fun w' => ∃ y : BelT w, w' = y.at_) K := by
  subst ha hr
  refine ⟨_, ?_, hk⟩
  rintro _ ⟨z, rfl⟩
  unfold Oper.quietAt execOp
  simp only [ho, hx, hy, Sem.run_bind, run_eqGuard_agg z.at_ .neq 27 x y _ _ Tryd.eqGuardType27, Result.andThen_ok, so_neq]
  exact ⟨rfl, rfl⟩
set_option maxRecDepth 100000 in
set_option maxHeartbeats 1000000 in
theorem sameSos_any (L M : List So) (va vb : Value) (w : World) (ha : Sl w 5 va L.length (L.flatMap soL)) (hb : Sl w 5 vb M.length (M.flatMap soL)) (hl : L.length ≤ 1000000) (hm : M.length ≤ 1000000) :
    Calls Tryd.prog 14 #[va, vb] w fun e w' => e = .returned (.bool (decide (L = M))) ∧ Below w.heap.size w w' := by
  obtain ⟨a1, c1, hv1, hc1⟩ := ha.any
  subst hv1
  obtain ⟨a2, c2, hv2, hc2⟩ := hb.any
  subst hv2
  have Ha := Lib.hid ha
  have Hb := Lib.hid hb
  clear ha hb
  by_cases hn : L.length = M.length
  · have i1 : ((L.length : Int) != (M.length : Int)) = false := by simp [hn]
    have i2 : (L.length != M.length) = false := by simp [hn]
    have Hn := Lib.hid hn
    have hle : L.length ≤ M.length := by omega
    clear hn
    go_enter Tryd.func14, Tryd.ntmps14
    go_wp2
    go_loopw [5] (fun i wr => ∃ k : Nat, k ≤ L.length ∧ i = .int .i64 k ∧ (L.take k = M.take k) ∧ Below w.heap.size w wr) (fun i _ => L.length - (intOf i).toNat)
    case atStart => exact ⟨0, Nat.zero_le _, rfl, rfl, Below.refl _ _⟩
    case round =>
      obtain ⟨k, hk, rfl, heq, hbel⟩ := hrel
      have Heq := Lib.hid heq
      clear heq
      by_cases hlt : k < L.length
      · have hltM : k < M.length := by omega
        have hltI : (k : Int) < (L.length : Int) := by omega
        have hltJ : (k : Int) < (M.length : Int) := by omega
        have hk0 : (0 : Int) ≤ (k : Int) := by omega
        obtain ⟨b, off, c, hv, hc, hbl, hcell⟩ := Ha.out.pos (by omega)
        injection hv with hv1 _ hv2
        subst hv1 hv2
        obtain ⟨b2, off2, c3, hv, hc3, hbl2, hcell2⟩ := Hb.out.pos (by omega)
        injection hv with hv1 _ hv2
        subst hv1 hv2
        have hR := range_of soL_len hcell hlt
        have hR2 := range_of soL_len hcell2 hltM
        have HR : wr.rangeAt b (off + k * 5) (soL L[k]) := fun j u hu => ((hbel.cell (p := ⟨b, off + k * 5 + j, none⟩) hbl).trans (hR j u hu))
        have HR2 : wr.rangeAt b2 (off2 + k * 5) (soL M[k]) := fun j u hu => ((hbel.cell (p := ⟨b2, off2 + k * 5 + j, none⟩) hbl2).trans (hR2 j u hu))
        clear hR hR2 hcell hcell2
        cases hr : (!decide (L[k] = M[k]))
        all_goals
          have Hr := Lib.hid hr
          clear hr
          go_wp2
          refine wp_region_bel (by kernel_rfl) (by kernel_rfl) ?_
          repeat (first
            | go_big_quiet_skip
            | (go_big_quiet_want; first
                | ((with_reducible show (⟨some 20, _, _, _, _, _⟩ : Oper).quiet _ _ _ _); refine quiet_loadSo (o := ⟨some 20, _, _, _, _, _⟩) _ rfl rfl HR (by simp only [Act.put, List.setIfInBounds_toArray, List.set_cons_succ, List.set_cons_zero]; exact rfl) ?_; go_big_quiet_on)
                | ((with_reducible show (⟨some 24, _, _, _, _, _⟩ : Oper).quiet _ _ _ _); refine quiet_loadSo (o := ⟨some 24, _, _, _, _, _⟩) _ rfl rfl HR2 (by simp only [Act.put, List.setIfInBounds_toArray, List.set_cons_succ, List.set_cons_zero]; exact rfl) ?_; go_big_quiet_on)
                | ((with_reducible show (⟨some 25, _, _, _, _, _⟩ : Oper).quiet _ _ _ _); refine quiet_neqSo (o := ⟨some 25, _, _, _, _, _⟩) _ _ rfl rfl rfl Hr.out (by simp only [Act.put, List.setIfInBounds_toArray, List.set_cons_succ, List.set_cons_zero]; exact rfl) ?_; go_big_quiet_on)
                | (go_big_quiet_op; go_big_quiet_on)))
          refine wpQuiet_nil ?_
          rintro _ ⟨x, rfl⟩
          go_wp2
        · go_roundw
          case rel =>
            have he : L[k] = M[k] := by simpa using Hr.out
            refine ⟨k + 1, by omega, by go_num, ?_, hbel.trans (x.bel.mono hbel.size)⟩
            rw [List.take_succ_eq_append_getElem hlt, List.take_succ_eq_append_getElem hltM, Heq.out, he]
          case measure => simp [intOf]; omega
        · go_ret
          have he : L[k] ≠ M[k] := by simpa using Hr.out
          refine ⟨retb ?_, hbel.trans (x.bel.mono hbel.size)⟩
          rw [eq_comm, decide_eq_false_iff_not]
          intro h
          subst h
          exact he rfl
      · have hltI : ¬ (k : Int) < (L.length : Int) := by omega
        go_wp2
        go_ret
        refine ⟨retb ?_, hbel⟩
        rw [eq_comm, decide_eq_true_iff]
        have := Heq.out
        rwa [List.take_of_length_le (by omega), List.take_of_length_le (by have := Hn.out; omega)] at this
  · have i1 : ((L.length : Int) != (M.length : Int)) = true := by simp; omega
    have i2 : (L.length != M.length) = true := by simp; omega
    go_enter Tryd.func14, Tryd.ntmps14
    go_wp2
    go_ret
    refine ⟨retb ?_, Below.refl _ _⟩
    rw [eq_comm, decide_eq_false_iff_not]
    intro h
    exact hn (by rw [h])
end Go.Proofs.YtgebcifkbldfoaaDoor
