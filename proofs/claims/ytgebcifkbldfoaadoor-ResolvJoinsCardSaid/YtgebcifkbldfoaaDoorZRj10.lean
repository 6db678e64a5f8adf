/- Contracts and plain lemmas of our own, merged. -/
import Derived.Test.YtgebcifkbldfoaaDoorZRj6
import Derived.Test.YtgebcifkbldfoaaDoorZRj8
import Derived.Test.YtgebcifkbldfoaaDoorZRj9
import Derived.Great.Walk
/- Laws of the walk for addresses: a block made, a value boxed, loaded, stored, compared. -/
namespace Go.Proofs.YtgebcifkbldfoaaDoor
open Go.RowKit

/-- block g alone may have changed. -/
structure Stays (g : Nat) (w w' : World) : Prop where
  os : w'.os = w.os
  tape : w'.tape = w.tape
  output : w'.output = w.output
  size : w'.heap.size = w.heap.size
  block : ∀ k, k ≠ g → w'.heap[k]? = w.heap[k]?
theorem Stays.below {g B : Nat} {w w' : World} (h : Stays g w w') (hB : B ≤ g) : Below B w w' :=
  ⟨h.os, h.tape, h.output, Nat.le_of_eq h.size.symm, fun k hk => h.block k (by omega)⟩
theorem Bk.stays {w w' : World} {g k : Nat} {t : TypeId} {cs : Array Value} (h : Bk w k t cs) (hs : Stays g w w') (hne : k ≠ g) : Bk w' k t cs := (hs.block k hne).trans h
theorem Stays.row (w : World) (g : Nat) (cs : Array Value) : Stays g w (w.setRow g cs) := ⟨rfl, rfl, rfl, setRow_size w g cs, fun k hk => setRow_other w g k cs hk⟩
theorem Stays.cell (w : World) (g i : Nat) (v : Value) : Stays g w (w.setCell ⟨g, i, none⟩ v) := ⟨rfl, rfl, rfl, by simp [World.setCell], fun k hk => Below.heap_setCell w ⟨g, i, none⟩ v k hk⟩
theorem Stays.trans {g : Nat} {a b c : World} (h : Stays g a b) (k : Stays g b c) : Stays g a c := ⟨k.os.trans h.os, k.tape.trans h.tape, k.output.trans h.output, k.size.trans h.size, fun i hi => (k.block i hi).trans (h.block i hi)⟩

/-- zero values, by the program's own table. -/
def ZeroIs (P : Program) (t : TypeId) (z : Array Value) : Prop := (P.info? t).map (fun i => i.zero.map (·.cells)) = some (some z)
theorem run_alloc_zero {P : Program} {t : TypeId} {z : Array Value} (h : ZeroIs P t z) (w : World) (v : Value) : (Instr.alloc t true v).run P w = .ok (.pointer (some ⟨w.heap.size, 0, none⟩)) (w.alloc (.cells z t)) := by
  unfold ZeroIs at h
  cases hi : P.info? t with
  | none => rw [hi] at h; cases h
  | some i =>
    rw [hi] at h
    cases hz : i.zero with
    | none => rw [Option.map_some, hz] at h; cases h
    | some zv =>
      rw [Option.map_some, hz, Option.map_some] at h
      injection h with h
      injection h with h
      simp [Instr.alloc, zeroValue, typeInfo, hi, hz, newVar, newRow, h]
theorem wpList_allocZ {P : Program} {w : World} {ops : Array Oper} {rest : List Oper} {o : Oper} {a : Act} {Q : Exit → Act → World → Prop} (hgd : o.guard = none) (t : TypeId) (ho : o.op = .alloc t) {z : Array Value} (hz : ZeroIs P t z)
    (h : ∀ g w', g = w.heap.size → Bk w' g t z → Below w.heap.size w w' → w'.heap.size = g + 1 → wpList P ops Q rest (a.put o.dst (.pointer (some ⟨g, 0, none⟩))) w') : wpList P ops Q (o :: rest) a w := by
  refine wpList_plain hgd fun _ hK => ?_
  unfold Oper.wp execOp
  simp only [ho, Sem.run_bind, run_alloc_zero hz, Result.andThen_ok]
  exact hK _ _ (h _ _ rfl (Bk.new w t z) ((Below.refl _ _).alloc (Nat.le_refl _) _) (by simp))
theorem wpList_boxB {P : Program} {w : World} {ops : Array Oper} {rest : List Oper} {o : Oper} {a : Act} {Q : Exit → Act → World → Prop} (hgd : o.guard = none) (t : TypeId) (x : Operand) (ho : o.op = .box t x) {cs : Array Value} (hx : a.eval x = .agg cs)
    (h : ∀ g w', g = w.heap.size → Bk w' g t cs → Below w.heap.size w w' → w'.heap.size = g + 1 → wpList P ops Q rest (a.put o.dst (.pointer (some ⟨g, 0, none⟩))) w') : wpList P ops Q (o :: rest) a w := by
  refine wpList_plain hgd fun _ hK => ?_
  unfold Oper.wp execOp
  simp only [ho, hx, Instr.box, newVar, newRow, Value.cells, Sem.run_bind]
  exact hK _ _ (h _ _ rfl (Bk.new w t cs) ((Below.refl _ _).alloc (Nat.le_refl _) _) (by simp))
/-- a whole block is loaded. -/
theorem wpList_loadB {P : Program} {w : World} {ops : Array Oper} {rest : List Oper} {o : Oper} {a : Act} {Q : Exit → Act → World → Prop} (hgd : o.guard = none) (ty : TypeId) (x : Operand) (ho : o.op = .load ty x) {g : Nat} (hx : a.eval x = .pointer (some ⟨g, 0, none⟩))
    {t : TypeId} {cs : Array Value} (hB : Bk w g t cs) {d : TypeDesc} (hu : P.underlying ty = some d) (hd : d.isRow = true) (hi : (P.info? ty).map (·.size) = some cs.size)
    (h : wpList P ops Q rest (a.put o.dst (.agg cs)) w) : wpList P ops Q (o :: rest) a w :=
  wpList_load_row hgd ty x ho g hx t cs (0, 0) d hB hu (by cases d <;> first | rfl | cases hd) hi h
/-- a whole block is stored into. -/
theorem wpList_storeB {P : Program} {w : World} {ops : Array Oper} {rest : List Oper} {o : Oper} {a : Act} {Q : Exit → Act → World → Prop} (hgd : o.guard = none) (ty : TypeId) (x y : Operand) (ho : o.op = .store ty x y) {g : Nat} {cells : Array Value} (hx : a.eval x = .pointer (some ⟨g, 0, none⟩)) (hy : a.eval y = .agg cells)
    {t : TypeId} {old : Array Value} (hB : Bk w g t old) (hi : (P.info? ty).map (·.size) = some cells.size) (hold : old.size = cells.size) (h1 : cells.all (·.oneCell') = true)
    (h : ∀ w', Bk w' g t cells → Stays g w w' → wpList P ops Q rest (a.put o.dst undef) w') : wpList P ops Q (o :: rest) a w :=
  wpList_store_row hgd ty x y ho g cells hx hy t old hB hi hold h1 (h _ (hB.row cells) (Stays.row w g cells))

theorem ad_size : (Tryd.prog.info? 34).map (·.size) = some 18 := by kernel_rfl
theorem ad_size' (a : Ad) : (Tryd.prog.info? 34).map (·.size) = some (adA a).size := by rw [adA_size]; exact ad_size
def ad0 : Ad := ⟨0, [0, 0, 0, 0, 0, 0, 0, 0, 0, 0, 0, 0, 0, 0, 0, 0], 0, ⟨rfl, by decide, by decide⟩⟩
theorem ad_zero : ZeroIs Tryd.prog 34 (adA ad0) := by unfold ZeroIs; kernel_rfl
theorem wpList_allocAd {w : World} {ops : Array Oper} {rest : List Oper} {o : Oper} {a : Act} {Q : Exit → Act → World → Prop} (hgd : o.guard = none) (ho : o.op = .alloc 34)
    (h : ∀ g w', g = w.heap.size → Bk w' g 34 (adA ad0) → Below w.heap.size w w' → w'.heap.size = g + 1 → wpList Tryd.prog ops Q rest (a.put o.dst (.pointer (some ⟨g, 0, none⟩))) w') : wpList Tryd.prog ops Q (o :: rest) a w :=
  wpList_allocZ hgd _ ho ad_zero h
theorem wpList_loadAd {w : World} {ops : Array Oper} {rest : List Oper} {o : Oper} {a : Act} {Q : Exit → Act → World → Prop} (hgd : o.guard = none) (x : Operand) (ho : o.op = .load 34 x) {g : Nat} (hx : a.eval x = .pointer (some ⟨g, 0, none⟩))
    {t : TypeId} {b : Ad} (hB : Bk w g t (adA b)) (h : wpList Tryd.prog ops Q rest (a.put o.dst (.agg (adA b))) w) : wpList Tryd.prog ops Q (o :: rest) a w :=
  wpList_loadB hgd _ x ho hx hB ad_under rfl (ad_size' b) h
theorem wpList_storeAd {w : World} {ops : Array Oper} {rest : List Oper} {o : Oper} {a : Act} {Q : Exit → Act → World → Prop} (hgd : o.guard = none) (x y : Operand) (ho : o.op = .store 34 x y) {g : Nat} {b c : Ad} (hx : a.eval x = .pointer (some ⟨g, 0, none⟩)) (hy : a.eval y = .agg (adA b))
    {t : TypeId} (hB : Bk w g t (adA c)) (h : ∀ w', Bk w' g t (adA b) → Stays g w w' → wpList Tryd.prog ops Q rest (a.put o.dst undef) w') : wpList Tryd.prog ops Q (o :: rest) a w :=
  wpList_storeB hgd _ x y ho hx hy hB (ad_size' b) (by rw [adA_size, adA_size]) (adA_one b) h
theorem Bk.rangeAd {w : World} {g : Nat} {t : TypeId} {b : Ad} (h : Bk w g t (adA b)) : w.rangeAt g 0 (adL b) := fun j v hv => by
  rw [h.cell (0 + j)]
  unfold adA
  rw [List.getElem?_toArray]
  simpa using hv
/-! ### in a region that draws its order -/
theorem quiet_loadAd {w : World} {o : Oper} {a a' : Act} {K : Act → Prop} (x : Operand) (ho : o.op = .load 34 x) {g off : Nat} (hx : a.eval x = .pointer (some ⟨g, off, none⟩)) {b : Ad} (hB : w.rangeAt g off (adL b))
    (ha : a.put o.dst (.agg (adA b)) = a') (hk : K a') : o.quiet Tryd.prog a (fun w' => ∃ y : BelT w, w' = y.at_) K := by
  subst ha
  refine ⟨_, ?_, hk⟩
  rintro _ ⟨y, rfl⟩
  unfold Oper.quietAt execOp
  have hr : y.at_.rangeAt g off (adL b) := fun j v hv => y.cell (hB j v hv)
  simp only [ho, hx, Instr.loadAt, Instr.sureAddr, Sem.run_bind, Sem.run_pure, Result.andThen_ok, run_loadVar_mid y.at_ g off 34 (adL b) _ hr ad_under rfl (by rw [adL_len]; exact ad_size)]
  exact ⟨rfl, rfl⟩
theorem quiet_neqAd {w : World} {o : Oper} {a a' : Act} {K : Act → Prop} (x y : Operand) {t : TypeId} (ho : o.op = .binOp .neq 34 x y t) {b c : Ad} (hx : a.eval x = .agg (adA b)) (hy : a.eval y = .agg (adA c)) {r : Bool} (hr : (!decide (b = c)) = r)
    (ha : a.put o.dst (.bool r) = a') (hk : K a') : o.quiet Tryd.prog a (fun w' => ∃ y : BelT w, w' = y.at_) K := by
  subst ha hr
  refine ⟨_, ?_, hk⟩
  rintro _ ⟨z, rfl⟩
  unfold Oper.quietAt execOp
  simp only [ho, hx, hy, Sem.run_bind, run_eqGuard_agg z.at_ .neq 34 x y _ _ Tryd.eqGuardType34, Result.andThen_ok, ad_neq]
  exact ⟨rfl, rfl⟩
end Go.Proofs.YtgebcifkbldfoaaDoor

/- The contracts of quad.Of and of its reference. -/
namespace Go.Proofs.YtgebcifkbldfoaaDoor
open Go.RowKit

/-- the address of four bytes. -/
def adOf (a b c d : UInt8) : Ad := ⟨4, [a, b, c, d, 0, 0, 0, 0, 0, 0, 0, 0, 0, 0, 0, 0], 0, ⟨rfl, by decide, by decide⟩⟩
theorem built_4 : Tryd.prog.built 34 [(0, .int .i64 4)] = some (adA (adOf 0 0 0 0)) := by kernel_rfl
theorem built_0 : Tryd.prog.built 34 [] = some (adA ad0) := by kernel_rfl
theorem u8lt (a : UInt8) : (a.toNat : Int) < 256 := by have := a.toNat_lt; omega
end Go.Proofs.YtgebcifkbldfoaaDoor

/- Prefixes; the contracts of addr.Holds and of its reference. -/
namespace Go.Proofs.YtgebcifkbldfoaaDoor
open Go.RowKit

structure Pf where
  ad : Ad
  bits : Int
  ok : -9223372036854775808 ≤ bits ∧ bits ≤ 9223372036854775807
def pfL (p : Pf) : List Value := adL p.ad ++ [.int .i64 p.bits]
def pfA (p : Pf) : Array Value := (pfL p).toArray
theorem pfL_len (p : Pf) : (pfL p).length = 19 := by unfold pfL; rw [List.length_append, adL_len]; rfl
theorem pfA_size (p : Pf) : (pfA p).size = 19 := by unfold pfA; rw [List.size_toArray, pfL_len]
theorem pfA_18 (p : Pf) : (pfA p)[18]? = some (.int .i64 p.bits) := by
  unfold pfA pfL
  rw [List.getElem?_toArray, List.getElem?_append_right (by rw [adL_len]; omega), adL_len]
  rfl
theorem pfL_one (p : Pf) : ∀ v ∈ pfL p, v.oneCell' = true := by
  intro v hv
  unfold pfL at hv
  rw [List.mem_append] at hv
  rcases hv with hv | hv
  · exact adL_one p.ad v hv
  · simp at hv; subst hv; rfl
theorem Bk.rangeL {w : World} {g : Nat} {t : TypeId} {cs : List Value} (h : Bk w g t cs.toArray) (off : Nat) (ds es : List Value) (hc : cs.drop off = ds ++ es) : w.rangeAt g off ds := fun j v hv => by
  rw [h.cell (off + j), List.getElem?_toArray, ← List.getElem?_drop, hc, List.getElem?_append_left (List.getElem?_eq_some_iff.1 hv).1]
  exact hv
end Go.Proofs.YtgebcifkbldfoaaDoor
