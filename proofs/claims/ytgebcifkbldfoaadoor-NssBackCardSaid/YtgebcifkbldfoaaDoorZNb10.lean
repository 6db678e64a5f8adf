/- Contracts and plain lemmas of our own, merged. -/
import Derived.Test.YtgebcifkbldfoaaDoorZNb6
import Derived.Test.YtgebcifkbldfoaaDoorZNb8
import Derived.Test.YtgebcifkbldfoaaDoorZNb9
import Derived.Great.Walk
/- Laws of the walk for addresses: a block made, a value boxed, loaded, stored, compared. -/
namespace Go.Proofs.YtgebcifkbldfoaaDoor
open Go.RowKit

/-- block g alone may have changed. -/
structure Stays (g : Nat) (w w' : World) : Prop where
  os : w'.os = w.os
  tape : w'.tape = w.tape
  output : w'.output = w.output
  size : w'.heap.size = w.heap.size
  block : ∀ k, k ≠ g → w'.heap[k]? = w.heap[k]?
theorem Stays.below {g B : Nat} {w w' : World} (h : Stays g w w') (hB : B ≤ g) : Below B w w' :=
  ⟨h.os, h.tape, h.output, Nat.le_of_eq h.size.symm, fun k hk => h.block k (by omega)⟩
theorem Bk.stays {w w' : World} {g k : Nat} {t : TypeId} {cs : Array Value} (h : Bk w k t cs) (hs : Stays g w w') (hne : k ≠ g) : Bk w' k t cs := (hs.block k hne).trans h
theorem Stays.row (w : World) (g : Nat) (cs : Array Value) : Stays g w (w.setRow g cs) := ⟨rfl, rfl, rfl, setRow_size w g cs, fun k hk => setRow_other w g k cs hk⟩
theorem Stays.cell (w : World) (g i : Nat) (v : Value) : Stays g w (w.setCell ⟨g, i, none⟩ v) := ⟨rfl, rfl, rfl, by simp [World.setCell], fun k hk => Below.heap_setCell w ⟨g, i, none⟩ v k hk⟩
theorem Stays.trans {g : Nat} {a b c : World} (h : Stays g a b) (k : Stays g b c) : Stays g a c := ⟨k.os.trans h.os, k.tape.trans h.tape, k.output.trans h.output, k.size.trans h.size, fun i hi => (k.block i hi).trans (h.block i hi)⟩

/-- zero values, by the program's own table. -/
def ZeroIs (P : Program) (t : TypeId) (z : Array Value) : Prop := (P.info? t).map (fun i => i.zero.map (·.cells)) = some (some z)
theorem run_alloc_zero {P : Program} {t : TypeId} {z : Array Value} (h : ZeroIs P t z) (w : World) (v : Value) : (Instr.alloc t true v).run P w = .ok (.pointer (some ⟨w.heap.size, 0, none⟩)) (w.alloc (.cells z t)) := by
  unfold ZeroIs at h
  cases hi : P.info? t with
  | none => rw [hi] at h; cases h
  | some i =>
    rw [hi] at h
    cases hz : i.zero with
    | none => rw [Option.map_some, hz] at h; cases h
    | some zv =>
      rw [Option.map_some, hz, Option.map_some] at h
      injection h with h
      injection h with h
      simp [Instr.alloc, zeroValue, typeInfo, hi, hz, newVar, newRow, h]
theorem wpList_allocZ {P : Program} {w : World} {ops : Array Oper} {rest : List Oper} {o : Oper} {a : Act} {Q : Exit → Act → World → Prop} (hgd : o.guard = none) (t : TypeId) (ho : o.op = .alloc t) {z : Array Value} (hz : ZeroIs P t z)
    (h : ∀ g w', g = w.heap.size → Bk w' g t z → Below w.heap.size w w' → w'.heap.size = g + 1 → wpList P ops Q rest (a.put o.dst (.pointer (some ⟨g, 0, none⟩))) w') : wpList P ops Q (o :: rest) a w := by
  refine wpList_plain hgd fun _ hK => ?_
  unfold Oper.wp execOp
  simp only [ho, Sem.run_bind, run_alloc_zero hz, Result.andThen_ok]
  exact hK _ _ (h _ _ rfl (Bk.new w t z) ((Below.refl _ _).alloc (Nat.le_refl _) _) (by simp))
/-- a whole block is loaded. -/
theorem wpList_loadB {P : Program} {w : World} {ops : Array Oper} {rest : List Oper} {o : Oper} {a : Act} {Q : Exit → Act → World → Prop} (hgd : o.guard = none) (ty : TypeId) (x : Operand) (ho : o.op = .load ty x) {g : Nat} (hx : a.eval x = .pointer (some ⟨g, 0, none⟩))
    {t : TypeId} {cs : Array Value} (hB : Bk w g t cs) {d : TypeDesc} (hu : P.underlying ty = some d) (hd : d.isRow = true) (hi : (P.info? ty).map (·.size) = some cs.size)
    (h : wpList P ops Q rest (a.put o.dst (.agg cs)) w) : wpList P ops Q (o :: rest) a w :=
  wpList_load_row hgd ty x ho g hx t cs (0, 0) d hB hu (by cases d <;> first | rfl | cases hd) hi h
/-- a whole block is stored into. -/
theorem wpList_storeB {P : Program} {w : World} {ops : Array Oper} {rest : List Oper} {o : Oper} {a : Act} {Q : Exit → Act → World → Prop} (hgd : o.guard = none) (ty : TypeId) (x y : Operand) (ho : o.op = .store ty x y) {g : Nat} {cells : Array Value} (hx : a.eval x = .pointer (some ⟨g, 0, none⟩)) (hy : a.eval y = .agg cells)
    {t : TypeId} {old : Array Value} (hB : Bk w g t old) (hi : (P.info? ty).map (·.size) = some cells.size) (hold : old.size = cells.size) (h1 : cells.all (·.oneCell') = true)
    (h : ∀ w', Bk w' g t cells → Stays g w w' → wpList P ops Q rest (a.put o.dst undef) w') : wpList P ops Q (o :: rest) a w :=
  wpList_store_row hgd ty x y ho g cells hx hy t old hB hi hold h1 (h _ (hB.row cells) (Stays.row w g cells))

def ad0 : Ad := ⟨0, [0, 0, 0, 0, 0, 0, 0, 0, 0, 0, 0, 0, 0, 0, 0, 0], 0, ⟨rfl, by decide, by decide⟩⟩
/-! ### in a region that draws its order -/
end Go.Proofs.YtgebcifkbldfoaaDoor

/- The contracts of quad.Of and of its reference. -/
namespace Go.Proofs.YtgebcifkbldfoaaDoor
open Go.RowKit

/-- the address of four bytes. -/
def adOf (a b c d : UInt8) : Ad := ⟨4, [a, b, c, d, 0, 0, 0, 0, 0, 0, 0, 0, 0, 0, 0, 0], 0, ⟨rfl, by decide, by decide⟩⟩
end Go.Proofs.YtgebcifkbldfoaaDoor

/- Prefixes; the contracts of addr.Holds and of its reference. -/
namespace Go.Proofs.YtgebcifkbldfoaaDoor
open Go.RowKit

theorem Bk.rangeL {w : World} {g : Nat} {t : TypeId} {cs : List Value} (h : Bk w g t cs.toArray) (off : Nat) (ds es : List Value) (hc : cs.drop off = ds ++ es) : w.rangeAt g off ds := fun j v hv => by
  rw [h.cell (off + j), List.getElem?_toArray, ← List.getElem?_drop, hc, List.getElem?_append_left (List.getElem?_eq_some_iff.1 hv).1]
  exact hv
end Go.Proofs.YtgebcifkbldfoaaDoor

/- Stores in the midst of a block; rows of structs in a block of our own. -/
namespace Go.Proofs.YtgebcifkbldfoaaDoor
open Go.RowKit

/-- the cells from off on are vs. -/
def splA (cs : Array Value) (off : Nat) (vs : List Value) : Array Value := (cs.toList.take off ++ vs ++ cs.toList.drop (off + vs.length)).toArray
theorem splA_size {cs : Array Value} {off : Nat} {vs : List Value} (h : off + vs.length ≤ cs.size) : (splA cs off vs).size = cs.size := by
  unfold splA
  simp only [List.size_toArray, List.length_append, List.length_take, List.length_drop, Array.length_toList]
  omega
/-! ### rows of structs in a block -/
theorem rows_off {α : Type} (f : α → List Value) {size : Nat} (hf : ∀ x, (f x).length = size) (R : List α) : (R.flatMap f).length = R.length * size := by
  induction R with
  | nil => simp
  | cons x R ih => rw [List.flatMap_cons, List.length_append, ih, hf, List.length_cons, Nat.succ_mul]; omega
theorem rows_spl {α : Type} (f : α → List Value) {size : Nat} (hf : ∀ x, (f x).length = size) (tl : List Value) (y : α) : ∀ (R : List α) (k : Nat), k < R.length →
    splA (R.flatMap f ++ tl).toArray (k * size) (f y) = ((R.set k y).flatMap f ++ tl).toArray := by
  intro R k hk
  unfold splA
  congr 1
  have e1 : R = R.take k ++ R[k] :: R.drop (k + 1) := by rw [List.getElem_cons_drop, List.take_append_drop]
  have l1 : ((R.take k).flatMap f).length = k * size := by rw [rows_off f hf, List.length_take, Nat.min_eq_left (by omega)]
  have e2 : R.flatMap f ++ tl = (R.take k).flatMap f ++ (f R[k] ++ ((R.drop (k + 1)).flatMap f ++ tl)) := by
    conv => lhs; rw [e1]
    rw [List.flatMap_append, List.flatMap_cons]
    simp only [List.append_assoc]
  have e3 : (R.set k y).flatMap f ++ tl = (R.take k).flatMap f ++ (f y ++ ((R.drop (k + 1)).flatMap f ++ tl)) := by
    rw [List.set_eq_take_append_cons_drop, if_pos hk, List.flatMap_append, List.flatMap_cons]
    simp only [List.append_assoc]
  rw [e3]
  show List.take (k * size) (R.flatMap f ++ tl) ++ f y ++ List.drop (k * size + (f y).length) (R.flatMap f ++ tl) = _
  rw [e2, hf, List.take_append_of_le_length (by omega), List.take_of_length_le (by omega), List.drop_append, List.drop_eq_nil_of_le (by omega), l1]
  rw [show k * size + size - k * size = (f R[k]).length by rw [hf]; omega, List.drop_left]
  simp only [List.nil_append, List.append_assoc]
/-- block g begins with the rows R. -/
def RowB {α : Type} (f : α → List Value) (w : World) (g : Nat) (t : TypeId) (R : List α) : Prop := ∃ tl, Bk w g t (R.flatMap f ++ tl).toArray
section
variable {α : Type} {f : α → List Value} {w w' : World} {g size : Nat} {t : TypeId} {R : List α}
theorem RowB.lt (h : RowB f w g t R) : g < w.heap.size := by obtain ⟨_, h⟩ := h; exact h.lt
theorem RowB.bel (h : RowB f w g t R) (hb : Below w.heap.size w w') : RowB f w' g t R := by obtain ⟨tl, h⟩ := h; exact ⟨tl, h.bel hb⟩
theorem RowB.stays {k : Nat} (h : RowB f w g t R) (hs : Stays k w w') (hne : g ≠ k) : RowB f w' g t R := by obtain ⟨tl, h⟩ := h; exact ⟨tl, h.stays hs hne⟩
theorem RowB.range (hf : ∀ x, (f x).length = size) (h : RowB f w g t R) {k : Nat} (hk : k < R.length) : w.rangeAt g (k * size) (f R[k]) := by
  obtain ⟨tl, h⟩ := h
  have e1 : R = R.take k ++ R[k] :: R.drop (k + 1) := by rw [List.getElem_cons_drop, List.take_append_drop]
  have l1 : ((R.take k).flatMap f).length = k * size := by rw [rows_off f hf, List.length_take, Nat.min_eq_left (by omega)]
  have e2 : R.flatMap f ++ tl = (R.take k).flatMap f ++ (f R[k] ++ ((R.drop (k + 1)).flatMap f ++ tl)) := by
    conv => lhs; rw [e1]
    rw [List.flatMap_append, List.flatMap_cons]
    simp only [List.append_assoc]
  intro j v hv
  have := h.cell (k * size + j)
  rw [this, List.getElem?_toArray, e2, List.getElem?_append_right (by omega), l1, Nat.add_sub_cancel_left, List.getElem?_append_left (List.getElem?_eq_some_iff.1 hv).1]
  exact hv
theorem RowB.sl (hf : ∀ x, (f x).length = size) (h : RowB f w g t R) {c : Nat} (hc : R.length ≤ c) : Sl w size (.slice (some ⟨g, 0, none⟩) R.length c) R.length (R.flatMap f) := by
  obtain ⟨tl, h⟩ := h
  refine ⟨rows_off f hf R, some ⟨g, 0, none⟩, c, rfl, hc, fun h => (by cases h), fun ad had _ => ?_⟩
  injection had with had
  subst had
  refine ⟨h.lt, rfl, fun j u hu => ?_⟩
  have := h.cell (0 + j)
  rw [this, Nat.zero_add, List.getElem?_toArray, List.getElem?_append_left (List.getElem?_eq_some_iff.1 hu).1]
  exact hu
end
end Go.Proofs.YtgebcifkbldfoaaDoor

/- Rows of structs of one's own: looked into, stored into (the first part of OwR, for seats without DsG). -/
namespace Go.Proofs.YtgebcifkbldfoaaDoor
open Go.RowKit

section
variable {α : Type} {f : α → List Value} {size base n c g off : Nat} {e : TypeId} {w w' : World} {v : Value} {R : List α}
/-- one's own row at a block's beginning. -/
theorem own_head (h : w.ownsRow base e size v R.length (R.flatMap f)) (hp : 0 < R.length) : ∃ g c off, v = .slice (some ⟨g, off, none⟩) R.length c ∧ off = 0 ∧ base ≤ g ∧ g < w.heap.size ∧ R.length ≤ c := by
  rcases h.2 with ⟨_, h0⟩ | ⟨g, c, cur, rfl, hb, hg, hc, _⟩
  · omega
  · exact ⟨g, c, 0, rfl, rfl, hb, (Array.getElem?_eq_some_iff.1 hg).1, hc⟩
theorem own_block (h0 : off = 0) (h : w.ownsRow base e size (.slice (some ⟨g, off, none⟩) n c) R.length (R.flatMap f)) : ∃ tl, Bk w g e (R.flatMap f ++ tl).toArray ∧ n = R.length ∧ base ≤ g ∧ n ≤ c ∧ c ≤ maxLen ∧ (R.flatMap f ++ tl).length = c * size := by
  subst h0
  rcases h.2 with ⟨h1, _⟩ | ⟨g', c', cur, hv, hb, hg, hc, hm, hs, ht⟩
  · cases h1
  · injection hv with hv1 hv2 hv3
    injection hv1 with hv1
    injection hv1 with hv1
    subst hv1 hv2 hv3
    refine ⟨cur.toList.drop (R.length * size), ?_, rfl, hb, hc, hm, ?_⟩
    · rw [← ht, List.take_append_drop]
      exact hg
    · rw [← ht, List.take_append_drop]
      simpa using hs
/-- a member is stored. -/
theorem own_put (hf : ∀ x, (f x).length = size) (h0 : off = 0) (h : w.ownsRow base e size (.slice (some ⟨g, off, none⟩) n c) R.length (R.flatMap f)) {k : Nat} (hk : k < R.length) (u : α) {cur : Array Value} (hcur : Bk w g e cur) (hB : Bk w' g e (splA cur (off + k * size) (f u))) :
    w'.ownsRow base e size (.slice (some ⟨g, off, none⟩) n c) R.length ((R.set k u).flatMap f) := by
  obtain ⟨tl, hT, hn, hb, hc, hm, hl⟩ := own_block h0 h
  subst h0
  have hcu : cur = (R.flatMap f ++ tl).toArray := by
    have : some (Obj.cells cur e (0, 0)) = some (Obj.cells (R.flatMap f ++ tl).toArray e (0, 0)) := hcur.symm.trans hT
    injection this with this
    injection this
  rw [Nat.zero_add, hcu, rows_spl f hf tl u R k hk] at hB
  have hl2 : ((R.set k u).flatMap f).length = R.length * size := by rw [rows_off f hf, List.length_set]
  have hl1 : (R.flatMap f).length = R.length * size := rows_off f hf R
  refine ⟨hl2, .inr ⟨g, c, _, by rw [hn], hb, hB, by omega, hm, ?_, ?_⟩⟩
  · rw [List.size_toArray, List.length_append, hl2]
    rw [List.length_append, hl1] at hl
    exact hl
  · show List.take (R.length * size) ((R.set k u).flatMap f ++ tl) = _
    rw [← hl2, List.take_left]
theorem own_spl (hf : ∀ x, (f x).length = size) (h0 : off = 0) (h : w.ownsRow base e size (.slice (some ⟨g, off, none⟩) n c) R.length (R.flatMap f)) {k : Nat} (hk : k < R.length) : ∃ cs, Bk w g e cs ∧ Bk w g e (splA cs (off + k * size) (f R[k])) ∧ off + k * size + size ≤ cs.size := by
  obtain ⟨tl, hT, hn, hb, hc, hm, hl⟩ := own_block h0 h
  have hl1 : (R.flatMap f).length = R.length * size := rows_off f hf R
  refine ⟨_, hT, ?_, ?_⟩
  · rw [h0, Nat.zero_add, rows_spl f hf tl R[k] R k hk, List.set_getElem_self]
    exact hT
  · rw [List.size_toArray, List.length_append, hl1, h0]
    have := Nat.mul_le_mul_right size hk
    rw [Nat.succ_mul] at this
    omega
end
end Go.Proofs.YtgebcifkbldfoaaDoor
