/- Contracts and plain lemmas of our own, merged. -/
import Derived.Test.YthlnndjkocnfcaaDoorZSt10
import Derived.Great.BuildSlice
/- Rows of structs: reading a member, a literal of one member; setup.left at addresses. -/
namespace Go.Proofs.YthlnndjkocnfcaaDoor
open Go.RowKit

/-- members of one size, side by side. -/
theorem flat_at {α β : Type} {f : α → List β} {s : Nat} (hs : ∀ a, (f a).length = s) : ∀ (L : List α) (k : Nat) (hk : k < L.length) (j : Nat), j < s → (L.flatMap f)[k * s + j]? = (f L[k])[j]?
  | x :: L, 0, _, j, hj => by
    rw [List.flatMap_cons, List.getElem?_append_left (by rw [hs]; omega)]
    simp
  | x :: L, k + 1, hk, j, hj => by
    have e : (k + 1) * s + j = s + (k * s + j) := by rw [Nat.add_mul]; omega
    rw [List.flatMap_cons, e, List.getElem?_append_right (by rw [hs]; omega), hs]
    have e2 : s + (k * s + j) - s = k * s + j := by omega
    rw [e2, flat_at hs L k (by simpa using hk) j hj]
    simp
theorem flat_len {α β : Type} {f : α → List β} {s : Nat} (hs : ∀ a, (f a).length = s) (L : List α) : (L.flatMap f).length = L.length * s := by
  induction L with
  | nil => simp
  | cons x L ih => rw [List.flatMap_cons, List.length_append, hs, ih, List.length_cons, Nat.add_mul]; omega
theorem range_of {w : World} {α : Type} {f : α → List Value} {s : Nat} (hs : ∀ a, (f a).length = s) {L : List α} {b off : Nat} (hc : ∀ j u, (L.flatMap f)[j]? = some u → w.cell? ⟨b, off + j, none⟩ = some u) {k : Nat} (hk : k < L.length) : w.rangeAt b (off + k * s) (f L[k]) := fun j v hv => by
  have hj : j < s := by have := (List.getElem?_eq_some_iff.1 hv).1; rw [hs] at this; exact this
  have := hc (k * s + j) v ((flat_at hs L k hk j hj).trans hv)
  rwa [← Nat.add_assoc] at this
/-- a slice literal of members that are aggregates of one size. -/
theorem wpList_lit {P : Program} {ops : Array Oper} {rest : List Oper} {o : Oper} {a : Act} {w : World} {Q : Exit → Act → World → Prop} (hg : o.guard = none) (t : TypeId) (parts : Array (Nat × Operand)) {len : Nat} (ho : o.op = .buildSlice t len parts)
    {e : TypeId} {size bytes : Nat} (el : Elt P t e size bytes) (vs : List Value) (hlen : vs.length = len) (hpos : 0 < len) (hsm : len * size ≤ 16777216) (hv : ∀ v ∈ vs, v.cells.size = size)
    (hp : parts.toList.map (fun p => (p.1, a.eval p.2)) = (vs.zipIdx 0).map fun x => (x.2, x.1))
    (h : ∀ w', Bk w' w.heap.size e (vs.flatMap fun v => v.cells.toList).toArray → w'.ownsRow w.heap.size e size (.slice (some ⟨w.heap.size, 0, none⟩) len len) len (vs.flatMap fun v => v.cells.toList) → Below w.heap.size w w' → w'.heap.size = w.heap.size + 1 →
      wpList P ops Q rest (a.put o.dst (.slice (some ⟨w.heap.size, 0, none⟩) len len)) w') : wpList P ops Q (o :: rest) a w := by
  obtain ⟨i, z, hi, hz, hz1, hz2, hz3⟩ := el.info
  have hps := Nat.mul_pos hpos el.pos
  have hfl : (vs.flatMap fun v => v.cells.toList).length = len * size := by
    rw [← hlen]
    clear hp h hsm hps hlen
    induction vs with
    | nil => simp
    | cons x l ih =>
      rw [List.flatMap_cons, List.length_append, ih (fun v hv' => hv v (List.mem_cons_of_mem _ hv')), List.length_cons, Nat.add_mul, Array.length_toList, hv x (by simp)]
      omega
  refine wpList_buildSlice hg t e len parts ho (vs.flatMap fun v => v.cells.toList).toArray i z el.under hi hz (by rw [hz1]; omega) (by rw [hz1]; omega) ?_ (h _ (Bk.new _ _ _) ?_ ((Below.refl _ _).alloc (Nat.le_refl _) _) (by simp))
  · rw [hz1, Array.toList_map]
    have e2 : (parts.toList.map fun x => match x with | (i, x) => (i, a.eval x)) = (vs.zipIdx 0).map fun x => (x.2, x.1) := hp
    rw [e2]
    exact Great.fill_whole el.pos vs _ hv (by simp [hlen])
  · have := World.ownsRow_lit (base := w.heap.size) (e := e) (size := size) w (vs.flatMap fun v => v.cells.toList).toArray len (Nat.le_refl _) (by have := Nat.le_mul_of_pos_right len el.pos; unfold maxLen; omega) (by rw [List.size_toArray]; exact hfl)
    simpa using this
theorem bk_list {w : World} {g : Nat} {e : TypeId} {l : List Value} {cs : Array Value} (h : Bk w g e ([Value.agg cs].flatMap fun v => v.cells.toList).toArray) (hc : cs.toList = l) : Bk w g e l.toArray := by
  subst hc
  simpa [Value.cells] using h

end Go.Proofs.YthlnndjkocnfcaaDoor
