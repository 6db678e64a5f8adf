/- Contracts and plain lemmas of our own, merged. -/
import Derived.Test.YtgebcifkbldfoaaGreatDoorZSB33
import Derived.Test.YtgebcifkbldfoaaGreatDoorZSB9
import Derived.MapKept
import Derived.WideKeyElems
import Derived.Carry
/- Maps with keys of strings that are written out: filled once, looked up. -/
namespace Go.Proofs.YtgebcifkbldfoaaGreatDoor
open Go Go.RowKit
open Go.ChangeMaps Go.MapKept

/-- the value of a key among entries; whether it is there. -/
def entS (x : List UInt8) : List (List UInt8 × Value) → Option Value
  | [] => none
  | q :: l => if x = q.1 then some q.2 else entS x l
/-- entries, in the order in which they came. -/
def entL : Nat → List (List UInt8 × Value) → List MapEntry
  | _, [] => []
  | n, q :: l => ⟨stv q.1, q.2, n⟩ :: entL (n + 1) l
theorem entL_snoc (q : List UInt8 × Value) : ∀ (l : List (List UInt8 × Value)) (n : Nat), entL n (l ++ [q]) = entL n l ++ [⟨stv q.1, q.2, n + l.length⟩]
  | [], n => rfl
  | p :: l, n => by
    rw [List.cons_append, entL, entL_snoc q l (n + 1), entL, List.cons_append, List.length_cons, show n + (l.length + 1) = n + 1 + l.length by omega]
/-- block r is a map of just these. -/
def MapS (w : World) (r : Nat) (l : List (List UInt8 × Value)) : Prop := w.heap[r]? = some (.map (entL 0 l).toArray l.length)
theorem ba_eqS (a b : List UInt8) : ((⟨a.toArray⟩ : ByteArray) == ⟨b.toArray⟩) = decide (a = b) := by
  rw [show ((⟨a.toArray⟩ : ByteArray) == ⟨b.toArray⟩) = (a.toArray == b.toArray) from rfl, Bool.eq_iff_iff, beq_iff_eq, decide_eq_true_iff]
  simp
theorem find_ent (x : List UInt8) : ∀ (l : List (List UInt8 × Value)) (n i : Nat), ∃ j, Instr.findNow .string (stv x) (entL n l) i = some ((entS x l).map fun v => (j, v))
  | [], _, i => ⟨0, rfl⟩
  | q :: l, n, i => by
    obtain ⟨j, hj⟩ := find_ent x l (n + 1) (i + 1)
    unfold entL Instr.findNow Instr.sameNow stv
    simp only [ba_eqS, entS]
    by_cases h : x = q.1
    · rw [if_pos h, decide_eq_true h]
      exact ⟨i, rfl⟩
    · rw [if_neg h, decide_eq_false h]
      exact ⟨j, hj⟩
section
variable {P : Program} {w : World} {ops : Array Oper} {rest : List Oper} {o : Oper} {a : Act} {Q : Exit → Act → World → Prop}
theorem MapS.alloc (w : World) : MapS (w.alloc (.map #[] 0)) w.heap.size [] := World.alloc_heap_new w _
theorem MapS.kept {W W' : World} {r : Nat} {l : List (List UInt8 × Value)} {row : Option Nat} (h : MapS W r l) (hg : W.grownBy W' row) (hne : some r ≠ row) : MapS W' r l := (hg.block r (Array.getElem?_eq_some_iff.1 h).1 hne).trans h
theorem MapS.bel {W W' : World} {r : Nat} {l : List (List UInt8 × Value)} (h : MapS W r l) (hb : Below W.heap.size W W') : MapS W' r l := (hb.block r (Array.getElem?_eq_some_iff.1 h).1).trans h
theorem wpList_makeS0 (hg : o.guard = none) (t : TypeId) (hop : o.op = .makeMap t none)
    (h : ∀ w', MapS w' w.heap.size [] → Below w.heap.size w w' → w'.heap.size = w.heap.size + 1 → wpList P ops Q rest (a.put o.dst (.map (some w.heap.size))) w') : wpList P ops Q (o :: rest) a w := by
  refine wpList_plain hg fun _ hK => ?_
  unfold Oper.wp
  have hr := @run_makeMap P
  simp only [execOp, hop, Option.map_none, hr, Sem.run_bind, Result.andThen_ok]
  exact hK _ _ (h _ (MapS.alloc w) ((Below.refl _ _).alloc (Nat.le_refl _) _) (by simp))
theorem wpList_insertS (hg : o.guard = none) (t : TypeId) (m k v : Operand) (hop : o.op = .insert t m k v) {kt e : TypeId} (ht : P.underlying t = some (.map kt e)) (hk : P.underlying kt = some .string)
    {r : Nat} (hm : a.eval m = .map (some r)) {x : List UInt8} (hx : a.eval k = stv x) {val : Value} (hv : a.eval v = val) {l : List (List UInt8 × Value)} (hM : MapS w r l) (hnew : entS x l = none)
    (h : ∀ w', MapS w' r (l ++ [(x, val)]) → w.grownBy w' (some r) → w'.heap.size = w.heap.size → wpList P ops Q rest (a.put o.dst undef) w') : wpList P ops Q (o :: rest) a w := by
  refine wpList_plain hg fun _ hK => ?_
  obtain ⟨j, hj⟩ := find_ent x l 0 0
  rw [hnew, Option.map_none] at hj
  have hb : w.heap[r]? = some (.map (entL 0 l).toArray l.length) := hM
  have hrun : (Instr.mapUpdate t (.map (some r)) (stv x) val).run P w = .ok () (setBlock w r (.map ((entL 0 l).toArray.push ⟨stv x, val, l.length⟩) (l.length + 1))) := by
    have hck : (Instr.checkKey false 10000 kt (stv x)).run P w = .ok () w := by
      rw [show (10000 : Nat) = 9999 + 1 from rfl, Instr.checkKey]
      simp [run_underlying hk, stv]
    have hfd : (Instr.findKey kt (stv x) (entL 0 l)).run P w = .ok none w := by
      unfold Instr.findKey
      simp [run_underlying hk, hj]
    simp [Instr.mapUpdate, run_underlying ht, MapKept.run_getObj_map hb, hck, hfd, MapKept.run_setObj_map _ hb, Result.andThen, setBlock]
  unfold Oper.wp
  simp only [execOp, hop, hm, hx, hv, Sem.run_bind, hrun, Result.andThen_ok]
  refine hK _ _ (h _ ?_ ⟨rfl, rfl, rfl, by simp [setBlock], fun i _ hi => heap_setBlock_other hb _ (fun e => hi (by rw [e]))⟩ (by simp [setBlock]))
  unfold MapS
  rw [heap_setBlock_same hb, entL_snoc, List.length_append, List.length_singleton, Nat.zero_add, List.push_toArray]
theorem run_lookupS {t kt e : TypeId} (ht : P.underlying t = some (.map kt e)) (hk : P.underlying kt = some .string) {z : Value} (hz : (zeroValue e).run P w = .ok z w) {r : Nat} {l : List (List UInt8 × Value)} (hM : MapS w r l) (x : List UInt8) :
    (Instr.lookup t (.map (some r)) (stv x) true).run P w = .ok (.tuple #[(entS x l).getD z, .bool (entS x l).isSome]) w := by
  obtain ⟨j, hj⟩ := find_ent x l 0 0
  have hb : w.heap[r]? = some (.map (entL 0 l).toArray l.length) := hM
  have hck : ∀ b, (Instr.checkKey b 10000 kt (stv x)).run P w = .ok () w := fun b => by
    rw [show (10000 : Nat) = 9999 + 1 from rfl, Instr.checkKey]
    simp [run_underlying hk, stv]
  have hfd : (Instr.findKey kt (stv x) (entL 0 l)).run P w = .ok ((entS x l).map fun v => (j, v)) w := by
    unfold Instr.findKey
    simp [run_underlying hk, hj]
  cases he : entS x l with
  | none =>
    rw [he] at hfd
    simp [Instr.lookup, run_underlying ht, MapKept.run_getObj_map hb, hck, hfd, hz, Result.andThen]
  | some v =>
    rw [he] at hfd
    simp [Instr.lookup, run_underlying ht, MapKept.run_getObj_map hb, hck, hfd, Result.andThen]
end
end Go.Proofs.YtgebcifkbldfoaaGreatDoor
