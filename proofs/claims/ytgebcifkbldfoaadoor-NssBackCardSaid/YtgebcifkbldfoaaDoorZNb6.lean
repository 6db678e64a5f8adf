/- Contracts and plain lemmas of our own, merged. -/
import Derived.Test.YtgebcifkbldfoaaDoorZNb5
import Derived.Laws.Rows
import Derived.Laws.StructEq
import Derived.Deep.MidRow
import Derived.Stop.BytesEq
/- Addresses: an address as a value of eighteen cells, with its own laws. -/
namespace Go.Proofs.YtgebcifkbldfoaaDoor
open Go.RowKit

structure Ad where
  fam : Int
  ip : List UInt8
  zone : Int
  ok : ip.length = 16 ∧ (-9223372036854775808 ≤ fam ∧ fam ≤ 9223372036854775807) ∧ (-9223372036854775808 ≤ zone ∧ zone ≤ 9223372036854775807)
theorem Ad.same {a b : Ad} (h1 : a.fam = b.fam) (h2 : a.ip = b.ip) (h3 : a.zone = b.zone) : a = b := by
  cases a; cases b; simp only at h1 h2 h3; subst h1 h2 h3; rfl
theorem Ad.same_iff {a b : Ad} : (a.fam = b.fam ∧ a.ip = b.ip ∧ a.zone = b.zone) ↔ a = b := ⟨fun ⟨h1, h2, h3⟩ => Ad.same h1 h2 h3, fun h => by rw [h]; exact ⟨rfl, rfl, rfl⟩⟩
instance : DecidableEq Ad := fun _ _ => decidable_of_iff _ Ad.same_iff
theorem Ad.len (a : Ad) : a.ip.length = 16 := a.ok.1
/-- a byte of an address. -/
def Ad.b (a : Ad) (i : Nat) : UInt8 := a.ip.getD i 0
def adL (a : Ad) : List Value := .int .i64 a.fam :: (a.ip.map byv ++ [.int .i64 a.zone])
def adA (a : Ad) : Array Value := (adL a).toArray
/-- an address with another byte. -/
def Ad.setB (a : Ad) (i : Nat) (v : UInt8) : Ad := ⟨a.fam, a.ip.set i v, a.zone, by rw [List.length_set]; exact a.ok⟩
def Ad.setZ (a : Ad) (z : Int) (h : -9223372036854775808 ≤ z ∧ z ≤ 9223372036854775807) : Ad := ⟨a.fam, a.ip, z, a.ok.1, a.ok.2.1, h⟩
theorem wpList_build1 {P : Program} {ops : Array Oper} {rest : List Oper} {o : Oper} {a : Act} {w : World} {Q : Exit → Act → World → Prop} (hg : o.guard = none) (t : TypeId) (parts : Array (Nat × Operand)) (ho : o.op = .build t parts)
    {cs : Array Value} (hb : P.built t (parts.map fun (i, x) => (i, a.eval x)).toList = some cs) (h : wpList P ops Q rest (a.put o.dst (.agg cs)) w) : wpList P ops Q (o :: rest) a w :=
  wpList_build hg t parts ho (by rw [hb]; rfl) (by rw [hb]; exact h)

theorem wpList_buildL {P : Program} {ops : Array Oper} {rest : List Oper} {o : Oper} {a : Act} {w : World} {Q : Exit → Act → World → Prop} (hg : o.guard = none) (t : TypeId) (l : List (Nat × Operand)) (ho : o.op = .build t l.toArray)
    {vals : List (Nat × Value)} {cs : Array Value} (hb : P.built t vals = some cs) (hv : l.map (fun p => (p.1, a.eval p.2)) = vals) (h : wpList P ops Q rest (a.put o.dst (.agg cs)) w) : wpList P ops Q (o :: rest) a w := by
  subst hv
  refine wpList_build1 hg t l.toArray ho (cs := cs) ?_ h
  rw [← hb]
  simp
/-! ### equality -/
end Go.Proofs.YtgebcifkbldfoaaDoor
