/- Contracts and plain lemmas of our own, merged. -/
import Derived.Test.YtbffkddlkfefoaaDoorZhc5
import Derived.Laws.Rows
import Derived.Laws.StructEq
import Derived.Deep.MidRow
import Derived.Stop.BytesEq
/- Addresses: an address as a value of eighteen cells, with its own laws. -/
namespace Go.Proofs.YtbffkddlkfefoaaDoor
open Go.RowKit

structure Ad where
  fam : Int
  ip : List UInt8
  zone : Int
  ok : ip.length = 16 ∧ (-9223372036854775808 ≤ fam ∧ fam ≤ 9223372036854775807) ∧ (-9223372036854775808 ≤ zone ∧ zone ≤ 9223372036854775807)
theorem Ad.same {a b : Ad} (h1 : a.fam = b.fam) (h2 : a.ip = b.ip) (h3 : a.zone = b.zone) : a = b := by
  cases a; cases b; simp only at h1 h2 h3; subst h1 h2 h3; rfl
theorem Ad.same_iff {a b : Ad} : (a.fam = b.fam ∧ a.ip = b.ip ∧ a.zone = b.zone) ↔ a = b := ⟨fun ⟨h1, h2, h3⟩ => Ad.same h1 h2 h3, fun h => by rw [h]; exact ⟨rfl, rfl, rfl⟩⟩
instance : DecidableEq Ad := fun _ _ => decidable_of_iff _ Ad.same_iff
theorem Ad.len (a : Ad) : a.ip.length = 16 := a.ok.1
/-- a byte of an address. -/
def Ad.b (a : Ad) (i : Nat) : UInt8 := a.ip.getD i 0
theorem Ad.b_eq (a : Ad) {i : Nat} (h : i < 16) : a.ip[i]? = some (a.b i) := by
  unfold Ad.b
  rw [List.getD_eq_getElem?_getD, List.getElem?_eq_getElem (by rw [a.len]; exact h)]
  rfl
def adL (a : Ad) : List Value := .int .i64 a.fam :: (a.ip.map byv ++ [.int .i64 a.zone])
def adA (a : Ad) : Array Value := (adL a).toArray
theorem adL_len (a : Ad) : (adL a).length = 18 := by simp [adL, a.len]
theorem adA_size (a : Ad) : (adA a).size = 18 := by unfold adA; rw [List.size_toArray, adL_len]
theorem adL_ip (a : Ad) {i : Nat} (h : i < 16) : (adL a)[i + 1]? = some (.int .u8 ((a.b i).toNat : Int)) := by
  unfold adL
  rw [List.getElem?_cons_succ, List.getElem?_append_left (by rw [List.length_map, a.len]; exact h), List.getElem?_map, a.b_eq h]
  rfl
theorem adL_17 (a : Ad) : (adL a)[17]? = some (.int .i64 a.zone) := by
  unfold adL
  rw [List.getElem?_cons_succ, List.getElem?_append_right (by rw [List.length_map, a.len]; omega), List.length_map, a.len]
  rfl
theorem adA_0 (a : Ad) : (adA a)[0]? = some (.int .i64 a.fam) := by unfold adA; rw [List.getElem?_toArray]; rfl
theorem adA_ip (a : Ad) {i : Nat} (h : i < 16) : (adA a)[i + 1]? = some (.int .u8 ((a.b i).toNat : Int)) := by unfold adA; rw [List.getElem?_toArray]; exact adL_ip a h
theorem adA_17 (a : Ad) : (adA a)[17]? = some (.int .i64 a.zone) := by unfold adA; rw [List.getElem?_toArray]; exact adL_17 a
theorem adA_1 (a : Ad) : (adA a)[1]? = some (.int .u8 ((a.b 0).toNat : Int)) := adA_ip a (i := 0) (by omega)
theorem adA_2 (a : Ad) : (adA a)[2]? = some (.int .u8 ((a.b 1).toNat : Int)) := adA_ip a (i := 1) (by omega)
theorem adA_3 (a : Ad) : (adA a)[3]? = some (.int .u8 ((a.b 2).toNat : Int)) := adA_ip a (i := 2) (by omega)
theorem adA_4 (a : Ad) : (adA a)[4]? = some (.int .u8 ((a.b 3).toNat : Int)) := adA_ip a (i := 3) (by omega)
theorem adA_13 (a : Ad) : (adA a)[13]? = some (.int .u8 ((a.b 12).toNat : Int)) := adA_ip a (i := 12) (by omega)
theorem adA_14 (a : Ad) : (adA a)[14]? = some (.int .u8 ((a.b 13).toNat : Int)) := adA_ip a (i := 13) (by omega)
theorem adA_15 (a : Ad) : (adA a)[15]? = some (.int .u8 ((a.b 14).toNat : Int)) := adA_ip a (i := 14) (by omega)
theorem adA_16 (a : Ad) : (adA a)[16]? = some (.int .u8 ((a.b 15).toNat : Int)) := adA_ip a (i := 15) (by omega)
theorem adL_one (a : Ad) : ∀ v ∈ adL a, v.oneCell' = true := by
  intro v hv
  unfold adL at hv
  rw [List.mem_cons, List.mem_append] at hv
  rcases hv with rfl | hv | hv
  · rfl
  · exact byv_one a.ip v hv
  · simp at hv; subst hv; rfl
theorem adA_one (a : Ad) : (adA a).all (·.oneCell') = true := all_oneCell_toArray (adL_one a)
/-- an address with another byte. -/
def Ad.setB (a : Ad) (i : Nat) (v : UInt8) : Ad := ⟨a.fam, a.ip.set i v, a.zone, by rw [List.length_set]; exact a.ok⟩
theorem adA_setB (a : Ad) {i : Nat} (h : i < 16) (v : UInt8) : (adA a).setIfInBounds (i + 1) (.int .u8 (v.toNat : Int)) = adA (a.setB i v) := by
  unfold adA adL Ad.setB
  rw [List.setIfInBounds_toArray]
  congr 1
  rw [List.set_cons_succ, List.set_append_left _ _ (by rw [List.length_map, a.len]; exact h)]
  congr 2
  show (a.ip.map byv).set i (byv v) = _
  rw [List.map_set]
/-- sixteen bytes, one by one. -/
theorem len16 {l : List UInt8} (h : l.length = 16) : ∃ c0 c1 c2 c3 c4 c5 c6 c7 c8 c9 c10 c11 c12 c13 c14 c15, l = [c0, c1, c2, c3, c4, c5, c6, c7, c8, c9, c10, c11, c12, c13, c14, c15] := by
  match l, h with
  | [c0, c1, c2, c3, c4, c5, c6, c7, c8, c9, c10, c11, c12, c13, c14, c15], _ => exact ⟨_, _, _, _, _, _, _, _, _, _, _, _, _, _, _, _, rfl⟩
/-- the bytes of an address as an array. -/
def ipA (l : List UInt8) : Array Value := (l.map byv).toArray

theorem wpList_build1 {P : Program} {ops : Array Oper} {rest : List Oper} {o : Oper} {a : Act} {w : World} {Q : Exit → Act → World → Prop} (hg : o.guard = none) (t : TypeId) (parts : Array (Nat × Operand)) (ho : o.op = .build t parts)
    {cs : Array Value} (hb : P.built t (parts.map fun (i, x) => (i, a.eval x)).toList = some cs) (h : wpList P ops Q rest (a.put o.dst (.agg cs)) w) : wpList P ops Q (o :: rest) a w :=
  wpList_build hg t parts ho (by rw [hb]; rfl) (by rw [hb]; exact h)

theorem wpList_buildL {P : Program} {ops : Array Oper} {rest : List Oper} {o : Oper} {a : Act} {w : World} {Q : Exit → Act → World → Prop} (hg : o.guard = none) (t : TypeId) (l : List (Nat × Operand)) (ho : o.op = .build t l.toArray)
    {vals : List (Nat × Value)} {cs : Array Value} (hb : P.built t vals = some cs) (hv : l.map (fun p => (p.1, a.eval p.2)) = vals) (h : wpList P ops Q rest (a.put o.dst (.agg cs)) w) : wpList P ops Q (o :: rest) a w := by
  subst hv
  refine wpList_build1 hg t l.toArray ho (cs := cs) ?_ h
  rw [← hb]
  simp
theorem built_ip4 (a b c d : UInt8) : Tryd.prog.built 22 [(0, .int .u8 (a.toNat : Int)), (1, .int .u8 (b.toNat : Int)), (2, .int .u8 (c.toNat : Int)), (3, .int .u8 (d.toNat : Int))] = some (ipA [a, b, c, d, 0, 0, 0, 0, 0, 0, 0, 0, 0, 0, 0, 0]) := by kernel_rfl

/-! ### equality -/
theorem ad_under : Tryd.prog.underlying 24 = some (.struct (Tryd.prog.fieldsOf 24)) := by kernel_rfl
end Go.Proofs.YtbffkddlkfefoaaDoor
