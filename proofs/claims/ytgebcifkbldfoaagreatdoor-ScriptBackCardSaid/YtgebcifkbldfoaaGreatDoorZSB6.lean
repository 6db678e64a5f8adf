/- Contracts and plain lemmas of our own, merged. -/
import Derived.Test.YtgebcifkbldfoaaGreatDoorZSB5
import Derived.Laws.Rows
import Derived.Laws.StructEq
import Derived.Deep.MidRow
import Derived.Stop.BytesEq
/- Addresses: an address as a value of eighteen cells, with its own laws. -/
namespace Go.Proofs.YtgebcifkbldfoaaGreatDoor
open Go.RowKit

structure Ad where
  fam : Int
  ip : List UInt8
  zone : Int
  ok : ip.length = 16 ∧ (-9223372036854775808 ≤ fam ∧ fam ≤ 9223372036854775807) ∧ (-9223372036854775808 ≤ zone ∧ zone ≤ 9223372036854775807)
theorem Ad.same {a b : Ad} (h1 : a.fam = b.fam) (h2 : a.ip = b.ip) (h3 : a.zone = b.zone) : a = b := by
  cases a; cases b; simp only at h1 h2 h3; subst h1 h2 h3; rfl
theorem Ad.same_iff {a b : Ad} : (a.fam = b.fam ∧ a.ip = b.ip ∧ a.zone = b.zone) ↔ a = b := ⟨fun ⟨h1, h2, h3⟩ => Ad.same h1 h2 h3, fun h => by rw [h]; exact ⟨rfl, rfl, rfl⟩⟩
instance : DecidableEq Ad := fun _ _ => decidable_of_iff _ Ad.same_iff
theorem Ad.len (a : Ad) : a.ip.length = 16 := a.ok.1
/-- a byte of an address. -/
def Ad.b (a : Ad) (i : Nat) : UInt8 := a.ip.getD i 0
theorem Ad.b_eq (a : Ad) {i : Nat} (h : i < 16) : a.ip[i]? = some (a.b i) := by
  unfold Ad.b
  rw [List.getD_eq_getElem?_getD, List.getElem?_eq_getElem (by rw [a.len]; exact h)]
  rfl
def adL (a : Ad) : List Value := .int .i64 a.fam :: (a.ip.map byv ++ [.int .i64 a.zone])
def adA (a : Ad) : Array Value := (adL a).toArray
theorem adL_len (a : Ad) : (adL a).length = 18 := by simp [adL, a.len]
theorem adA_size (a : Ad) : (adA a).size = 18 := by unfold adA; rw [List.size_toArray, adL_len]
theorem adL_ip (a : Ad) {i : Nat} (h : i < 16) : (adL a)[i + 1]? = some (.int .u8 ((a.b i).toNat : Int)) := by
  unfold adL
  rw [List.getElem?_cons_succ, List.getElem?_append_left (by rw [List.length_map, a.len]; exact h), List.getElem?_map, a.b_eq h]
  rfl
theorem adL_17 (a : Ad) : (adL a)[17]? = some (.int .i64 a.zone) := by
  unfold adL
  rw [List.getElem?_cons_succ, List.getElem?_append_right (by rw [List.length_map, a.len]; omega), List.length_map, a.len]
  rfl
theorem adA_0 (a : Ad) : (adA a)[0]? = some (.int .i64 a.fam) := by unfold adA; rw [List.getElem?_toArray]; rfl
theorem adA_ip (a : Ad) {i : Nat} (h : i < 16) : (adA a)[i + 1]? = some (.int .u8 ((a.b i).toNat : Int)) := by unfold adA; rw [List.getElem?_toArray]; exact adL_ip a h
theorem adA_17 (a : Ad) : (adA a)[17]? = some (.int .i64 a.zone) := by unfold adA; rw [List.getElem?_toArray]; exact adL_17 a
theorem adA_1 (a : Ad) : (adA a)[1]? = some (.int .u8 ((a.b 0).toNat : Int)) := adA_ip a (i := 0) (by omega)
theorem adA_2 (a : Ad) : (adA a)[2]? = some (.int .u8 ((a.b 1).toNat : Int)) := adA_ip a (i := 1) (by omega)
theorem adA_3 (a : Ad) : (adA a)[3]? = some (.int .u8 ((a.b 2).toNat : Int)) := adA_ip a (i := 2) (by omega)
theorem adA_4 (a : Ad) : (adA a)[4]? = some (.int .u8 ((a.b 3).toNat : Int)) := adA_ip a (i := 3) (by omega)
theorem adA_13 (a : Ad) : (adA a)[13]? = some (.int .u8 ((a.b 12).toNat : Int)) := adA_ip a (i := 12) (by omega)
theorem adA_14 (a : Ad) : (adA a)[14]? = some (.int .u8 ((a.b 13).toNat : Int)) := adA_ip a (i := 13) (by omega)
theorem adA_15 (a : Ad) : (adA a)[15]? = some (.int .u8 ((a.b 14).toNat : Int)) := adA_ip a (i := 14) (by omega)
theorem adA_16 (a : Ad) : (adA a)[16]? = some (.int .u8 ((a.b 15).toNat : Int)) := adA_ip a (i := 15) (by omega)
theorem adL_one (a : Ad) : ∀ v ∈ adL a, v.oneCell' = true := by
  intro v hv
  unfold adL at hv
  rw [List.mem_cons, List.mem_append] at hv
  rcases hv with rfl | hv | hv
  · rfl
  · exact byv_one a.ip v hv
  · simp at hv; subst hv; rfl
theorem adA_one (a : Ad) : (adA a).all (·.oneCell') = true := all_oneCell_toArray (adL_one a)
/-- an address with another byte. -/
def Ad.setB (a : Ad) (i : Nat) (v : UInt8) : Ad := ⟨a.fam, a.ip.set i v, a.zone, by rw [List.length_set]; exact a.ok⟩
def Ad.setZ (a : Ad) (z : Int) (h : -9223372036854775808 ≤ z ∧ z ≤ 9223372036854775807) : Ad := ⟨a.fam, a.ip, z, a.ok.1, a.ok.2.1, h⟩
theorem adA_setB (a : Ad) {i : Nat} (h : i < 16) (v : UInt8) : (adA a).setIfInBounds (i + 1) (.int .u8 (v.toNat : Int)) = adA (a.setB i v) := by
  unfold adA adL Ad.setB
  rw [List.setIfInBounds_toArray]
  congr 1
  rw [List.set_cons_succ, List.set_append_left _ _ (by rw [List.length_map, a.len]; exact h)]
  congr 2
  show (a.ip.map byv).set i (byv v) = _
  rw [List.map_set]
theorem adA_setZ (a : Ad) (z : Int) (h : -9223372036854775808 ≤ z ∧ z ≤ 9223372036854775807) : (adA a).setIfInBounds 17 (.int .i64 z) = adA (a.setZ z h) := by
  unfold adA adL Ad.setZ
  rw [List.setIfInBounds_toArray]
  congr 1
  rw [List.set_cons_succ, List.set_append_right _ _ (by rw [List.length_map, a.len]; omega), List.length_map, a.len]
  rfl
/-- sixteen bytes, one by one. -/
theorem len16 {l : List UInt8} (h : l.length = 16) : ∃ c0 c1 c2 c3 c4 c5 c6 c7 c8 c9 c10 c11 c12 c13 c14 c15, l = [c0, c1, c2, c3, c4, c5, c6, c7, c8, c9, c10, c11, c12, c13, c14, c15] := by
  match l, h with
  | [c0, c1, c2, c3, c4, c5, c6, c7, c8, c9, c10, c11, c12, c13, c14, c15], _ => exact ⟨_, _, _, _, _, _, _, _, _, _, _, _, _, _, _, _, rfl⟩
/-- the bytes of an address as an array. -/
def ipA (l : List UInt8) : Array Value := (l.map byv).toArray

theorem wpList_build1 {P : Program} {ops : Array Oper} {rest : List Oper} {o : Oper} {a : Act} {w : World} {Q : Exit → Act → World → Prop} (hg : o.guard = none) (t : TypeId) (parts : Array (Nat × Operand)) (ho : o.op = .build t parts)
    {cs : Array Value} (hb : P.built t (parts.map fun (i, x) => (i, a.eval x)).toList = some cs) (h : wpList P ops Q rest (a.put o.dst (.agg cs)) w) : wpList P ops Q (o :: rest) a w :=
  wpList_build hg t parts ho (by rw [hb]; rfl) (by rw [hb]; exact h)

theorem wpList_buildL {P : Program} {ops : Array Oper} {rest : List Oper} {o : Oper} {a : Act} {w : World} {Q : Exit → Act → World → Prop} (hg : o.guard = none) (t : TypeId) (l : List (Nat × Operand)) (ho : o.op = .build t l.toArray)
    {vals : List (Nat × Value)} {cs : Array Value} (hb : P.built t vals = some cs) (hv : l.map (fun p => (p.1, a.eval p.2)) = vals) (h : wpList P ops Q rest (a.put o.dst (.agg cs)) w) : wpList P ops Q (o :: rest) a w := by
  subst hv
  refine wpList_build1 hg t l.toArray ho (cs := cs) ?_ h
  rw [← hb]
  simp
theorem built_ip4 (a b c d : UInt8) : Tryz.prog.built 29 [(0, .int .u8 (a.toNat : Int)), (1, .int .u8 (b.toNat : Int)), (2, .int .u8 (c.toNat : Int)), (3, .int .u8 (d.toNat : Int))] = some (ipA [a, b, c, d, 0, 0, 0, 0, 0, 0, 0, 0, 0, 0, 0, 0]) := by kernel_rfl

/-! ### equality -/
theorem adA_part1 (a : Ad) : (adA a).extract 1 (1 + 16) = ipA a.ip := by
  unfold adA ipA adL
  rw [List.extract_toArray]
  simp [a.len]
theorem equalIn_ip (w : World) (d : Nat) (xs ys : List UInt8) (hx : xs.length = 16) (hy : ys.length = 16) : (Op.equalIn (d + 2) 29 (.agg (ipA xs)) (.agg (ipA ys))).run Tryz.prog w = .ok (xs == ys) w :=
  run_equalIn_bytes w d 29 5 16 Tryz.underlying29 Tryz.underlying5 (fun w => by
    have h : (Tryz.prog.info? 5).map (·.size) = some 1 := by kernel_rfl
    cases hq : Tryz.prog.info? 5 with
    | none => rw [hq] at h; cases h
    | some i => rw [hq] at h; simp [sizeOf, typeInfo, hq]; simpa using h) xs ys hx hy
theorem ad_fields : (Tryz.prog.fieldsOf 31).toList.map (fun f => (f.name == "_", f.type, f.offset)) = [(false, 3, 0), (false, 29, 1), (false, 3, 17)] := by kernel_rfl
theorem list3 {α β : Type} {f : α → β} {l : List α} {x y z : β} (h : l.map f = [x, y, z]) : ∃ a b c, l = [a, b, c] ∧ f a = x ∧ f b = y ∧ f c = z := by
  match l, h with
  | [a, b, c], h => simp at h; exact ⟨a, b, c, rfl, h⟩
theorem size_ip (w : World) : (sizeOf 29).run Tryz.prog w = .ok 16 w := by
  have h : (Tryz.prog.info? 29).map (·.size) = some 16 := by kernel_rfl
  cases hq : Tryz.prog.info? 29 with
  | none => rw [hq] at h; cases h
  | some i => rw [hq] at h; simp [sizeOf, typeInfo, hq]; simpa using h
theorem ad_under : Tryz.prog.underlying 31 = some (.struct (Tryz.prog.fieldsOf 31)) := by kernel_rfl
theorem part_fam (w : World) (x : Ad) : (part 3 (adA x) 0).run Tryz.prog w = .ok (.int .i64 x.fam) w := by
  simp [part, isAgg, run_underlying Tryz.underlying3, adA_0]
theorem part_ip (w : World) (x : Ad) : (part 29 (adA x) 1).run Tryz.prog w = .ok (.agg (ipA x.ip)) w := by
  simp only [part, isAgg, Sem.run_bind, run_underlying Tryz.underlying29, Result.andThen_ok, Sem.run_pure, if_true, size_ip, adA_part1]
theorem part_zone (w : World) (x : Ad) : (part 3 (adA x) 17).run Tryz.prog w = .ok (.int .i64 x.zone) w := by
  simp [part, isAgg, run_underlying Tryz.underlying3, adA_17]
/-- the fields, one by one: whatever the program. -/
theorem eqf3 {P : Program} (w : World) (d : Nat) (xs ys : Array Value) (f0 f1 f2 : Field) (m0 : f0.name ≠ "_") (m1 : f1.name ≠ "_") (m2 : f2.name ≠ "_") {x0 x1 x2 y0 y1 y2 : Value} {b0 b1 b2 : Bool}
    (p0 : (part f0.type xs f0.offset).run P w = .ok x0 w) (q0 : (part f0.type ys f0.offset).run P w = .ok y0 w) (e0 : (Op.equalIn d f0.type x0 y0).run P w = .ok b0 w)
    (p1 : (part f1.type xs f1.offset).run P w = .ok x1 w) (q1 : (part f1.type ys f1.offset).run P w = .ok y1 w) (e1 : (Op.equalIn d f1.type x1 y1).run P w = .ok b1 w)
    (p2 : (part f2.type xs f2.offset).run P w = .ok x2 w) (q2 : (part f2.type ys f2.offset).run P w = .ok y2 w) (e2 : (Op.equalIn d f2.type x2 y2).run P w = .ok b2 w) :
    (Op.eqFields d xs ys [f0, f1, f2]).run P w = .ok (b0 && (b1 && b2)) w := by
  cases b0
  · simp [Op.eqFields, m0, p0, q0, e0]
  · cases b1
    · simp [Op.eqFields, m0, m1, p0, q0, e0, p1, q1, e1]
    · cases b2 <;> simp [Op.eqFields, m0, m1, m2, p0, q0, e0, p1, q1, e1, p2, q2, e2]
theorem run_ad_eq (w : World) (d : Nat) (a b : Ad) : (Op.equalIn (d + 3) 31 (.agg (adA a)) (.agg (adA b))).run Tryz.prog w = .ok (decide (a = b)) w := by
  rw [run_equalIn_struct w (d + 2) _ _ _ ad_under Tryz.stoodInHeld31]
  obtain ⟨f0, f1, f2, hl, h0, h1, h2⟩ := list3 ad_fields
  rw [hl]
  simp only [Prod.mk.injEq] at h0 h1 h2
  obtain ⟨n0, t0, o0⟩ := h0
  obtain ⟨n1, t1, o1⟩ := h1
  obtain ⟨n2, t2, o2⟩ := h2
  rw [eqf3 w (d + 2) (adA a) (adA b) f0 f1 f2 (by simpa using n0) (by simpa using n1) (by simpa using n2)
    (by rw [t0, o0]; exact part_fam w a) (by rw [t0, o0]; exact part_fam w b) (by rw [t0]; exact run_equalIn_int w (d + 1) 3 .i64 .i64 a.fam b.fam Tryz.underlying3)
    (by rw [t1, o1]; exact part_ip w a) (by rw [t1, o1]; exact part_ip w b) (by rw [t1]; exact equalIn_ip w d a.ip b.ip a.len b.len)
    (by rw [t2, o2]; exact part_zone w a) (by rw [t2, o2]; exact part_zone w b) (by rw [t2]; exact run_equalIn_int w (d + 1) 3 .i64 .i64 a.zone b.zone Tryz.underlying3)]
  have hb : ((a.fam == b.fam) && ((a.ip == b.ip) && (a.zone == b.zone))) = decide (a = b) := by
    rw [Bool.eq_iff_iff]
    simp [← Ad.same_iff]
  rw [hb]
theorem ad_neq (w : World) (a b : Ad) : (binOp .neq 31 (.agg (adA a)) (.agg (adA b))).run Tryz.prog w = .ok (.bool (!decide (a = b))) w := by
  rw [run_neq_struct, run_ad_eq w 9997 a b]; rfl
end Go.Proofs.YtgebcifkbldfoaaGreatDoor
