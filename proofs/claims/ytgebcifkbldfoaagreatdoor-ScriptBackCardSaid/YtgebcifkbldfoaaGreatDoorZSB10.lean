/- Contracts and plain lemmas of our own, merged. -/
import Derived.Test.YtgebcifkbldfoaaGreatDoorZSB6
import Derived.Test.YtgebcifkbldfoaaGreatDoorZSB8
import Derived.Test.YtgebcifkbldfoaaGreatDoorZSB9
import Derived.Great.Walk
/- Laws of the walk for addresses: a block made, a value boxed, loaded, stored, compared. -/
namespace Go.Proofs.YtgebcifkbldfoaaGreatDoor
open Go.RowKit

/-- block g alone may have changed. -/
structure Stays (g : Nat) (w w' : World) : Prop where
  os : w'.os = w.os
  tape : w'.tape = w.tape
  output : w'.output = w.output
  size : w'.heap.size = w.heap.size
  block : ∀ k, k ≠ g → w'.heap[k]? = w.heap[k]?
theorem Stays.below {g B : Nat} {w w' : World} (h : Stays g w w') (hB : B ≤ g) : Below B w w' :=
  ⟨h.os, h.tape, h.output, Nat.le_of_eq h.size.symm, fun k hk => h.block k (by omega)⟩
theorem Bk.stays {w w' : World} {g k : Nat} {t : TypeId} {cs : Array Value} (h : Bk w k t cs) (hs : Stays g w w') (hne : k ≠ g) : Bk w' k t cs := (hs.block k hne).trans h
theorem Stays.row (w : World) (g : Nat) (cs : Array Value) : Stays g w (w.setRow g cs) := ⟨rfl, rfl, rfl, setRow_size w g cs, fun k hk => setRow_other w g k cs hk⟩
theorem Stays.cell (w : World) (g i : Nat) (v : Value) : Stays g w (w.setCell ⟨g, i, none⟩ v) := ⟨rfl, rfl, rfl, by simp [World.setCell], fun k hk => Below.heap_setCell w ⟨g, i, none⟩ v k hk⟩
theorem Stays.trans {g : Nat} {a b c : World} (h : Stays g a b) (k : Stays g b c) : Stays g a c := ⟨k.os.trans h.os, k.tape.trans h.tape, k.output.trans h.output, k.size.trans h.size, fun i hi => (k.block i hi).trans (h.block i hi)⟩

/-- zero values, by the program's own table. -/
def ZeroIs (P : Program) (t : TypeId) (z : Array Value) : Prop := (P.info? t).map (fun i => i.zero.map (·.cells)) = some (some z)
theorem run_alloc_zero {P : Program} {t : TypeId} {z : Array Value} (h : ZeroIs P t z) (w : World) (v : Value) : (Instr.alloc t true v).run P w = .ok (.pointer (some ⟨w.heap.size, 0, none⟩)) (w.alloc (.cells z t)) := by
  unfold ZeroIs at h
  cases hi : P.info? t with
  | none => rw [hi] at h; cases h
  | some i =>
    rw [hi] at h
    cases hz : i.zero with
    | none => rw [Option.map_some, hz] at h; cases h
    | some zv =>
      rw [Option.map_some, hz, Option.map_some] at h
      injection h with h
      injection h with h
      simp [Instr.alloc, zeroValue, typeInfo, hi, hz, newVar, newRow, h]
theorem wpList_allocZ {P : Program} {w : World} {ops : Array Oper} {rest : List Oper} {o : Oper} {a : Act} {Q : Exit → Act → World → Prop} (hgd : o.guard = none) (t : TypeId) (ho : o.op = .alloc t) {z : Array Value} (hz : ZeroIs P t z)
    (h : ∀ g w', g = w.heap.size → Bk w' g t z → Below w.heap.size w w' → w'.heap.size = g + 1 → wpList P ops Q rest (a.put o.dst (.pointer (some ⟨g, 0, none⟩))) w') : wpList P ops Q (o :: rest) a w := by
  refine wpList_plain hgd fun _ hK => ?_
  unfold Oper.wp execOp
  simp only [ho, Sem.run_bind, run_alloc_zero hz, Result.andThen_ok]
  exact hK _ _ (h _ _ rfl (Bk.new w t z) ((Below.refl _ _).alloc (Nat.le_refl _) _) (by simp))
theorem wpList_boxB {P : Program} {w : World} {ops : Array Oper} {rest : List Oper} {o : Oper} {a : Act} {Q : Exit → Act → World → Prop} (hgd : o.guard = none) (t : TypeId) (x : Operand) (ho : o.op = .box t x) {cs : Array Value} (hx : a.eval x = .agg cs)
    (h : ∀ g w', g = w.heap.size → Bk w' g t cs → Below w.heap.size w w' → w'.heap.size = g + 1 → wpList P ops Q rest (a.put o.dst (.pointer (some ⟨g, 0, none⟩))) w') : wpList P ops Q (o :: rest) a w := by
  refine wpList_plain hgd fun _ hK => ?_
  unfold Oper.wp execOp
  simp only [ho, hx, Instr.box, newVar, newRow, Value.cells, Sem.run_bind]
  exact hK _ _ (h _ _ rfl (Bk.new w t cs) ((Below.refl _ _).alloc (Nat.le_refl _) _) (by simp))
/-- a whole block is loaded. -/
theorem wpList_loadB {P : Program} {w : World} {ops : Array Oper} {rest : List Oper} {o : Oper} {a : Act} {Q : Exit → Act → World → Prop} (hgd : o.guard = none) (ty : TypeId) (x : Operand) (ho : o.op = .load ty x) {g : Nat} (hx : a.eval x = .pointer (some ⟨g, 0, none⟩))
    {t : TypeId} {cs : Array Value} (hB : Bk w g t cs) {d : TypeDesc} (hu : P.underlying ty = some d) (hd : d.isRow = true) (hi : (P.info? ty).map (·.size) = some cs.size)
    (h : wpList P ops Q rest (a.put o.dst (.agg cs)) w) : wpList P ops Q (o :: rest) a w :=
  wpList_load_row hgd ty x ho g hx t cs (0, 0) d hB hu (by cases d <;> first | rfl | cases hd) hi h
/-- a whole block is stored into. -/
theorem wpList_storeB {P : Program} {w : World} {ops : Array Oper} {rest : List Oper} {o : Oper} {a : Act} {Q : Exit → Act → World → Prop} (hgd : o.guard = none) (ty : TypeId) (x y : Operand) (ho : o.op = .store ty x y) {g : Nat} {cells : Array Value} (hx : a.eval x = .pointer (some ⟨g, 0, none⟩)) (hy : a.eval y = .agg cells)
    {t : TypeId} {old : Array Value} (hB : Bk w g t old) (hi : (P.info? ty).map (·.size) = some cells.size) (hold : old.size = cells.size) (h1 : cells.all (·.oneCell') = true)
    (h : ∀ w', Bk w' g t cells → Stays g w w' → wpList P ops Q rest (a.put o.dst undef) w') : wpList P ops Q (o :: rest) a w :=
  wpList_store_row hgd ty x y ho g cells hx hy t old hB hi hold h1 (h _ (hB.row cells) (Stays.row w g cells))

theorem ad_size : (Tryz.prog.info? 31).map (·.size) = some 18 := by kernel_rfl
theorem ad_size' (a : Ad) : (Tryz.prog.info? 31).map (·.size) = some (adA a).size := by rw [adA_size]; exact ad_size
def ad0 : Ad := ⟨0, [0, 0, 0, 0, 0, 0, 0, 0, 0, 0, 0, 0, 0, 0, 0, 0], 0, ⟨rfl, by decide, by decide⟩⟩
theorem ad_zero : ZeroIs Tryz.prog 31 (adA ad0) := by unfold ZeroIs; kernel_rfl
theorem wpList_allocAd {w : World} {ops : Array Oper} {rest : List Oper} {o : Oper} {a : Act} {Q : Exit → Act → World → Prop} (hgd : o.guard = none) (ho : o.op = .alloc 31)
    (h : ∀ g w', g = w.heap.size → Bk w' g 31 (adA ad0) → Below w.heap.size w w' → w'.heap.size = g + 1 → wpList Tryz.prog ops Q rest (a.put o.dst (.pointer (some ⟨g, 0, none⟩))) w') : wpList Tryz.prog ops Q (o :: rest) a w :=
  wpList_allocZ hgd _ ho ad_zero h
theorem wpList_loadAd {w : World} {ops : Array Oper} {rest : List Oper} {o : Oper} {a : Act} {Q : Exit → Act → World → Prop} (hgd : o.guard = none) (x : Operand) (ho : o.op = .load 31 x) {g : Nat} (hx : a.eval x = .pointer (some ⟨g, 0, none⟩))
    {t : TypeId} {b : Ad} (hB : Bk w g t (adA b)) (h : wpList Tryz.prog ops Q rest (a.put o.dst (.agg (adA b))) w) : wpList Tryz.prog ops Q (o :: rest) a w :=
  wpList_loadB hgd _ x ho hx hB ad_under rfl (ad_size' b) h
theorem wpList_storeAd {w : World} {ops : Array Oper} {rest : List Oper} {o : Oper} {a : Act} {Q : Exit → Act → World → Prop} (hgd : o.guard = none) (x y : Operand) (ho : o.op = .store 31 x y) {g : Nat} {b c : Ad} (hx : a.eval x = .pointer (some ⟨g, 0, none⟩)) (hy : a.eval y = .agg (adA b))
    {t : TypeId} (hB : Bk w g t (adA c)) (h : ∀ w', Bk w' g t (adA b) → Stays g w w' → wpList Tryz.prog ops Q rest (a.put o.dst undef) w') : wpList Tryz.prog ops Q (o :: rest) a w :=
  wpList_storeB hgd _ x y ho hx hy hB (ad_size' b) (by rw [adA_size, adA_size]) (adA_one b) h
/-- an address in the midst of a block. -/
theorem wpList_loadAdM {w : World} {ops : Array Oper} {rest : List Oper} {o : Oper} {a : Act} {Q : Exit → Act → World → Prop} (hgd : o.guard = none) (x : Operand) (ho : o.op = .load 31 x) {g off : Nat} (hx : a.eval x = .pointer (some ⟨g, off, none⟩))
    {b : Ad} (hB : w.rangeAt g off (adL b)) (h : wpList Tryz.prog ops Q rest (a.put o.dst (.agg (adA b))) w) : wpList Tryz.prog ops Q (o :: rest) a w :=
  wpList_load_mid hgd _ x ho g off hx (adL b) _ hB ad_under rfl (by rw [adL_len]; exact ad_size) h
theorem Bk.rangeAd {w : World} {g : Nat} {t : TypeId} {b : Ad} (h : Bk w g t (adA b)) : w.rangeAt g 0 (adL b) := fun j v hv => by
  rw [h.cell (0 + j)]
  unfold adA
  rw [List.getElem?_toArray]
  simpa using hv
theorem wpList_neqAd {w : World} {ops : Array Oper} {rest : List Oper} {o : Oper} {a : Act} {Q : Exit → Act → World → Prop} (hgd : o.guard = none) (x y : Operand) {t : TypeId} (ho : o.op = .binOp .neq 31 x y t) {b c : Ad} (hx : a.eval x = .agg (adA b)) (hy : a.eval y = .agg (adA c))
    (h : wpList Tryz.prog ops Q rest (a.put o.dst (.bool (!decide (b = c)))) w) : wpList Tryz.prog ops Q (o :: rest) a w := by
  refine wpList_plain hgd fun _ hK => ?_
  unfold Oper.wp execOp
  simp only [ho, hx, hy, Sem.run_bind, run_eqGuard_agg w .neq 31 x y _ _ Tryz.eqGuardType31, Result.andThen_ok, ad_neq]
  exact hK _ _ h

/-- guarded operations of a plain region. -/
theorem wpList_loadAdG {w : World} {ops : Array Oper} {rest : List Oper} {o : Oper} {a : Act} {Q : Exit → Act → World → Prop} (hw : Region.wanted o (yielded ops a.tmps) = true) (x : Operand) (ho : o.op = .load 31 x) {g : Nat} (hx : a.eval x = .pointer (some ⟨g, 0, none⟩))
    {t : TypeId} {b : Ad} (hB : Bk w g t (adA b)) (h : wpList Tryz.prog ops Q rest (a.put o.dst (.agg (adA b))) w) : wpList Tryz.prog ops Q (o :: rest) a w :=
  BigFrame.wpList_want hw fun _ hK => wp_load_row _ x ho g hx t (adA b) (0, 0) _ hB ad_under rfl (ad_size' b) (hK _ _ h)
/-! ### in a region that draws its order -/
theorem quiet_loadAd {w : World} {o : Oper} {a a' : Act} {K : Act → Prop} (x : Operand) (ho : o.op = .load 31 x) {g off : Nat} (hx : a.eval x = .pointer (some ⟨g, off, none⟩)) {b : Ad} (hB : w.rangeAt g off (adL b))
    (ha : a.put o.dst (.agg (adA b)) = a') (hk : K a') : o.quiet Tryz.prog a (fun w' => ∃ y : BelT w, w' = y.at_) K := by
  subst ha
  refine ⟨_, ?_, hk⟩
  rintro _ ⟨y, rfl⟩
  unfold Oper.quietAt execOp
  have hr : y.at_.rangeAt g off (adL b) := fun j v hv => y.cell (hB j v hv)
  simp only [ho, hx, Instr.loadAt, Instr.sureAddr, Sem.run_bind, Sem.run_pure, Result.andThen_ok, run_loadVar_mid y.at_ g off 31 (adL b) _ hr ad_under rfl (by rw [adL_len]; exact ad_size)]
  exact ⟨rfl, rfl⟩
theorem quiet_neqAd {w : World} {o : Oper} {a a' : Act} {K : Act → Prop} (x y : Operand) {t : TypeId} (ho : o.op = .binOp .neq 31 x y t) {b c : Ad} (hx : a.eval x = .agg (adA b)) (hy : a.eval y = .agg (adA c)) {r : Bool} (hr : (!decide (b = c)) = r)
    (ha : a.put o.dst (.bool r) = a') (hk : K a') : o.quiet Tryz.prog a (fun w' => ∃ y : BelT w, w' = y.at_) K := by
  subst ha hr
  refine ⟨_, ?_, hk⟩
  rintro _ ⟨z, rfl⟩
  unfold Oper.quietAt execOp
  simp only [ho, hx, hy, Sem.run_bind, run_eqGuard_agg z.at_ .neq 31 x y _ _ Tryz.eqGuardType31, Result.andThen_ok, ad_neq]
  exact ⟨rfl, rfl⟩
end Go.Proofs.YtgebcifkbldfoaaGreatDoor

/- The contracts of quad.Of and of its reference. -/
namespace Go.Proofs.YtgebcifkbldfoaaGreatDoor
open Go.RowKit

/-- the address of four bytes. -/
def adOf (a b c d : UInt8) : Ad := ⟨4, [a, b, c, d, 0, 0, 0, 0, 0, 0, 0, 0, 0, 0, 0, 0], 0, ⟨rfl, by decide, by decide⟩⟩
theorem built_of (a b c d : UInt8) : Tryz.prog.built 31 [(0, .int .i64 4), (1, .agg (ipA [a, b, c, d, 0, 0, 0, 0, 0, 0, 0, 0, 0, 0, 0, 0]))] = some (adA (adOf a b c d)) := by kernel_rfl
theorem built_4 : Tryz.prog.built 31 [(0, .int .i64 4)] = some (adA (adOf 0 0 0 0)) := by kernel_rfl
theorem built_0 : Tryz.prog.built 31 [] = some (adA ad0) := by kernel_rfl
/-- an address is handed back out of the block where it lies. -/
theorem ret_ad {fn : Func} {p : Tmp} (h : fn.results = #[.cell p 31]) {R : Ending → World → Prop} {a : Act} {w : World} {g : Nat} {t : TypeId} {b : Ad}
    (hp : a.tmps.getD p undef = .pointer (some ⟨g, 0, none⟩)) (hB : Bk w g t (adA b)) (hd : a.defers = []) (hR : R (.returned (.agg (adA b))) w) : bodyPost Tryz.prog fn R .ret a w :=
  bodyPost_ret_by (results_cell_row h a.tmps w g t (adA b) (0, 0) _ hp hB ad_under rfl (ad_size' b)) hd hR
def AdPost (w : World) (b : Ad) (e : Ending) (w' : World) : Prop := e = .returned (.agg (adA b)) ∧ Below w.heap.size w w'

set_option maxRecDepth 100000 in
set_option maxHeartbeats 400000 in
theorem of_any (a b c d : UInt8) (w : World) : Calls Tryz.prog 61 #[.int .u8 (a.toNat : Int), .int .u8 (b.toNat : Int), .int .u8 (c.toNat : Int), .int .u8 (d.toNat : Int)] w (AdPost w (adOf a b c d)) := by
  have H1 := Lib.hid (built_ip4 a b c d)
  have H2 := Lib.hid (built_of a b c d)
  go_enter Tryz.func61, Tryz.ntmps61
  go_wp2_with (first
    | ((with_reducible refine wpList_allocAd rfl rfl ?_); intro g w1 hg hB hb hs; have hg1 : w.heap.size ≤ g := Nat.le_of_eq hg.symm; clear hg hs)
    | (with_reducible refine wpList_buildL rfl 29 _ rfl H1.out rfl ?_)
    | (with_reducible refine wpList_buildL rfl 31 _ rfl H2.out rfl ?_)
    | ((with_reducible refine wpList_storeAd rfl _ _ rfl rfl rfl hB ?_); intro w2 hB2 hS2))
  refine ret_ad Tryz.results61 rfl hB2 rfl ⟨rfl, hb.trans (hS2.below hg1)⟩
theorem u8lt (a : UInt8) : (a.toNat : Int) < 256 := by have := a.toNat_lt; omega
set_option maxRecDepth 100000 in
set_option maxHeartbeats 400000 in
theorem rof_any (a b c d : UInt8) (w : World) : Calls Tryz.prog 17 #[.int .i64 (a.toNat : Int), .int .i64 (b.toNat : Int), .int .i64 (c.toNat : Int), .int .i64 (d.toNat : Int)] w (AdPost w (adOf a b c d)) := by
  have H1 := Lib.hid (built_ip4 a b c d)
  have H2 := Lib.hid (built_of a b c d)
  have a1 := u8lt a
  have b1 := u8lt b
  have c1 := u8lt c
  have d1 := u8lt d
  go_enter Tryz.func17, Tryz.ntmps17
  go_wp2_with (first
    | ((with_reducible refine wpList_allocAd rfl rfl ?_); intro g w1 hg hB hb hs; have hg1 : w.heap.size ≤ g := Nat.le_of_eq hg.symm; clear hg hs)
    | (with_reducible refine wpList_buildL rfl 29 _ rfl H1.out rfl ?_)
    | (with_reducible refine wpList_buildL rfl 31 _ rfl H2.out rfl ?_)
    | ((with_reducible refine wpList_storeAd rfl _ _ rfl rfl rfl hB ?_); intro w2 hB2 hS2))
  exact ret_ad Tryz.results17 rfl hB2 rfl ⟨rfl, hb.trans (hS2.below hg1)⟩
end Go.Proofs.YtgebcifkbldfoaaGreatDoor

/- The contracts of addr.first, addr.Check, addr.Bits, addr.Holds and of their references. -/
namespace Go.Proofs.YtgebcifkbldfoaaGreatDoor
open Go.RowKit

def adF (a : Ad) : Ad := adOf (a.b 0) (a.b 1) (a.b 2) (a.b 3)
def chkA (a : Ad) : Int := if a.fam = 4 then (if a = adF a then 0 else 5) else if a.fam = 6 then (if a.zone < 0 ∨ 2147483647 < a.zone then 4 else 0) else 10
set_option maxRecDepth 100000 in
set_option maxHeartbeats 400000 in
theorem first_any (a : Ad) (w : World) : Calls Tryz.prog 45 #[.agg (adA a)] w (AdPost w (adF a)) := by
  go_enter Tryz.func45, Tryz.ntmps45
  go_wp2_with (first
    | ((with_reducible refine wpList_boxB rfl _ _ rfl rfl ?_); intro g w1 hg hB hb hs; clear hg hs)
    | ((with_reducible refine wpList_allocAd rfl rfl ?_); intro g2 w2 hg hB2 hb2 hs; have hg1 : w.heap.size ≤ g2 := by have := hb.size; omega
       clear hg hs
       have hBx := hB.bel hb2
       have c0 := hBx.cell 1
       have c1 := hBx.cell 2
       have c2 := hBx.cell 3
       have c3 := hBx.cell 4
       rw [adA_1] at c0
       rw [adA_2] at c1
       rw [adA_3] at c2
       rw [adA_4] at c3)
    | ((with_reducible refine wpList_storeAd rfl _ _ rfl rfl rfl hB3 ?_); intro w4 hB4 hS4)
    | (go_at_call 61; refine (of_any _ _ _ _ _).mono ?_; rintro e w3 ⟨rfl, hb3⟩; have hB3 := hB2.bel hb3))
  exact ret_ad Tryz.results45 rfl hB4 rfl ⟨rfl, ((bel_tr hb hb2).trans (hb3.mono (by have := (bel_tr hb hb2).size; omega))).trans (hS4.below hg1)⟩

set_option maxRecDepth 100000 in
set_option maxHeartbeats 400000 in
theorem acheck_any (a : Ad) (w : World) : Calls Tryz.prog 26 #[.agg (adA a)] w fun e w' => e = .returned (.int .i64 (chkA a)) ∧ Below w.heap.size w w' := by
  by_cases h4 : a.fam = 4
  · have i4 : (a.fam == 4) = true := by simpa using h4
    have hch : chkA a = if a = adF a then 0 else 5 := by unfold chkA; rw [if_pos h4]
    have Hch := Lib.hid hch
    clear h4 hch
    go_enter Tryz.func26, Tryz.ntmps26
    go_wp2_with (first
      | ((with_reducible refine wpList_boxB rfl _ _ rfl rfl ?_); intro g w1 hg hB hb hs; clear hg hs
         have c0 := hB.cell 0
         rw [adA_0] at c0
         have hR := hB.rangeAd))
    cases hr : (!decide (a = adF a))
    case' false => have hc : chkA a = 0 := by rw [Hch.out, if_pos (by simpa using hr)]
    case' true => have hc : chkA a = 5 := by rw [Hch.out, if_neg (by simpa using hr)]
    all_goals
      have Hc := Lib.hid hc
      have Hr := Lib.hid hr
      clear hc hr
      refine wp_region_bel (by kernel_rfl) (by kernel_rfl) ?_
      repeat (first
        | go_big_quiet_skip
        | (go_big_quiet_want; first
            | (refine quiet_loadAd _ rfl rfl hR (by simp only [Act.put, List.setIfInBounds_toArray, List.set_cons_succ, List.set_cons_zero]; exact rfl) ?_; go_big_quiet_on)
            | (refine quiet_neqAd _ _ rfl rfl rfl Hr.out (by simp only [Act.put, List.setIfInBounds_toArray, List.set_cons_succ, List.set_cons_zero]; exact rfl) ?_; go_big_quiet_on)
            | (go_big_quiet_op; first | go_big_quiet_on | go_big_quiet_call ((refine bel_call (first_any _ _))))))
      refine wpQuiet_nil ?_
      rintro _ ⟨x, rfl⟩
      go_wp2
      go_ret
      exact ⟨by rw [Hc.out]; rfl, hb.trans (x.bel.mono (by have := hb.size; omega))⟩
  · have i4 : (a.fam == 4) = false := by simpa using h4
    by_cases h6 : a.fam = 6
    · have i6 : (a.fam == 6) = true := by simpa using h6
      have hch : chkA a = if a.zone < 0 ∨ 2147483647 < a.zone then 4 else 0 := by unfold chkA; rw [if_neg h4, if_pos h6]
      have Hch := Lib.hid hch
      clear h4 h6 hch
      rcases (show a.zone < 0 ∨ (¬ a.zone < 0 ∧ 2147483647 < a.zone) ∨ (¬ a.zone < 0 ∧ ¬ 2147483647 < a.zone) by omega) with hz | ⟨hz, hz2⟩ | ⟨hz, hz2⟩
      all_goals
        go_enter Tryz.func26, Tryz.ntmps26
        go_wp2_with (first
          | ((with_reducible refine wpList_boxB rfl _ _ rfl rfl ?_); intro g w1 hg hB hb hs; clear hg hs
             have c0 := hB.cell 0
             have c1 := hB.cell 17
             rw [adA_0] at c0
             rw [adA_17] at c1))
        go_ret
        refine ⟨reti ?_, hb⟩
        rw [Hch.out]
        first | rw [if_pos (by omega)] | rw [if_neg (by omega)]
    · have i6 : (a.fam == 6) = false := by simpa using h6
      have hch : chkA a = 10 := by unfold chkA; rw [if_neg h4, if_neg h6]
      have Hch := Lib.hid hch
      clear h4 h6 hch
      go_enter Tryz.func26, Tryz.ntmps26
      go_wp2_with (first
        | ((with_reducible refine wpList_boxB rfl _ _ rfl rfl ?_); intro g w1 hg hB hb hs; clear hg hs
           have c0 := hB.cell 0
           rw [adA_0] at c0))
      go_ret
      exact ⟨reti Hch.out.symm, hb⟩

/-- when an address of Inet is its first four bytes alone. -/
theorem adF_iff {a : Ad} (h4 : a.fam = 4) : a = adF a ↔ (∀ i, 4 ≤ i → i < 16 → a.b i = 0) ∧ a.zone = 0 := by
  constructor
  · intro h
    rw [h]
    refine ⟨fun i h1 h2 => ?_, rfl⟩
    obtain ⟨j, rfl⟩ : ∃ j, i = j + 4 := ⟨i - 4, by omega⟩
    show ([a.b 0, a.b 1, a.b 2, a.b 3] ++ List.replicate 12 (0 : UInt8)).getD (j + 4) 0 = 0
    rw [List.getD_eq_getElem?_getD, List.getElem?_append_right (by simp), List.getElem?_replicate]
    split <;> rfl
  · rintro ⟨h, hz⟩
    refine Ad.same h4 ?_ hz
    obtain ⟨c0, c1, c2, c3, c4, c5, c6, c7, c8, c9, c10, c11, c12, c13, c14, c15, hl⟩ := len16 a.len
    have e : ∀ i, a.b i = [c0, c1, c2, c3, c4, c5, c6, c7, c8, c9, c10, c11, c12, c13, c14, c15].getD i 0 := fun i => by unfold Ad.b; rw [hl]
    have z4 := h 4 (by omega) (by omega); rw [e] at z4
    have z5 := h 5 (by omega) (by omega); rw [e] at z5
    have z6 := h 6 (by omega) (by omega); rw [e] at z6
    have z7 := h 7 (by omega) (by omega); rw [e] at z7
    have z8 := h 8 (by omega) (by omega); rw [e] at z8
    have z9 := h 9 (by omega) (by omega); rw [e] at z9
    have z10 := h 10 (by omega) (by omega); rw [e] at z10
    have z11 := h 11 (by omega) (by omega); rw [e] at z11
    have z12 := h 12 (by omega) (by omega); rw [e] at z12
    have z13 := h 13 (by omega) (by omega); rw [e] at z13
    have z14 := h 14 (by omega) (by omega); rw [e] at z14
    have z15 := h 15 (by omega) (by omega); rw [e] at z15
    simp only [List.getD_eq_getElem?_getD, List.getElem?_cons_succ, List.getElem?_cons_zero, Option.getD_some] at z4 z5 z6 z7 z8 z9 z10 z11 z12 z13 z14 z15
    show a.ip = [a.b 0, a.b 1, a.b 2, a.b 3, 0, 0, 0, 0, 0, 0, 0, 0, 0, 0, 0, 0]
    rw [e, e, e, e, hl, z4, z5, z6, z7, z8, z9, z10, z11, z12, z13, z14, z15]
    rfl
theorem u8zero {c : UInt8} : c = 0 ↔ c.toNat = 0 := by
  constructor
  · intro h; rw [h]; rfl
  · intro h; exact UInt8.toNat_inj.1 h
set_option maxRecDepth 100000 in
set_option maxHeartbeats 400000 in
theorem rcheckA_any (a : Ad) (w : World) : Calls Tryz.prog 28 #[.agg (adA a)] w fun e w' => e = .returned (.int .i64 (chkA a)) ∧ Below w.heap.size w w' := by
  by_cases h4 : a.fam = 4
  · have i4 : (a.fam == 4) = true := by simpa using h4
    have i4' : (a.fam != 4) = false := by simp [h4]
    have hch : ((∀ i, 4 ≤ i → i < 16 → a.b i = 0) ∧ a.zone = 0 → chkA a = 0) ∧ (¬ ((∀ i, 4 ≤ i → i < 16 → a.b i = 0) ∧ a.zone = 0) → chkA a = 5) := by
      unfold chkA
      rw [if_pos h4]
      exact ⟨fun h => if_pos ((adF_iff h4).2 h), fun h => if_neg (fun k => h ((adF_iff h4).1 k))⟩
    have Hch := Lib.hid hch
    clear h4 hch
    go_enter Tryz.func28, Tryz.ntmps28
    go_wp2_with (first
      | ((with_reducible refine wpList_boxB rfl _ _ rfl rfl ?_); intro g w1 hg hB hb hs; clear hg hs
         have c0 := hB.cell 0
         have c1 := hB.cell 17
         rw [adA_0] at c0
         rw [adA_17] at c1))
    go_loop [3] (fun i => ∃ k : Nat, 4 ≤ k ∧ k ≤ 16 ∧ i = .int .i64 k ∧ ∀ j, 4 ≤ j → j < k → a.b j = 0) (fun i => 16 - (intOf i).toNat)
    case atStart => exact ⟨4, by omega, by omega, rfl, fun j h1 h2 => by omega⟩
    case round =>
      obtain ⟨k, hk4, hk, rfl, hz⟩ := hrel
      have Hz := Lib.hid hz
      clear hz
      by_cases hlt : k < 16
      · have c2 := hB.cell (k + 1)
        rw [adA_ip a hlt] at c2
        have c3 : w1.cell? ⟨g, 1 + k, none⟩ = some (.int .u8 ((a.b k).toNat : Int)) := by rw [Nat.add_comm]; exact c2
        clear c2
        have j1 : (k : Int) < 16 := by omega
        by_cases hb0 : a.b k = 0
        · have j2 : ((((a.b k).toNat : Nat) : Int) != 0) = false := by simp [u8zero.1 hb0]
          go_wp2
          go_round
          case rel => exact ⟨k + 1, by omega, by omega, by go_num, fun j h1 h2 => by
            rcases Nat.lt_or_eq_of_le (Nat.le_of_lt_succ h2) with h | h
            · exact Hz.out j h1 h
            · rw [h]; exact hb0⟩
          case measure => simp [intOf]; omega
        · have j2 : ((((a.b k).toNat : Nat) : Int) != 0) = true := by
            have : (a.b k).toNat ≠ 0 := fun h => hb0 (u8zero.2 h)
            simp; omega
          go_wp2
          go_ret
          exact ⟨reti (Hch.out.2 (fun h => hb0 (h.1 k hk4 hlt))).symm, hb⟩
      · have hall : ∀ i, 4 ≤ i → i < 16 → a.b i = 0 := fun i h1 h2 => Hz.out i h1 (by omega)
        have Hall := Lib.hid hall
        clear hall
        by_cases hz0 : a.zone = 0
        · have j3 : (a.zone != 0) = false := by simp [hz0]
          have hzz : ¬ a.zone < 0 := by omega
          have hzz2 : ¬ 2147483647 < a.zone := by omega
          have Hz0 := Lib.hid hz0
          clear hz0
          go_wp2
          go_ret
          exact ⟨reti (Hch.out.1 ⟨Hall.out, Hz0.out⟩).symm, hb⟩
        · have j3 : (a.zone != 0) = true := by simpa using hz0
          go_wp2
          go_ret
          exact ⟨reti (Hch.out.2 (fun h => hz0 h.2)).symm, hb⟩
  · have i4 : (a.fam == 4) = false := by simpa using h4
    have i4' : (a.fam != 4) = true := by simpa using h4
    by_cases h6 : a.fam = 6
    · have i6 : (a.fam != 6) = false := by simp [h6]
      have hch : chkA a = if a.zone < 0 ∨ 2147483647 < a.zone then 4 else 0 := by unfold chkA; rw [if_neg h4, if_pos h6]
      have Hch := Lib.hid hch
      clear h4 h6 hch
      rcases (show a.zone < 0 ∨ (¬ a.zone < 0 ∧ 2147483647 < a.zone) ∨ (¬ a.zone < 0 ∧ ¬ 2147483647 < a.zone) by omega) with hz | ⟨hz, hz2⟩ | ⟨hz, hz2⟩
      all_goals
        go_enter Tryz.func28, Tryz.ntmps28
        go_wp2_with (first
          | ((with_reducible refine wpList_boxB rfl _ _ rfl rfl ?_); intro g w1 hg hB hb hs; clear hg hs
             have c0 := hB.cell 0
             have c1 := hB.cell 17
             rw [adA_0] at c0
             rw [adA_17] at c1))
        go_ret
        refine ⟨reti ?_, hb⟩
        rw [Hch.out]
        first | rw [if_pos (by omega)] | rw [if_neg (by omega)]
    · have i6 : (a.fam != 6) = true := by simpa using h6
      have hch : chkA a = 10 := by unfold chkA; rw [if_neg h4, if_neg h6]
      have Hch := Lib.hid hch
      clear h4 h6 hch
      go_enter Tryz.func28, Tryz.ntmps28
      go_wp2_with (first
        | ((with_reducible refine wpList_boxB rfl _ _ rfl rfl ?_); intro g w1 hg hB hb hs; clear hg hs
           have c0 := hB.cell 0
           rw [adA_0] at c0))
      go_ret
      exact ⟨reti Hch.out.symm, hb⟩
end Go.Proofs.YtgebcifkbldfoaaGreatDoor

/- Prefixes; the contracts of addr.Holds and of its reference. -/
namespace Go.Proofs.YtgebcifkbldfoaaGreatDoor
open Go.RowKit

theorem Bk.rangeL {w : World} {g : Nat} {t : TypeId} {cs : List Value} (h : Bk w g t cs.toArray) (off : Nat) (ds es : List Value) (hc : cs.drop off = ds ++ es) : w.rangeAt g off ds := fun j v hv => by
  rw [h.cell (off + j), List.getElem?_toArray, ← List.getElem?_drop, hc, List.getElem?_append_left (List.getElem?_eq_some_iff.1 hv).1]
  exact hv
end Go.Proofs.YtgebcifkbldfoaaGreatDoor

/- Stores in the midst of a block; rows of structs in a block of our own. -/
namespace Go.Proofs.YtgebcifkbldfoaaGreatDoor
open Go.RowKit

/-- the cells from off on are vs. -/
def splA (cs : Array Value) (off : Nat) (vs : List Value) : Array Value := (cs.toList.take off ++ vs ++ cs.toList.drop (off + vs.length)).toArray
theorem splA_nil (cs : Array Value) (off : Nat) : splA cs off [] = cs := by
  unfold splA
  simp
theorem splA_cons {cs : Array Value} {off : Nat} {v : Value} {vs : List Value} (h : off < cs.size) : splA (cs.setIfInBounds off v) (off + 1) vs = splA cs off (v :: vs) := by
  unfold splA
  congr 1
  have h1 : off < cs.toList.length := by simpa using h
  rw [Array.toList_setIfInBounds, List.take_succ_eq_append_getElem (by simpa using h1), List.getElem_set_self, List.take_set_of_le (Nat.le_refl _), List.drop_set_of_lt (by omega)]
  simp [Nat.add_assoc, Nat.add_comm 1]
theorem setRow_same {w : World} {g : Nat} {t : TypeId} {cs : Array Value} (h : Bk w g t cs) : w.setRow g cs = w := by
  have hlt : g < w.heap.size := h.lt
  have hv : w.heap[g] = .cells cs t (0, 0) := (Array.getElem?_eq_some_iff.1 h).2
  unfold World.setRow
  cases w with
  | mk heap tape drawn os output =>
    congr 1
    apply Array.ext
    · simp
    · intro k h1 h2
      simp only [Array.getElem_modify]
      split
      · rename_i hk; subst hk; simp at hv; simp [hv]
      · rfl
theorem run_store_mid {P : Program} (g off : Nat) (t : TypeId) : ∀ (vs : List Value) (i : Nat) (cur : Array Value) (w : World), Bk w g t cur → off + i + vs.length ≤ cur.size → (∀ v ∈ vs, v.oneCell' = true) →
    (storeCells ⟨g, off, none⟩ vs i).run P w = .ok () (w.setRow g (splA cur (off + i) vs))
  | [], i, cur, w, hg, _, _ => by rw [splA_nil, setRow_same hg]; rfl
  | v :: rest, i, cur, w, hg, hl, h1 => by
    have hi : off + i < cur.size := by simp at hl; omega
    have hadd : (⟨g, off, none⟩ : Addr).add i = ⟨g, off + i, none⟩ := by unfold Addr.add; split <;> simp_all
    have hcell : w.cell? ⟨g, off + i, none⟩ = some cur[off + i] := by rw [hg.cell]; simp [hi]
    have hfro : w.frozen? ⟨g, off + i, none⟩ = false := hg.free _
    have hst : (store ((⟨g, off, none⟩ : Addr).add i) v).run P w = .ok () (w.setRow g (cur.setIfInBounds (off + i) v)) := by
      rw [hadd, run_store P w _ v _ (h1 v (by simp)), hcell]
      simp [hfro, setCell_eq_setRow w g (off + i) cur t (0, 0) v hg]
    have ih := run_store_mid (P := P) g off t rest (i + 1) (cur.setIfInBounds (off + i) v) (w.setRow g (cur.setIfInBounds (off + i) v)) (hg.row _) (by simp at hl ⊢; omega) (fun x hx => h1 x (by simp [hx]))
    simp only [storeCells, Sem.run_bind, hst, Result.andThen_ok]
    rw [ih, setRow_setRow, show off + (i + 1) = off + i + 1 by omega, splA_cons hi]
theorem run_storeVar_mid {P : Program} {w : World} {g off : Nat} {t ty : TypeId} {old cells : Array Value} (hg : Bk w g t old) (hi : (P.info? ty).map (·.size) = some cells.size)
    (ho : off + cells.size ≤ old.size) (h1 : cells.all (·.oneCell') = true) :
    (storeVar ty ⟨g, off, none⟩ (.agg cells)).run P w = .ok () (w.setRow g (splA old off cells.toList)) := by
  have := run_store_mid (P := P) g off t cells.toList 0 old w hg (by simpa using ho) (fun v hv => (Array.all_eq_true_iff_forall_mem.1 h1) v (by simpa using hv))
  cases hq : P.info? ty with
  | none => simp [hq] at hi
  | some i =>
    have hs : cells.size = i.size := by simp [hq] at hi; omega
    rw [Nat.add_zero] at this
    simp [storeVar, sizeOf, typeInfo, hq, Value.cells, hs, this]
theorem wpList_storeM {P : Program} {w : World} {ops : Array Oper} {rest : List Oper} {o : Oper} {a : Act} {Q : Exit → Act → World → Prop} (hgd : o.guard = none) (ty : TypeId) (x y : Operand) (ho : o.op = .store ty x y) {g off : Nat} {cells : Array Value} (hx : a.eval x = .pointer (some ⟨g, off, none⟩)) (hy : a.eval y = .agg cells)
    {t : TypeId} {old : Array Value} (hB : Bk w g t old) (hi : (P.info? ty).map (·.size) = some cells.size) (hold : off + cells.size ≤ old.size) (h1 : cells.all (·.oneCell') = true)
    (h : ∀ w', Bk w' g t (splA old off cells.toList) → Stays g w w' → wpList P ops Q rest (a.put o.dst undef) w') : wpList P ops Q (o :: rest) a w := by
  refine wpList_plain hgd fun _ hK => ?_
  unfold Oper.wp execOp
  simp only [ho, hx, hy, Instr.storeAt, Instr.sureAddr, Sem.run_bind, Sem.run_pure, Result.andThen_ok, run_storeVar_mid hB hi hold h1]
  exact hK _ _ (h _ (hB.row _) (Stays.row w g _))

/-! ### rows of structs in a block -/
theorem rows_off {α : Type} (f : α → List Value) {size : Nat} (hf : ∀ x, (f x).length = size) (R : List α) : (R.flatMap f).length = R.length * size := by
  induction R with
  | nil => simp
  | cons x R ih => rw [List.flatMap_cons, List.length_append, ih, hf, List.length_cons, Nat.succ_mul]; omega
/-- block g begins with the rows R. -/
def RowB {α : Type} (f : α → List Value) (w : World) (g : Nat) (t : TypeId) (R : List α) : Prop := ∃ tl, Bk w g t (R.flatMap f ++ tl).toArray
section
variable {α : Type} {f : α → List Value} {w w' : World} {g size : Nat} {t : TypeId} {R : List α}
theorem RowB.lt (h : RowB f w g t R) : g < w.heap.size := by obtain ⟨_, h⟩ := h; exact h.lt
theorem RowB.bel (h : RowB f w g t R) (hb : Below w.heap.size w w') : RowB f w' g t R := by obtain ⟨tl, h⟩ := h; exact ⟨tl, h.bel hb⟩
theorem RowB.stays {k : Nat} (h : RowB f w g t R) (hs : Stays k w w') (hne : g ≠ k) : RowB f w' g t R := by obtain ⟨tl, h⟩ := h; exact ⟨tl, h.stays hs hne⟩
theorem RowB.range (hf : ∀ x, (f x).length = size) (h : RowB f w g t R) {k : Nat} (hk : k < R.length) : w.rangeAt g (k * size) (f R[k]) := by
  obtain ⟨tl, h⟩ := h
  have e1 : R = R.take k ++ R[k] :: R.drop (k + 1) := by rw [List.getElem_cons_drop, List.take_append_drop]
  have l1 : ((R.take k).flatMap f).length = k * size := by rw [rows_off f hf, List.length_take, Nat.min_eq_left (by omega)]
  have e2 : R.flatMap f ++ tl = (R.take k).flatMap f ++ (f R[k] ++ ((R.drop (k + 1)).flatMap f ++ tl)) := by
    conv => lhs; rw [e1]
    rw [List.flatMap_append, List.flatMap_cons]
    simp only [List.append_assoc]
  intro j v hv
  have := h.cell (k * size + j)
  rw [this, List.getElem?_toArray, e2, List.getElem?_append_right (by omega), l1, Nat.add_sub_cancel_left, List.getElem?_append_left (List.getElem?_eq_some_iff.1 hv).1]
  exact hv
theorem RowB.sl (hf : ∀ x, (f x).length = size) (h : RowB f w g t R) {c : Nat} (hc : R.length ≤ c) : Sl w size (.slice (some ⟨g, 0, none⟩) R.length c) R.length (R.flatMap f) := by
  obtain ⟨tl, h⟩ := h
  refine ⟨rows_off f hf R, some ⟨g, 0, none⟩, c, rfl, hc, fun h => (by cases h), fun ad had _ => ?_⟩
  injection had with had
  subst had
  refine ⟨h.lt, rfl, fun j u hu => ?_⟩
  have := h.cell (0 + j)
  rw [this, Nat.zero_add, List.getElem?_toArray, List.getElem?_append_left (List.getElem?_eq_some_iff.1 hu).1]
  exact hu
end
end Go.Proofs.YtgebcifkbldfoaaGreatDoor
