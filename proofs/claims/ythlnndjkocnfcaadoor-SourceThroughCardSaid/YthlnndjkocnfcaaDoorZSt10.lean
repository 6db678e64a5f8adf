/- Contracts and plain lemmas of our own, merged. -/
import Derived.Test.YthlnndjkocnfcaaDoorZSt6
import Derived.Test.YthlnndjkocnfcaaDoorZSt8
import Derived.Test.YthlnndjkocnfcaaDoorZSt9
import Derived.Great.Walk
/- Laws of the walk for addresses: a block made, a value boxed, loaded, stored, compared. -/
namespace Go.Proofs.YthlnndjkocnfcaaDoor
open Go.RowKit

/-- block g alone may have changed. -/
structure Stays (g : Nat) (w w' : World) : Prop where
  os : w'.os = w.os
  tape : w'.tape = w.tape
  output : w'.output = w.output
  size : w'.heap.size = w.heap.size
  block : ∀ k, k ≠ g → w'.heap[k]? = w.heap[k]?
theorem Stays.below {g B : Nat} {w w' : World} (h : Stays g w w') (hB : B ≤ g) : Below B w w' :=
  ⟨h.os, h.tape, h.output, Nat.le_of_eq h.size.symm, fun k hk => h.block k (by omega)⟩
theorem Bk.stays {w w' : World} {g k : Nat} {t : TypeId} {cs : Array Value} (h : Bk w k t cs) (hs : Stays g w w') (hne : k ≠ g) : Bk w' k t cs := (hs.block k hne).trans h
theorem Stays.row (w : World) (g : Nat) (cs : Array Value) : Stays g w (w.setRow g cs) := ⟨rfl, rfl, rfl, setRow_size w g cs, fun k hk => setRow_other w g k cs hk⟩
theorem Stays.cell (w : World) (g i : Nat) (v : Value) : Stays g w (w.setCell ⟨g, i, none⟩ v) := ⟨rfl, rfl, rfl, by simp [World.setCell], fun k hk => Below.heap_setCell w ⟨g, i, none⟩ v k hk⟩
theorem Stays.trans {g : Nat} {a b c : World} (h : Stays g a b) (k : Stays g b c) : Stays g a c := ⟨k.os.trans h.os, k.tape.trans h.tape, k.output.trans h.output, k.size.trans h.size, fun i hi => (k.block i hi).trans (h.block i hi)⟩

/-- zero values, by the program's own table. -/
def ZeroIs (P : Program) (t : TypeId) (z : Array Value) : Prop := (P.info? t).map (fun i => i.zero.map (·.cells)) = some (some z)
theorem run_alloc_zero {P : Program} {t : TypeId} {z : Array Value} (h : ZeroIs P t z) (w : World) (v : Value) : (Instr.alloc t true v).run P w = .ok (.pointer (some ⟨w.heap.size, 0, none⟩)) (w.alloc (.cells z t)) := by
  unfold ZeroIs at h
  cases hi : P.info? t with
  | none => rw [hi] at h; cases h
  | some i =>
    rw [hi] at h
    cases hz : i.zero with
    | none => rw [Option.map_some, hz] at h; cases h
    | some zv =>
      rw [Option.map_some, hz, Option.map_some] at h
      injection h with h
      injection h with h
      simp [Instr.alloc, zeroValue, typeInfo, hi, hz, newVar, newRow, h]
theorem wpList_allocZ {P : Program} {w : World} {ops : Array Oper} {rest : List Oper} {o : Oper} {a : Act} {Q : Exit → Act → World → Prop} (hgd : o.guard = none) (t : TypeId) (ho : o.op = .alloc t) {z : Array Value} (hz : ZeroIs P t z)
    (h : ∀ g w', g = w.heap.size → Bk w' g t z → Below w.heap.size w w' → w'.heap.size = g + 1 → wpList P ops Q rest (a.put o.dst (.pointer (some ⟨g, 0, none⟩))) w') : wpList P ops Q (o :: rest) a w := by
  refine wpList_plain hgd fun _ hK => ?_
  unfold Oper.wp execOp
  simp only [ho, Sem.run_bind, run_alloc_zero hz, Result.andThen_ok]
  exact hK _ _ (h _ _ rfl (Bk.new w t z) ((Below.refl _ _).alloc (Nat.le_refl _) _) (by simp))
theorem wpList_boxB {P : Program} {w : World} {ops : Array Oper} {rest : List Oper} {o : Oper} {a : Act} {Q : Exit → Act → World → Prop} (hgd : o.guard = none) (t : TypeId) (x : Operand) (ho : o.op = .box t x) {cs : Array Value} (hx : a.eval x = .agg cs)
    (h : ∀ g w', g = w.heap.size → Bk w' g t cs → Below w.heap.size w w' → w'.heap.size = g + 1 → wpList P ops Q rest (a.put o.dst (.pointer (some ⟨g, 0, none⟩))) w') : wpList P ops Q (o :: rest) a w := by
  refine wpList_plain hgd fun _ hK => ?_
  unfold Oper.wp execOp
  simp only [ho, hx, Instr.box, newVar, newRow, Value.cells, Sem.run_bind]
  exact hK _ _ (h _ _ rfl (Bk.new w t cs) ((Below.refl _ _).alloc (Nat.le_refl _) _) (by simp))
/-- a whole block is loaded. -/
theorem wpList_loadB {P : Program} {w : World} {ops : Array Oper} {rest : List Oper} {o : Oper} {a : Act} {Q : Exit → Act → World → Prop} (hgd : o.guard = none) (ty : TypeId) (x : Operand) (ho : o.op = .load ty x) {g : Nat} (hx : a.eval x = .pointer (some ⟨g, 0, none⟩))
    {t : TypeId} {cs : Array Value} (hB : Bk w g t cs) {d : TypeDesc} (hu : P.underlying ty = some d) (hd : d.isRow = true) (hi : (P.info? ty).map (·.size) = some cs.size)
    (h : wpList P ops Q rest (a.put o.dst (.agg cs)) w) : wpList P ops Q (o :: rest) a w :=
  wpList_load_row hgd ty x ho g hx t cs (0, 0) d hB hu (by cases d <;> first | rfl | cases hd) hi h
/-- a whole block is stored into. -/
theorem wpList_storeB {P : Program} {w : World} {ops : Array Oper} {rest : List Oper} {o : Oper} {a : Act} {Q : Exit → Act → World → Prop} (hgd : o.guard = none) (ty : TypeId) (x y : Operand) (ho : o.op = .store ty x y) {g : Nat} {cells : Array Value} (hx : a.eval x = .pointer (some ⟨g, 0, none⟩)) (hy : a.eval y = .agg cells)
    {t : TypeId} {old : Array Value} (hB : Bk w g t old) (hi : (P.info? ty).map (·.size) = some cells.size) (hold : old.size = cells.size) (h1 : cells.all (·.oneCell') = true)
    (h : ∀ w', Bk w' g t cells → Stays g w w' → wpList P ops Q rest (a.put o.dst undef) w') : wpList P ops Q (o :: rest) a w :=
  wpList_store_row hgd ty x y ho g cells hx hy t old hB hi hold h1 (h _ (hB.row cells) (Stays.row w g cells))

theorem ad_size : (Tryd.prog.info? 29).map (·.size) = some 18 := by kernel_rfl
theorem ad_size' (a : Ad) : (Tryd.prog.info? 29).map (·.size) = some (adA a).size := by rw [adA_size]; exact ad_size
def ad0 : Ad := ⟨0, [0, 0, 0, 0, 0, 0, 0, 0, 0, 0, 0, 0, 0, 0, 0, 0], 0, ⟨rfl, by decide, by decide⟩⟩
theorem ad_zero : ZeroIs Tryd.prog 29 (adA ad0) := by unfold ZeroIs; kernel_rfl
theorem wpList_allocAd {w : World} {ops : Array Oper} {rest : List Oper} {o : Oper} {a : Act} {Q : Exit → Act → World → Prop} (hgd : o.guard = none) (ho : o.op = .alloc 29)
    (h : ∀ g w', g = w.heap.size → Bk w' g 29 (adA ad0) → Below w.heap.size w w' → w'.heap.size = g + 1 → wpList Tryd.prog ops Q rest (a.put o.dst (.pointer (some ⟨g, 0, none⟩))) w') : wpList Tryd.prog ops Q (o :: rest) a w :=
  wpList_allocZ hgd _ ho ad_zero h
theorem wpList_loadAd {w : World} {ops : Array Oper} {rest : List Oper} {o : Oper} {a : Act} {Q : Exit → Act → World → Prop} (hgd : o.guard = none) (x : Operand) (ho : o.op = .load 29 x) {g : Nat} (hx : a.eval x = .pointer (some ⟨g, 0, none⟩))
    {t : TypeId} {b : Ad} (hB : Bk w g t (adA b)) (h : wpList Tryd.prog ops Q rest (a.put o.dst (.agg (adA b))) w) : wpList Tryd.prog ops Q (o :: rest) a w :=
  wpList_loadB hgd _ x ho hx hB ad_under rfl (ad_size' b) h
theorem wpList_storeAd {w : World} {ops : Array Oper} {rest : List Oper} {o : Oper} {a : Act} {Q : Exit → Act → World → Prop} (hgd : o.guard = none) (x y : Operand) (ho : o.op = .store 29 x y) {g : Nat} {b c : Ad} (hx : a.eval x = .pointer (some ⟨g, 0, none⟩)) (hy : a.eval y = .agg (adA b))
    {t : TypeId} (hB : Bk w g t (adA c)) (h : ∀ w', Bk w' g t (adA b) → Stays g w w' → wpList Tryd.prog ops Q rest (a.put o.dst undef) w') : wpList Tryd.prog ops Q (o :: rest) a w :=
  wpList_storeB hgd _ x y ho hx hy hB (ad_size' b) (by rw [adA_size, adA_size]) (adA_one b) h
/-- an address in the midst of a block. -/
theorem wpList_loadAdM {w : World} {ops : Array Oper} {rest : List Oper} {o : Oper} {a : Act} {Q : Exit → Act → World → Prop} (hgd : o.guard = none) (x : Operand) (ho : o.op = .load 29 x) {g off : Nat} (hx : a.eval x = .pointer (some ⟨g, off, none⟩))
    {b : Ad} (hB : w.rangeAt g off (adL b)) (h : wpList Tryd.prog ops Q rest (a.put o.dst (.agg (adA b))) w) : wpList Tryd.prog ops Q (o :: rest) a w :=
  wpList_load_mid hgd _ x ho g off hx (adL b) _ hB ad_under rfl (by rw [adL_len]; exact ad_size) h
theorem Bk.rangeAd {w : World} {g : Nat} {t : TypeId} {b : Ad} (h : Bk w g t (adA b)) : w.rangeAt g 0 (adL b) := fun j v hv => by
  rw [h.cell (0 + j)]
  unfold adA
  rw [List.getElem?_toArray]
  simpa using hv
/-! ### in a region that draws its order -/
theorem quiet_loadAd {w : World} {o : Oper} {a a' : Act} {K : Act → Prop} (x : Operand) (ho : o.op = .load 29 x) {g off : Nat} (hx : a.eval x = .pointer (some ⟨g, off, none⟩)) {b : Ad} (hB : w.rangeAt g off (adL b))
    (ha : a.put o.dst (.agg (adA b)) = a') (hk : K a') : o.quiet Tryd.prog a (fun w' => ∃ y : BelT w, w' = y.at_) K := by
  subst ha
  refine ⟨_, ?_, hk⟩
  rintro _ ⟨y, rfl⟩
  unfold Oper.quietAt execOp
  have hr : y.at_.rangeAt g off (adL b) := fun j v hv => y.cell (hB j v hv)
  simp only [ho, hx, Instr.loadAt, Instr.sureAddr, Sem.run_bind, Sem.run_pure, Result.andThen_ok, run_loadVar_mid y.at_ g off 29 (adL b) _ hr ad_under rfl (by rw [adL_len]; exact ad_size)]
  exact ⟨rfl, rfl⟩
theorem quiet_neqAd {w : World} {o : Oper} {a a' : Act} {K : Act → Prop} (x y : Operand) {t : TypeId} (ho : o.op = .binOp .neq 29 x y t) {b c : Ad} (hx : a.eval x = .agg (adA b)) (hy : a.eval y = .agg (adA c)) {r : Bool} (hr : (!decide (b = c)) = r)
    (ha : a.put o.dst (.bool r) = a') (hk : K a') : o.quiet Tryd.prog a (fun w' => ∃ y : BelT w, w' = y.at_) K := by
  subst ha hr
  refine ⟨_, ?_, hk⟩
  rintro _ ⟨z, rfl⟩
  unfold Oper.quietAt execOp
  simp only [ho, hx, hy, Sem.run_bind, run_eqGuard_agg z.at_ .neq 29 x y _ _ Tryd.eqGuardType29, Result.andThen_ok, ad_neq]
  exact ⟨rfl, rfl⟩
end Go.Proofs.YthlnndjkocnfcaaDoor

/- The contracts of quad.Of and of its reference. -/
namespace Go.Proofs.YthlnndjkocnfcaaDoor
open Go.RowKit

/-- the address of four bytes. -/
def adOf (a b c d : UInt8) : Ad := ⟨4, [a, b, c, d, 0, 0, 0, 0, 0, 0, 0, 0, 0, 0, 0, 0], 0, ⟨rfl, by decide, by decide⟩⟩
theorem built_of (a b c d : UInt8) : Tryd.prog.built 29 [(0, .int .i64 4), (1, .agg (ipA [a, b, c, d, 0, 0, 0, 0, 0, 0, 0, 0, 0, 0, 0, 0]))] = some (adA (adOf a b c d)) := by kernel_rfl
theorem built_4 : Tryd.prog.built 29 [(0, .int .i64 4)] = some (adA (adOf 0 0 0 0)) := by kernel_rfl
theorem built_0 : Tryd.prog.built 29 [] = some (adA ad0) := by kernel_rfl
/-- an address is handed back out of the block where it lies. -/
theorem ret_ad {fn : Func} {p : Tmp} (h : fn.results = #[.cell p 29]) {R : Ending → World → Prop} {a : Act} {w : World} {g : Nat} {t : TypeId} {b : Ad}
    (hp : a.tmps.getD p undef = .pointer (some ⟨g, 0, none⟩)) (hB : Bk w g t (adA b)) (hd : a.defers = []) (hR : R (.returned (.agg (adA b))) w) : bodyPost Tryd.prog fn R .ret a w :=
  bodyPost_ret_by (results_cell_row h a.tmps w g t (adA b) (0, 0) _ hp hB ad_under rfl (ad_size' b)) hd hR
def AdPost (w : World) (b : Ad) (e : Ending) (w' : World) : Prop := e = .returned (.agg (adA b)) ∧ Below w.heap.size w w'

set_option maxRecDepth 100000 in
set_option maxHeartbeats 400000 in
theorem of_any (a b c d : UInt8) (w : World) : Calls Tryd.prog 37 #[.int .u8 (a.toNat : Int), .int .u8 (b.toNat : Int), .int .u8 (c.toNat : Int), .int .u8 (d.toNat : Int)] w (AdPost w (adOf a b c d)) := by
  have H1 := Lib.hid (built_ip4 a b c d)
  have H2 := Lib.hid (built_of a b c d)
  go_enter Tryd.func37, Tryd.ntmps37
  go_wp2_with (first
    | ((with_reducible refine wpList_allocAd rfl rfl ?_); intro g w1 hg hB hb hs; have hg1 : w.heap.size ≤ g := Nat.le_of_eq hg.symm; clear hg hs)
    | (with_reducible refine wpList_buildL rfl 27 _ rfl H1.out rfl ?_)
    | (with_reducible refine wpList_buildL rfl 29 _ rfl H2.out rfl ?_)
    | ((with_reducible refine wpList_storeAd rfl _ _ rfl rfl rfl hB ?_); intro w2 hB2 hS2))
  refine ret_ad Tryd.results37 rfl hB2 rfl ⟨rfl, hb.trans (hS2.below hg1)⟩
theorem u8lt (a : UInt8) : (a.toNat : Int) < 256 := by have := a.toNat_lt; omega
set_option maxRecDepth 100000 in
set_option maxHeartbeats 400000 in
theorem rof_any (a b c d : UInt8) (w : World) : Calls Tryd.prog 7 #[.int .i64 (a.toNat : Int), .int .i64 (b.toNat : Int), .int .i64 (c.toNat : Int), .int .i64 (d.toNat : Int)] w (AdPost w (adOf a b c d)) := by
  have H1 := Lib.hid (built_ip4 a b c d)
  have H2 := Lib.hid (built_of a b c d)
  have a1 := u8lt a
  have b1 := u8lt b
  have c1 := u8lt c
  have d1 := u8lt d
  go_enter Tryd.func7, Tryd.ntmps7
  go_wp2_with (first
    | ((with_reducible refine wpList_allocAd rfl rfl ?_); intro g w1 hg hB hb hs; have hg1 : w.heap.size ≤ g := Nat.le_of_eq hg.symm; clear hg hs)
    | (with_reducible refine wpList_buildL rfl 27 _ rfl H1.out rfl ?_)
    | (with_reducible refine wpList_buildL rfl 29 _ rfl H2.out rfl ?_)
    | ((with_reducible refine wpList_storeAd rfl _ _ rfl rfl rfl hB ?_); intro w2 hB2 hS2))
  exact ret_ad Tryd.results7 rfl hB2 rfl ⟨rfl, hb.trans (hS2.below hg1)⟩
end Go.Proofs.YthlnndjkocnfcaaDoor

/- The contracts of addr.first, addr.Check, addr.Bits, addr.Holds and of their references. -/
namespace Go.Proofs.YthlnndjkocnfcaaDoor
open Go.RowKit

def adF (a : Ad) : Ad := adOf (a.b 0) (a.b 1) (a.b 2) (a.b 3)
def chkA (a : Ad) : Int := if a.fam = 4 then (if a = adF a then 0 else 5) else if a.fam = 6 then (if a.zone < 0 ∨ 2147483647 < a.zone then 4 else 0) else 10
def bitsA (a : Ad) : Int := if a.fam = 4 then 32 else if a.fam = 6 then 128 else 0

set_option maxRecDepth 100000 in
set_option maxHeartbeats 400000 in
theorem first_any (a : Ad) (w : World) : Calls Tryd.prog 31 #[.agg (adA a)] w (AdPost w (adF a)) := by
  go_enter Tryd.func31, Tryd.ntmps31
  go_wp2_with (first
    | ((with_reducible refine wpList_boxB rfl _ _ rfl rfl ?_); intro g w1 hg hB hb hs; clear hg hs)
    | ((with_reducible refine wpList_allocAd rfl rfl ?_); intro g2 w2 hg hB2 hb2 hs; have hg1 : w.heap.size ≤ g2 := by have := hb.size; omega
       clear hg hs
       have hBx := hB.bel hb2
       have c0 := hBx.cell 1
       have c1 := hBx.cell 2
       have c2 := hBx.cell 3
       have c3 := hBx.cell 4
       rw [adA_1] at c0
       rw [adA_2] at c1
       rw [adA_3] at c2
       rw [adA_4] at c3)
    | ((with_reducible refine wpList_storeAd rfl _ _ rfl rfl rfl hB3 ?_); intro w4 hB4 hS4)
    | (go_at_call 37; refine (of_any _ _ _ _ _).mono ?_; rintro e w3 ⟨rfl, hb3⟩; have hB3 := hB2.bel hb3))
  exact ret_ad Tryd.results31 rfl hB4 rfl ⟨rfl, ((bel_tr hb hb2).trans (hb3.mono (by have := (bel_tr hb hb2).size; omega))).trans (hS4.below hg1)⟩

set_option maxRecDepth 100000 in
set_option maxHeartbeats 400000 in
theorem acheck_any (a : Ad) (w : World) : Calls Tryd.prog 21 #[.agg (adA a)] w fun e w' => e = .returned (.int .i64 (chkA a)) ∧ Below w.heap.size w w' := by
  by_cases h4 : a.fam = 4
  · have i4 : (a.fam == 4) = true := by simpa using h4
    have hch : chkA a = if a = adF a then 0 else 5 := by unfold chkA; rw [if_pos h4]
    have Hch := Lib.hid hch
    clear h4 hch
    go_enter Tryd.func21, Tryd.ntmps21
    go_wp2_with (first
      | ((with_reducible refine wpList_boxB rfl _ _ rfl rfl ?_); intro g w1 hg hB hb hs; clear hg hs
         have c0 := hB.cell 0
         rw [adA_0] at c0
         have hR := hB.rangeAd))
    cases hr : (!decide (a = adF a))
    case' false => have hc : chkA a = 0 := by rw [Hch.out, if_pos (by simpa using hr)]
    case' true => have hc : chkA a = 5 := by rw [Hch.out, if_neg (by simpa using hr)]
    all_goals
      have Hc := Lib.hid hc
      have Hr := Lib.hid hr
      clear hc hr
      refine wp_region_bel (by kernel_rfl) (by kernel_rfl) ?_
      repeat (first
        | go_big_quiet_skip
        | (go_big_quiet_want; first
            | (refine quiet_loadAd _ rfl rfl hR (by simp only [Act.put, List.setIfInBounds_toArray, List.set_cons_succ, List.set_cons_zero]; exact rfl) ?_; go_big_quiet_on)
            | (refine quiet_neqAd _ _ rfl rfl rfl Hr.out (by simp only [Act.put, List.setIfInBounds_toArray, List.set_cons_succ, List.set_cons_zero]; exact rfl) ?_; go_big_quiet_on)
            | (go_big_quiet_op; first | go_big_quiet_on | go_big_quiet_call ((refine bel_call (first_any _ _))))))
      refine wpQuiet_nil ?_
      rintro _ ⟨x, rfl⟩
      go_wp2
      go_ret
      exact ⟨by rw [Hc.out]; rfl, hb.trans (x.bel.mono (by have := hb.size; omega))⟩
  · have i4 : (a.fam == 4) = false := by simpa using h4
    by_cases h6 : a.fam = 6
    · have i6 : (a.fam == 6) = true := by simpa using h6
      have hch : chkA a = if a.zone < 0 ∨ 2147483647 < a.zone then 4 else 0 := by unfold chkA; rw [if_neg h4, if_pos h6]
      have Hch := Lib.hid hch
      clear h4 h6 hch
      rcases (show a.zone < 0 ∨ (¬ a.zone < 0 ∧ 2147483647 < a.zone) ∨ (¬ a.zone < 0 ∧ ¬ 2147483647 < a.zone) by omega) with hz | ⟨hz, hz2⟩ | ⟨hz, hz2⟩
      all_goals
        go_enter Tryd.func21, Tryd.ntmps21
        go_wp2_with (first
          | ((with_reducible refine wpList_boxB rfl _ _ rfl rfl ?_); intro g w1 hg hB hb hs; clear hg hs
             have c0 := hB.cell 0
             have c1 := hB.cell 17
             rw [adA_0] at c0
             rw [adA_17] at c1))
        go_ret
        refine ⟨reti ?_, hb⟩
        rw [Hch.out]
        first | rw [if_pos (by omega)] | rw [if_neg (by omega)]
    · have i6 : (a.fam == 6) = false := by simpa using h6
      have hch : chkA a = 10 := by unfold chkA; rw [if_neg h4, if_neg h6]
      have Hch := Lib.hid hch
      clear h4 h6 hch
      go_enter Tryd.func21, Tryd.ntmps21
      go_wp2_with (first
        | ((with_reducible refine wpList_boxB rfl _ _ rfl rfl ?_); intro g w1 hg hB hb hs; clear hg hs
           have c0 := hB.cell 0
           rw [adA_0] at c0))
      go_ret
      exact ⟨reti Hch.out.symm, hb⟩

set_option maxRecDepth 100000 in
set_option maxHeartbeats 400000 in
theorem abits_any (a : Ad) (w : World) : Calls Tryd.prog 22 #[.agg (adA a)] w fun e w' => e = .returned (.int .i64 (bitsA a)) ∧ Below w.heap.size w w' := by
  rcases (show (a.fam = 4) ∨ (a.fam ≠ 4 ∧ a.fam = 6) ∨ (a.fam ≠ 4 ∧ a.fam ≠ 6) by omega) with h | ⟨h, h'⟩ | ⟨h, h'⟩
  case' inl => have hch : bitsA a = 32 := by unfold bitsA; rw [if_pos h]
  case' inl => have i4 : (a.fam == 4) = true := by simpa using h
  case' inr.inl => have hch : bitsA a = 128 := by unfold bitsA; rw [if_neg h, if_pos h']
  case' inr.inl => have i4 : (a.fam == 4) = false := by simpa using h
  case' inr.inl => have i6 : (a.fam == 6) = true := by simpa using h'
  case' inr.inr => have hch : bitsA a = 0 := by unfold bitsA; rw [if_neg h, if_neg h']
  case' inr.inr => have i4 : (a.fam == 4) = false := by simpa using h
  case' inr.inr => have i6 : (a.fam == 6) = false := by simpa using h'
  all_goals
    have Hch := Lib.hid hch
    clear hch h
    first | clear h' | skip
    go_enter Tryd.func22, Tryd.ntmps22
    go_wp2_with (first
      | ((with_reducible refine wpList_boxB rfl _ _ rfl rfl ?_); intro g w1 hg hB hb hs; clear hg hs
         have c0 := hB.cell 0
         rw [adA_0] at c0))
    go_ret
    exact ⟨reti Hch.out.symm, hb⟩
theorem u8zero {c : UInt8} : c = 0 ↔ c.toNat = 0 := by
  constructor
  · intro h; rw [h]; rfl
  · intro h; exact UInt8.toNat_inj.1 h
end Go.Proofs.YthlnndjkocnfcaaDoor

/- Prefixes; the contracts of addr.Holds and of its reference. -/
namespace Go.Proofs.YthlnndjkocnfcaaDoor
open Go.RowKit

structure Pf where
  ad : Ad
  bits : Int
  ok : -9223372036854775808 ≤ bits ∧ bits ≤ 9223372036854775807
def pfL (p : Pf) : List Value := adL p.ad ++ [.int .i64 p.bits]
def pfA (p : Pf) : Array Value := (pfL p).toArray
theorem pfL_len (p : Pf) : (pfL p).length = 19 := by unfold pfL; rw [List.length_append, adL_len]; rfl
theorem pfA_18 (p : Pf) : (pfA p)[18]? = some (.int .i64 p.bits) := by
  unfold pfA pfL
  rw [List.getElem?_toArray, List.getElem?_append_right (by rw [adL_len]; omega), adL_len]
  rfl
theorem pfL_one (p : Pf) : ∀ v ∈ pfL p, v.oneCell' = true := by
  intro v hv
  unfold pfL at hv
  rw [List.mem_append] at hv
  rcases hv with hv | hv
  · exact adL_one p.ad v hv
  · simp at hv; subst hv; rfl
theorem Bk.rangeL {w : World} {g : Nat} {t : TypeId} {cs : List Value} (h : Bk w g t cs.toArray) (off : Nat) (ds es : List Value) (hc : cs.drop off = ds ++ es) : w.rangeAt g off ds := fun j v hv => by
  rw [h.cell (off + j), List.getElem?_toArray, ← List.getElem?_drop, hc, List.getElem?_append_left (List.getElem?_eq_some_iff.1 hv).1]
  exact hv
theorem Bk.rangePf {w : World} {g : Nat} {t : TypeId} {p : Pf} (h : Bk w g t (pfA p)) : w.rangeAt g 0 (adL p.ad) := h.rangeL (cs := pfL p) 0 (adL p.ad) [.int .i64 p.bits] rfl
def chkP (p : Pf) : Int := if chkA p.ad ≠ 0 then chkA p.ad else if p.bits < 0 ∨ bitsA p.ad < p.bits then 4 else 0

set_option maxRecDepth 100000 in
set_option maxHeartbeats 1000000 in
theorem holds_any (p : Pf) (w : World) : Calls Tryd.prog 32 #[.agg (pfA p)] w fun e w' => e = .returned (.int .i64 (chkP p)) ∧ Below w.heap.size w w' := by
  by_cases h0 : chkA p.ad = 0
  · have hch : chkP p = if p.bits < 0 ∨ bitsA p.ad < p.bits then 4 else 0 := by unfold chkP; rw [if_neg (by simpa using h0)]
    have Hch := Lib.hid hch
    have H0 := Lib.hid h0
    clear h0 hch
    go_enter Tryd.func32, Tryd.ntmps32
    go_wp2_with (first
      | ((with_reducible refine wpList_boxB rfl _ _ rfl rfl ?_); intro g w1 hg hB hb hs; clear hg hs; have hR := hB.rangePf)
      | ((with_reducible refine wpList_loadAdM rfl _ rfl rfl hR ?_))
      | (go_at_call 21; refine (acheck_any _ _).mono ?_; rintro e w2 ⟨rfl, hb2⟩; rw [H0.out]; have hB2 := hB.bel hb2
         have hR2 := hB2.rangePf
         have c1 := hB2.cell 18
         rw [pfA_18] at c1))
    have cx := fun x : BelT w2 => x.cell c1
    rcases (show p.bits < 0 ∨ (¬ p.bits < 0 ∧ bitsA p.ad < p.bits) ∨ (¬ p.bits < 0 ∧ ¬ bitsA p.ad < p.bits) by omega) with hz | ⟨hz, hz2⟩ | ⟨hz, hz2⟩
    case' inl => have hd1 : decide (p.bits < 0) = true := decide_eq_true hz
    case' inr.inl => have hd1 : decide (p.bits < 0) = false := decide_eq_false hz
    case' inr.inr => have hd1 : decide (p.bits < 0) = false := decide_eq_false hz
    case' inl => have hfin : chkP p = 4 := by rw [Hch.out, if_pos (.inl hz)]
    case' inr.inl => have hfin : chkP p = 4 := by rw [Hch.out, if_pos (.inr hz2)]
    case' inr.inr => have hfin : chkP p = 0 := by rw [Hch.out, if_neg (fun h => h.elim hz hz2)]
    all_goals
      have Hfin := Lib.hid hfin
      clear hfin
      refine wp_region_bel (by kernel_rfl) (by kernel_rfl) ?_
      repeat (first
        | go_big_quiet_skip
        | (go_big_quiet_want; first
            | (refine quiet_loadAd _ rfl rfl hR2 (by simp only [Act.put, List.setIfInBounds_toArray, List.set_cons_succ, List.set_cons_zero]; exact rfl) ?_; go_big_quiet_on)
            | (go_big_quiet_op; first | go_big_quiet_on | go_big_quiet_call ((refine bel_call (abits_any _ _))))))
      refine wpQuiet_nil ?_
      rintro _ ⟨x, rfl⟩
      go_wp2
      go_ret
      exact ⟨reti Hfin.out.symm, bel_tr (bel_tr hb hb2) x.bel⟩
  · have hch : chkP p = chkA p.ad := by unfold chkP; rw [if_pos h0]
    have i0 : (chkA p.ad != 0) = true := by simpa using h0
    have Hch := Lib.hid hch
    clear h0 hch
    go_enter Tryd.func32, Tryd.ntmps32
    go_wp2_with (first
      | ((with_reducible refine wpList_boxB rfl _ _ rfl rfl ?_); intro g w1 hg hB hb hs; clear hg hs; have hR := hB.rangePf)
      | ((with_reducible refine wpList_loadAdM rfl _ rfl rfl hR ?_))
      | (go_at_call 21; refine (acheck_any _ _).mono ?_; rintro e w2 ⟨rfl, hb2⟩))
    go_ret
    exact ⟨reti Hch.out.symm, bel_tr hb hb2⟩

end Go.Proofs.YthlnndjkocnfcaaDoor
