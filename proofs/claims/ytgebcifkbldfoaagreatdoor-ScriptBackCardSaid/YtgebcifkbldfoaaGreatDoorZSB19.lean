/- Contracts and plain lemmas of our own, merged. -/
import Derived.Test.YtgebcifkbldfoaaGreatDoorZSB17
import Derived.Test.YtgebcifkbldfoaaGreatDoorZSB18
import Derived.Lib.LaidTab
/- The contract of strconv.FormatInt at the base 16, for numbers below 65536. -/
namespace Go.Proofs.YtgebcifkbldfoaaGreatDoor
open Go.RowKit
attribute [local go_sem] ba_get ext_take ext_drop ext_any ba_app

def brTab : List Int := [0, 1, 56, 2, 57, 49, 28, 3, 61, 58, 42, 50, 38, 29, 17, 4, 62, 47, 59, 36, 45, 43, 51, 22, 53, 39, 33, 30, 24, 18, 12, 5, 63, 55, 48, 27, 60, 41, 37, 16, 46, 35, 44, 21, 52, 32, 23, 11, 54, 26, 40, 15, 34, 20, 31, 10, 25, 14, 19, 9, 13, 8, 7, 6]
def TabN (w : World) : Prop := Lib.TabIs Tryz.prog w "math/bits.deBruijn64tab" .u8 brTab
theorem TabN.below {w w' : World} (h : TabN w) (hb : Below w.heap.size w w') : TabN w' := Lib.tabBelow_of_tabIs h w' hb
theorem TabN.at15 {w : World} (h : TabN w) : w.cell? ⟨5, 15, none⟩ = some (.int .u8 4) := Lib.TabIs.cell (g := 5) h (by kernel_rfl) 15 (by decide)
theorem tz64_core (x k idx : Nat) (w : World) (hx0 : ((x : Int) == 0) = false)
    (key : IntKind.u64.wrap (bits BinOp.and IntKind.u64 (x : Int) (IntKind.u64.wrap (-(x : Int))) * 285870213051353865) / 288230376151711744 = (idx : Int))
    (hi : idx < 64) (hk : k < 64) (hcell : w.cell? ⟨5, idx, none⟩ = some (.int .u8 k)) :
    Calls Tryz.prog 101 #[.int .u64 x] w fun e w' => e = .returned (.int .i64 k) ∧ w = w' := by
  go_enter Tryz.func101, Tryz.ntmps101
  go_wp2_with (simp only [key])
  go_ret
  exact ⟨rfl, rfl⟩
theorem tz64_16 (w : World) (h : TabN w) : Calls Tryz.prog 101 #[.int .u64 16] w fun e w' => e = .returned (.int .i64 4) ∧ w = w' :=
  tz64_core 16 4 15 w (by decide) (by decide +kernel) (by decide) (by decide) h.at15
theorem tz_16 (w : World) (h : TabN w) : Calls Tryz.prog 96 #[.int .u64 16] w fun e w' => e = .returned (.int .i64 4) ∧ w = w' := by
  go_enter Tryz.func96, Tryz.ntmps96
  go_wp2_with (go_at_call 101; refine (tz64_16 _ h).mono ?_; rintro e w' ⟨rfl, rfl⟩)
  go_ret
  exact ⟨rfl, rfl⟩
theorem pow2_16 (w : World) : Calls Tryz.prog 95 #[.int .i64 16] w fun e w' => e = .returned (.bool true) ∧ w = w' := by
  have h : bits .and .i64 16 15 = 0 := by decide +kernel
  go_enter Tryz.func95, Tryz.ntmps95
  go_wp2
  go_ret
  exact ⟨rfl, rfl⟩
def digs36 : ByteArray := ⟨#[48, 49, 50, 51, 52, 53, 54, 55, 56, 57, 97, 98, 99, 100, 101, 102, 103, 104, 105, 106, 107, 108, 109, 110, 111, 112, 113, 114, 115, 116, 117, 118, 119, 120, 121, 122]⟩
theorem digs_at (d : Nat) (h : d < 16) : digs36[d]? = some (fig d) := by
  have : ∀ d : Fin 16, digs36[d.val]? = some (fig d.val) := by decide +kernel
  exact this ⟨d, h⟩
theorem run_dig (d : Nat) (h : d < 16) (w : World) : (Instr.index 9 (.string digs36) (.int .u64 (d : Int))).run Tryz.prog w = .ok (.int .u8 ((fig d).toNat : Int)) w := by
  simp only [Instr.index, asIntOf, Sem.run_bind, Sem.run_pure, Result.andThen_ok, run_underlying Tryz.underlying9, if_pos (Int.natCast_nonneg d), Int.toNat_natCast, digs_at d h]
theorem wpList_dig {w : World} {ops : Array Oper} {rest : List Oper} {o : Oper} {a : Act} {Q : Exit → Act → World → Prop} (hgd : o.guard = none) (y : Operand) (ho : o.op = .index 9 (.const (.string digs36)) y) {z : Int} (hy : a.eval y = .int .u64 z) (d : Nat) (hd : d < 16) (hz : z = (d : Int))
    (h : wpList Tryz.prog ops Q rest (a.put o.dst (.int .u8 ((fig d).toNat : Int))) w) : wpList Tryz.prog ops Q (o :: rest) a w := by
  subst hz
  refine wpList_plain hgd fun _ hK => ?_
  unfold Oper.wp execOp
  have he : a.eval (.const (.string digs36)) = .string digs36 := rfl
  simp only [ho, he, hy, Sem.run_bind, run_dig d hd, Result.andThen_ok]
  exact hK _ _ h
theorem hxF_stab : ∀ (k n : Nat), n < 16 ^ k → hxF (k + 1) n = hxF k n := by
  intro k
  induction k with
  | zero => intro n h; have : n = 0 := by simpa using h
            subst this; rfl
  | succ k ih =>
    intro n h
    by_cases h0 : n = 0
    · subst h0; rw [hxF_zero, hxF_zero]
    · rw [hxF, if_neg h0, ih (n / 16) (by rw [Nat.pow_succ] at h; omega), hxF, if_neg h0]
theorem and15 {v : Nat} (h : v < 65536) : bits .and .u64 (v : Int) 15 = ((v % 16 : Nat) : Int) := by
  have hx : v &&& 15 = v % 16 := Nat.and_two_pow_sub_one_eq_mod v 4
  show IntKind.u64.wrap ((BitVec.ofInt 64 (v : Int) &&& BitVec.ofInt 64 ((15 : Nat) : Int)).toNat : Int) = _
  rw [BitVec.toNat_and, BitVec.ofInt_natCast, BitVec.ofInt_natCast, BitVec.toNat_ofNat, BitVec.toNat_ofNat, Nat.mod_eq_of_lt (show v < 2 ^ 64 by omega), Nat.mod_eq_of_lt (show 15 < 2 ^ 64 by omega), hx, IntKind.wrap_u64]
  omega
theorem hexT_small {v : Nat} (h : v < 16) : hexT v = [fig v] := by
  unfold hexT
  split
  · next h0 => subst h0; rfl
  · next h0 =>
    rw [hxF, if_neg h0, show v / 16 = 0 by omega, hxF_zero, show v % 16 = v by omega]
    rfl
theorem hexT_step {v : Nat} (h : 16 ≤ v) (h2 : v < 65536) : hexT v = hexT (v / 16) ++ [fig (v % 16)] := by
  unfold hexT
  rw [if_neg (by omega), if_neg (by omega), hxF_stab 3 (v / 16) (by show v / 16 < 4096; omega)]
  rw [hxF, if_neg (by omega)]
theorem hexT_pos (v : Nat) : 0 < (hexT v).length := by
  unfold hexT
  split
  · simp
  · next h => rw [hxF, if_neg h]; simp
/-- 65 bytes, the last ones a text. -/
def hxA (p : Nat) (T : List UInt8) : Array Value := ((List.replicate p 0 ++ T).map byv).toArray
theorem hxA_zero : ZeroIs Tryz.prog 125 (hxA 65 []) := by unfold ZeroIs; kernel_rfl
theorem hxA_at (q : Nat) (T : List UInt8) : (hxA (q + 1) T)[q]? = some (.int .u8 0) := by
  unfold hxA
  rw [List.getElem?_toArray, List.getElem?_map, List.getElem?_append_left (by simp), List.getElem?_replicate, if_pos (by omega)]
  rfl
theorem hxA_set (q : Nat) (T : List UInt8) (c : UInt8) : (hxA (q + 1) T).setIfInBounds q (.int .u8 (c.toNat : Int)) = hxA q (c :: T) := by
  unfold hxA
  rw [List.setIfInBounds_toArray, show Value.int .u8 (c.toNat : Int) = byv c from rfl, ← List.map_set, List.replicate_succ', List.append_assoc, List.set_append_right _ _ (by simp)]
  simp
theorem hxA_tail {w : World} {g q : Nat} {t : TypeId} {T : List UInt8} (h : Bk w g t (hxA q T)) (N : Nat) (hN : T.length = N) : Sl w 1 (.slice (some ⟨g, q, none⟩) N N) T.length (T.map byv) := by
  subst hN
  refine ⟨by simp, _, _, rfl, Nat.le_refl _, fun h => (by cases h), fun ad had _ => ?_⟩
  injection had with had
  subst had
  refine ⟨h.lt, rfl, fun j u hu => ?_⟩
  show w.cell? ⟨g, q + j, none⟩ = some u
  rw [h.cell (q + j)]
  unfold hxA
  rw [List.getElem?_toArray, List.map_append, List.getElem?_append_right (by simp)]
  simpa using hu
set_option maxRecDepth 100000 in
theorem slice65_l (w : World) (g : Nat) (l : Int) (h0 : 0 ≤ l) (h1 : l < 65) : (Instr.sliceAt 125 (.pointer (some ⟨g, 0, none⟩)) (some (.int .i64 l)) none none).run Tryz.prog w = .ok (.slice (some ⟨g, l.toNat, none⟩) (65 - l.toNat) (65 - l.toNat)) w := by
  have hu : Tryz.prog.underlying 125 = some (.array 65 5) := by kernel_rfl
  have ha : Tryz.prog.arrayLen 125 = 65 := by kernel_rfl
  have he : Tryz.prog.elem 125 = 5 := by kernel_rfl
  have hi : (Tryz.prog.info? 5).map (·.size) = some 1 := by kernel_rfl
  have hs : (sizeOf 5).run Tryz.prog w = .ok 1 w := by
    cases hi2 : Tryz.prog.info? 5 with
    | none => rw [hi2] at hi; cases hi
    | some i => rw [hi2] at hi; injection hi with hi; simp [sizeOf, typeInfo, hi2, hi]
  rw [run_sliceAt_array_l w _ _ (by rw [ha, he]; exact hu) .i64 l h0 (by rw [ha]; omega), he, hs, ha]
  simp only [Result.andThen_ok, slicedAt]
  rw [if_neg (by omega), Nat.mul_one, add_none, Nat.zero_add]
attribute [local go_sem] slice65_l

def HxPost (w : World) (n : Nat) (e : Ending) (w' : World) : Prop := e = .returned (.string ⟨(hexT n).toArray⟩) ∧ Below w.heap.size w w'
def HxRel (w : World) (g n : Nat) (u i : Value) (wr : World) : Prop :=
  ∃ (p v : Nat) (T : List UInt8), u = .int .u64 (v : Int) ∧ i = .int .i64 (p : Int) ∧ v < 65536 ∧ p + T.length = 65 ∧ hexT n = hexT v ++ T ∧ Bk wr g 125 (hxA p T) ∧ Below w.heap.size w wr
set_option maxRecDepth 100000 in
set_option maxHeartbeats 2000000 in
theorem fbits_any (n : Nat) (w : World) (hn : n < 65536) (ht : TabN w) : Calls Tryz.prog 85 #[.slice none 0 0, .int .u64 (n : Int), .int .i64 16, .bool false, .bool false] w
    fun e w' => e = .returned (.tuple #[.slice none 0 0, .string ⟨(hexT n).toArray⟩]) ∧ Below w.heap.size w w' := by
  have Ht := Lib.hid ht
  clear ht
  go_enter Tryz.func85, Tryz.ntmps85
  go_wp2_with (first
    | ((with_reducible refine wpList_allocZ (o := ⟨some 12, _, _, _, _, _⟩) rfl _ rfl hxA_zero ?_); intro g w1 hg hB hb hs; have hgw : w.heap.size ≤ g := Nat.le_of_eq hg.symm; clear hg hs)
    | (go_at_call 95; refine (pow2_16 _).mono ?_; rintro ed w2 ⟨rfl, rfl⟩)
    | (go_at_call 96; refine (tz_16 _ (Ht.out.below hb)).mono ?_; rintro ed w2 ⟨rfl, rfl⟩))
  have R0 : HxRel w g n (.int .u64 (n : Int)) (.int .i64 65) w1 := ⟨65, n, [], rfl, rfl, hn, rfl, by simp, hB, hb⟩
  clear hB hb
  go_loopw [1, 13] (fun u i wr => HxRel w g n u i wr) (fun u _ _ => (intOf u).toNat)
  case atStart => exact R0
  case round =>
    obtain ⟨p, v, T, rfl, rfl, hv, hp, he, hB, hb⟩ := hrel
    clear R0
    have hl1 := hexT_len n
    have hl2 := hexT_pos v
    have hl3 : (hexT n).length = (hexT v).length + T.length := by rw [he, List.length_append]
    obtain ⟨q, rfl⟩ : ∃ q, p = q + 1 := ⟨p - 1, by omega⟩
    have hq : q < 65 := by omega
    have hT : T.length ≤ 3 := by omega
    clear hl1 hl2 hl3
    have He := Lib.hid he
    clear he
    have cq := hB.cell q
    rw [hxA_at] at cq
    have fq := hB.free q
    by_cases h16 : 16 ≤ v
    · have i0 : (16 : Int) ≤ (v : Int) := by omega
      have ha : bits .and .u64 (v : Int) 15 = ((v % 16 : Nat) : Int) := and15 hv
      go_wp2_with (first
        | (with_reducible refine wpList_dig rfl _ rfl rfl (v % 16) (by omega) (by omega) ?_))
      have hst := hexT_step h16 hv
      have hB2 := hB.set_ q (.int .u8 ((fig (v % 16)).toNat : Int))
      rw [hxA_set] at hB2
      go_roundw
      case rel => exact ⟨q, v / 16, fig (v % 16) :: T, by rw [show ((v / 16 : Nat) : Int) = (v : Int) / 16 by omega], rfl, by omega, by simp; omega, by rw [He.out, hst, List.append_assoc]; rfl, hB2, hb.setCell (p := ⟨g, q, none⟩) hgw _⟩
      case measure => simp [intOf]; omega
    · have i0 : ¬ (16 : Int) ≤ (v : Int) := by omega
      have hB2 := hB.set_ q (.int .u8 ((fig v).toNat : Int))
      rw [hxA_set] at hB2
      have hsl := hxA_tail hB2 (65 - q) (by simp; omega)
      have hst := hexT_small (show v < 16 by omega)
      have hfin : hexT n = fig v :: T := by rw [He.out, hst]; rfl
      have Hfin := Lib.hid hfin
      have hconv := str_run hsl
      clear hB2 hsl hst hfin
      go_wp2_with (first
        | (with_reducible refine wpList_dig rfl _ rfl rfl v (by omega) (by omega) ?_))
      go_ret2
      refine ⟨?_, hb.setCell (p := ⟨g, q, none⟩) hgw (.int .u8 ((fig v).toNat : Int))⟩
      rw [Hfin.out]
      rfl
set_option maxRecDepth 100000 in
set_option maxHeartbeats 2000000 in
theorem ifmt16_any (n : Nat) (w : World) (hn : n < 65536) (ht : TabN w) : Calls Tryz.prog 73 #[.int .i64 (n : Int), .int .i64 16] w (HxPost w n) := by
  have Ht := Lib.hid ht
  clear ht
  go_enter Tryz.func73, Tryz.ntmps73
  go_wp2_with (go_at_call 85; refine (fbits_any n _ hn Ht.out).mono ?_; rintro e w1 ⟨rfl, hb1⟩)
  go_ret
  exact ⟨rfl, hb1⟩
theorem fmt16_any (n : Nat) (w : World) (hn : n < 65536) (ht : TabN w) : Calls Tryz.prog 81 #[.int .i64 (n : Int), .int .i64 16] w (HxPost w n) := by
  have Ht := Lib.hid ht
  clear ht
  go_enter Tryz.func81, Tryz.ntmps81
  go_wp2_with (go_at_call 73; refine (ifmt16_any n _ hn Ht.out).mono ?_; rintro e w1 ⟨rfl, hb1⟩)
  go_ret
  exact ⟨rfl, hb1⟩
end Go.Proofs.YtgebcifkbldfoaaGreatDoor

/- The contracts of colon.groups, colon.row, colon.joined. -/
namespace Go.Proofs.YtgebcifkbldfoaaGreatDoor
open Go.RowKit
attribute [local go_sem] ba_get ext_take ext_drop ext_any ba_app

theorem ret_g8 {fn : Func} {p : Tmp} (h : fn.results = #[.cell p 99]) {R : Ending → World → Prop} {a : Act} {w : World} {g : Nat} {t : TypeId} {l : List Nat} (hl : l.length = 8)
    (hp : a.tmps.getD p undef = .pointer (some ⟨g, 0, none⟩)) (hB : Bk w g t (gA l)) (hd : a.defers = []) (hR : R (.returned (.agg (gA l))) w) : bodyPost Tryz.prog fn R .ret a w :=
  bodyPost_ret_by (results_cell_row h a.tmps w g t (gA l) (0, 0) _ hp hB a8_under rfl (a8_size hl)) hd hR
/-- the groups of an address, the first k of them. -/
def gK (a : Ad) (k : Nat) : List Nat := gB a 0 k ++ List.replicate (8 - k) 0
theorem gK_len (a : Ad) {k : Nat} (h : k ≤ 8) : (gK a k).length = 8 := by unfold gK; rw [List.length_append, gB_len, List.length_replicate]; omega
theorem gK_0 (a : Ad) : gK a 0 = z8 := rfl
theorem gK_8 (a : Ad) : gK a 8 = gB a 0 8 := by unfold gK; simp
theorem gK_set (a : Ad) {k : Nat} (h : k < 8) : (gA (gK a k)).setIfInBounds k (.int .i64 ((grp a k : Nat) : Int)) = gA (gK a (k + 1)) := by
  unfold gA gK
  rw [List.setIfInBounds_toArray, show Value.int .i64 ((grp a k : Nat) : Int) = nv (grp a k) from rfl, ← List.map_set, show 8 - k = (8 - (k + 1)) + 1 by omega, List.replicate_succ, List.set_append_right _ _ (by rw [gB_len]; omega), gB_len, Nat.sub_self, gB_succ, Nat.zero_add, List.append_assoc]
  rfl
theorem gK_at (a : Ad) {k : Nat} (h : k < 8) : ∃ z : Int, (gA (gK a k))[k]? = some (.int .i64 z) := by
  have hl := gK_len a (k := k) (by omega)
  exact ⟨_, gA_at (by rw [hl]; exact h)⟩
def GrRel (w : World) (a : Ad) (g1 g2 g3 k : Nat) (wr : World) : Prop := Bk wr g1 31 (adA a) ∧ Bk wr g2 99 (gA z8) ∧ Bk wr g3 99 (gA (gK a k)) ∧ Below w.heap.size w wr
set_option maxRecDepth 100000 in
set_option maxHeartbeats 2000000 in
theorem cgroups_any (a : Ad) (w : World) : Calls Tryz.prog 70 #[.agg (adA a)] w fun e w' => e = .returned (.agg (gA (gB a 0 8))) ∧ Below w.heap.size w w' := by
  go_enter Tryz.func70, Tryz.ntmps70
  go_wp2_with (first
    | ((with_reducible refine wpList_boxB rfl _ _ rfl rfl ?_); intro g1 w1 hg hB1 hb1 hs; have hg1 : w.heap.size ≤ g1 := Nat.le_of_eq hg.symm; clear hg hs)
    | ((with_reducible refine wpList_allocZ (o := ⟨some 2, _, _, _, _, _⟩) rfl _ rfl a8_zero ?_); intro g2 w2 hg hB2 hb2 hs; have hg2 : w1.heap.size ≤ g2 := Nat.le_of_eq hg.symm; have hB12 := hB1.bel hb2; have hb02 := bel_tr hb1 hb2; clear hg hs)
    | ((with_reducible refine wpList_allocZ (o := ⟨some 3, _, _, _, _, _⟩) rfl _ rfl a8_zero ?_); intro g3 w3 hg hB3 hb3 hs; have hg3 : w2.heap.size ≤ g3 := Nat.le_of_eq hg.symm; have hB13 := hB12.bel hb3; have hB23 := hB2.bel hb3; have hb03 := bel_tr hb02 hb3; clear hg hs))
  have R0 : GrRel w a g1 g2 g3 0 w3 := ⟨hB13, hB23, by rw [gK_0]; exact hB3, hb03⟩
  have n12 : g1 < g2 := by have := hB1.lt; omega
  have n23 : g2 < g3 := by have := hB2.lt; omega
  clear hB1 hB12 hB13 hB2 hB23 hB3 hb1 hb2 hb3 hb02 hb03
  go_loopw [5] (fun i wr => ∃ k : Nat, k ≤ 8 ∧ i = .int .i64 k ∧ GrRel w a g1 g2 g3 k wr) (fun i _ => 8 - (intOf i).toNat)
  case atStart => exact ⟨0, by omega, rfl, R0⟩
  case round =>
    obtain ⟨k, hk, rfl, r1, r2, r3, rb⟩ := hrel
    clear R0
    by_cases hlt : k < 8
    · have j1 : (k : Int) < 8 := by omega
      have c0 := r1.cell (2 * k + 1)
      have c1 := r1.cell (2 * k + 1 + 1)
      rw [adA_ip a (by omega)] at c0 c1
      rw [show 2 * k + 1 = 1 + 2 * k by omega] at c0
      rw [show 2 * k + 1 + 1 = 1 + (2 * k + 1) by omega] at c1
      have x0 := fun x : BelT wr => x.cell c0
      have x1 := fun x : BelT wr => x.cell c1
      have l0 := u8lt (a.b (2 * k))
      have l1 := u8lt (a.b (2 * k + 1))
      have t0 : (2 * (k : Int)).toNat = 2 * k := by omega
      have t1 : (2 * (k : Int) + 1).toNat = 2 * k + 1 := by omega
      have i2 : (0 : Int) ≤ 2 * (k : Int) := by omega
      have i3 : 2 * (k : Int) < 16 := by omega
      have i4 : (0 : Int) ≤ 2 * (k : Int) + 1 := by omega
      have i5 : 2 * (k : Int) + 1 < 16 := by omega
      have o0 := or256 (a.b (2 * k)).toNat_lt (a.b (2 * k + 1)).toNat_lt
      have o1 : bits .or .i64 (((a.b (2 * k)).toNat : Int) * 256) ((a.b (2 * k + 1)).toNat : Int) = ((grp a k : Nat) : Int) := o0
      obtain ⟨z3, hz3⟩ := gK_at a hlt
      have hset := gK_set a hlt
      have Hset := Lib.hid hset
      have R3 := Lib.hid r3
      have Hz3 := Lib.hid hz3
      clear c0 c1 o0 hset hz3 r3
      go_wp2_with (fail)
      refine wp_region_bel_tail 17 (by kernel_rfl) (by kernel_rfl) ?_
      simp only [List.take_succ_cons, List.take_zero, List.drop_succ_cons, List.drop_zero]
      repeat (first
        | go_big_quiet_skip
        | (go_big_quiet_want; (go_big_quiet_op; go_big_quiet_on)))
      refine wpQuiet_nil ?_
      rintro _ ⟨x, rfl⟩
      have r3x := R3.out.bel x.bel
      have c3 := r3x.cell k
      rw [Hz3.out] at c3
      have f3 := r3x.free k
      have hs3 := r3x.set_ k (.int .i64 ((grp a k : Nat) : Int))
      rw [Hset.out] at hs3
      have r1x := (r1.bel x.bel).far (p := ⟨g3, k, none⟩) (by show g1 ≠ g3; omega) (.int .i64 ((grp a k : Nat) : Int))
      have r2x := (r2.bel x.bel).far (p := ⟨g3, k, none⟩) (by show g2 ≠ g3; omega) (.int .i64 ((grp a k : Nat) : Int))
      have hbx : Below w.heap.size w (x.at_.setCell ⟨g3, k, none⟩ (.int .i64 ((grp a k : Nat) : Int))) := (bel_tr rb x.bel).setCell (p := ⟨g3, k, none⟩) (by show w.heap.size ≤ g3; omega) _
      have HX := Lib.hid (show GrRel w a g1 g2 g3 (k + 1) _ from ⟨r1x, r2x, hs3, hbx⟩)
      clear r3x hs3 r1x r2x hbx x0 x1
      go_wp2
      go_roundw
      case rel => exact ⟨k + 1, by omega, by go_num, HX.out⟩
      case measure => simp [intOf]; omega
    · have hk8 : k = 8 := by omega
      subst hk8
      rw [gK_8] at r3
      have j1 : ¬ ((8 : Nat) : Int) < 8 := by omega
      go_wp2_with (first
        | (with_reducible refine wpList_loadB rfl _ _ rfl rfl r3 a8_under rfl (a8_size (gB_len a 0 8)) ?_)
        | ((with_reducible refine wpList_storeB rfl _ _ _ rfl rfl rfl r2 (a8_size (gB_len a 0 8)) ((gA_size (l := z8) rfl).trans (gA_size (gB_len a 0 8)).symm) (gA_one _) ?_); intro wz hBz hSz))
      exact ret_g8 Tryz.results70 (gB_len a 0 8) rfl hBz rfl ⟨rfl, rb.trans (hSz.below (by omega))⟩

theorem run_next {a : Ad} {i m : Nat} (h : runZ (zA a) i = m + runF (zA a) (8 - i - m) (i + m)) (hlt : i + m < 8) (hz : grp a (i + m) = 0) : runZ (zA a) i = (m + 1) + runF (zA a) (8 - i - (m + 1)) (i + (m + 1)) := by
  rw [h, show 8 - i - m = (8 - i - (m + 1)) + 1 by omega, runF, if_pos (by rw [zA_at a hlt]; exact decide_eq_true hz)]
  show m + (1 + runF (zA a) (8 - i - (m + 1)) (i + (m + 1))) = _
  omega
theorem run_stop0 {a : Ad} {i m : Nat} (h : runZ (zA a) i = m + runF (zA a) (8 - i - m) (i + m)) (hlt : i + m = 8) : runZ (zA a) i = m := by
  rw [h, show 8 - i - m = 0 by omega, runF]
  omega
theorem run_stop1 {a : Ad} {i m : Nat} (h : runZ (zA a) i = m + runF (zA a) (8 - i - m) (i + m)) (hlt : i + m < 8) (hz : grp a (i + m) ≠ 0) : runZ (zA a) i = m := by
  rw [h, show 8 - i - m = (8 - i - (m + 1)) + 1 by omega, runF, if_neg (by rw [zA_at a hlt, decide_eq_false hz]; decide)]
  omega
def RoPost (w : World) (p : Nat × Nat) (e : Ending) (w' : World) : Prop := e = .returned (.tuple #[.int .i64 (p.1 : Int), .int .i64 (p.2 : Int)]) ∧ Below w.heap.size w w'
set_option maxRecDepth 100000 in
set_option maxHeartbeats 2000000 in
theorem crow_any (a : Ad) (w : World) : Calls Tryz.prog 71 #[.agg (gA (gB a 0 8))] w (RoPost w (rowK (zA a) 8)) := by
  have hgl := gB_len a 0 8
  have Hgl := Lib.hid hgl
  clear hgl
  go_enter Tryz.func71, Tryz.ntmps71
  go_wp2_with (first
    | ((with_reducible refine wpList_boxB rfl _ _ rfl rfl ?_); intro g1 w1 hg hB1 hb1 hs; clear hg hs))
  go_loop [4, 5, 8] (fun b q i => ∃ (n x y : Nat), n ≤ 8 ∧ i = .int .i64 n ∧ b = .int .i64 x ∧ q = .int .i64 y ∧ rowK (zA a) n = (x, y)) (fun _ _ i => 8 - (intOf i).toNat)
  case atStart => exact ⟨0, 0, 0, by omega, rfl, rfl, rfl, rfl⟩
  case round =>
    obtain ⟨n, x, y, hn, rfl, rfl, rfl, hxy⟩ := hrel
    have Hxy := Lib.hid hxy
    clear hxy
    by_cases hlt : n < 8
    · have j1 : (n : Int) < 8 := by omega
      have H0 : Hid (runZ (zA a) n = 0 + runF (zA a) (8 - n - 0) (n + 0)) := Lib.hid (by unfold runZ; simp)
      go_wp2
      go_loop [7] (fun v => ∃ m : Nat, n + m ≤ 8 ∧ v = .int .i64 m ∧ runZ (zA a) n = m + runF (zA a) (8 - n - m) (n + m)) (fun v => 8 - (intOf v).toNat)
      case atStart => exact ⟨0, by omega, rfl, H0.out⟩
      case round =>
        obtain ⟨m, hm, rfl, hrun⟩ := hrel
        have Hrun := Lib.hid hrun
        clear hrun H0
        have hcs : (n + m < 8 ∧ grp a (n + m) = 0) ∨ (∃ b : Bool, (decide (n + m < 8)) = b ∧ runZ (zA a) n = m ∧ (b = true → grp a (n + m) ≠ 0)) := by
          by_cases h : n + m < 8
          · by_cases hz : grp a (n + m) = 0
            · exact .inl ⟨h, hz⟩
            · exact .inr ⟨true, decide_eq_true h, run_stop1 Hrun.out h hz, fun _ => hz⟩
          · exact .inr ⟨false, decide_eq_false h, run_stop0 Hrun.out (by omega), fun h => by cases h⟩
        rcases hcs with ⟨h8, hz⟩ | ⟨b, hb, hrz, hz⟩
        · have c0 := hB1.cell (n + m)
          rw [gA_at (by rw [Hgl.out]; exact h8)] at c0
          have e0 : (gB a 0 8)[n + m]'(by rw [Hgl.out]; exact h8) = 0 := by simp [gB, hz]
          rw [e0] at c0
          have i1 : (n : Int) + (m : Int) < 8 := by omega
          have t1 : ((n : Int) + (m : Int)).toNat = n + m := by omega
          have Hn := Lib.hid (run_next Hrun.out h8 hz)
          clear e0 hz
          go_wp2
          go_round
          case rel => exact ⟨m + 1, by omega, by go_num, Hn.out⟩
          case measure => simp [intOf]; omega
        · have hnx : rowK (zA a) (n + 1) = if y < m then (n, m) else (x, y) := by rw [rowK, Hxy.out, hrz]
          have Hnx := Lib.hid hnx
          clear hnx hrz Hrun
          have t1 : ((n : Int) + (m : Int)).toNat = n + m := by omega
          cases b with
          | true =>
            have h8 : n + m < 8 := of_decide_eq_true hb
            have hz' := hz rfl
            have c0 := hB1.cell (n + m)
            rw [gA_at (by rw [Hgl.out]; exact h8)] at c0
            have e0 : (gB a 0 8)[n + m]'(by rw [Hgl.out]; exact h8) = grp a (n + m) := by simp [gB]
            rw [e0] at c0
            have i1 : (n : Int) + (m : Int) < 8 := by omega
            have i2 : (((grp a (n + m) : Nat) : Int) == 0) = false := by simp; omega
            clear e0 hz' hz hb
            by_cases hym : y < m
            · have i3 : (y : Int) < (m : Int) := by omega
              have Hn := Lib.hid (Hnx.out.trans (if_pos hym))
              clear Hnx
              go_wp2
              go_round
              case rel => exact ⟨n + 1, n, m, by omega, by go_num, rfl, rfl, Hn.out⟩
              case measure => simp [intOf]; omega
            · have i3 : ¬ (y : Int) < (m : Int) := by omega
              have Hn := Lib.hid (Hnx.out.trans (if_neg hym))
              clear Hnx
              go_wp2
              go_round
              case rel => exact ⟨n + 1, x, y, by omega, by go_num, rfl, rfl, Hn.out⟩
              case measure => simp [intOf]; omega
          | false =>
            have h8 : ¬ n + m < 8 := of_decide_eq_false hb
            have i1 : ¬ (n : Int) + (m : Int) < 8 := by omega
            clear hz hb
            by_cases hym : y < m
            · have i3 : (y : Int) < (m : Int) := by omega
              have Hn := Lib.hid (Hnx.out.trans (if_pos hym))
              clear Hnx
              go_wp2
              go_round
              case rel => exact ⟨n + 1, n, m, by omega, by go_num, rfl, rfl, Hn.out⟩
              case measure => simp [intOf]; omega
            · have i3 : ¬ (y : Int) < (m : Int) := by omega
              have Hn := Lib.hid (Hnx.out.trans (if_neg hym))
              clear Hnx
              go_wp2
              go_round
              case rel => exact ⟨n + 1, x, y, by omega, by go_num, rfl, rfl, Hn.out⟩
              case measure => simp [intOf]; omega
    · have hn8 : n = 8 := by omega
      subst hn8
      have j1 : ¬ ((8 : Nat) : Int) < 8 := by omega
      go_wp2
      go_ret2
      refine ⟨?_, hb1⟩
      rw [Hxy.out]
      rfl

def JoRel (w : World) (l : List Nat) (k : Nat) (v : Value) (wr : World) : Prop := wr.ownsRow w.heap.size 9 1 v k (((l.take k).map hexT).map stv) ∧ Below w.heap.size w wr
theorem jn_lenle (l : List Nat) : (jn l).length ≤ 5 * l.length := by
  unfold jn
  induction l with
  | nil => simp [jB]
  | cons n l ih =>
    have h := hexT_len n
    rw [List.map_cons]
    cases l with
    | nil => simp only [List.map_nil, List.length_singleton]; show (hexT n).length ≤ _; omega
    | cons m l =>
      show (hexT n ++ 58 :: jB 58 ((m :: l).map hexT)).length ≤ _
      rw [List.length_append, List.length_cons]
      simp only [List.length_cons] at ih ⊢
      omega
set_option maxRecDepth 100000 in
set_option maxHeartbeats 2000000 in
theorem cjoined_any (l : List Nat) (v : Value) (w : World) (hv : Sl w 1 v l.length (l.map nv)) (h8 : l.length ≤ 8) (hlt : ∀ n ∈ l, n < 65536) (ht : TabN w) : Calls Tryz.prog 72 #[v] w (StrPost w (jn l)) := by
  have Ht := Lib.hid ht
  have Hlt := Lib.hid hlt
  have hcell : ∀ k (hk : k < l.length) (wr : World), Below w.heap.size w wr → ∃ b off c, v = .slice (some ⟨b, off, none⟩) l.length c ∧ wr.cell? ⟨b, off + k, none⟩ = some (.int .i64 ((l[k] : Nat) : Int)) := by
    intro k hk wr hb
    obtain ⟨b, off, c, hvv, hc, hbl, hcl⟩ := hv.pos (by omega)
    exact ⟨b, off, c, hvv, (bel_cells hb hbl _).trans (hcl k _ (by rw [List.getElem?_map, List.getElem?_eq_getElem hk]; rfl))⟩
  have Hcell := Lib.hid hcell
  obtain ⟨A0, c0, rfl, hc0⟩ := hv.any
  have hjl := jn_lenle l
  have Hjl := Lib.hid hjl
  clear ht hlt hcell hv hjl
  go_enter Tryz.func72, Tryz.ntmps72
  go_wp2_with (first
    | (at_make; refine wpList_mk0 rfl _ _ _ rfl elt_strs (base := w.heap.size) l.length rfl rfl (by omega) (by omega) (by omega) (Nat.le_refl _) ?_; intro w0 ho0 hbw0; have hsz0 := hbw0.size))
  have R0 : JoRel w l 0 (.slice (some ⟨w.heap.size, 0, none⟩) 0 l.length) w0 := ⟨ho0, hbw0⟩
  clear ho0 hbw0 hsz0
  go_loopw [3, 11] (fun v i wr => ∃ k : Nat, k ≤ l.length ∧ i = .int .i64 k ∧ JoRel w l k v wr) (fun _ i _ => l.length - (intOf i).toNat)
  case atStart => exact ⟨0, by omega, rfl, R0⟩
  case round =>
    obtain ⟨k, hk, rfl, ho, hb⟩ := hrel
    clear R0
    have hsz := hb.size
    obtain ⟨A3, c3, rfl, hc3⟩ := (Sl.own ho).any
    by_cases hlk : k < l.length
    · have j1 : (k : Int) < (l.length : Int) := by omega
      obtain ⟨b, off, c, hvv, hcl⟩ := Hcell.out k hlk wr hb
      injection hvv with h1 h2 h3
      subst h1 h3
      have hn := Hlt.out l[k] (List.getElem_mem hlk)
      have Hnx : Hid ((l.take (k + 1)).map hexT = (l.take k).map hexT ++ [hexT l[k]]) := Lib.hid (by rw [List.take_succ_eq_append_getElem hlk, List.map_append]; rfl)
      generalize l[k] = n at *
      go_wp2_with (first
        | (go_at_call 81; refine (fmt16_any n _ hn (Ht.out.below hb)).mono ?_; rintro ed w2 ⟨rfl, hb2⟩; have ho2 := own_below ho hb2; have hsz2 := hb2.size; have hb02 := bel_tr hb hb2)
        | (at_builtin; refine wpList_appLit (o := ⟨some 19, _, _, _, _, _⟩) rfl _ _ _ rfl elt_strs rfl ho2 [.string ⟨(hexT n).toArray⟩] (m := 1) rfl rfl (by simp [Value.oneCell']) (by omega) (by omega) (by omega) ?_; intro v5 w5 ho5 hb5 hg5))
      go_roundw
      case rel =>
        refine ⟨k + 1, by omega, by go_num, ?_, hb02.trans hb5⟩
        rw [Hnx.out, List.map_append]
        exact ho5
      case measure => simp [intOf]; omega
    · have hkl : k = l.length := by omega
      subst hkl
      have j1 : ¬ (l.length : Int) < (l.length : Int) := by omega
      have hsl := Sl.own ho
      rw [List.take_length] at hsl
      have hsl' : Sl wr 1 (.slice A3 l.length c3) (l.map hexT).length ((l.map hexT).map stv) := by rw [List.length_map]; exact hsl
      have Hsl := Lib.hid hsl'
      have hje : joi [58] (l.map hexT) = jn l := joi_jB 58 _
      have Hje := Lib.hid hje
      clear hsl hsl' hje
      go_wp2_with (first
        | (go_at_call 21; refine (join_any [58] (l.map hexT) _ _ Hsl.out (by rw [List.length_map]; omega) (by rw [Hje.out]; have := Hjl.out; omega)).mono ?_; rintro e w3 ⟨rfl, hb3⟩; rw [Hje.out]))
      go_ret
      exact ⟨rfl, bel_tr hb hb3⟩
end Go.Proofs.YtgebcifkbldfoaaGreatDoor

/- The contracts of colon.bare and colon.Text. -/
namespace Go.Proofs.YtgebcifkbldfoaaGreatDoor
open Go.RowKit
attribute [local go_sem] ba_get ext_take ext_drop ext_any ba_app

theorem slice8_h (w : World) (g : Nat) (h : Int) (h0 : 0 ≤ h) (h1 : h ≤ 8) : (Instr.sliceAt 99 (.pointer (some ⟨g, 0, none⟩)) none (some (.int .i64 h)) none).run Tryz.prog w = .ok (.slice (some ⟨g, 0, none⟩) h.toNat 8) w := by
  have ha : Tryz.prog.arrayLen 99 = 8 := by kernel_rfl
  have he : Tryz.prog.elem 99 = 3 := by kernel_rfl
  have hs : (sizeOf 3).run Tryz.prog w = .ok 1 w := size_run (by kernel_rfl) w
  rw [run_sliceAt_array_h w _ _ (by rw [ha, he]; exact a8_under) .i64 h h0 (by rw [ha]; omega), he, hs, ha]
  simp only [Result.andThen_ok, slicedAt]
  rw [if_neg (by omega), Nat.zero_mul, add_none]
  rfl
theorem slice8_e (w : World) (g : Nat) : (Instr.sliceAt 99 (.pointer (some ⟨g, 0, none⟩)) (some (.int .i64 8)) none none).run Tryz.prog w = .ok (.slice (some ⟨g, 0, none⟩) 0 0) w := by
  have ha : Tryz.prog.arrayLen 99 = 8 := by kernel_rfl
  have he : Tryz.prog.elem 99 = 3 := by kernel_rfl
  have hs : (sizeOf 3).run Tryz.prog w = .ok 1 w := size_run (by kernel_rfl) w
  rw [run_sliceAt_array_l w _ _ (by rw [ha, he]; exact a8_under) .i64 8 (by decide) (by rw [ha]; decide), he, hs, ha]
  rfl
theorem slice8_a (w : World) (g : Nat) : (Instr.sliceAt 99 (.pointer (some ⟨g, 0, none⟩)) none none none).run Tryz.prog w = .ok (.slice (some ⟨g, 0, none⟩) 8 8) w := by
  have ha : Tryz.prog.arrayLen 99 = 8 := by kernel_rfl
  have he : Tryz.prog.elem 99 = 3 := by kernel_rfl
  have hs : (sizeOf 3).run Tryz.prog w = .ok 1 w := size_run (by kernel_rfl) w
  rw [run_sliceAt_array_all w _ _ (by rw [ha, he]; exact a8_under), he, hs, ha]
  simp only [Result.andThen_ok, slicedAt]
  rw [if_neg (by omega), Nat.zero_mul, add_none]
attribute [local go_sem] slice8_l slice8_h slice8_e slice8_a
theorem Bk.slG {w : World} {g : Nat} {t : TypeId} {l : List Nat} (h : Bk w g t (gA l)) (off n c : Nat) (hc : n ≤ c) (hn : off + n ≤ l.length) : Sl w 1 (.slice (some ⟨g, off, none⟩) n c) n (((l.drop off).take n).map nv) := by
  refine ⟨by rw [List.length_map, List.length_take, List.length_drop]; omega, _, _, rfl, hc, fun h => (by cases h), fun ad had hp => ?_⟩
  injection had with had
  subst had
  refine ⟨h.lt, rfl, fun j u hu => ?_⟩
  show w.cell? ⟨g, off + j, none⟩ = some u
  have hj : j < n := by
    have := (List.getElem?_eq_some_iff.1 hu).1
    rw [List.length_map, List.length_take] at this
    omega
  rw [h.cell (off + j)]
  unfold gA
  rw [List.getElem?_toArray]
  rw [List.getElem?_map, List.getElem?_take_of_lt hj, List.getElem?_drop] at hu
  rw [List.getElem?_map]
  exact hu
theorem gB_take (a : Ad) {f : Nat} (h : f ≤ 8) : (gB a 0 8).take f = gB a 0 f := by
  rw [show 8 = f + (8 - f) by omega, gB_app, List.take_append_of_le_length (by rw [gB_len]; omega), List.take_of_length_le (by rw [gB_len]; omega)]
theorem gB_drop (a : Ad) {f : Nat} (h : f ≤ 8) : (gB a 0 8).drop f = gB a f (8 - f) := by
  conv => lhs; rw [show 8 = f + (8 - f) by omega, gB_app]
  rw [List.drop_append_of_le_length (by rw [gB_len]; omega), List.drop_of_length_le (by rw [gB_len]; omega), Nat.zero_add]
  rfl
theorem joined_h {a : Ad} {g f c : Nat} {w : World} {t : TypeId} (hB : Bk w g t (gA (gB a 0 8))) (hf : f ≤ 8) (hc : f ≤ c) (ht : TabN w) : Calls Tryz.prog 72 #[.slice (some ⟨g, 0, none⟩) f c] w (StrPost w (jn (gB a 0 f))) := by
  have h := hB.slG 0 f c hc (by rw [gB_len]; omega)
  rw [List.drop_zero, gB_take a hf] at h
  have h2 := cjoined_any (gB a 0 f) (.slice (some ⟨g, 0, none⟩) f c) w (by rw [gB_len]; exact h) (by rw [gB_len]; exact hf) (gB_lt a 0 f) ht
  exact h2
theorem joined_t {a : Ad} {g f m : Nat} {w : World} {t : TypeId} (hB : Bk w g t (gA (gB a 0 8))) (hf : f + m = 8) (ht : TabN w) : Calls Tryz.prog 72 #[.slice (some ⟨g, f, none⟩) m m] w (StrPost w (jn (gB a f m))) := by
  have h := hB.slG f m m (Nat.le_refl _) (by rw [gB_len]; omega)
  rw [gB_drop a (by omega), show 8 - f = m by omega, List.take_of_length_le (by rw [gB_len]; omega)] at h
  exact cjoined_any (gB a f m) (.slice (some ⟨g, f, none⟩) m m) w (by rw [gB_len]; exact h) (by rw [gB_len]; omega) (gB_lt a f m) ht
theorem joined_e {a : Ad} {g f : Nat} {w : World} {t : TypeId} (hB : Bk w g t (gA (gB a 0 8))) (ht : TabN w) : Calls Tryz.prog 72 #[.slice (some ⟨g, 0, none⟩) 0 0] w (StrPost w (jn (gB a f 0))) := by
  have h := hB.slG 0 0 0 (Nat.le_refl _) (by omega)
  rw [List.take_zero] at h
  exact cjoined_any [] (.slice (some ⟨g, 0, none⟩) 0 0) w h (by decide) (by simp) ht
theorem bare_cases (a : Ad) (f n : Nat) (hk : rowK (zA a) 8 = (f, n)) :
    (grp a 5 = 65535 ∧ f = 0 ∧ n = 5 ∧ bareT a = ffff ++ qtx (ad12 a)) ∨
    (((((grp a 5 : Nat) : Int) == 65535) = false ∨ (((grp a 5 : Nat) : Int) == 65535) = true ∧ ((f : Int) == 0) = false ∨ (((grp a 5 : Nat) : Int) == 65535) = true ∧ ((f : Int) == 0) = true ∧ ((n : Int) == 5) = false) ∧
      ((n < 2 ∧ bareT a = jn (gB a 0 8)) ∨ (2 ≤ n ∧ f + n < 8 ∧ bareT a = jn (gB a 0 f) ++ 58 :: 58 :: jn (gB a (f + n) (8 - (f + n)))) ∨ (2 ≤ n ∧ f + n = 8 ∧ bareT a = jn (gB a 0 f) ++ 58 :: 58 :: jn (gB a 8 0)))) := by
  have hbd := rowK_bd a
  rw [hk] at hbd
  simp only at hbd
  by_cases hM : grp a 5 = 65535 ∧ rowK (zA a) 8 = (0, 5)
  · have h2 := hM.2
    rw [hk] at h2
    injection h2 with h3 h4
    exact .inl ⟨hM.1, h3, h4, bareT_map hM.1 hM.2⟩
  · refine .inr ⟨?_, ?_⟩
    · by_cases h5 : grp a 5 = 65535
      · by_cases h0 : f = 0
        · have hn : n ≠ 5 := fun h => hM ⟨h5, by rw [hk, h0, h]⟩
          refine .inr (.inr ⟨by simp [h5], by simp [h0], by simp; omega⟩)
        · exact .inr (.inl ⟨by simp [h5], by simp; omega⟩)
      · exact .inl (by simp; omega)
    · by_cases hn : n < 2
      · exact .inl ⟨hn, bareT_flat hM (by rw [hk]; exact hn)⟩
      · by_cases h8 : f + n < 8
        · exact .inr (.inl ⟨by omega, h8, bareT_row hM hk (by omega) (by omega)⟩)
        · have e8 : f + n = 8 := by omega
          have := bareT_row (m := 0) hM hk (by omega) (by omega)
          rw [e8] at this
          exact .inr (.inr ⟨by omega, e8, this⟩)
set_option maxRecDepth 100000 in
set_option maxHeartbeats 4000000 in
theorem cbare_any (a : Ad) (w : World) (ht : Tab w) (hn : TabN w) : Calls Tryz.prog 55 #[.agg (adA a)] w (StrPost w (bareT a)) := by
  have Ht := Lib.hid ht
  have Hn := Lib.hid hn
  clear ht hn
  have hgl := gB_len a 0 8
  have h5 : (gA (gB a 0 8))[5]? = some (.int .i64 ((grp a 5 : Nat) : Int)) := by rw [gB_8]; rfl
  have Hgl := Lib.hid hgl
  have H5 := Lib.hid h5
  have hg5 := grp_lt a 5
  obtain ⟨p, hp⟩ : ∃ p, rowK (zA a) 8 = p := ⟨_, rfl⟩
  obtain ⟨f, n⟩ := p
  have hbd := rowK_bd a
  rw [hp] at hbd
  simp only at hbd
  have hcs := bare_cases a f n hp
  have Hp := Lib.hid hp
  clear hp hgl h5
  go_enter Tryz.func55, Tryz.ntmps55
  go_wp2_with (first
    | ((with_reducible refine wpList_boxB rfl _ _ rfl rfl ?_); intro g1 w1 hg hB1 hb1 hs; clear hg hs)
    | (with_reducible refine wpList_loadAd (o := ⟨some 6, _, _, _, _, _⟩) rfl _ rfl rfl hB1 ?_)
    | (go_at_call 70; refine (cgroups_any a _).mono ?_; rintro e w2 ⟨rfl, hb2⟩; have hB12 := hB1.bel hb2; have hb02 := bel_tr hb1 hb2)
    | ((with_reducible refine wpList_allocZ (o := ⟨some 3, _, _, _, _, _⟩) rfl _ rfl a8_zero ?_); intro g3 w3 hg hB3 hb3 hs; have hg3 : w2.heap.size ≤ g3 := Nat.le_of_eq hg.symm; have hB13 := hB12.bel hb3; have hb03 := bel_tr hb02 hb3; clear hg hs)
    | ((with_reducible refine wpList_storeB (cells := gA (gB a 0 8)) rfl _ (.tmp 3) _ rfl rfl rfl hB3 (a8_size Hgl.out) ((gA_size (l := z8) rfl).trans (gA_size Hgl.out).symm) (gA_one _) ?_); intro w4 hB34 hS4; have hB14 := hB13.stays hS4 (by have := hB12.lt; omega); have hb04 : Below w.heap.size w w4 := hb02.trans ((hb3.mono hb02.size).trans (hS4.below (by have := hb02.size; omega))))
    | (with_reducible refine wpList_loadB (o := ⟨some 9, _, _, _, _, _⟩) rfl _ _ rfl rfl hB34 a8_under rfl (a8_size Hgl.out) ?_)
    | (go_at_call 71; refine (crow_any a _).mono ?_; rintro e w5 ⟨rfl, hb5⟩; rw [Hp.out]; have hB15 := hB14.bel hb5; have hB35 := hB34.bel hb5; have hb05 := bel_tr hb04 hb5; have c5 := hB35.cell 5; rw [H5.out] at c5; refine hold ?_))
  refine Lib.hid ?_
  clear hB1 hB12 hB13 hB14 hB3 hB34 hS4 hb1 hb2 hb3 hb5 hb02 hb03 hb04
  rcases hcs with ⟨q5, rfl, rfl, hfin⟩ | ⟨hno, hcs⟩
  · have Hfin := Lib.hid hfin
    have hql := qtx_len (ad12 a)
    rw [q5] at c5
    have c0 := hB15.cell 13
    have c1 := hB15.cell 14
    have c2 := hB15.cell 15
    have c3 := hB15.cell 16
    rw [adA_13] at c0
    rw [adA_14] at c1
    rw [adA_15] at c2
    rw [adA_16] at c3
    clear hfin
    go_wp2_with (first
      | (go_at_call 61; refine (of_any (a.b 12) (a.b 13) (a.b 14) (a.b 15) _).mono ?_; rintro e w6 ⟨rfl, hb6⟩; have hb06 := bel_tr hb05 hb6)
      | (go_at_call 40; refine (qtext_any (ad12 a) _ (Ht.out.below hb06)).mono ?_; rintro e w7 ⟨rfl, hb7⟩))
    go_ret
    refine ⟨congrArg Ending.returned (vstr ?_), bel_tr hb06 hb7⟩
    rw [Hfin.out]
    rfl
  · rcases hcs with ⟨hn2, hfin⟩ | ⟨hn2, h8, hfin⟩ | ⟨hn2, h8, hfin⟩
    · have Hfin := Lib.hid hfin
      have j2 : (n : Int) < 2 := by omega
      clear hfin
      rcases hno with i1 | ⟨i1, i2⟩ | ⟨i1, i2, i3⟩
      all_goals
        go_wp2_with (first
          | (go_at_call 72; refine (joined_h (f := 8) hB35 (Nat.le_refl _) (Nat.le_refl _) (Hn.out.below hb05)).mono ?_; rintro e w6 ⟨rfl, hb6⟩))
        go_ret
        exact ⟨by rw [Hfin.out]; rfl, bel_tr hb05 hb6⟩
    · have Hfin := Lib.hid hfin
      have j2 : ¬ (n : Int) < 2 := by omega
      have t0 : ((f : Int)).toNat = f := by omega
      have i6 : (0 : Int) ≤ (f : Int) := by omega
      have i7 : (f : Int) ≤ 8 := by omega
      have t1 : ((f : Int) + (n : Int)).toNat = f + n := by omega
      have i4 : (0 : Int) ≤ (f : Int) + (n : Int) := by omega
      have i5 : (f : Int) + (n : Int) < 8 := by omega
      have e1 : 8 - ((f : Int) + (n : Int)).toNat = 8 - (f + n) := by omega
      have HA : Hid (∀ x : BelT w5, Calls Tryz.prog 72 #[.slice (some ⟨g3, 0, none⟩) f 8] x.at_ fun e w' => e = .returned (.string ⟨(jn (gB a 0 f)).toArray⟩) ∧ Below x.at_.heap.size x.at_ w') := Lib.hid (fun x => joined_h (hB35.bel x.bel) (by omega) (by omega) (Hn.out.below (bel_tr hb05 x.bel)))
      have HC : Hid (∀ x : BelT w5, Calls Tryz.prog 72 #[.slice (some ⟨g3, f + n, none⟩) (8 - (f + n)) (8 - (f + n))] x.at_ fun e w' => e = .returned (.string ⟨(jn (gB a (f + n) (8 - (f + n)))).toArray⟩) ∧ Below x.at_.heap.size x.at_ w') := Lib.hid (fun x => joined_t (hB35.bel x.bel) (by omega) (Hn.out.below (bel_tr hb05 x.bel)))
      have la := jn_lenle (gB a 0 f)
      have lc := jn_lenle (gB a (f + n) (8 - (f + n)))
      rw [gB_len] at la lc
      clear hfin
      rcases hno with i1 | ⟨i1, i2⟩ | ⟨i1, i2, i3⟩
      all_goals
        go_wp2
        refine wp_region_bel (by kernel_rfl) (by kernel_rfl) ?_
        repeat (first
          | go_big_quiet_skip
          | (go_big_quiet_want; (go_big_quiet_op; first | go_big_quiet_on | go_big_quiet_call ((with_reducible refine bel_call (HA.out _))) | go_big_quiet_call ((with_reducible refine bel_call (HC.out _))))))
        refine wpQuiet_nil ?_
        rintro _ ⟨x, rfl⟩
        go_wp2
        go_ret
        refine ⟨congrArg Ending.returned (vstr ?_), bel_tr hb05 x.bel⟩
        rw [Hfin.out]
        try simp
    · have Hfin := Lib.hid hfin
      have j2 : ¬ (n : Int) < 2 := by omega
      have t0 : ((f : Int)).toNat = f := by omega
      have i6 : (0 : Int) ≤ (f : Int) := by omega
      have i7 : (f : Int) ≤ 8 := by omega
      have e8 : (f : Int) + (n : Int) = 8 := by omega
      have HA : Hid (∀ x : BelT w5, Calls Tryz.prog 72 #[.slice (some ⟨g3, 0, none⟩) f 8] x.at_ fun e w' => e = .returned (.string ⟨(jn (gB a 0 f)).toArray⟩) ∧ Below x.at_.heap.size x.at_ w') := Lib.hid (fun x => joined_h (hB35.bel x.bel) (by omega) (by omega) (Hn.out.below (bel_tr hb05 x.bel)))
      have HC : Hid (∀ x : BelT w5, Calls Tryz.prog 72 #[.slice (some ⟨g3, 0, none⟩) 0 0] x.at_ fun e w' => e = .returned (.string ⟨(jn (gB a 8 0)).toArray⟩) ∧ Below x.at_.heap.size x.at_ w') := Lib.hid (fun x => joined_e (hB35.bel x.bel) (Hn.out.below (bel_tr hb05 x.bel)))
      have la := jn_lenle (gB a 0 f)
      have lc := jn_lenle (gB a 8 0)
      rw [gB_len] at la lc
      clear hfin
      rcases hno with i1 | ⟨i1, i2⟩ | ⟨i1, i2, i3⟩
      all_goals
        go_wp2
        refine wp_region_bel (by kernel_rfl) (by kernel_rfl) ?_
        repeat (first
          | go_big_quiet_skip
          | (go_big_quiet_want; (go_big_quiet_op; first | go_big_quiet_on | go_big_quiet_call ((with_reducible refine bel_call (HA.out _))) | go_big_quiet_call ((with_reducible refine bel_call (HC.out _))))))
        refine wpQuiet_nil ?_
        rintro _ ⟨x, rfl⟩
        go_wp2
        go_ret
        refine ⟨congrArg Ending.returned (vstr ?_), bel_tr hb05 x.bel⟩
        rw [Hfin.out]
        try simp

set_option maxRecDepth 100000 in
set_option maxHeartbeats 4000000 in
theorem ctext_any (a : Ad) (w : World) (ht : Tab w) (hn : TabN w) : Calls Tryz.prog 41 #[.agg (adA a)] w (StrPost w (colT a)) := by
  have Ht := Lib.hid ht
  have Hn := Lib.hid hn
  have hzb := a.ok.2.2
  have hbl := bareT_len a
  clear ht hn
  by_cases hz : 0 < a.zone
  · have hfin : colT a = bareT a ++ 37 :: Lib.itoa a.zone := by unfold colT; rw [if_pos hz]
    have Hfin := Lib.hid hfin
    have hil := ite_len hz hzb.2
    clear hfin
    go_enter Tryz.func41, Tryz.ntmps41
    go_wp2_with (first
      | ((with_reducible refine wpList_boxB rfl _ _ rfl rfl ?_); intro g1 w1 hg hB1 hb1 hs; clear hg hs; have c17 := hB1.cell 17; rw [adA_17] at c17))
    have hR := hB1.rangeAd
    have x17 := fun x : BelT w1 => x.cell c17
    have HA : Hid (∀ x : BelT w1, Calls Tryz.prog 55 #[.agg (adA a)] x.at_ fun e w' => e = .returned (.string ⟨(bareT a).toArray⟩) ∧ Below x.at_.heap.size x.at_ w') := Lib.hid (fun x => cbare_any a _ (Ht.out.below (bel_tr hb1 x.bel)) (Hn.out.below (bel_tr hb1 x.bel)))
    have HC := Lib.hid (fun x : BelT w1 => digits_any a.zone x.at_ (Ht.out.below (bel_tr hb1 x.bel)) (by omega) (by omega))
    clear c17
    refine wp_region_bel (by kernel_rfl) (by kernel_rfl) ?_
    repeat (first
      | go_big_quiet_skip
      | (go_big_quiet_want; first
          | ((with_reducible refine quiet_loadAd _ rfl rfl hR (by simp only [Act.put, List.setIfInBounds_toArray, List.set_cons_succ, List.set_cons_zero]; exact rfl) ?_); go_big_quiet_on)
          | (go_big_quiet_op; first | go_big_quiet_on | go_big_quiet_call ((with_reducible refine bel_call (HA.out _))) | go_big_quiet_call ((refine bel_call (HC.out _))))))
    refine wpQuiet_nil ?_
    rintro _ ⟨x, rfl⟩
    go_wp2
    go_ret
    refine ⟨congrArg Ending.returned (vstr ?_), bel_tr hb1 x.bel⟩
    rw [Hfin.out]
    try simp
  · have hfin : colT a = bareT a := by unfold colT; rw [if_neg hz]
    have Hfin := Lib.hid hfin
    clear hfin
    go_enter Tryz.func41, Tryz.ntmps41
    go_wp2_with (first
      | ((with_reducible refine wpList_boxB rfl _ _ rfl rfl ?_); intro g1 w1 hg hB1 hb1 hs; clear hg hs; have c17 := hB1.cell 17; rw [adA_17] at c17)
      | (with_reducible refine wpList_loadAd (o := ⟨some 13, _, _, _, _, _⟩) rfl _ rfl rfl hB1 ?_)
      | (go_at_call 55; refine (cbare_any a _ (Ht.out.below hb1) (Hn.out.below hb1)).mono ?_; rintro e w2 ⟨rfl, hb2⟩))
    go_ret
    exact ⟨by rw [Hfin.out]; rfl, bel_tr hb1 hb2⟩
end Go.Proofs.YtgebcifkbldfoaaGreatDoor

/- The walks of ColonParses and ColonBack. -/
namespace Go.Proofs.YtgebcifkbldfoaaGreatDoor
open Go.RowKit
attribute [local go_sem] ba_get ext_take ext_drop ext_any ba_app

theorem adS_cases (o : Int ⊕ Ad) : ∃ x k, adS o = .tuple #[.agg (adA x), .int .i64 k] := by
  cases o with
  | inl e => exact ⟨_, _, rfl⟩
  | inr x => exact ⟨_, _, rfl⟩
end Go.Proofs.YtgebcifkbldfoaaGreatDoor

/- The contracts of addr.Parse, addr.Text and of the reference's Parse (9). -/
namespace Go.Proofs.YtgebcifkbldfoaaGreatDoor
open Go.RowKit
attribute [local go_sem] ba_get ext_take ext_drop ext_any ba_app

theorem hasB_mem {d : UInt8} {l : List UInt8} (h : d ∈ l) : hasB d l = true := by
  obtain ⟨j, hj, he⟩ := List.mem_iff_getElem.1 h
  unfold hasB
  cases e : idx d l with
  | none => exact absurd he (idx_none e j hj)
  | some k => rfl
theorem hasB_ib {l : List UInt8} {d : UInt8} (h : hasB d l = true) : ∃ k : Nat, Lib.indexByte l d = (k : Int) := by
  unfold hasB at h
  rw [lib_idx]
  cases e : idx d l with
  | none => rw [e] at h; cases h
  | some k => exact ⟨k, rfl⟩
theorem hasB_ibn {l : List UInt8} {d : UInt8} (h : hasB d l = false) : Lib.indexByte l d = -1 := by
  unfold hasB at h
  rw [lib_idx]
  cases e : idx d l with
  | none => rfl
  | some k => rw [e] at h; cases h
theorem ddx_mem : ∀ {s : List UInt8} {k : Nat}, ddx s = some k → (58 : UInt8) ∈ s := by
  intro s
  induction s with
  | nil => intro k h; cases h
  | cons a s ih =>
    intro k h
    cases s with
    | nil => cases h
    | cons b r =>
      rw [ddx] at h
      split at h
      · next hh => rw [hh.1]; exact List.mem_cons_self
      · rw [Option.map_eq_some_iff] at h
        obtain ⟨j, h1, _⟩ := h
        exact List.mem_cons_of_mem _ (ih h1)
theorem plV_colon {s : List UInt8} {l : List Nat} (h : plV s = some l) : (58 : UInt8) ∈ s := by
  unfold plV at h
  cases hd : ddx s with
  | some k => exact ddx_mem hd
  | none =>
    rw [hd] at h
    simp only at h
    cases hs : sidV true s with
    | none => rw [hs] at h; cases h
    | some m =>
      rw [hs] at h
      simp only at h
      split at h
      · next h8 =>
        cases hc : hasB 58 s with
        | true => have := split_has hc; rw [this]; simp
        | false =>
          exfalso
          unfold sidV at hs
          split at hs
          · injection hs with hs; subst hs; cases h8
          · have := sidF_len hs
            rw [spB_not hc] at this
            simp only [List.length_singleton] at this
            omega
      · cases h
theorem hdB_sub {d : UInt8} {l : List UInt8} {c : UInt8} (h : c ∈ hdB d l) : c ∈ l := by
  unfold hdB at h
  split at h
  · exact h
  · exact List.mem_of_mem_take h
theorem colP_colon {s : List UInt8} {a : Ad} (h : colP s = .inr a) : hasB 58 s = true := by
  unfold colP at h
  cases hp : plV (hdB 37 s) with
  | none => rw [hp] at h; cases h
  | some l => exact hasB_mem (hdB_sub (plV_colon hp))
theorem qtx_nocol (a : Ad) : hasB 58 (qtx a) = false := by
  cases h : hasB 58 (qtx a) with
  | false => rfl
  | true =>
    have e := split_has h
    exact absurd rfl (qtx_free a 58 (by rw [e]; simp)).1
/-- an address that is written. -/
def adrP (s : List UInt8) : Int ⊕ Ad := if hasB 58 s = true then colP s else match qpA s with | some a => .inr a | none => .inl 5
/-- an address, written. -/
def adrT (a : Ad) : List UInt8 := if a.fam = 4 then qtx a else if a.fam = 6 then colT a else []
theorem adrT_len (a : Ad) : (adrT a).length ≤ 1000 := by
  unfold adrT
  split
  · have := qtx_len a; omega
  · split
    · have := bareT_len a
      unfold colT
      split
      · next h => have := ite_len h a.ok.2.2.2; simp; omega
      · omega
    · simp
def ApPost (w : World) (s : List UInt8) (e : Ending) (w' : World) : Prop := e = .returned (adS (adrP s)) ∧ Below w.heap.size w w'
set_option maxRecDepth 100000 in
set_option maxHeartbeats 2000000 in
theorem aparse_any (s : List UInt8) (w : World) (ht : Tab w) (hm : MaxI w) (hl : s.length ≤ 1000000000) : Calls Tryz.prog 62 #[.string ⟨s.toArray⟩] w (ApPost w s) := by
  cases hc : hasB 58 s with
  | false =>
    refine (aparseQ_any s w ht hl (hasB_ibn hc)).mono fun e w' ⟨he, hb⟩ => ⟨?_, hb⟩
    rw [he]
    unfold adrP
    rw [if_neg (by rw [hc]; decide)]
    cases qpA s <;> rfl
  | true =>
    have hp : adrP s = colP s := by unfold adrP; rw [if_pos hc]
    obtain ⟨k, hk⟩ := hasB_ib hc
    obtain ⟨x, n, hx⟩ := adS_cases (colP s)
    have Hp := Lib.hid hp
    have Hk := Lib.hid hk
    have Hx := Lib.hid hx
    have Ht := Lib.hid ht
    have Hm := Lib.hid hm
    clear hp hk hx ht hm hc
    go_enter Tryz.func62, Tryz.ntmps62
    go_wp2_with (first
      | ((with_reducible refine wpList_allocAd rfl rfl ?_); intro g w1 hg hB hb hs; have hg1 : w.heap.size ≤ g := Nat.le_of_eq hg.symm; clear hg hs)
      | (go_at_call 75; refine (Tryz.strings_IndexByte _ _ _).mono ?_; rintro e w2 ⟨rfl, hw⟩; have hw2 := hw.symm; subst hw2; clear hw; rw [show Lib.indexByte (⟨s.toArray⟩ : ByteArray).data.toList ((58 : Int).toNat.toUInt8) = (k : Int) from Hk.out])
      | (go_at_call 76; refine (cparse_any s _ (Ht.out.below hb) (Hm.out.below hb) hl).mono ?_; rintro e w3 ⟨rfl, hb3⟩; rw [Hx.out]; have hB3 := hB.bel hb3)
      | ((with_reducible refine wpList_storeAd rfl _ _ rfl rfl rfl hB3 ?_); intro w4 hB4 hS4))
    exact ret_adE Tryz.results62 rfl rfl hB4 rfl ⟨by rw [Hp.out, Hx.out]; rfl, (bel_tr hb hb3).trans (hS4.below hg1)⟩
set_option maxRecDepth 100000 in
set_option maxHeartbeats 2000000 in
theorem atext_any (a : Ad) (w : World) (ht : Tab w) (hn : TabN w) : Calls Tryz.prog 22 #[.agg (adA a)] w (StrPost w (adrT a)) := by
  have Ht := Lib.hid ht
  have Hn := Lib.hid hn
  clear ht hn
  rcases (show (a.fam = 4) ∨ (a.fam ≠ 4 ∧ a.fam = 6) ∨ (a.fam ≠ 4 ∧ a.fam ≠ 6) by omega) with h | ⟨h, h'⟩ | ⟨h, h'⟩
  case' inl => have hch : adrT a = qtx a := by unfold adrT; rw [if_pos h]
  case' inl => have i4 : (a.fam == 4) = true := by simpa using h
  case' inr.inl => have hch : adrT a = colT a := by unfold adrT; rw [if_neg h, if_pos h']
  case' inr.inl => have i4 : (a.fam == 4) = false := by simpa using h
  case' inr.inl => have i6 : (a.fam == 6) = true := by simpa using h'
  case' inr.inr => have hch : adrT a = [] := by unfold adrT; rw [if_neg h, if_neg h']
  case' inr.inr => have i4 : (a.fam == 4) = false := by simpa using h
  case' inr.inr => have i6 : (a.fam == 6) = false := by simpa using h'
  case inl =>
    have Hch := Lib.hid hch
    clear hch h
    go_enter Tryz.func22, Tryz.ntmps22
    go_wp2_with (first
      | ((with_reducible refine wpList_boxB rfl _ _ rfl rfl ?_); intro g w1 hg hB hb hs; clear hg hs
         have c0 := hB.cell 0
         rw [adA_0] at c0)
      | (with_reducible refine wpList_loadAd rfl _ rfl rfl hB ?_)
      | (go_at_call 40; refine (qtext_any a _ (Ht.out.below hb)).mono ?_; rintro e w2 ⟨rfl, hb2⟩))
    go_ret
    exact ⟨by rw [Hch.out]; rfl, bel_tr hb hb2⟩
  case inr.inl =>
    have Hch := Lib.hid hch
    clear hch h h'
    go_enter Tryz.func22, Tryz.ntmps22
    go_wp2_with (first
      | ((with_reducible refine wpList_boxB rfl _ _ rfl rfl ?_); intro g w1 hg hB hb hs; clear hg hs
         have c0 := hB.cell 0
         rw [adA_0] at c0)
      | (with_reducible refine wpList_loadAd rfl _ rfl rfl hB ?_)
      | (go_at_call 41; refine (ctext_any a _ (Ht.out.below hb) (Hn.out.below hb)).mono ?_; rintro e w2 ⟨rfl, hb2⟩))
    go_ret
    exact ⟨by rw [Hch.out]; rfl, bel_tr hb hb2⟩
  case inr.inr =>
    have Hch := Lib.hid hch
    clear hch h h'
    go_enter Tryz.func22, Tryz.ntmps22
    go_wp2_with (first
      | ((with_reducible refine wpList_boxB rfl _ _ rfl rfl ?_); intro g w1 hg hB hb hs; clear hg hs
         have c0 := hB.cell 0
         rw [adA_0] at c0))
    go_ret
    exact ⟨by rw [Hch.out]; rfl, hb⟩
end Go.Proofs.YtgebcifkbldfoaaGreatDoor

/- The contracts of addr.mapped, addr.Unmap, addr.Map, addr.Scope. -/
namespace Go.Proofs.YtgebcifkbldfoaaGreatDoor
open Go.RowKit
attribute [local go_sem] ba_get ext_take ext_drop ext_any ba_app

def aheadTab : List Int := [0, 0, 0, 0, 0, 0, 0, 0, 0, 0, 255, 255]
def TabA (w : World) : Prop := Lib.TabIs Tryz.prog w "wayfinder/addr.ahead" .u8 aheadTab
theorem TabA.below {w w' : World} (h : TabA w) (hb : Below w.heap.size w w') : TabA w' := Lib.tabBelow_of_tabIs h w' hb
def z12 : List UInt8 := [0, 0, 0, 0, 0, 0, 0, 0, 0, 0, 0, 0]
end Go.Proofs.YtgebcifkbldfoaaGreatDoor

/- The contract of addr.Scope. -/
namespace Go.Proofs.YtgebcifkbldfoaaGreatDoor
open Go.RowKit
attribute [local go_sem] ba_get ext_take ext_drop ext_any ba_app

theorem and_u8_15 (c : UInt8) : bits .and .u8 (c.toNat : Int) 15 = ((c.toNat % 16 : Nat) : Int) := by
  have : ∀ n : Fin 256, bits .and .u8 (n.val : Int) 15 = ((n.val % 16 : Nat) : Int) := by decide +kernel
  exact this ⟨c.toNat, c.toNat_lt⟩
end Go.Proofs.YtgebcifkbldfoaaGreatDoor
