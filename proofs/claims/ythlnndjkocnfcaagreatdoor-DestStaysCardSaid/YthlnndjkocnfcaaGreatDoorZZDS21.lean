/- Contracts and plain lemmas of our own, merged. -/
import Derived.Test.YthlnndjkocnfcaaGreatDoorZZDS19
import Derived.Test.YthlnndjkocnfcaaGreatDoorZZDS20
import Derived.Lib.LaidTab
/- The contract of strconv.FormatInt at the base 16, for numbers below 65536. -/
namespace Go.Proofs.YthlnndjkocnfcaaGreatDoor
open Go.RowKit
attribute [local go_sem] ba_get ext_take ext_drop ext_any ba_app

def brTab : List Int := [0, 1, 56, 2, 57, 49, 28, 3, 61, 58, 42, 50, 38, 29, 17, 4, 62, 47, 59, 36, 45, 43, 51, 22, 53, 39, 33, 30, 24, 18, 12, 5, 63, 55, 48, 27, 60, 41, 37, 16, 46, 35, 44, 21, 52, 32, 23, 11, 54, 26, 40, 15, 34, 20, 31, 10, 25, 14, 19, 9, 13, 8, 7, 6]
def TabN (w : World) : Prop := Lib.TabIs Tryz.prog w "math/bits.deBruijn64tab" .u8 brTab
theorem TabN.below {w w' : World} (h : TabN w) (hb : Below w.heap.size w w') : TabN w' := Lib.tabBelow_of_tabIs h w' hb
set_option maxRecDepth 100000 in
theorem slice65_l (w : World) (g : Nat) (l : Int) (h0 : 0 ≤ l) (h1 : l < 65) : (Instr.sliceAt 148 (.pointer (some ⟨g, 0, none⟩)) (some (.int .i64 l)) none none).run Tryz.prog w = .ok (.slice (some ⟨g, l.toNat, none⟩) (65 - l.toNat) (65 - l.toNat)) w := by
  have hu : Tryz.prog.underlying 148 = some (.array 65 5) := by kernel_rfl
  have ha : Tryz.prog.arrayLen 148 = 65 := by kernel_rfl
  have he : Tryz.prog.elem 148 = 5 := by kernel_rfl
  have hi : (Tryz.prog.info? 5).map (·.size) = some 1 := by kernel_rfl
  have hs : (sizeOf 5).run Tryz.prog w = .ok 1 w := by
    cases hi2 : Tryz.prog.info? 5 with
    | none => rw [hi2] at hi; cases hi
    | some i => rw [hi2] at hi; injection hi with hi; simp [sizeOf, typeInfo, hi2, hi]
  rw [run_sliceAt_array_l w _ _ (by rw [ha, he]; exact hu) .i64 l h0 (by rw [ha]; omega), he, hs, ha]
  simp only [Result.andThen_ok, slicedAt]
  rw [if_neg (by omega), Nat.mul_one, add_none, Nat.zero_add]
attribute [local go_sem] slice65_l

end Go.Proofs.YthlnndjkocnfcaaGreatDoor

/- The walks of ColonParses and ColonBack. -/
namespace Go.Proofs.YthlnndjkocnfcaaGreatDoor
open Go.RowKit
attribute [local go_sem] ba_get ext_take ext_drop ext_any ba_app

theorem cparse_yes {s : List UInt8} {x : Ad} {w : World} (ht : Tab w) (hm : MaxI w) (hl : s.length ≤ 1000000000) (h : colP s = .inr x) : Calls Tryz.prog 84 #[.string ⟨s.toArray⟩] w fun e w' => e = .returned (.tuple #[.agg (adA x), .int .i64 0]) ∧ Below w.heap.size w w' :=
  (cparse_any s w ht hm hl).mono fun e w' ⟨he, hb⟩ => by rw [h] at he; exact ⟨he, hb⟩
theorem adS_cases (o : Int ⊕ Ad) : ∃ x k, adS o = .tuple #[.agg (adA x), .int .i64 k] := by
  cases o with
  | inl e => exact ⟨_, _, rfl⟩
  | inr x => exact ⟨_, _, rfl⟩
end Go.Proofs.YthlnndjkocnfcaaGreatDoor

/- The contracts of addr.Parse, addr.Text and of the reference's Parse (9). -/
namespace Go.Proofs.YthlnndjkocnfcaaGreatDoor
open Go.RowKit
attribute [local go_sem] ba_get ext_take ext_drop ext_any ba_app

/-- an address that is written. -/
def adrP (s : List UInt8) : Int ⊕ Ad := if hasB 58 s = true then colP s else match qpA s with | some a => .inr a | none => .inl 5
def ApPost (w : World) (s : List UInt8) (e : Ending) (w' : World) : Prop := e = .returned (adS (adrP s)) ∧ Below w.heap.size w w'
set_option maxRecDepth 100000 in
set_option maxHeartbeats 2000000 in
theorem raparse_any (s : List UInt8) (w : World) (hl : s.length ≤ 1000000000) : Calls Tryz.prog 63 #[.string ⟨s.toArray⟩] w (ApPost w s) := by
  cases hi : idx 58 s with
  | none =>
    have hc : hasB 58 s = false := by unfold hasB; rw [hi]
    have hp : adS (adrP s) = adE (qpA s) 5 := by
      unfold adrP
      rw [if_neg (by rw [hc]; decide)]
      cases qpA s <;> rfl
    obtain ⟨x, n, hx⟩ := adE_cases (qpA s) 5
    have Hp := Lib.hid hp
    have Hx := Lib.hid hx
    have Hi := Lib.hid (idx_none hi)
    clear hp hx hi hc
    go_enter Tryz.func63, Tryz.ntmps63
    go_wp2_with (first
      | ((with_reducible refine wpList_allocAd rfl rfl ?_); intro g w1 hg hB hb hs; have hg1 : w.heap.size ≤ g := Nat.le_of_eq hg.symm; clear hg hs))
    go_loop [4] (fun i => ∃ k : Nat, k ≤ s.length ∧ i = .int .i64 k) (fun i => s.length - (intOf i).toNat)
    case atStart => exact ⟨0, by omega, rfl⟩
    case round =>
      obtain ⟨k, hk, rfl⟩ := hrel
      by_cases hlt : k < s.length
      · have j1 : (k : Int) < (s.length : Int) := by omega
        have hne : ((s[k].toNat : Int) == 58) = false := by
          have := Hi.out k hlt
          simp
          intro h
          exact this (UInt8.toNat_inj.1 (by rw [show (58 : UInt8).toNat = 58 from rfl]; omega))
        go_wp2
        go_round
        case rel => exact ⟨k + 1, by omega, by go_num⟩
        case measure => simp [intOf]; omega
      · have j1 : ¬ (k : Int) < (s.length : Int) := by omega
        go_wp2_with (first
          | (go_at_call 75; refine (rqparse_any s _ hl).mono ?_; rintro e w3 ⟨rfl, hb3⟩; rw [Hx.out]; have hB3 := hB.bel hb3)
          | ((with_reducible refine wpList_storeAd rfl _ _ rfl rfl rfl hB3 ?_); intro w4 hB4 hS4))
        exact ret_adE Tryz.results63 rfl rfl hB4 rfl ⟨by rw [Hp.out, Hx.out]; rfl, (bel_tr hb hb3).trans (hS4.below hg1)⟩
  | some m =>
    obtain ⟨hm, he, hbef⟩ := idx_some hi
    have hc : hasB 58 s = true := by unfold hasB; rw [hi]
    have hp : adrP s = colP s := by unfold adrP; rw [if_pos hc]
    obtain ⟨x, n, hx⟩ := adS_cases (colP s)
    have Hp := Lib.hid hp
    have Hx := Lib.hid hx
    have He := Lib.hid he
    have Hbef := Lib.hid hbef
    clear hp hx hi hc he hbef
    go_enter Tryz.func63, Tryz.ntmps63
    go_wp2_with (first
      | ((with_reducible refine wpList_allocAd rfl rfl ?_); intro g w1 hg hB hb hs; have hg1 : w.heap.size ≤ g := Nat.le_of_eq hg.symm; clear hg hs))
    go_loop [4] (fun i => ∃ k : Nat, k ≤ m ∧ i = .int .i64 k) (fun i => s.length - (intOf i).toNat)
    case atStart => exact ⟨0, by omega, rfl⟩
    case round =>
      obtain ⟨k, hk, rfl⟩ := hrel
      have hlt : k < s.length := by omega
      have j1 : (k : Int) < (s.length : Int) := by omega
      by_cases hkm : k < m
      · have hne : ((s[k].toNat : Int) == 58) = false := by
          have := Hbef.out k hlt hkm
          simp
          intro h
          exact this (UInt8.toNat_inj.1 (by rw [show (58 : UInt8).toNat = 58 from rfl]; omega))
        go_wp2
        go_round
        case rel => exact ⟨k + 1, by omega, by go_num⟩
        case measure => simp [intOf]; omega
      · have e : k = m := by omega
        subst e
        have hne : ((s[k].toNat : Int) == 58) = true := by rw [He.out]; rfl
        go_wp2_with (first
          | (go_at_call 74; refine (rcparse_any s _ hl).mono ?_; rintro e w3 ⟨rfl, hb3⟩; rw [Hx.out]; have hB3 := hB.bel hb3)
          | ((with_reducible refine wpList_storeAd rfl _ _ rfl rfl rfl hB3 ?_); intro w4 hB4 hS4))
        exact ret_adE Tryz.results63 rfl rfl hB4 rfl ⟨by rw [Hp.out, Hx.out]; rfl, (bel_tr hb hb3).trans (hS4.below hg1)⟩
end Go.Proofs.YthlnndjkocnfcaaGreatDoor

/- The walk of ColonBack. -/
namespace Go.Proofs.YthlnndjkocnfcaaGreatDoor
open Go.RowKit
attribute [local go_sem] ba_get ext_take ext_drop ext_any ba_app

theorem Bk.rangeIp {w : World} {g : Nat} {t : TypeId} {b : Ad} (h : Bk w g t (adA b)) : w.rangeAt g 1 (b.ip.map byv) := fun j v hv => by
  rw [h.cell (1 + j)]
  have hj := (List.getElem?_eq_some_iff.1 hv).1
  rw [List.length_map, b.len] at hj
  rw [Nat.add_comm, adA_ip b hj, ← hv, List.getElem?_map, b.b_eq hj]
  rfl
theorem wpList_loadIp {w : World} {ops : Array Oper} {rest : List Oper} {o : Oper} {a : Act} {Q : Exit → Act → World → Prop} (hgd : o.guard = none) (x : Operand) (ho : o.op = .load 27 x) {g : Nat} (hx : a.eval x = .pointer (some ⟨g, 1, none⟩))
    {t : TypeId} {b : Ad} (hB : Bk w g t (adA b)) (h : wpList Tryz.prog ops Q rest (a.put o.dst (.agg (ipA b.ip))) w) : wpList Tryz.prog ops Q (o :: rest) a w :=
  wpList_load_mid hgd _ x ho g 1 hx (b.ip.map byv) _ hB.rangeIp Tryz.underlying27 rfl (by rw [List.length_map, b.len]; kernel_rfl) h
end Go.Proofs.YthlnndjkocnfcaaGreatDoor

/- The contracts of addr.mapped, addr.Unmap, addr.Map, addr.Scope. -/
namespace Go.Proofs.YthlnndjkocnfcaaGreatDoor
open Go.RowKit
attribute [local go_sem] ba_get ext_take ext_drop ext_any ba_app

def aheadTab : List Int := [0, 0, 0, 0, 0, 0, 0, 0, 0, 0, 255, 255]
def TabA (w : World) : Prop := Lib.TabIs Tryz.prog w "wayfinder/addr.ahead" .u8 aheadTab
theorem TabA.below {w w' : World} (h : TabA w) (hb : Below w.heap.size w w') : TabA w' := Lib.tabBelow_of_tabIs h w' hb
def ahd : List UInt8 := [0, 0, 0, 0, 0, 0, 0, 0, 0, 0, 255, 255]
theorem TabA.range {w : World} (h : TabA w) : w.rangeAt 0 0 (ahd.map byv) := fun j v hv => by
  have hj := (List.getElem?_eq_some_iff.1 hv).1
  have := Lib.TabIs.cell (g := 0) h (by kernel_rfl) j (by simpa [ahd, aheadTab] using hj)
  rw [Nat.zero_add]
  rw [this, ← hv]
  have hj' : j < 12 := by simpa [ahd] using hj
  match j, hj' with
  | 0, _ | 1, _ | 2, _ | 3, _ | 4, _ | 5, _ | 6, _ | 7, _ | 8, _ | 9, _ | 10, _ | 11, _ => rfl
/-- does an address of Inet6 stand for one of Inet? -/
def mapdB (a : Ad) : Bool := (a.fam == 6) && (a.ip.take 12 == ahd)
theorem equalIn_12 (w : World) (d : Nat) (xs ys : List UInt8) (hx : xs.length = 12) (hy : ys.length = 12) : (Op.equalIn (d + 2) 99 (.agg (ipA xs)) (.agg (ipA ys))).run Tryz.prog w = .ok (xs == ys) w :=
  run_equalIn_bytes w d 99 5 12 Tryz.underlying99 Tryz.underlying5 (fun w => by
    have h : (Tryz.prog.info? 5).map (·.size) = some 1 := by kernel_rfl
    cases hq : Tryz.prog.info? 5 with
    | none => rw [hq] at h; cases h
    | some i => rw [hq] at h; simp [sizeOf, typeInfo, hq]; simpa using h) xs ys hx hy
theorem eql_12 (w : World) (xs ys : List UInt8) (hx : xs.length = 12) (hy : ys.length = 12) : (binOp .eql 99 (.agg (ipA xs)) (.agg (ipA ys))).run Tryz.prog w = .ok (.bool (xs == ys)) w := by
  rw [run_eql_struct, equalIn_12 w 9998 xs ys hx hy]; rfl
theorem wpList_eql12 {w : World} {ops : Array Oper} {rest : List Oper} {o : Oper} {a : Act} {Q : Exit → Act → World → Prop} (hw : Region.wanted o (yielded ops a.tmps) = true) (x y : Operand) {t : TypeId} (ho : o.op = .binOp .eql 99 x y t) {b c : List UInt8} (hx : a.eval x = .agg (ipA b)) (hy : a.eval y = .agg (ipA c)) (hb : b.length = 12) (hc : c.length = 12)
    (h : wpList Tryz.prog ops Q rest (a.put o.dst (.bool (b == c))) w) : wpList Tryz.prog ops Q (o :: rest) a w := by
  refine BigFrame.wpList_want hw fun _ hK => ?_
  unfold Oper.wp execOp
  simp only [ho, hx, hy, Sem.run_bind, run_eqGuard_agg w .eql 99 x y _ _ Tryz.eqGuardType99, Result.andThen_ok, eql_12 w b c hb hc]
  exact hK _ _ h
theorem wpList_eqlIp {w : World} {ops : Array Oper} {rest : List Oper} {o : Oper} {a : Act} {Q : Exit → Act → World → Prop} (hgd : o.guard = none) (x y : Operand) {t : TypeId} (ho : o.op = .binOp .eql 27 x y t) {b c : List UInt8} (hx : a.eval x = .agg (ipA b)) (hy : a.eval y = .agg (ipA c)) (hb : b.length = 16) (hc : c.length = 16)
    (h : wpList Tryz.prog ops Q rest (a.put o.dst (.bool (b == c))) w) : wpList Tryz.prog ops Q (o :: rest) a w := by
  refine wpList_plain hgd fun _ hK => ?_
  unfold Oper.wp execOp
  simp only [ho, hx, hy, Sem.run_bind, run_eqGuard_agg w .eql 27 x y _ _ Tryz.eqGuardType27, Result.andThen_ok, ip_eql w b c hb hc]
  exact hK _ _ h
theorem wpList_load12 {w : World} {ops : Array Oper} {rest : List Oper} {o : Oper} {a : Act} {Q : Exit → Act → World → Prop} (hw : Region.wanted o (yielded ops a.tmps) = true) (x : Operand) (ho : o.op = .load 99 x) {g : Nat} (hx : a.eval x = .pointer (some ⟨g, 0, none⟩))
    {l : List UInt8} (h12 : l.length = 12) (hR : w.rangeAt g 0 (l.map byv)) (h : wpList Tryz.prog ops Q rest (a.put o.dst (.agg (ipA l))) w) : wpList Tryz.prog ops Q (o :: rest) a w := by
  refine BigFrame.wpList_want hw fun _ hK => ?_
  have hr := run_loadVar_mid w g 0 99 (l.map byv) _ hR Tryz.underlying99 rfl (by rw [List.length_map, h12]; kernel_rfl)
  unfold Oper.wp execOp
  simp only [ho, hx, Instr.loadAt, Instr.sureAddr, Sem.run_bind, Sem.run_pure, Result.andThen_ok, hr]
  exact hK _ _ h
def z12 : List UInt8 := [0, 0, 0, 0, 0, 0, 0, 0, 0, 0, 0, 0]
theorem a12_zero : ZeroIs Tryz.prog 99 (ipA z12) := by unfold ZeroIs; kernel_rfl
theorem splice_12 {l : List UInt8} (h : l.length = 12) : splice (z12.map byv) 0 (l.map byv) = l.map byv := by
  unfold splice
  have : (z12.map byv).drop (0 + (l.map byv).length) = [] := List.drop_eq_nil_of_le (by simp [z12, h])
  rw [this]
  simp
theorem Bk.range12 {w : World} {g : Nat} {t : TypeId} {l : List UInt8} (h : Bk w g t (ipA l)) : w.rangeAt g 0 (l.map byv) := fun j v hv => by
  rw [h.cell (0 + j), Nat.zero_add]
  unfold ipA
  rw [List.getElem?_toArray]
  exact hv
set_option maxRecDepth 100000 in
set_option maxHeartbeats 2000000 in
theorem mapped_any (a : Ad) (w : World) (hT : TabA w) : Calls Tryz.prog 67 #[.agg (adA a)] w fun e w' => e = .returned (.bool (mapdB a)) ∧ Below w.heap.size w w' := by
  have HT := Lib.hid hT
  clear hT
  have hlen : (a.ip.take 12).length = 12 := by rw [List.length_take, a.len]; rfl
  have Hlen := Lib.hid hlen
  have Hf := Lib.hid (show mapdB a = ((a.fam == 6) && (a.ip.take 12 == ahd)) from rfl)
  clear hlen
  go_enter Tryz.func67, Tryz.ntmps67
  go_wp2_with (first
    | ((with_reducible refine wpList_boxB rfl _ _ rfl rfl ?_); intro g1 w1 hg hB1 hb1 hs; clear hg hs)
    | ((with_reducible refine wpList_allocZ (o := ⟨some 3, _, _, _, _, _⟩) rfl _ rfl a12_zero ?_); intro g3 w3 hg hB3 hb3 hs; have hg3 : w1.heap.size ≤ g3 := Nat.le_of_eq hg.symm; have hB13 := hB1.bel hb3; have hb03 := bel_tr hb1 hb3; clear hg hs))
  have HB3 := Lib.hid (show w3.heap[g3]? = some (.cells (z12.map byv).toArray 99 (0, 0)) from hB3)
  have HC : Hid (∀ (j : Nat) (v : Value), ((a.ip.take 12).map byv)[j]? = some v → w3.cell? ⟨g1, 1 + j, none⟩ = some v) := Lib.hid (fun j v hv => by
    have hj : j < 12 := by have := (List.getElem?_eq_some_iff.1 hv).1; rw [List.length_map, Hlen.out] at this; exact this
    refine hB13.rangeIp j v ?_
    rw [← hv, List.getElem?_map, List.getElem?_map, List.getElem?_take_of_lt hj])
  have n13 : g1 < g3 := by have := hB1.lt; omega
  have hgw : w.heap.size ≤ g3 := by have := hb1.size; omega
  clear hB1 hB3 hb1 hb3
  go_region_law (refine step_copy_splice rfl (.tmp 4) (.tmp 6) 93 93 rfl 5 Tryz.underlying93 (by kernel_rfl) (some ⟨g3, 0, none⟩) (some ⟨g1, 1, none⟩) 12 12 16 16 (by simp [Act.eval, Act.put]) (by simp [Act.eval, Act.put]) g3 0 (z12.map byv) 99 HB3.out ((a.ip.take 12).map byv) (by rw [List.length_map, Hlen.out]; rfl) (fun _ => ⟨rfl, _, rfl, fun j v hv => by rw [add_none]; exact HC.out j v hv⟩) (by rw [List.length_map, Hlen.out]; simp [z12]) (byv_one _) g3 w3 (bel_dr (Below.refl g3 w3) _) (Nat.le_refl _) ?_; intro w6 hg6 hb6)
  have hB6 : Bk w6 g3 99 (ipA (a.ip.take 12)) := by have := hg6.out; rw [splice_12 Hlen.out] at this; exact this
  have hB16 := hB13.below hb6 (by omega)
  have hbz : Below w.heap.size w w6 := hb03.trans (hb6.mono hgw)
  have c0 := hB16.cell 0
  rw [adA_0] at c0
  have HR := Lib.hid (HT.out.below hbz).range
  have HR6 := Lib.hid hB6.range12
  clear hg6 HC HB3
  cases i6 : (a.fam == 6) with
  | false =>
    rw [i6] at Hf
    go_wp2
    go_ret
    exact ⟨by rw [Hf.out]; rfl, hbz⟩
  | true =>
    rw [i6] at Hf
    go_wp2_with (first
      | (refine wpList_load12 (o := ⟨some 12, _, _, _, _, _⟩) rfl _ rfl rfl Hlen.out HR6.out ?_)
      | (refine wpList_load12 (o := ⟨some 13, _, _, _, _, _⟩) rfl _ rfl rfl (l := ahd) rfl HR.out ?_)
      | (refine wpList_eql12 (o := ⟨some 14, _, _, _, _, _⟩) rfl _ _ rfl rfl rfl Hlen.out rfl ?_))
    go_ret
    exact ⟨by rw [Hf.out]; rfl, hbz⟩

/-- an address as one of Inet, if it stands for one. -/
def unA (a : Ad) : Ad := if mapdB a = true then ad12 a else a
theorem splice_un (a : Ad) : splice (adL (adOf 0 0 0 0)) 1 [byv (a.b 12), byv (a.b 13), byv (a.b 14), byv (a.b 15)] = adL (ad12 a) := rfl
set_option maxRecDepth 100000 in
set_option maxHeartbeats 2000000 in
theorem unmap_any (a : Ad) (w : World) (hT : TabA w) : Calls Tryz.prog 68 #[.agg (adA a)] w (AdPost w (unA a)) := by
  have HT := Lib.hid hT
  clear hT
  have H1 := Lib.hid built_4
  cases hm : mapdB a with
  | false =>
    have Hm := Lib.hid hm
    have Hf := Lib.hid (show unA a = a by unfold unA; rw [if_neg (by rw [hm]; decide)])
    clear hm
    go_enter Tryz.func68, Tryz.ntmps68
    go_wp2_with (first
      | ((with_reducible refine wpList_boxB rfl _ _ rfl rfl ?_); intro g1 w1 hg hB1 hb1 hs; have hg1 : w.heap.size ≤ g1 := Nat.le_of_eq hg.symm; clear hg hs)
      | ((with_reducible refine wpList_allocAd (o := ⟨some 2, _, _, _, _, _⟩) rfl rfl ?_); intro g2 w2 hg hB2 hb2 hs; have hg2 : w1.heap.size ≤ g2 := Nat.le_of_eq hg.symm; have hB12 := hB1.bel hb2; have hb02 := bel_tr hb1 hb2; clear hg hs)
      | (with_reducible refine wpList_loadAd (o := ⟨some 4, _, _, _, _, _⟩) rfl _ rfl rfl hB12 ?_)
      | (go_at_call 67; refine (mapped_any a _ (HT.out.below hb02)).mono ?_; rintro e w3 ⟨rfl, hb3⟩; rw [Hm.out]; have hB13 := hB12.bel hb3; have hB23 := hB2.bel hb3; have hb03 := bel_tr hb02 hb3)
      | (with_reducible refine wpList_loadAd (o := ⟨some 7, _, _, _, _, _⟩) rfl _ rfl rfl hB13 ?_)
      | ((with_reducible refine wpList_storeAd rfl (.tmp 2) _ rfl rfl rfl hB23 ?_); intro w7 hB7 hS7))
    exact ret_ad Tryz.results68 rfl hB7 rfl ⟨by rw [Hf.out], hb03.trans (hS7.below (by have := hb1.size; omega))⟩
  | true =>
    have Hm := Lib.hid hm
    have Hf := Lib.hid (show unA a = ad12 a by unfold unA; rw [if_pos hm])
    clear hm
    go_enter Tryz.func68, Tryz.ntmps68
    go_wp2_with (first
      | ((with_reducible refine wpList_boxB rfl _ _ rfl rfl ?_); intro g1 w1 hg hB1 hb1 hs; have hg1 : w.heap.size ≤ g1 := Nat.le_of_eq hg.symm; clear hg hs)
      | ((with_reducible refine wpList_allocAd (o := ⟨some 2, _, _, _, _, _⟩) rfl rfl ?_); intro g2 w2 hg hB2 hb2 hs; have hg2 : w1.heap.size ≤ g2 := Nat.le_of_eq hg.symm; have hB12 := hB1.bel hb2; have hb02 := bel_tr hb1 hb2; clear hg hs)
      | (with_reducible refine wpList_loadAd (o := ⟨some 4, _, _, _, _, _⟩) rfl _ rfl rfl hB12 ?_)
      | (go_at_call 67; refine (mapped_any a _ (HT.out.below hb02)).mono ?_; rintro e w3 ⟨rfl, hb3⟩; rw [Hm.out]; have hB13 := hB12.bel hb3; have hB23 := hB2.bel hb3; have hb03 := bel_tr hb02 hb3)
      | (with_reducible refine wpList_buildL rfl 29 _ rfl H1.out rfl ?_)
      | ((with_reducible refine wpList_allocAd (o := ⟨some 3, _, _, _, _, _⟩) rfl rfl ?_); intro g3 w4 hg hB3 hb4 hs; have hg3 : w3.heap.size ≤ g3 := Nat.le_of_eq hg.symm; have hB14 := hB13.bel hb4; have hB24 := hB23.bel hb4; clear hg hs)
      | ((with_reducible refine wpList_storeAd rfl (.tmp 3) _ rfl rfl rfl hB3 ?_); intro w5 hB35 hS5))
    have l1 := hB1.lt
    have l2 := hB2.lt
    have l3 := hB23.lt
    have l4 := hB13.lt
    have n13 : g1 ≠ g3 := by omega
    have n23 : g2 ≠ g3 := by omega
    have n12 : g1 ≠ g2 := by omega
    have hB15 := hB14.stays hS5 n13
    have hB25 := hB24.stays hS5 n23
    have hgw : w.heap.size ≤ g3 := by have := hb03.size; omega
    have hg2w : w.heap.size ≤ g2 := by have := hb1.size; omega
    have hb05 : Below w.heap.size w w5 := (bel_tr hb03 hb4).trans (hS5.below hgw)
    have HB5 := Lib.hid (show w5.heap[g3]? = some (.cells (adL (adOf 0 0 0 0)).toArray 29 (0, 0)) from hB35)
    have HC : Hid (∀ (j : Nat) (v : Value), [byv (a.b 12), byv (a.b 13), byv (a.b 14), byv (a.b 15)][j]? = some v → w5.cell? ⟨g1, 13 + j, none⟩ = some v) := Lib.hid (fun j v hv => by
      have hj : j < 4 := (List.getElem?_eq_some_iff.1 hv).1
      rw [hB15.cell (13 + j), show 13 + j = (12 + j) + 1 by omega, adA_ip a (by omega), ← hv]
      match j, hj with
      | 0, _ => rfl
      | 1, _ => rfl
      | 2, _ => rfl
      | 3, _ => rfl)
    clear hB1 hB12 hB13 hB14 hB2 hB23 hB24 hB3 hB35 hS5 hb1 hb2 hb3 hb4 hb02 hb03
    go_region_law (refine step_copy_splice rfl (.tmp 10) (.tmp 12) 93 93 rfl 5 Tryz.underlying93 (by kernel_rfl) (some ⟨g3, 1, none⟩) (some ⟨g1, 13, none⟩) 16 16 4 4 (by simp [Act.eval, Act.put]) (by simp [Act.eval, Act.put]) g3 1 (adL (adOf 0 0 0 0)) 29 HB5.out [byv (a.b 12), byv (a.b 13), byv (a.b 14), byv (a.b 15)] rfl (fun _ => ⟨rfl, _, rfl, fun j v hv => by rw [add_none]; exact HC.out j v hv⟩) (by rw [adL_len]; simp) (by simp [byv, Value.oneCell']) g3 w5 (bel_dr (Below.refl g3 w5) _) (Nat.le_refl _) ?_; intro w6 hg6 hb6)
    have hB6 : Bk w6 g3 29 (adA (ad12 a)) := by have := hg6.out; rw [splice_un] at this; exact this
    have hB26 := hB25.below hb6 (by omega)
    have hbz : Below w.heap.size w w6 := hb05.trans (hb6.mono hgw)
    clear hg6
    go_wp2_with (first
      | (with_reducible refine wpList_loadAd rfl _ rfl rfl hB6 ?_)
      | ((with_reducible refine wpList_storeAd rfl (.tmp 2) _ rfl rfl rfl hB26 ?_); intro w7 hB7 hS7))
    exact ret_ad Tryz.results68 rfl hB7 rfl ⟨by rw [Hf.out], hbz.trans (hS7.below hg2w)⟩
/-- an address as one of Inet6. -/
def mpA (a : Ad) : Ad := if a.fam = 4 then mapA a else a
set_option maxRecDepth 100000 in
set_option maxHeartbeats 2000000 in
theorem amap_all (a : Ad) (w : World) : Calls Tryz.prog 43 #[.agg (adA a)] w (AdPost w (mpA a)) := by
  by_cases hf : a.fam = 4
  · have := amap_any a w hf
    unfold mpA
    rw [if_pos hf]
    exact this
  · have Hf := Lib.hid (show mpA a = a by unfold mpA; rw [if_neg hf])
    have i4 : (a.fam != 4) = true := by simpa using hf
    clear hf
    go_enter Tryz.func43, Tryz.ntmps43
    go_wp2_with (first
      | ((with_reducible refine wpList_boxB rfl _ _ rfl rfl ?_); intro g1 w1 hg hB1 hb1 hs; have hg1 : w.heap.size ≤ g1 := Nat.le_of_eq hg.symm; clear hg hs)
      | ((with_reducible refine wpList_allocAd (o := ⟨some 2, _, _, _, _, _⟩) rfl rfl ?_); intro g2 w2 hg hB2 hb2 hs; have hg2 : w1.heap.size ≤ g2 := Nat.le_of_eq hg.symm; have hB12 := hB1.bel hb2; have hb02 := bel_tr hb1 hb2; have c0 := hB12.cell 0; rw [adA_0] at c0; clear hg hs)
      | (with_reducible refine wpList_loadAd (o := ⟨some 7, _, _, _, _, _⟩) rfl _ rfl rfl hB12 ?_)
      | ((with_reducible refine wpList_storeAd rfl (.tmp 2) _ rfl rfl rfl hB2 ?_); intro w7 hB7 hS7))
    exact ret_ad Tryz.results43 rfl hB7 rfl ⟨by rw [Hf.out], hb02.trans (hS7.below (by have := hb1.size; omega))⟩
end Go.Proofs.YthlnndjkocnfcaaGreatDoor

/- The contract of addr.Scope. -/
namespace Go.Proofs.YthlnndjkocnfcaaGreatDoor
open Go.RowKit
attribute [local go_sem] ba_get ext_take ext_drop ext_any ba_app

def InPost (w : World) (n : Int) (e : Ending) (w' : World) : Prop := e = .returned (.int .i64 n) ∧ Below w.heap.size w w'
def sc4 (a : Ad) : Int := if (((a.b 0).toNat : Int) == 127) = true then 2 else if (((a.b 0).toNat : Int) == 169) = true then (if (((a.b 1).toNat : Int) == 254) = true then 2 else 14) else 14
def lo1 : List UInt8 := [0, 0, 0, 0, 0, 0, 0, 0, 0, 0, 0, 0, 0, 0, 0, 1]
def q64 (a : Ad) : Nat := (a.b 1).toNat / 64 * 64
def sc6r (a : Ad) : Int := if mapdB a = true then sc4 (ad12 a) else 14
def sc6 (a : Ad) : Int := if (((a.b 0).toNat : Int) == 255) = true then (((a.b 1).toNat % 16 : Nat) : Int) else if (a.ip == lo1) = true then 2 else
  if (((a.b 0).toNat : Int) == 254) = true then (if ((q64 a : Int) == 128) = true then 2 else if ((q64 a : Int) == 192) = true then 5 else sc6r a) else sc6r a
/-- how far an address reaches. -/
def scoA (a : Ad) : Int := if a.fam = 4 then sc4 a else if a.fam = 6 then sc6 a else 0
theorem built_lo1 : Tryz.prog.built 27 [(15, .int .u8 1)] = some (ipA lo1) := by kernel_rfl
theorem and_u8_15 (c : UInt8) : bits .and .u8 (c.toNat : Int) 15 = ((c.toNat % 16 : Nat) : Int) := by
  have : ∀ n : Fin 256, bits .and .u8 (n.val : Int) 15 = ((n.val % 16 : Nat) : Int) := by decide +kernel
  exact this ⟨c.toNat, c.toNat_lt⟩
theorem and_u8_192 (c : UInt8) : bits .and .u8 (c.toNat : Int) 192 = ((c.toNat / 64 * 64 : Nat) : Int) := by
  have : ∀ n : Fin 256, bits .and .u8 (n.val : Int) 192 = ((n.val / 64 * 64 : Nat) : Int) := by decide +kernel
  exact this ⟨c.toNat, c.toNat_lt⟩
set_option maxRecDepth 100000 in
set_option maxHeartbeats 2000000 in
theorem scope4_any (a : Ad) (w : World) (h4 : a.fam = 4) : Calls Tryz.prog 28 #[.agg (adA a)] w (InPost w (sc4 a)) := by
  have i4 : (a.fam == 4) = true := by simpa using h4
  clear h4
  have hf : ∀ b0 b1 b2 : Bool, (((a.b 0).toNat : Int) == 127) = b0 → (((a.b 0).toNat : Int) == 169) = b1 → (((a.b 1).toNat : Int) == 254) = b2 → sc4 a = if b0 = true then 2 else if b1 = true then (if b2 = true then 2 else 14) else 14 := by
    intro b0 b1 b2 h0 h1 h2
    unfold sc4
    rw [h0, h1, h2]
  have Hf := Lib.hid hf
  clear hf
  cases i0 : (((a.b 0).toNat : Int) == 127) <;> cases i1 : (((a.b 0).toNat : Int) == 169) <;> cases i2 : (((a.b 1).toNat : Int) == 254)
  all_goals
    have Hr := Lib.hid (Hf.out _ _ _ i0 i1 i2)
    clear Hf
    go_enter Tryz.func28, Tryz.ntmps28
    go_wp2_with (first
      | ((with_reducible refine wpList_boxB rfl _ _ rfl rfl ?_); intro g w1 hg hB hb hs; clear hg hs
         have c0 := hB.cell 0
         rw [adA_0] at c0
         have c1 := hB.cell 1
         rw [adA_1] at c1
         have c2 := hB.cell 2
         rw [adA_2] at c2))
    go_ret
    exact ⟨by rw [Hr.out]; rfl, hb⟩
set_option maxRecDepth 100000 in
set_option maxHeartbeats 4000000 in
theorem scope6_any (a : Ad) (w : World) (hT : TabA w) : Calls Tryz.prog 49 #[.agg (adA a)] w (InPost w (sc6 a)) := by
  have HT := Lib.hid hT
  clear hT
  have H1 := Lib.hid built_lo1
  have a15 := and_u8_15 (a.b 1)
  have a192 := and_u8_192 (a.b 1)
  have hq : (((a.b 1).toNat / 64 * 64 : Nat) : Int) = ((q64 a : Nat) : Int) := rfl
  rw [hq] at a192
  clear hq
  have Hl := Lib.hid a.len
  have hq2 : (q64 a : Int) < 256 := by have := (a.b 1).toNat_lt; unfold q64; omega
  cases i0 : (((a.b 0).toNat : Int) == 255) with
  | true =>
    have Hr : Hid (sc6 a = (((a.b 1).toNat % 16 : Nat) : Int)) := Lib.hid (by unfold sc6; rw [if_pos i0])
    have hx : (((a.b 1).toNat % 16 : Nat) : Int) < 16 := by omega
    generalize (a.b 1).toNat % 16 = x at *
    go_enter Tryz.func49, Tryz.ntmps49
    go_wp2_with (first
      | ((with_reducible refine wpList_boxB rfl _ _ rfl rfl ?_); intro g w1 hg hB hb hs; clear hg hs
         have c1 := hB.cell 1
         rw [adA_1] at c1
         have c2 := hB.cell 2
         rw [adA_2] at c2))
    go_ret
    exact ⟨by rw [Hr.out]; rfl, hb⟩
  | false =>
    cases i1 : (a.ip == lo1) with
    | true =>
      have Hr : Hid (sc6 a = 2) := Lib.hid (by unfold sc6; rw [if_neg (by rw [i0]; decide), if_pos i1])
      have I1 := Lib.hid i1
      clear i1
      go_enter Tryz.func49, Tryz.ntmps49
      go_wp2_with (first
        | ((with_reducible refine wpList_boxB rfl _ _ rfl rfl ?_); intro g w1 hg hB hb hs; clear hg hs
           have c1 := hB.cell 1
           rw [adA_1] at c1
           have c2 := hB.cell 2
           rw [adA_2] at c2)
        | (with_reducible refine wpList_loadIp (o := ⟨some 13, _, _, _, _, _⟩) rfl _ rfl rfl hB ?_)
        | (with_reducible refine wpList_buildL rfl 27 _ rfl H1.out rfl ?_)
        | (with_reducible refine wpList_eqlIp (o := ⟨some 15, _, _, _, _, _⟩) rfl _ _ rfl rfl rfl Hl.out rfl ?_; rw [I1.out]))
      go_ret
      exact ⟨by rw [Hr.out]; rfl, hb⟩
    | false =>
      have I1 := Lib.hid i1
      have hcs : ((((a.b 0).toNat : Int) == 254) = true ∧ ((q64 a : Int) == 128) = true ∧ sc6 a = 2) ∨ ((((a.b 0).toNat : Int) == 254) = true ∧ ((q64 a : Int) == 128) = false ∧ ((q64 a : Int) == 192) = true ∧ sc6 a = 5) ∨
          ((((a.b 0).toNat : Int) == 254) = true ∧ ((q64 a : Int) == 128) = false ∧ ((q64 a : Int) == 192) = false ∧ sc6 a = sc6r a) ∨ ((((a.b 0).toNat : Int) == 254) = false ∧ sc6 a = sc6r a) := by
        unfold sc6
        rw [if_neg (by rw [i0]; decide), if_neg (by rw [i1]; decide)]
        cases i2 : (((a.b 0).toNat : Int) == 254) with
        | false => exact .inr (.inr (.inr ⟨rfl, if_neg (by decide)⟩))
        | true =>
          rw [if_pos rfl]
          cases i3 : ((q64 a : Int) == 128) with
          | true => exact .inl ⟨rfl, rfl, if_pos rfl⟩
          | false =>
            rw [if_neg (by decide)]
            cases i4 : ((q64 a : Int) == 192) with
            | true => exact .inr (.inl ⟨rfl, rfl, rfl, if_pos rfl⟩)
            | false => exact .inr (.inr (.inl ⟨rfl, rfl, rfl, if_neg (by decide)⟩))
      clear i1
      have rest : ∀ hr : sc6 a = sc6r a, (mapdB a = true ∧ sc6 a = sc4 (ad12 a)) ∨ (mapdB a = false ∧ sc6 a = 14) := by
        intro hr
        rw [hr]
        unfold sc6r
        cases mapdB a with
        | true => exact .inl ⟨rfl, if_pos rfl⟩
        | false => exact .inr ⟨rfl, if_neg (by decide)⟩
      have Rest := Lib.hid rest
      clear rest
      rcases hcs with ⟨i2, i3, hr⟩ | ⟨i2, i3, i4, hr⟩ | ⟨i2, i3, i4, hr⟩ | ⟨i2, hr⟩
      case inl =>
        have Hr := Lib.hid hr
        clear hr Rest
        go_enter Tryz.func49, Tryz.ntmps49
        go_wp2_with (first
          | ((with_reducible refine wpList_boxB rfl _ _ rfl rfl ?_); intro g w1 hg hB hb hs; clear hg hs
             have c1 := hB.cell 1
             rw [adA_1] at c1
             have c2 := hB.cell 2
             rw [adA_2] at c2)
          | (with_reducible refine wpList_loadIp (o := ⟨some 13, _, _, _, _, _⟩) rfl _ rfl rfl hB ?_)
          | (with_reducible refine wpList_buildL rfl 27 _ rfl H1.out rfl ?_)
          | (with_reducible refine wpList_eqlIp (o := ⟨some 15, _, _, _, _, _⟩) rfl _ _ rfl rfl rfl Hl.out rfl ?_; rw [I1.out]))
        go_ret
        exact ⟨by rw [Hr.out]; rfl, hb⟩
      case inr.inl =>
        have Hr := Lib.hid hr
        clear hr Rest
        go_enter Tryz.func49, Tryz.ntmps49
        go_wp2_with (first
          | ((with_reducible refine wpList_boxB rfl _ _ rfl rfl ?_); intro g w1 hg hB hb hs; clear hg hs
             have c1 := hB.cell 1
             rw [adA_1] at c1
             have c2 := hB.cell 2
             rw [adA_2] at c2)
          | (with_reducible refine wpList_loadIp (o := ⟨some 13, _, _, _, _, _⟩) rfl _ rfl rfl hB ?_)
          | (with_reducible refine wpList_buildL rfl 27 _ rfl H1.out rfl ?_)
          | (with_reducible refine wpList_eqlIp (o := ⟨some 15, _, _, _, _, _⟩) rfl _ _ rfl rfl rfl Hl.out rfl ?_; rw [I1.out]))
        go_ret
        exact ⟨by rw [Hr.out]; rfl, hb⟩
      all_goals
        have hm := Rest.out hr
        clear Rest hr
        rcases hm with ⟨hm, hr⟩ | ⟨hm, hr⟩
        all_goals
          have Hr := Lib.hid hr
          have Hm := Lib.hid hm
          have Hu := Lib.hid (show unA a = if mapdB a = true then ad12 a else a from rfl)
          clear hr hm
          go_enter Tryz.func49, Tryz.ntmps49
          go_wp2_with (first
            | ((with_reducible refine wpList_boxB rfl _ _ rfl rfl ?_); intro g w1 hg hB hb hs; clear hg hs
               have c1 := hB.cell 1
               rw [adA_1] at c1
               have c2 := hB.cell 2
               rw [adA_2] at c2)
            | (with_reducible refine wpList_loadIp (o := ⟨some 13, _, _, _, _, _⟩) rfl _ rfl rfl hB ?_)
            | (with_reducible refine wpList_buildL rfl 27 _ rfl H1.out rfl ?_)
            | (with_reducible refine wpList_eqlIp (o := ⟨some 15, _, _, _, _, _⟩) rfl _ _ rfl rfl rfl Hl.out rfl ?_; rw [I1.out])
            | (with_reducible refine wpList_loadAd (o := ⟨some 28, _, _, _, _, _⟩) rfl _ rfl rfl hB ?_)
            | (go_at_call 67; refine (mapped_any a _ (HT.out.below hb)).mono ?_; rintro e w3 ⟨rfl, hb3⟩; rw [Hm.out]; have hB3 := hB.bel hb3; have hb03 := bel_tr hb hb3)
            | (with_reducible refine wpList_loadAd (o := ⟨some 30, _, _, _, _, _⟩) rfl _ rfl rfl hB3 ?_)
            | (go_at_call 68; refine (unmap_any a _ (HT.out.below hb03)).mono ?_; rintro e w4 ⟨rfl, hb4⟩; rw [Hu.out, Hm.out, if_pos rfl]; have hb04 := bel_tr hb03 hb4)
            | (go_at_call 28; refine (scope4_any (ad12 a) _ rfl).mono ?_; rintro e w5 ⟨rfl, hb5⟩; have hb05 := bel_tr hb04 hb5))
          go_ret
          first
            | exact ⟨by rw [Hr.out]; rfl, hb05⟩
            | exact ⟨by rw [Hr.out]; rfl, hb03⟩
set_option maxRecDepth 100000 in
set_option maxHeartbeats 2000000 in
theorem scope_any (a : Ad) (w : World) (hT : TabA w) : Calls Tryz.prog 28 #[.agg (adA a)] w (InPost w (scoA a)) := by
  by_cases h4 : a.fam = 4
  · have := scope4_any a w h4
    unfold scoA
    rw [if_pos h4]
    exact this
  · have i4 : (a.fam == 4) = false := by simpa using h4
    have HT := Lib.hid hT
    clear hT
    by_cases h6 : a.fam = 6
    · have i6 : (a.fam == 6) = true := by simpa using h6
      have Hr : Hid (scoA a = sc6 a) := Lib.hid (by unfold scoA; rw [if_neg h4, if_pos h6])
      clear h4 h6
      go_enter Tryz.func28, Tryz.ntmps28
      go_wp2_with (first
        | ((with_reducible refine wpList_boxB rfl _ _ rfl rfl ?_); intro g w1 hg hB hb hs; clear hg hs
           have c0 := hB.cell 0
           rw [adA_0] at c0)
        | (with_reducible refine wpList_loadAd rfl _ rfl rfl hB ?_)
        | (go_at_call 49; refine (scope6_any a _ (HT.out.below hb)).mono ?_; rintro e w2 ⟨rfl, hb2⟩))
      go_ret
      exact ⟨by rw [Hr.out]; rfl, bel_tr hb hb2⟩
    · have i6 : (a.fam == 6) = false := by simpa using h6
      have Hr : Hid (scoA a = 0) := Lib.hid (by unfold scoA; rw [if_neg h4, if_neg h6])
      clear h4 h6
      go_enter Tryz.func28, Tryz.ntmps28
      go_wp2_with (first
        | ((with_reducible refine wpList_boxB rfl _ _ rfl rfl ?_); intro g w1 hg hB hb hs; clear hg hs
           have c0 := hB.cell 0
           rw [adA_0] at c0))
      go_ret
      exact ⟨by rw [Hr.out]; rfl, hb⟩
end Go.Proofs.YthlnndjkocnfcaaGreatDoor
