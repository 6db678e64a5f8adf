/- Contracts and plain lemmas of our own, merged. -/
import Derived.Test.YtgebcifkbldfoaaDoorZNb10
import Derived.Test.YtgebcifkbldfoaaDoorZNb11
import Derived.Test.YtgebcifkbldfoaaDoorZNb13
import Derived.Test.YtgebcifkbldfoaaDoorZNb19
import Derived.Test.YtgebcifkbldfoaaDoorZNb20
import Derived.Test.YtgebcifkbldfoaaDoorZNb23
import Derived.Test.YtgebcifkbldfoaaDoorZNb31
import Derived.Test.YtgebcifkbldfoaaDoorShelf
/- nss.item: a word of a clause. -/
namespace Go.Proofs.YtgebcifkbldfoaaDoor
open Go.RowKit
attribute [local go_sem] ba_get ext_take ext_drop ext_any ba_app

/-- one cell of a block is stored into. -/
theorem wpList_storeCN {P : Program} {w : World} {ops : Array Oper} {rest : List Oper} {o : Oper} {a : Act} {Q : Exit → Act → World → Prop} (hgd : o.guard = none) (ty : TypeId) (x y : Operand) (ho : o.op = .store ty x y) {g i : Nat} {v : Value} (hx : a.eval x = .pointer (some ⟨g, i, none⟩)) (hy : a.eval y = v) (h1 : v.oneCell' = true)
    {t : TypeId} {cs : Array Value} (hB : Bk w g t cs) (hi : i < cs.size) (hsz : (P.info? ty).map (·.size) = some 1)
    (h : ∀ w', Bk w' g t (cs.setIfInBounds i v) → Stays g w w' → wpList P ops Q rest (a.put o.dst undef) w') : wpList P ops Q (o :: rest) a w := by
  refine wpList_plain hgd fun _ hK => ?_
  have hr : (storeVar ty ⟨g, i, none⟩ v).run P w = .ok () (w.setCell ⟨g, i, none⟩ v) := by
    have := run_storeCells_cells (P := P) g i [v] 0 w (fun j hj => by
      have hj0 : j = 0 := by simpa using hj
      subst hj0
      rw [hB.cell, Array.getElem?_eq_getElem (by simpa using hi)]; rfl) (fun j _ => hB.free _) (fun u hu => by rw [List.mem_singleton.1 hu]; exact h1)
    have hc : v.cells = #[v] := by cases v <;> first | rfl | cases h1
    cases hq : P.info? ty with
    | none => simp [hq] at hsz
    | some ie =>
      have hs : ie.size = 1 := by simpa [hq] using hsz
      simp [storeVar, sizeOf, typeInfo, hq, hc, hs, this, World.setCells]
  unfold Oper.wp execOp
  simp only [ho, hx, hy, Instr.storeAt, Instr.sureAddr, Sem.run_bind, Sem.run_pure, Result.andThen_ok, hr]
  exact hK _ _ (h _ (hB.set_ i v) (Stays.cell w g i v))

theorem grown_some {w w' : World} (h : Below w.heap.size w w') (g : Nat) : w.grownBy w' (some g) := ⟨h.os, h.tape, h.output, h.size, fun k hk _ => h.block k hk⟩
theorem splA_set {cs : Array Value} {off : Nat} (s : So) {i : Nat} (b : Bool) (hi : i < 4) (ho : off + 5 ≤ cs.size) : (splA cs off (soL s)).setIfInBounds (off + 1 + i) (.bool b) = splA cs off (soL (s.set i b)) := by
  have hl : (cs.toList.take off).length = off := by rw [List.length_take, Array.length_toList]; omega
  have hs := soA_set s i b
  unfold soA at hs
  rw [List.setIfInBounds_toArray] at hs
  have hs2 : (soL s).set (i + 1) (.bool b) = soL (s.set i b) := by simpa using hs
  unfold splA
  rw [List.setIfInBounds_toArray, List.append_assoc, List.set_append_right _ _ (by rw [hl]; omega), hl, show off + 1 + i - off = i + 1 by omega, List.set_append_left _ _ (by rw [soL_len]; omega), hs2, soL_len, soL_len, List.append_assoc]
/-- the flags, those below j turned as an item says. -/
def updS (s : So) (st : Nat) (nt ret : Bool) (j : Nat) : So := ⟨s.k, s.st.mapIdx (fun i b => if i < j ∧ (decide (i = st) != nt) = true then ret else b), by rw [List.length_mapIdx]; exact s.ok⟩
theorem updS_0 (s : So) (st : Nat) (nt ret : Bool) : updS s st nt ret 0 = s := by
  unfold updS
  refine So.same rfl ?_
  refine List.ext_getElem (by simp) fun i h1 h2 => ?_
  simp
theorem updS_yes (s : So) (st : Nat) (nt ret : Bool) {j : Nat} (h : (decide (j = st) != nt) = true) : (updS s st nt ret j).set j ret = updS s st nt ret (j + 1) := by
  refine So.same rfl ?_
  unfold updS So.set
  dsimp only
  refine List.ext_getElem (by simp) fun i h1 h2 => ?_
  rw [List.getElem_set]
  simp only [List.getElem_mapIdx]
  by_cases hi : j = i
  · subst hi
    rw [if_pos rfl, if_pos ⟨by omega, h⟩]
  · rw [if_neg hi]
    by_cases hc : (decide (i = st) != nt) = true
    · simp only [hc, and_true]
      by_cases hl : i < j
      · rw [if_pos hl, if_pos (by omega)]
      · rw [if_neg hl, if_neg (by omega)]
    · rw [if_neg (fun h => hc h.2), if_neg (fun h => hc h.2)]
theorem updS_no (s : So) (st : Nat) (nt ret : Bool) {j : Nat} (h : (decide (j = st) != nt) = false) : updS s st nt ret j = updS s st nt ret (j + 1) := by
  refine So.same rfl ?_
  unfold updS
  dsimp only
  refine List.ext_getElem (by simp) fun i h1 h2 => ?_
  simp only [List.getElem_mapIdx]
  by_cases hi : i = j
  · subst hi
    rw [if_neg (by omega), if_neg (by rw [h]; simp)]
  · by_cases hl : i < j
    · simp only [hl, true_and, show i < j + 1 by omega]
    · rw [if_neg (fun hh => hl hh.1), if_neg (fun hh => hl (by omega))]
def retT : List UInt8 := [114, 101, 116, 117, 114, 110]
def conT : List UInt8 := [99, 111, 110, 116, 105, 110, 117, 101]
/-- which status a word is. -/
def statOf (l : List UInt8) : Option Nat := (List.range 4).find? (fun j => statP (j : Int) == l)
/-- what an item makes of a source, and whether it is one. -/
def itP (s : So) (it : List UInt8) : So × Bool := match idx 61 (low it) with
  | none => (s, false)
  | some k => if (low it).drop (k + 1) ≠ retT ∧ (low it).drop (k + 1) ≠ conT then (s, false)
    else match statOf (Lib.trimPrefix ((low it).take k) [33]) with
      | none => (s, false)
      | some st => (updS s st (Lib.hasPrefix ((low it).take k) [33]) (decide ((low it).drop (k + 1) = retT)) 4, true)
def ItPost (w : World) (g : Nat) (t : TypeId) (cs : Array Value) (off : Nat) (o : So × Bool) (e : Ending) (w' : World) : Prop := e = .returned (.bool o.2) ∧ Bk w' g t (splA cs off (soL o.1)) ∧ w.grownBy w' (some g)
theorem bool_size : (Tryd.prog.info? 4).map (·.size) = some 1 := by kernel_rfl
set_option maxRecDepth 100000 in
set_option maxHeartbeats 4000000 in
theorem item_tail (s : So) (it x rg l2 lf : List UInt8) (nt rb : Bool) (o : So × Bool) (g off : Nat) (t : TypeId) (cs : Array Value) (w : World)
    (hL : Calls Tryd.prog 140 #[.string ⟨it.toArray⟩] w (StrPost w x))
    (hC : ∀ w', Calls Tryd.prog 80 #[.string ⟨x.toArray⟩, .int .u8 ((61 : UInt8).toNat : Int)] w' fun e w'' => e = .returned (.tuple #[.string ⟨lf.toArray⟩, .string ⟨rg.toArray⟩, .bool true]) ∧ Below w'.heap.size w' w'')
    (hP : ∀ w', Calls Tryd.prog 135 #[.string ⟨lf.toArray⟩, .string ⟨#[33]⟩] w' fun e w'' => e = .returned (.tuple #[.string ⟨l2.toArray⟩, .bool nt]) ∧ w'' = w')
    (hB : Bk w g t (splA cs off (soL s))) (ho : off + 5 ≤ cs.size) (_hlow : x.length ≤ 1000000)
    (hrb : (rg = [114, 101, 116, 117, 114, 110] ∧ rb = true) ∨ (rg = [99, 111, 110, 116, 105, 110, 117, 101] ∧ rb = false))
    (hO : o = match statOf l2 with
      | none => (s, false)
      | some st => (updS s st nt rb 4, true)) : Calls Tryd.prog 110 #[.pointer (some ⟨g, off, none⟩), .string ⟨it.toArray⟩] w (ItPost w g t cs off o) := by
  have HL := Lib.hid hL
  have HC := Lib.hid hC
  have HP2 := Lib.hid hP
  have HB := Lib.hid hB
  have HO := Lib.hid hO
  clear hL hC hP hB hO
  rcases hrb with ⟨rfl, rfl⟩ | ⟨rfl, rfl⟩
  · go_enter Tryd.func110, Tryd.ntmps110
    go_wp2_with (first
      | (go_at_call 140; refine HL.out.mono ?_; rintro e w1 ⟨rfl, hb1⟩; have Hb1 := Lib.hid hb1; clear hb1)
      | (go_at_call 80; refine (HC.out _).mono ?_; rintro e w2 ⟨rfl, hb2⟩; have Hb2 := Lib.hid (bel_tr Hb1.out hb2); clear hb2; refine holdL ?_))
    refine Lib.hid ?_
    have HBc := Lib.hid (HB.out.bel Hb2.out)
    have Hgc := Lib.hid (grown_some Hb2.out g)
    clear HL HC HB Hb2 Hb1
    go_wp2_with (first
      | (go_at_call 135; refine (HP2.out _).mono ?_; rintro e w3 ⟨rfl, rfl⟩))
    go_loopw [9, 33] (fun _ iv wr => ∃ k : Nat, k ≤ 4 ∧ iv = .int .i64 k ∧ (∀ j : Nat, j < k → statP (j : Int) ≠ l2) ∧ wr = w3) (fun _ iv _ => 4 - (intOf iv).toNat)
    case atStart => exact ⟨0, by omega, rfl, (fun j hj => absurd hj (Nat.not_lt_zero _)), rfl⟩
    case round =>
      obtain ⟨k, hk, rfl, hno, rfl⟩ := hrel
      have Hno := Lib.hid hno
      clear hno
      by_cases hlt : k < 4
      · have hkI : (k : Int) < 4 := by omega
        have hk0 : (0 : Int) ≤ (k : Int) := by omega
        by_cases he : statP (k : Int) = l2
        · have HO2 : Hid (o = (updS s k nt true 4, true)) := Lib.hid (by
            rw [HO.out]
            have h : statOf l2 = some k := by
              unfold statOf
              rw [List.find?_range_eq_some]
              exact ⟨by simpa using he, List.mem_range.2 hlt, fun j hj => by have := Hno.out j hj; simpa using this⟩
            rw [h])
          have HS := Lib.hid (status_any k hlt wr)
          rw [he] at HS
          clear he Hno HO
          go_wp2_with (first
            | (go_at_call 44; refine HS.out.mono ?_; rintro e w4 ⟨rfl, rfl⟩))
          go_loopw [10, 40] (fun _ jv wj => ∃ j : Nat, j ≤ 4 ∧ jv = .int .i64 j ∧ Bk wj g t (splA cs off (soL (updS s k nt true j))) ∧ w.grownBy wj (some g)) (fun _ jv _ => 4 - (intOf jv).toNat)
          case atStart => exact ⟨0, by omega, rfl, by rw [updS_0]; exact HBc.out, Hgc.out⟩
          case round =>
            obtain ⟨j, hj, rfl, hBj, hgj⟩ := hrel
            have Hgj := Lib.hid hgj
            clear hgj
            by_cases hjt : j < 4
            · have hjI : (j : Int) < 4 := by omega
              have hj0 : (0 : Int) ≤ (j : Int) := by omega
              have hsz : (splA cs off (soL (updS s k nt true j))).size = cs.size := splA_size (by rw [soL_len]; exact ho)
              have hij : off + 1 + j < (splA cs off (soL (updS s k nt true j))).size := by rw [hsz]; omega
              have hc : ((j : Int) == (k : Int)) = decide (j = k) := by
                rw [Bool.eq_iff_iff, beq_iff_eq, decide_eq_true_iff]
                omega
              cases hjk : decide (j = k) with
              | false =>
                rw [hjk] at hc
                cases nt with
                | false =>
                  have Hd : Hid ((decide (j = k) != false) = false) := Lib.hid (by rw [hjk]; rfl)
                  clear hsz hjk
                  go_wp2
                  go_roundw
                  case rel => exact ⟨j + 1, by omega, by go_num, by rw [← updS_no s k _ _ Hd.out]; exact hBj, Hgj.out⟩
                  case measure => (simp [intOf]) <;> omega
                | true =>
                  have Hd : Hid ((decide (j = k) != true) = true) := Lib.hid (by rw [hjk]; rfl)
                  clear hsz hjk
                  go_wp2_with ((with_reducible show wpList _ _ _ (⟨none, _, _, _, _, _⟩ :: _) _ _); refine holdL ?_)
                  refine Lib.hid ?_
                  refine wpList_storeCN (v := .bool true) (o := ⟨none, _, _, _, _, _⟩) rfl _ (.tmp 54) _ rfl rfl rfl rfl hBj hij bool_size ?_
                  intro w5 hB5 hS5
                  rw [splA_set _ _ hjt ho, updS_yes s k _ _ Hd.out] at hB5
                  have HB5 := Lib.hid hB5
                  have HS5 := Lib.hid hS5
                  clear hB5 hS5
                  go_wp2
                  go_roundw
                  case rel => exact ⟨j + 1, by omega, by go_num, HB5.out, Hgj.out.trans HS5.out.grown⟩
                  case measure => (simp [intOf]) <;> omega
              | true =>
                rw [hjk] at hc
                cases nt with
                | false =>
                  have Hd : Hid ((decide (j = k) != false) = true) := Lib.hid (by rw [hjk]; rfl)
                  clear hsz hjk
                  go_wp2_with ((with_reducible show wpList _ _ _ (⟨none, _, _, _, _, _⟩ :: _) _ _); refine holdL ?_)
                  refine Lib.hid ?_
                  refine wpList_storeCN (v := .bool true) (o := ⟨none, _, _, _, _, _⟩) rfl _ (.tmp 54) _ rfl rfl rfl rfl hBj hij bool_size ?_
                  intro w5 hB5 hS5
                  rw [splA_set _ _ hjt ho, updS_yes s k _ _ Hd.out] at hB5
                  have HB5 := Lib.hid hB5
                  have HS5 := Lib.hid hS5
                  clear hB5 hS5
                  go_wp2
                  go_roundw
                  case rel => exact ⟨j + 1, by omega, by go_num, HB5.out, Hgj.out.trans HS5.out.grown⟩
                  case measure => (simp [intOf]) <;> omega
                | true =>
                  have Hd : Hid ((decide (j = k) != true) = false) := Lib.hid (by rw [hjk]; rfl)
                  clear hsz hjk
                  go_wp2
                  go_roundw
                  case rel => exact ⟨j + 1, by omega, by go_num, by rw [← updS_no s k _ _ Hd.out]; exact hBj, Hgj.out⟩
                  case measure => (simp [intOf]) <;> omega
            · have hj4 : j = 4 := by omega
              subst hj4
              go_wp2
              go_ret
              rw [HO2.out]
              exact ⟨rfl, hBj, Hgj.out⟩
        · have e1 : (statP (k : Int) == l2) = false := beq_eq_false_iff_ne.2 he
          have Hn2 : Hid (∀ j : Nat, j < k + 1 → statP (j : Int) ≠ l2) := Lib.hid (fun j hj => by
            by_cases h : j < k
            · exact Hno.out j h
            · obtain rfl : j = k := by omega
              exact he)
          have HS := Lib.hid (status_any k hlt wr)
          generalize statP (k : Int) = l3 at *
          clear he
          go_wp2_with (first
            | (go_at_call 44; refine HS.out.mono ?_; rintro e w4 ⟨rfl, rfl⟩))
          go_roundw
          case rel => exact ⟨k + 1, by omega, by go_num, Hn2.out, trivial⟩
          case measure => (simp [intOf]) <;> omega
      · have hk4 : k = 4 := by omega
        subst hk4
        have HO2 : Hid (o = (s, false)) := Lib.hid (by
          rw [HO.out]
          have h : statOf l2 = none := by
            unfold statOf
            rw [List.find?_range_eq_none]
            exact fun j hj => by have := Hno.out j hj; simpa using this
          rw [h])
        go_wp2
        go_ret
        rw [HO2.out]
        exact ⟨rfl, HBc.out, Hgc.out⟩
  · go_enter Tryd.func110, Tryd.ntmps110
    go_wp2_with (first
      | (go_at_call 140; refine HL.out.mono ?_; rintro e w1 ⟨rfl, hb1⟩; have Hb1 := Lib.hid hb1; clear hb1)
      | (go_at_call 80; refine (HC.out _).mono ?_; rintro e w2 ⟨rfl, hb2⟩; have Hb2 := Lib.hid (bel_tr Hb1.out hb2); clear hb2; refine holdL ?_))
    refine Lib.hid ?_
    have HBc := Lib.hid (HB.out.bel Hb2.out)
    have Hgc := Lib.hid (grown_some Hb2.out g)
    clear HL HC HB Hb2 Hb1
    go_wp2_with (first
      | (go_at_call 135; refine (HP2.out _).mono ?_; rintro e w3 ⟨rfl, rfl⟩))
    go_loopw [9, 33] (fun _ iv wr => ∃ k : Nat, k ≤ 4 ∧ iv = .int .i64 k ∧ (∀ j : Nat, j < k → statP (j : Int) ≠ l2) ∧ wr = w3) (fun _ iv _ => 4 - (intOf iv).toNat)
    case atStart => exact ⟨0, by omega, rfl, (fun j hj => absurd hj (Nat.not_lt_zero _)), rfl⟩
    case round =>
      obtain ⟨k, hk, rfl, hno, rfl⟩ := hrel
      have Hno := Lib.hid hno
      clear hno
      by_cases hlt : k < 4
      · have hkI : (k : Int) < 4 := by omega
        have hk0 : (0 : Int) ≤ (k : Int) := by omega
        by_cases he : statP (k : Int) = l2
        · have HO2 : Hid (o = (updS s k nt false 4, true)) := Lib.hid (by
            rw [HO.out]
            have h : statOf l2 = some k := by
              unfold statOf
              rw [List.find?_range_eq_some]
              exact ⟨by simpa using he, List.mem_range.2 hlt, fun j hj => by have := Hno.out j hj; simpa using this⟩
            rw [h])
          have HS := Lib.hid (status_any k hlt wr)
          rw [he] at HS
          clear he Hno HO
          go_wp2_with (first
            | (go_at_call 44; refine HS.out.mono ?_; rintro e w4 ⟨rfl, rfl⟩))
          go_loopw [10, 40] (fun _ jv wj => ∃ j : Nat, j ≤ 4 ∧ jv = .int .i64 j ∧ Bk wj g t (splA cs off (soL (updS s k nt false j))) ∧ w.grownBy wj (some g)) (fun _ jv _ => 4 - (intOf jv).toNat)
          case atStart => exact ⟨0, by omega, rfl, by rw [updS_0]; exact HBc.out, Hgc.out⟩
          case round =>
            obtain ⟨j, hj, rfl, hBj, hgj⟩ := hrel
            have Hgj := Lib.hid hgj
            clear hgj
            by_cases hjt : j < 4
            · have hjI : (j : Int) < 4 := by omega
              have hj0 : (0 : Int) ≤ (j : Int) := by omega
              have hsz : (splA cs off (soL (updS s k nt false j))).size = cs.size := splA_size (by rw [soL_len]; exact ho)
              have hij : off + 1 + j < (splA cs off (soL (updS s k nt false j))).size := by rw [hsz]; omega
              have hc : ((j : Int) == (k : Int)) = decide (j = k) := by
                rw [Bool.eq_iff_iff, beq_iff_eq, decide_eq_true_iff]
                omega
              cases hjk : decide (j = k) with
              | false =>
                rw [hjk] at hc
                cases nt with
                | false =>
                  have Hd : Hid ((decide (j = k) != false) = false) := Lib.hid (by rw [hjk]; rfl)
                  clear hsz hjk
                  go_wp2
                  go_roundw
                  case rel => exact ⟨j + 1, by omega, by go_num, by rw [← updS_no s k _ _ Hd.out]; exact hBj, Hgj.out⟩
                  case measure => (simp [intOf]) <;> omega
                | true =>
                  have Hd : Hid ((decide (j = k) != true) = true) := Lib.hid (by rw [hjk]; rfl)
                  clear hsz hjk
                  go_wp2_with ((with_reducible show wpList _ _ _ (⟨none, _, _, _, _, _⟩ :: _) _ _); refine holdL ?_)
                  refine Lib.hid ?_
                  refine wpList_storeCN (v := .bool false) (o := ⟨none, _, _, _, _, _⟩) rfl _ (.tmp 54) _ rfl rfl rfl rfl hBj hij bool_size ?_
                  intro w5 hB5 hS5
                  rw [splA_set _ _ hjt ho, updS_yes s k _ _ Hd.out] at hB5
                  have HB5 := Lib.hid hB5
                  have HS5 := Lib.hid hS5
                  clear hB5 hS5
                  go_wp2
                  go_roundw
                  case rel => exact ⟨j + 1, by omega, by go_num, HB5.out, Hgj.out.trans HS5.out.grown⟩
                  case measure => (simp [intOf]) <;> omega
              | true =>
                rw [hjk] at hc
                cases nt with
                | false =>
                  have Hd : Hid ((decide (j = k) != false) = true) := Lib.hid (by rw [hjk]; rfl)
                  clear hsz hjk
                  go_wp2_with ((with_reducible show wpList _ _ _ (⟨none, _, _, _, _, _⟩ :: _) _ _); refine holdL ?_)
                  refine Lib.hid ?_
                  refine wpList_storeCN (v := .bool false) (o := ⟨none, _, _, _, _, _⟩) rfl _ (.tmp 54) _ rfl rfl rfl rfl hBj hij bool_size ?_
                  intro w5 hB5 hS5
                  rw [splA_set _ _ hjt ho, updS_yes s k _ _ Hd.out] at hB5
                  have HB5 := Lib.hid hB5
                  have HS5 := Lib.hid hS5
                  clear hB5 hS5
                  go_wp2
                  go_roundw
                  case rel => exact ⟨j + 1, by omega, by go_num, HB5.out, Hgj.out.trans HS5.out.grown⟩
                  case measure => (simp [intOf]) <;> omega
                | true =>
                  have Hd : Hid ((decide (j = k) != true) = false) := Lib.hid (by rw [hjk]; rfl)
                  clear hsz hjk
                  go_wp2
                  go_roundw
                  case rel => exact ⟨j + 1, by omega, by go_num, by rw [← updS_no s k _ _ Hd.out]; exact hBj, Hgj.out⟩
                  case measure => (simp [intOf]) <;> omega
            · have hj4 : j = 4 := by omega
              subst hj4
              go_wp2
              go_ret
              rw [HO2.out]
              exact ⟨rfl, hBj, Hgj.out⟩
        · have e1 : (statP (k : Int) == l2) = false := beq_eq_false_iff_ne.2 he
          have Hn2 : Hid (∀ j : Nat, j < k + 1 → statP (j : Int) ≠ l2) := Lib.hid (fun j hj => by
            by_cases h : j < k
            · exact Hno.out j h
            · obtain rfl : j = k := by omega
              exact he)
          have HS := Lib.hid (status_any k hlt wr)
          generalize statP (k : Int) = l3 at *
          clear he
          go_wp2_with (first
            | (go_at_call 44; refine HS.out.mono ?_; rintro e w4 ⟨rfl, rfl⟩))
          go_roundw
          case rel => exact ⟨k + 1, by omega, by go_num, Hn2.out, trivial⟩
          case measure => (simp [intOf]) <;> omega
      · have hk4 : k = 4 := by omega
        subst hk4
        have HO2 : Hid (o = (s, false)) := Lib.hid (by
          rw [HO.out]
          have h : statOf l2 = none := by
            unfold statOf
            rw [List.find?_range_eq_none]
            exact fun j hj => by have := Hno.out j hj; simpa using this
          rw [h])
        go_wp2
        go_ret
        rw [HO2.out]
        exact ⟨rfl, HBc.out, Hgc.out⟩
set_option maxRecDepth 100000 in
set_option maxHeartbeats 4000000 in
theorem item_any (s : So) (it : List UInt8) (g off : Nat) (t : TypeId) (cs : Array Value) (w : World) (hB : Bk w g t (splA cs off (soL s))) (ho : off + 5 ≤ cs.size) (hl : it.length ≤ 1000000) :
    Calls Tryd.prog 110 #[.pointer (some ⟨g, off, none⟩), .string ⟨it.toArray⟩] w (ItPost w g t cs off (itP s it)) := by
  have HL := Lib.hid (lower_any it w (by omega))
  have hlow : (low it).length ≤ 1000000 := by rw [low_len]; exact hl
  obtain ⟨o, hO⟩ : ∃ o, o = itP s it := ⟨_, rfl⟩
  rw [← hO]
  unfold itP at hO
  generalize low it = x at *
  have HB := Lib.hid hB
  clear hB
  cases hx : idx 61 x with
  | none =>
    rw [hx] at hO
    have HO : Hid (o = (s, false)) := Lib.hid hO
    have HX := Lib.hid hx
    clear hx hO
    go_enter Tryd.func110, Tryd.ntmps110
    go_wp2_with (first
      | (go_at_call 140; refine HL.out.mono ?_; rintro e w1 ⟨rfl, hb1⟩; have Hb1 := Lib.hid hb1; clear hb1)
      | (go_at_call 80; refine (cut_none HX.out (by omega)).mono ?_; rintro e w2 ⟨rfl, hb2⟩; have Hb2 := Lib.hid (bel_tr Hb1.out hb2); clear hb2))
    go_ret
    rw [HO.out]
    exact ⟨rfl, HB.out.bel Hb2.out, grown_some Hb2.out g⟩
  | some k =>
    rw [hx] at hO
    dsimp only at hO
    have HC : Hid (∀ w', Calls Tryd.prog 80 #[.string ⟨x.toArray⟩, .int .u8 ((61 : UInt8).toNat : Int)] w' fun e w'' => e = .returned (.tuple #[.string ⟨(x.take k).toArray⟩, .string ⟨(x.drop (k + 1)).toArray⟩, .bool true]) ∧ Below w'.heap.size w' w'') := Lib.hid (fun w' => cut_some hx (by omega))
    generalize x.take k = lf at *
    generalize x.drop (k + 1) = rg at *
    clear hx
    by_cases hr : rg ≠ retT ∧ rg ≠ conT
    · have HO : Hid (o = (s, false)) := Lib.hid (by rw [hO, if_pos hr])
      have r1 : (rg == [114, 101, 116, 117, 114, 110]) = false := beq_eq_false_iff_ne.2 hr.1
      have r2 : (rg == [99, 111, 110, 116, 105, 110, 117, 101]) = false := beq_eq_false_iff_ne.2 hr.2
      clear hO hr
      go_enter Tryd.func110, Tryd.ntmps110
      go_wp2_with (first
        | (go_at_call 140; refine HL.out.mono ?_; rintro e w1 ⟨rfl, hb1⟩; have Hb1 := Lib.hid hb1; clear hb1)
        | (go_at_call 80; refine (HC.out _).mono ?_; rintro e w2 ⟨rfl, hb2⟩; have Hb2 := Lib.hid (bel_tr Hb1.out hb2); clear hb2))
      go_ret
      rw [HO.out]
      exact ⟨rfl, HB.out.bel Hb2.out, grown_some Hb2.out g⟩
    · rw [if_neg hr] at hO
      have HP := Lib.hid (fun (w' : World) => Tryd.strings_CutPrefix ⟨lf.toArray⟩ ⟨#[33]⟩ w')
      have HP2 : Hid (∀ w', Calls Tryd.prog 135 #[.string ⟨lf.toArray⟩, .string ⟨#[33]⟩] w' fun e w'' => e = .returned (.tuple #[.string ⟨(Lib.trimPrefix lf [33]).toArray⟩, .bool (Lib.hasPrefix lf [33])]) ∧ w'' = w') := Lib.hid (fun w' => HP.out w')
      generalize Lib.trimPrefix lf [33] = l2 at *
      generalize Lib.hasPrefix lf [33] = nt at *
      have hrr : rg = retT ∨ rg = conT := by
        by_cases h1 : rg = retT
        · exact .inl h1
        · by_cases h2 : rg = conT
          · exact .inr h2
          · exact absurd ⟨h1, h2⟩ hr
      have hkey : ∀ rb : Bool, ((rg = [114, 101, 116, 117, 114, 110] ∧ rb = true) ∨ (rg = [99, 111, 110, 116, 105, 110, 117, 101] ∧ rb = false)) → (o = match statOf l2 with
          | none => (s, false)
          | some st => (updS s st nt rb 4, true)) → Calls Tryd.prog 110 #[.pointer (some ⟨g, off, none⟩), .string ⟨it.toArray⟩] w (ItPost w g t cs off o) := by
        intro rb hrb hO
        exact item_tail s it x rg l2 lf nt rb o g off t cs w HL.out HC.out HP2.out HB.out ho hlow hrb hO
      rcases hrr with h | h
      · exact hkey true (.inl ⟨h, rfl⟩) (by rw [hO, decide_eq_true h])
      · exact hkey false (.inr ⟨h, rfl⟩) (by rw [hO, decide_eq_false (by rw [h]; decide)])
end Go.Proofs.YtgebcifkbldfoaaDoor

/- nss.clause: what stands within a clause. -/
namespace Go.Proofs.YtgebcifkbldfoaaDoor
open Go.RowKit
attribute [local go_sem] ba_get ext_take ext_drop ext_any ba_app

set_option maxRecDepth 100000 in
set_option maxHeartbeats 1000000 in
theorem fieldsW_any (l : List UInt8) (w : World) (hl : l.length ≤ 1000000000) : Calls Tryd.prog 49 #[.string ⟨l.toArray⟩] w (TextsOwn w (flds l)) := by
  go_enter Tryd.func49, Tryd.ntmps49
  go_wp2
  go_loopw [3, 4] (fun v i wr => ∃ k : Nat, k ≤ l.length ∧ i = .int .i64 k ∧ FldRel w l k v wr) (fun _ i _ => l.length - (intOf i).toNat)
  case atStart => exact ⟨0, Nat.zero_le _, rfl, [], rfl, Nat.le_refl _, World.ownsRow_nil _ _ _ _, Below.refl _ _⟩
  case round =>
    obtain ⟨k, hk, rfl, done, h1, h2, h3, h4⟩ := hrel
    have H1 := Lib.hid h1
    clear h1
    have hsz := h4.size
    by_cases hlt : k < l.length
    · have i1 : (k : Int) < (l.length : Int) := by omega
      rcases hb : blB l[k]
      · have Hb := Lib.hid hb
        clear hb
        go_wp2_with fail
        refine (blank_any _ _).mono ?_
        rintro e w' ⟨rfl, rfl⟩
        rw [Hb.out]
        go_wp2_with fail
        go_loop [5] (fun i => ∃ j : Nat, k ≤ j ∧ j ≤ l.length ∧ i = .int .i64 j ∧ fldR [] (l.drop k) = fldR ((l.take j).drop k) (l.drop j) ∧ (j = k ∨ k < j)) (fun i => l.length - (intOf i).toNat)
        case atStart => exact ⟨k, Nat.le_refl _, hk, rfl, by rw [List.drop_take, Nat.sub_self, List.take_zero], .inl rfl⟩
        case round =>
          obtain ⟨j, hkj, hj, rfl, hf, hjk⟩ := hrel
          have Hf := Lib.hid hf
          clear hf
          by_cases hgo : ∃ h : j < l.length, blB l[j] = false
          · obtain ⟨hjl, hbj⟩ := hgo
            have i2 : (j : Int) < (l.length : Int) := by omega
            have hst := fldR_step (word := (l.take j).drop k) hjl hbj
            have hnx : fldR [] (l.drop k) = fldR ((l.take (j + 1)).drop k) (l.drop (j + 1)) := by
              rw [Hf.out, hst, List.take_succ_eq_append_getElem hjl, List.drop_append_of_le_length (by rw [List.length_take]; omega)]
            have Hnx := Lib.hid hnx
            have Hbj := Lib.hid hbj
            clear hst hnx hbj
            go_wp2_with fail
            refine (blank_any _ _).mono ?_
            rintro e w' ⟨rfl, rfl⟩
            rw [Hbj.out]
            go_wp2_with fail
            go_round
            case rel => exact ⟨j + 1, by omega, by omega, by go_num, Hnx.out, .inr (by omega)⟩
            case measure => simp [intOf]; omega
          · have hjk2 : k < j := by
              rcases hjk with h | h
              · subst h; exact absurd ⟨hlt, Hb.out⟩ hgo
              · exact h
            have hword : (l.take j).drop k ≠ [] := by
              intro h
              have := congrArg List.length h
              rw [List.length_drop, List.length_take] at this
              simp at this
              omega
            have hbl : ∀ h : j < l.length, blB l[j] = true := by
              intro h
              cases hh : blB l[j]
              · exact absurd ⟨h, hh⟩ hgo
              · rfl
            have hfin : flds l = (done ++ [(l.take j).drop k]) ++ fldR [] (l.drop j) := by
              rw [H1.out, Hf.out, fldR_word hj hword hbl]; simp
            have Hfin := Lib.hid hfin
            clear hfin
            by_cases hjl : j < l.length
            · have i2 : (j : Int) < (l.length : Int) := by omega
              have Hbj := Lib.hid (hbl hjl)
              clear hbl hgo
              go_wp2_with fail
              refine (blank_any _ _).mono ?_
              rintro e w' ⟨rfl, rfl⟩
              rw [Hbj.out]
              go_wp2_with (at_builtin; refine wpList_appLit rfl _ _ _ rfl elt_strs (n := done.length) rfl h3 [stv ((l.take j).drop k)] (m := 1) rfl rfl (by simp [Value.oneCell', stv]) hsz (by omega) (by omega) ?_; intro v1 w1 ho1 hb1 hg1)
              go_roundw
              case rel => exact ⟨j, hj, rfl, done ++ [(l.take j).drop k], Hfin.out, by simp; omega, by simpa using ho1, h4.trans hb1⟩
              case measure => simp [intOf]; omega
            · have i2 : ¬ (j : Int) < (l.length : Int) := by omega
              clear hbl hgo
              go_wp2_with (at_builtin; refine wpList_appLit rfl _ _ _ rfl elt_strs (n := done.length) rfl h3 [stv ((l.take j).drop k)] (m := 1) rfl rfl (by simp [Value.oneCell', stv]) hsz (by omega) (by omega) ?_; intro v1 w1 ho1 hb1 hg1)
              go_roundw
              case rel => exact ⟨j, hj, rfl, done ++ [(l.take j).drop k], Hfin.out, by simp; omega, by simpa using ho1, h4.trans hb1⟩
              case measure => simp [intOf]; omega
      · have hnx := fldR_blank hlt hb
        have hfin : flds l = done ++ fldR [] (l.drop (k + 1)) := by rw [H1.out, hnx]
        have Hfin := Lib.hid hfin
        have Hb := Lib.hid hb
        clear hb hnx hfin
        go_wp2_with fail
        refine (blank_any _ _).mono ?_
        rintro e w' ⟨rfl, rfl⟩
        rw [Hb.out]
        go_wp2_with fail
        go_roundw
        case rel => exact ⟨k + 1, by omega, by go_num, done, Hfin.out, by omega, h3, h4⟩
        case measure => simp [intOf]; omega
    · have i1 : ¬ (k : Int) < (l.length : Int) := by omega
      have hfin : flds l = done := by
        rw [H1.out, List.drop_eq_nil_of_le (by omega)]; simp [fldR]
      have Hfin := Lib.hid hfin
      clear hfin
      go_wp2
      go_ret
      rw [Hfin.out]
      exact ⟨_, rfl, h3, h4⟩
/-- what the items make of a source, and whether all are items. -/
def itsP : So → List (List UInt8) → So × Bool
  | s, [] => (s, true)
  | s, it :: r => if (itP s it).2 = true then itsP (itP s it).1 r else ((itP s it).1, false)
def clP (s : So) (l : List UInt8) : So × Bool := ((itsP s (flds l)).1, (itsP s (flds l)).2 && decide (0 < (flds l).length))
theorem own_keptg {W W' : World} {b size n g : Nat} {e : TypeId} {v : Value} {xs : List Value} (hs : W.ownsRow b e size v n xs) (hg : W.grownBy W' (some g)) (h : g < b) : W'.ownsRow b e size v n xs := by
  refine hs.kept hg ?_
  rcases hs.2 with ⟨rfl, _⟩ | ⟨g', cap, cur, rfl, hb', hg', _⟩
  · exact .inl rfl
  · refine .inr ?_
    have : g' ≠ g := by omega
    simpa [Value.ownBlock] using this
theorem flds_mem {l x : List UInt8} (h : x ∈ flds l) : x.length ≤ l.length := by
  have := fldR_mem l [] x h
  simpa using this
set_option maxRecDepth 100000 in
set_option maxHeartbeats 4000000 in
theorem clause_any (s : So) (l : List UInt8) (g off : Nat) (t : TypeId) (cs : Array Value) (w : World) (hB : Bk w g t (splA cs off (soL s))) (ho : off + 5 ≤ cs.size) (hl : l.length ≤ 1000000) :
    Calls Tryd.prog 81 #[.pointer (some ⟨g, off, none⟩), .string ⟨l.toArray⟩] w (ItPost w g t cs off (clP s l)) := by
  have HF := Lib.hid (fieldsW_any l w (by omega))
  have hm : Hid (∀ x ∈ flds l, x.length ≤ 1000000) := Lib.hid (fun x hx => Nat.le_trans (flds_mem hx) hl)
  have hn : (flds l).length ≤ 1000000 := Nat.le_trans (flds_len l) hl
  have hgl := hB.lt
  have HB := Lib.hid hB
  clear hB
  unfold clP
  generalize flds l = F at *
  cases F with
  | nil =>
    go_enter Tryd.func81, Tryd.ntmps81
    go_wp2_with (first
      | (go_at_call 49; refine HF.out.mono ?_; rintro e w1 ⟨v, rfl, hO, hb1⟩; obtain ⟨A, c, rfl⟩ := own_any hO; have HB1 := Lib.hid (HB.out.bel hb1); have Hg1 := Lib.hid (grown_some hb1 g); clear hO hb1))
    go_loopw [7, 12] (fun _ iv wr => iv = .int .i64 0 ∧ Bk wr g t (splA cs off (soL s)) ∧ w.grownBy wr (some g)) (fun _ _ _ => 0)
    case atStart => exact ⟨rfl, HB1.out, Hg1.out⟩
    case round =>
      obtain ⟨rfl, hB2, hg2⟩ := hrel
      go_wp2
      go_ret
      exact ⟨rfl, hB2, hg2⟩
  | cons f R =>
    generalize hFq : f :: R = F at *
    have hp : 0 < F.length := by rw [← hFq]; simp
    have hpI : (0 : Int) < (F.length : Int) := by omega
    clear hFq
    go_enter Tryd.func81, Tryd.ntmps81
    go_wp2_with (first
      | (go_at_call 49; refine HF.out.mono ?_; rintro e w1 ⟨v, rfl, hO, hb1⟩; obtain ⟨b, o1, c, rfl, _, _, _⟩ := (Sl.own hO).pos hp; have HO := Lib.hid hO; have HB1 := Lib.hid (HB.out.bel hb1); have Hg1 := Lib.hid (grown_some hb1 g); clear hO hb1))
    go_loopw [7, 12] (fun _ iv wr => ∃ k : Nat, ∃ s' : So, k ≤ F.length ∧ iv = .int .i64 k ∧ itsP s F = itsP s' (F.drop k) ∧ Bk wr g t (splA cs off (soL s')) ∧ w.grownBy wr (some g) ∧ wr.ownsRow w.heap.size 9 1 (.slice (some ⟨b, o1, none⟩) F.length c) F.length (F.map stv)) (fun _ iv _ => F.length - (intOf iv).toNat)
    case atStart => exact ⟨0, s, by omega, rfl, rfl, HB1.out, Hg1.out, HO.out⟩
    case round =>
      obtain ⟨k, s', hk, rfl, hit, hB2, hg2, hO2⟩ := hrel
      have Hit := Lib.hid hit
      have HB2 := Lib.hid hB2
      have Hg2 := Lib.hid hg2
      have HO2 := Lib.hid hO2
      clear hit hB2 hg2 hO2
      by_cases hlt : k < F.length
      · have hltI : (k : Int) < (F.length : Int) := by omega
        have hk0 : (0 : Int) ≤ (k : Int) := by omega
        have hcell : wr.cell? ⟨b, o1 + k, none⟩ = some (.string ⟨F[k].toArray⟩) := by
          obtain ⟨b', o', c', he, _, _, hc⟩ := (Sl.own HO2.out).pos hp
          cases he
          exact hc k _ (by rw [List.getElem?_map, List.getElem?_eq_getElem hlt]; rfl)
        have HI := Lib.hid (item_any s' F[k] g off t cs wr HB2.out ho (hm.out _ (List.getElem_mem hlt)))
        have hdr : F.drop k = F[k] :: F.drop (k + 1) := List.drop_eq_getElem_cons hlt
        cases h2 : (itP s' F[k]).2 with
        | true =>
          have Hn : Hid (itsP s F = itsP (itP s' F[k]).1 (F.drop (k + 1))) := Lib.hid (by rw [Hit.out, hdr, itsP, if_pos h2])
          have HI2 : Hid (Calls Tryd.prog 110 #[.pointer (some ⟨g, off, none⟩), .string ⟨F[k].toArray⟩] wr fun e w' => e = .returned (.bool true) ∧ Bk w' g t (splA cs off (soL (itP s' F[k]).1)) ∧ wr.grownBy w' (some g)) := Lib.hid (HI.out.mono fun e w' ⟨he, h3, h4⟩ => ⟨by rw [he, h2], h3, h4⟩)
          clear HI hdr h2
          go_wp2_with (first
            | (go_at_call 110; refine HI2.out.mono ?_; rintro e w4 ⟨rfl, hB4, hg4⟩; have HB4 := Lib.hid hB4; have Hg4 := Lib.hid hg4; clear hB4 hg4 hcell))
          go_roundw
          case rel => exact ⟨k + 1, (itP s' F[k]).1, by omega, by go_num, Hn.out, HB4.out, Hg2.out.trans Hg4.out, own_keptg HO2.out Hg4.out hgl⟩
          case measure => (simp [intOf]) <;> omega
        | false =>
          have Hn : Hid (itsP s F = ((itP s' F[k]).1, false)) := Lib.hid (by rw [Hit.out, hdr, itsP, if_neg (by rw [h2]; simp)])
          have HI2 : Hid (Calls Tryd.prog 110 #[.pointer (some ⟨g, off, none⟩), .string ⟨F[k].toArray⟩] wr fun e w' => e = .returned (.bool false) ∧ Bk w' g t (splA cs off (soL (itP s' F[k]).1)) ∧ wr.grownBy w' (some g)) := Lib.hid (HI.out.mono fun e w' ⟨he, h3, h4⟩ => ⟨by rw [he, h2], h3, h4⟩)
          clear HI hdr h2
          go_wp2_with (first
            | (go_at_call 110; refine HI2.out.mono ?_; rintro e w4 ⟨rfl, hB4, hg4⟩; have HB4 := Lib.hid hB4; have Hg4 := Lib.hid hg4; clear hB4 hg4 hcell))
          go_ret
          rw [Hn.out]
          exact ⟨rfl, HB4.out, Hg2.out.trans Hg4.out⟩
      · have hkn : k = F.length := by omega
        subst hkn
        have Hn : Hid (itsP s F = (s', true)) := Lib.hid (by rw [Hit.out, List.drop_length, itsP])
        go_wp2
        go_ret
        rw [Hn.out]
        exact ⟨by rw [decide_eq_true hp]; rfl, HB2.out, Hg2.out⟩
end Go.Proofs.YtgebcifkbldfoaaDoor

/- nss.sources in plain words. -/
namespace Go.Proofs.YtgebcifkbldfoaaDoor
open Go.RowKit

/-- where a word ends. -/
def enB (b : UInt8) : Bool := b == 32 || b == 9 || b == 91
def endW : List UInt8 → Nat
  | [] => 0
  | b :: r => if enB b = true then 0 else endW r + 1
theorem endW_le : ∀ x : List UInt8, endW x ≤ x.length
  | [] => Nat.le_refl _
  | b :: r => by
    unfold endW
    by_cases h : enB b = true
    · rw [if_pos h]; exact Nat.zero_le _
    · rw [if_neg h, List.length_cons]; exact Nat.succ_le_succ (endW_le r)
theorem enB_in (b : UInt8) : List.contains [32, 9, 91] b = enB b := by
  unfold enB
  rw [Bool.eq_iff_iff]
  simp [or_assoc]
theorem any_end : ∀ x : List UInt8, Lib.indexAny x [32, 9, 91] = if endW x < x.length then (endW x : Int) else -1
  | [] => rfl
  | b :: r => by
    have ih := any_end r
    have hle := endW_le r
    unfold Lib.indexAny endW
    rw [enB_in, ih]
    by_cases h : enB b = true
    · rw [if_pos h, if_pos h, if_pos (by simp)]; rfl
    · rw [if_neg h, if_neg h, List.length_cons]
      by_cases hl : endW r < r.length
      · rw [if_pos hl, if_neg (by rw [beq_iff_eq]; omega), if_pos (by omega)]; rfl
      · rw [if_neg hl, if_pos (by decide), if_neg (by omega)]
/-- a step of the sources: x begins with no blank. -/
def srcS (L : List So) : List UInt8 → Option (List So × List UInt8)
  | [] => none
  | c :: r => if c = 91 then match idx 93 r with
      | none => none
      | some k => match L.getLast? with
        | none => none
        | some s => if (clP s (r.take k)).2 = true then some (L.dropLast ++ [(clP s (r.take k)).1], r.drop (k + 1)) else none
    else if (idx 93 ((c :: r).take (endW (c :: r)))).isSome = true then none else some (L ++ [soK (kindP ((c :: r).take (endW (c :: r))))], (c :: r).drop (endW (c :: r)))
def srcF : Nat → List So → List UInt8 → Option (List So)
  | 0, _, _ => none
  | n + 1, L, l => if trimL l = [] then some L else match srcS L (trimL l) with
    | none => none
    | some o => srcF n o.1 o.2
theorem trimL_le (l : List UInt8) : (trimL l).length ≤ l.length := (List.dropWhile_sublist _).length_le
theorem trimL_sub (l : List UInt8) : ∀ b ∈ trimL l, b ∈ l := fun _ h => (List.dropWhile_sublist _).subset h
theorem trimL_hd : ∀ {l : List UInt8} {c : UInt8} {r : List UInt8}, trimL l = c :: r → blB c = false
  | [], _, _, h => by cases h
  | b :: t, c, r, h => by
    unfold trimL at h
    rw [List.dropWhile_cons] at h
    by_cases hb : blB b = true
    · rw [if_pos hb] at h
      exact trimL_hd h
    · rw [if_neg hb] at h
      cases h
      simpa using hb
def Asc (l : List UInt8) : Prop := ∀ b ∈ l, b.toNat < 128
theorem endW_pos {c : UInt8} {r : List UInt8} (h1 : blB c = false) (h2 : c ≠ 91) : 0 < endW (c :: r) := by
  unfold endW
  have : enB c = false := by
    unfold enB
    have h3 : c ≠ 32 := fun h => by subst h; cases h1
    have h4 : c ≠ 9 := fun h => by subst h; cases h1
    simp [h2, h3, h4]
  rw [if_neg (by rw [this]; simp)]
  exact Nat.succ_pos _
def SrcPost (w : World) (o : Option (List So)) (e : Ending) (w' : World) : Prop := match o with
  | none => e = .returned (.tuple #[.slice none 0 0, .bool false]) ∧ Below w.heap.size w w'
  | some L => ∃ v, e = .returned (.tuple #[v, .bool (decide (0 < L.length))]) ∧ w'.ownsRow w.heap.size 27 5 v L.length (L.flatMap soL) ∧ Below w.heap.size w w'
end Go.Proofs.YtgebcifkbldfoaaDoor

/- nss.sources: what a line of sources says. -/
namespace Go.Proofs.YtgebcifkbldfoaaDoor
open Go.RowKit
attribute [local go_sem] ba_get ext_take ext_drop ext_any ba_app

theorem indexAny_end (x : List UInt8) (w : World) (hl : x.length ≤ 1000000) (ha : Asc x) : Calls Tryd.prog 82 #[.string ⟨x.toArray⟩, .string ⟨#[32, 9, 91]⟩] w fun e w' => e = .returned (.int .i64 (if endW x < x.length then (endW x : Int) else -1)) ∧ Below w.heap.size w w' := by
  have h := Tryd.strings_IndexAny_laid ⟨x.toArray⟩ ⟨#[32, 9, 91]⟩ w (by show x.toArray.size < _; rw [List.size_toArray]; omega) (by decide) (fun j b hb => ha b (List.mem_of_getElem? hb)) (fun j b hb => by
    have hm : b ∈ ([32, 9, 91] : List UInt8) := List.mem_of_getElem? hb
    simp at hm
    rcases hm with rfl | rfl | rfl <;> decide)
  refine h.mono fun e w' ⟨he, hb⟩ => ⟨?_, hb⟩
  rw [he]
  exact congrArg (fun z => Ending.returned (.int .i64 z)) (any_end x)
theorem indexByte_no {c : UInt8} {x : List UInt8} (w : World) (h : idx c x = none) : Calls Tryd.prog 83 #[.string ⟨x.toArray⟩, .int .u8 (c.toNat : Int)] w fun e w' => e = .returned (.int .i64 (-1)) ∧ w = w' := by
  have := Tryd.strings_IndexByte ⟨x.toArray⟩ (c.toNat : Int) w
  rw [Int.toNat_natCast, show c.toNat.toUInt8 = c by simp] at this
  refine this.mono fun e w' ⟨he, hw⟩ => ⟨?_, hw.symm⟩
  rw [he]
  exact congrArg (fun z => Ending.returned (.int .i64 z)) ((lib_idx x c).trans (by rw [h]))
theorem indexByte_yes {c : UInt8} {x : List UInt8} {k : Nat} (w : World) (h : idx c x = some k) : Calls Tryd.prog 83 #[.string ⟨x.toArray⟩, .int .u8 (c.toNat : Int)] w fun e w' => e = .returned (.int .i64 (k : Int)) ∧ w = w' := by
  have := Tryd.strings_IndexByte ⟨x.toArray⟩ (c.toNat : Int) w
  rw [Int.toNat_natCast, show c.toNat.toUInt8 = c by simp] at this
  refine this.mono fun e w' ⟨he, hw⟩ => ⟨?_, hw.symm⟩
  rw [he]
  exact congrArg (fun z => Ending.returned (.int .i64 z)) ((lib_idx x c).trans (by rw [h]))
theorem srcS_no {L : List So} {r : List UInt8} (h : idx 93 r = none) : srcS L (91 :: r) = none := by
  rw [srcS, if_pos rfl]
  rw [h]
theorem srcS_nil {r : List UInt8} : srcS [] (91 :: r) = none := by
  rw [srcS, if_pos rfl]
  cases idx 93 r <;> rfl
theorem srcS_cl {M : List So} {s : So} {r : List UInt8} {k : Nat} (h : idx 93 r = some k) : srcS (M ++ [s]) (91 :: r) = if (clP s (r.take k)).2 = true then some (M ++ [(clP s (r.take k)).1], r.drop (k + 1)) else none := by
  rw [srcS, if_pos rfl]
  rw [h]
  dsimp only
  rw [List.getLast?_concat, List.dropLast_concat]
theorem srcS_w {L : List So} {c : UInt8} {r : List UInt8} (h : c ≠ 91) : srcS L (c :: r) = if (idx 93 ((c :: r).take (endW (c :: r)))).isSome = true then none else some (L ++ [soK (kindP ((c :: r).take (endW (c :: r))))], (c :: r).drop (endW (c :: r))) := by
  rw [srcS, if_neg h]
theorem idx_ltS {c : UInt8} : ∀ {l : List UInt8} {k : Nat}, idx c l = some k → k < l.length
  | [], _, h => by cases h
  | b :: r, k, h => by
    unfold idx at h
    by_cases hb : b = c
    · rw [if_pos hb] at h; cases h; exact Nat.succ_pos _
    · rw [if_neg hb] at h
      cases hr : idx c r with
      | none => rw [hr] at h; cases h
      | some j => rw [hr] at h; cases h; exact Nat.succ_lt_succ (idx_ltS hr)
/-- between two rounds. -/
structure SrcRel (w : World) (o : Option (List So)) (N : Nat) (l : List UInt8) (v : Value) (wr : World) (L : List So) : Prop where
  go : ∃ n, l.length < n ∧ o = srcF n L l
  asc : Asc l
  few : L.length + l.length ≤ N
  own : wr.ownsRow w.heap.size 27 5 v L.length (L.flatMap soL)
  b : Below w.heap.size w wr
theorem SrcRel.none {w : World} {o : Option (List So)} {N : Nat} {l : List UInt8} {v : Value} {wr : World} {L : List So} (h : SrcRel w o N l v wr L) (h0 : trimL l ≠ []) (h1 : srcS L (trimL l) = none) : o = none := by
  obtain ⟨n, hn, rfl⟩ := h.go
  cases n with
  | zero => rfl
  | succ n => rw [srcF, if_neg h0, h1]
theorem SrcRel.done {w : World} {o : Option (List So)} {N : Nat} {l : List UInt8} {v : Value} {wr : World} {L : List So} (h : SrcRel w o N l v wr L) (h0 : trimL l = []) : o = some L := by
  obtain ⟨n, hn, rfl⟩ := h.go
  cases n with
  | zero => omega
  | succ n => rw [srcF, if_pos h0]
theorem SrcRel.step {w : World} {o : Option (List So)} {N : Nat} {l l' : List UInt8} {v : Value} {wr : World} {L L' : List So} (h : SrcRel w o N l v wr L) (h0 : trimL l ≠ []) (h1 : srcS L (trimL l) = some (L', l')) (hl : l'.length < l.length) : ∃ n, l'.length < n ∧ o = srcF n L' l' := by
  obtain ⟨n, hn, ho⟩ := h.go
  cases n with
  | zero => omega
  | succ n => exact ⟨n, by omega, by rw [ho, srcF, if_neg h0, h1]⟩
set_option maxRecDepth 100000 in
set_option maxHeartbeats 4000000 in
theorem sources_any (l0 : List UInt8) (w : World) (hl0 : l0.length ≤ 1000000) (ha0 : Asc l0) :
    Calls Tryd.prog 47 #[.string ⟨l0.toArray⟩] w (SrcPost w (srcF (l0.length + 1) [] l0)) := by
  obtain ⟨o, hO⟩ : ∃ o, o = srcF (l0.length + 1) [] l0 := ⟨_, rfl⟩
  obtain ⟨N, hN⟩ : ∃ N, N = l0.length := ⟨_, rfl⟩
  have hNl : N ≤ 1000000 := by omega
  have R0 : Hid (SrcRel w o N l0 (.slice none 0 0) w []) := Lib.hid ⟨⟨_, Nat.lt_succ_self _, hO⟩, ha0, by simp [hN], World.ownsRow_nil _ _ _ _, Below.refl _ _⟩
  rw [← hO]
  clear hO ha0
  go_enter Tryd.func47, Tryd.ntmps47
  go_wp2
  go_loopw [0, 4, 5, 6, 7, 8] (fun sv lv _ _ _ _ wr => ∃ l : List UInt8, ∃ L : List So, sv = .string ⟨l.toArray⟩ ∧ SrcRel w o N l lv wr L) (fun sv _ _ _ _ _ _ => strLen sv)
  case atStart => exact ⟨l0, [], rfl, R0.out⟩
  case round =>
    obtain ⟨l, L, rfl, hR⟩ := hrel
    have R := Lib.hid hR
    have hlN : L.length + l.length ≤ N := hR.few
    clear hR R0 hN hl0
    have HT := Lib.hid (fun w' => trimL_any l w' (by omega))
    obtain ⟨A, c0, hv⟩ := own_any R.out.own
    subst hv
    cases hx : trimL l with
    | nil =>
      have HO := Lib.hid (R.out.done hx)
      rw [hx] at HT
      clear hx
      go_wp2_with (first
        | (go_at_call 79; refine (HT.out _).mono ?_; rintro e w1 ⟨rfl, hb1⟩; have Hb1 := Lib.hid hb1; clear hb1; refine holdL ?_))
      refine Lib.hid ?_
      generalize hn : L.length = n at *
      have HN := Lib.hid hn
      clear hn
      go_wp2
      go_ret2
      rw [HO.out]
      refine ⟨_, ?_, own_below R.out.own Hb1.out, bel_tr R.out.b Hb1.out⟩
      rw [HN.out]
      simp
    | cons c r =>
      have Hne : Hid (trimL l ≠ []) := Lib.hid (by rw [hx]; simp)
      have hcl : r.length + 1 ≤ l.length := by have := trimL_le l; rw [hx] at this; simpa using this
      have Hasc : Hid (Asc (c :: r)) := Lib.hid (fun b hb => R.out.asc b (trimL_sub l b (by rw [hx]; exact hb)))
      have HX := Lib.hid hx
      rw [hx] at HT
      by_cases hc : c = 91
      · subst hc
        cases hk : idx 93 r with
        | none =>
          have HO := Lib.hid (R.out.none Hne.out (by rw [hx]; exact srcS_no hk))
          have HC : Hid (∀ w', Calls Tryd.prog 80 #[.string ⟨r.toArray⟩, .int .u8 ((93 : UInt8).toNat : Int)] w' fun e w'' => e = .returned (.tuple #[stv r, stv [], .bool false]) ∧ Below w'.heap.size w' w'') := Lib.hid (fun w' => cut_none hk (by omega))
          clear hx hk
          go_wp2_with (first
            | (go_at_call 79; refine (HT.out _).mono ?_; rintro e w1 ⟨rfl, hb1⟩; have Hb1 := Lib.hid hb1; clear hb1; refine holdL ?_)
            | (go_at_call 80; refine (HC.out _).mono ?_; rintro e w2 ⟨rfl, hb2⟩; have Hb2 := Lib.hid (bel_tr Hb1.out hb2); clear hb2; refine holdL ?_))
          refine Lib.hid ?_
          go_wp2_with (first
            | (go_at_call 80; refine (HC.out _).mono ?_; rintro e w2 ⟨rfl, hb2⟩; have Hb2 := Lib.hid (bel_tr Hb1.out hb2); clear hb2; refine holdL ?_))
          refine Lib.hid ?_
          go_wp2
          go_ret2
          rw [HO.out]
          exact ⟨rfl, bel_tr R.out.b Hb2.out⟩
        | some k =>
          have hkr := idx_ltS hk
          have HC : Hid (∀ w', Calls Tryd.prog 80 #[.string ⟨r.toArray⟩, .int .u8 ((93 : UInt8).toNat : Int)] w' fun e w'' => e = .returned (.tuple #[stv (r.take k), stv (r.drop (k + 1)), .bool true]) ∧ Below w'.heap.size w' w'') := Lib.hid (fun w' => cut_some hk (by omega))
          rcases List.eq_nil_or_concat L with rfl | ⟨M, s, hL⟩
          · have HO := Lib.hid (R.out.none Hne.out (by rw [hx]; exact srcS_nil))
            clear hx hk
            go_wp2_with (first
              | (go_at_call 79; refine (HT.out _).mono ?_; rintro e w1 ⟨rfl, hb1⟩; have Hb1 := Lib.hid hb1; clear hb1; refine holdL ?_))
            refine Lib.hid ?_
            go_wp2_with (first
              | (go_at_call 80; refine (HC.out _).mono ?_; rintro e w2 ⟨rfl, hb2⟩; have Hb2 := Lib.hid (bel_tr Hb1.out hb2); clear hb2; refine holdL ?_))
            refine Lib.hid ?_
            go_wp2
            go_ret2
            rw [HO.out]
            exact ⟨rfl, bel_tr R.out.b Hb2.out⟩
          · rw [List.concat_eq_append] at hL
            subst hL
            have HS : Hid (srcS (M ++ [s]) (trimL l) = if (clP s (r.take k)).2 = true then some (M ++ [(clP s (r.take k)).1], r.drop (k + 1)) else none) := Lib.hid (by rw [hx]; exact srcS_cl hk)
            obtain ⟨g, c1, off, hv, hoff, hbg, hgw, hmc⟩ := own_head R.out.own (by simp)
            cases hv
            obtain ⟨cs, hcs, hsp, hsz⟩ := own_spl (f := soL) (size := 5) soL_len hoff R.out.own (k := M.length) (by simp)
            rw [show (M ++ [s])[M.length] = s by simp] at hsp
            have Hoff := Lib.hid hoff
            have Hcs := Lib.hid hcs
            have HK : Hid (∀ w', Below wr.heap.size wr w' → Calls Tryd.prog 81 #[.pointer (some ⟨g, off + M.length * 5, none⟩), .string ⟨(r.take k).toArray⟩] w' (ItPost w' g 27 cs (off + M.length * 5) (clP s (r.take k)))) := Lib.hid (fun w' hb => clause_any s (r.take k) g _ _ cs w' (hsp.bel hb) hsz (by rw [List.length_take]; omega))
            have hmN : M.length + 1 ≤ N := by rw [List.length_append] at hlN; simp at hlN; omega
            have e1 : (((M.length : Int) + 1) == 0) = false := by rw [beq_eq_false_iff_ne]; omega
            clear hx hk hcs hsp hoff hsz HX
            generalize clP s (r.take k) = o2 at *
            cases ho2 : o2.2 with
            | false =>
              have HO := Lib.hid (R.out.none Hne.out (HS.out.trans (if_neg (by rw [ho2]; simp))))
              have Ho2 := Lib.hid ho2
              clear ho2
              go_wp2_with (first
                | (go_at_call 79; refine (HT.out _).mono ?_; rintro e w1 ⟨rfl, hb1⟩; have Hb1 := Lib.hid hb1; clear hb1; refine holdL ?_))
              refine Lib.hid ?_
              go_wp2_with (first
                | (go_at_call 80; refine (HC.out _).mono ?_; rintro e w2 ⟨rfl, hb2⟩; have Hb2 := Lib.hid (bel_tr Hb1.out hb2); clear hb2; refine holdL ?_))
              refine Lib.hid ?_
              go_wp2_with (first
                | (go_at_call 81; refine (HK.out _ Hb2.out).mono ?_; rintro e w3 ⟨rfl, hB3, hg3⟩; rw [Ho2.out]; have HB3 := Lib.hid hB3; have Hg3 := Lib.hid hg3; clear hB3 hg3))
              go_ret2
              rw [HO.out]
              exact ⟨rfl, (bel_tr R.out.b Hb2.out).grown Hg3.out (Nat.le_trans R.out.b.size Hb2.out.size) (fun q hq => by cases hq; exact hbg)⟩
            | true =>
              have HST : Hid (∃ n, (r.drop (k + 1)).length < n ∧ o = srcF n (M ++ [o2.1]) (r.drop (k + 1))) := Lib.hid (R.out.step Hne.out (HS.out.trans (if_pos ho2)) (by rw [List.length_drop]; omega))
              have Ho2 := Lib.hid ho2
              clear ho2
              go_wp2_with (first
                | (go_at_call 79; refine (HT.out _).mono ?_; rintro e w1 ⟨rfl, hb1⟩; have Hb1 := Lib.hid hb1; clear hb1; refine holdL ?_))
              refine Lib.hid ?_
              go_wp2_with (first
                | (go_at_call 80; refine (HC.out _).mono ?_; rintro e w2 ⟨rfl, hb2⟩; have Hb2 := Lib.hid (bel_tr Hb1.out hb2); clear hb2; refine holdL ?_))
              refine Lib.hid ?_
              go_wp2_with (first
                | (go_at_call 81; refine (HK.out _ Hb2.out).mono ?_; rintro e w3 ⟨rfl, hB3, hg3⟩; rw [Ho2.out]; have HB3 := Lib.hid hB3; have Hg3 := Lib.hid hg3; clear hB3 hg3))
              go_roundw
              case rel =>
                refine ⟨r.drop (k + 1), M ++ [o2.1], rfl, ⟨HST.out, fun b hb => Hasc.out b (List.mem_cons_of_mem _ (List.mem_of_mem_drop hb)), ?_, ?_, (bel_tr R.out.b Hb2.out).grown Hg3.out (Nat.le_trans R.out.b.size Hb2.out.size) (fun q hq => by cases hq; exact hbg)⟩⟩
                · simp only [List.length_append, List.length_cons, List.length_nil, List.length_drop] at hlN ⊢
                  omega
                · have h := own_put soL_len Hoff.out (own_below R.out.own Hb2.out) (k := M.length) (by simp) o2.1 (Hcs.out.bel Hb2.out) HB3.out
                  simpa using h
              case measure => (show (r.drop (k + 1)).length < l.length); rw [List.length_drop]; omega
      · have Hbl := Lib.hid (trimL_hd hx)
        have i1 : (((c.toNat : Nat) : Int) == 91) = false := by
          rw [beq_eq_false_iff_ne]
          intro h
          exact hc (UInt8.toNat.inj (by have : (91 : UInt8).toNat = 91 := rfl; omega))
        have hmp := endW_pos Hbl.out (r := r) hc
        have hml := endW_le (c :: r)
        have HA := Lib.hid (fun w' => indexAny_end (c :: r) w' (by rw [List.length_cons]; omega) Hasc.out)
        have hS : srcS L (trimL l) = if (idx 93 ((c :: r).take (endW (c :: r)))).isSome = true then none else some (L ++ [soK (kindP ((c :: r).take (endW (c :: r))))], (c :: r).drop (endW (c :: r))) := by
          rw [hx]; exact srcS_w hc
        rw [List.length_cons] at hml HA
        generalize endW (c :: r) = m at *
        clear hx hc HX
        cases hi : idx 93 ((c :: r).take m) with
        | some k =>
          have HO := Lib.hid (R.out.none Hne.out (by rw [hS, hi]; rfl))
          have HI := Lib.hid (fun w' => indexByte_yes w' hi)
          clear hi hS
          by_cases hlt : m < r.length + 1
          · rw [if_pos hlt] at HA
            have i2 : (m : Int) ≤ (r.length : Int) + 1 := by omega
            go_wp2_with (first
              | (go_at_call 79; refine (HT.out _).mono ?_; rintro e w1 ⟨rfl, hb1⟩; have Hb1 := Lib.hid hb1; clear hb1; refine holdL ?_))
            refine Lib.hid ?_
            go_wp2_with (first
              | (go_at_call 82; refine (HA.out _).mono ?_; rintro e w2 ⟨rfl, hb2⟩; have Hb2 := Lib.hid (bel_tr Hb1.out hb2); clear hb2; refine holdL ?_))
            refine Lib.hid ?_
            go_wp2_with (first
              | (go_at_call 83; refine (HI.out _).mono ?_; rintro e w3 ⟨rfl, rfl⟩))
            go_ret2
            rw [HO.out]
            exact ⟨rfl, bel_tr R.out.b Hb2.out⟩
          · rw [if_neg hlt] at HA
            obtain rfl : m = r.length + 1 := by omega
            rw [show (c :: r).take (r.length + 1) = c :: r from List.take_of_length_le (Nat.le_refl _)] at HI
            go_wp2_with (first
              | (go_at_call 79; refine (HT.out _).mono ?_; rintro e w1 ⟨rfl, hb1⟩; have Hb1 := Lib.hid hb1; clear hb1; refine holdL ?_))
            refine Lib.hid ?_
            go_wp2_with (first
              | (go_at_call 82; refine (HA.out _).mono ?_; rintro e w2 ⟨rfl, hb2⟩; have Hb2 := Lib.hid (bel_tr Hb1.out hb2); clear hb2; refine holdL ?_))
            refine Lib.hid ?_
            go_wp2_with (first
              | (go_at_call 83; refine (HI.out _).mono ?_; rintro e w3 ⟨rfl, rfl⟩))
            go_ret2
            rw [HO.out]
            exact ⟨rfl, bel_tr R.out.b Hb2.out⟩
        | none =>
          have HST := Lib.hid (R.out.step (L' := L ++ [soK (kindP ((c :: r).take m))]) (l' := (c :: r).drop m) Hne.out (by rw [hS, hi]; rfl) (by rw [List.length_drop, List.length_cons]; omega))
          have HI := Lib.hid (fun w' => indexByte_no w' hi)
          clear hi hS
          have HQ := Lib.hid (fun w' => kind_any ((c :: r).take m) w')
          generalize kindP ((c :: r).take m) = q at *
          by_cases hlt : m < r.length + 1
          · rw [if_pos hlt] at HA
            have i2 : (m : Int) ≤ (r.length : Int) + 1 := by omega
            go_wp2_with (first
              | (go_at_call 79; refine (HT.out _).mono ?_; rintro e w1 ⟨rfl, hb1⟩; have Hb1 := Lib.hid hb1; clear hb1; refine holdL ?_))
            refine Lib.hid ?_
            go_wp2_with (first
              | (go_at_call 82; refine (HA.out _).mono ?_; rintro e w2 ⟨rfl, hb2⟩; have Hb2 := Lib.hid (bel_tr Hb1.out hb2); clear hb2; refine holdL ?_))
            refine Lib.hid ?_
            go_wp2_with (first
              | (go_at_call 83; refine (HI.out _).mono ?_; rintro e w3 ⟨rfl, rfl⟩)
              | (go_at_call 84; refine (HQ.out _).mono ?_; rintro e w4 ⟨rfl, rfl⟩)
              | (go_at_call 43; refine (source_any q _).mono ?_; rintro e w5 ⟨rfl, hb5⟩; have Hb5 := Lib.hid (bel_tr Hb2.out hb5); clear hb5; refine holdL ?_))
            refine Lib.hid ?_
            go_wp2_with (first
              | ((with_reducible show wpList _ _ _ (⟨some 62, _, _, _, _, _⟩ :: _) _ _); refine wpList_lit (o := ⟨some 62, _, _, _, _, _⟩) rfl _ _ rfl elt_so [.agg (soA (soK q))] rfl (by decide) (by decide) (fun v hv => by rw [List.mem_singleton.1 hv]; exact soA_size _) rfl ?_; intro w8 hB8 hx8 hb8 hs8; clear hx8 hs8; have hB8 := bk_list (l := soL (soK q)) hB8 rfl; have Hb8 := Lib.hid (bel_tr Hb5.out hb8))
              | (at_builtin; refine wpList_app rfl (.tmp 56) (.tmp 62) _ rfl elt_so rfl (own_below R.out.own Hb8.out) rfl (hB8.sl (size := 5) (n := 1) (soL_len _) 1 (Nat.le_refl _)) (soL_one _) (Nat.le_trans R.out.b.size Hb8.out.size) (by omega) (by omega) ?_; intro v9 w9 ho9 hb9 hg9; have Ho9 := Lib.hid ho9; have Hb9 := Lib.hid hb9; clear ho9 hb9 hg9 hb8 hB8))
            go_roundw
            case rel =>
              refine ⟨(c :: r).drop m, L ++ [soK q], rfl, ⟨HST.out, fun b hb => Hasc.out b (List.mem_of_mem_drop hb), ?_, ?_, (bel_tr R.out.b Hb8.out).trans Hb9.out⟩⟩
              · simp only [List.length_append, List.length_cons, List.length_nil, List.length_drop] at hlN ⊢
                omega
              · have h := Ho9.out
                simpa using h
            case measure => (show ((c :: r).drop m).length < l.length); rw [List.length_drop, List.length_cons]; omega
          · rw [if_neg hlt] at HA
            obtain rfl : m = r.length + 1 := by omega
            rw [show (c :: r).take (r.length + 1) = c :: r from List.take_of_length_le (Nat.le_refl _)] at HI HQ
            rw [show (c :: r).drop (r.length + 1) = [] from List.drop_of_length_le (Nat.le_refl _)] at HST
            go_wp2_with (first
              | (go_at_call 79; refine (HT.out _).mono ?_; rintro e w1 ⟨rfl, hb1⟩; have Hb1 := Lib.hid hb1; clear hb1; refine holdL ?_))
            refine Lib.hid ?_
            go_wp2_with (first
              | (go_at_call 82; refine (HA.out _).mono ?_; rintro e w2 ⟨rfl, hb2⟩; have Hb2 := Lib.hid (bel_tr Hb1.out hb2); clear hb2; refine holdL ?_))
            refine Lib.hid ?_
            go_wp2_with (first
              | (go_at_call 83; refine (HI.out _).mono ?_; rintro e w3 ⟨rfl, rfl⟩)
              | (go_at_call 84; refine (HQ.out _).mono ?_; rintro e w4 ⟨rfl, rfl⟩)
              | (go_at_call 43; refine (source_any q _).mono ?_; rintro e w5 ⟨rfl, hb5⟩; have Hb5 := Lib.hid (bel_tr Hb2.out hb5); clear hb5; refine holdL ?_))
            refine Lib.hid ?_
            go_wp2_with (first
              | ((with_reducible show wpList _ _ _ (⟨some 62, _, _, _, _, _⟩ :: _) _ _); refine wpList_lit (o := ⟨some 62, _, _, _, _, _⟩) rfl _ _ rfl elt_so [.agg (soA (soK q))] rfl (by decide) (by decide) (fun v hv => by rw [List.mem_singleton.1 hv]; exact soA_size _) rfl ?_; intro w8 hB8 hx8 hb8 hs8; clear hx8 hs8; have hB8 := bk_list (l := soL (soK q)) hB8 rfl; have Hb8 := Lib.hid (bel_tr Hb5.out hb8))
              | (at_builtin; refine wpList_app rfl (.tmp 56) (.tmp 62) _ rfl elt_so rfl (own_below R.out.own Hb8.out) rfl (hB8.sl (size := 5) (n := 1) (soL_len _) 1 (Nat.le_refl _)) (soL_one _) (Nat.le_trans R.out.b.size Hb8.out.size) (by omega) (by omega) ?_; intro v9 w9 ho9 hb9 hg9; have Ho9 := Lib.hid ho9; have Hb9 := Lib.hid hb9; clear ho9 hb9 hg9 hb8 hB8))
            go_roundw
            case rel =>
              refine ⟨[], L ++ [soK q], rfl, ⟨HST.out, (fun b hb => by cases hb), ?_, ?_, (bel_tr R.out.b Hb8.out).trans Hb9.out⟩⟩
              · simp only [List.length_append, List.length_cons, List.length_nil] at hlN ⊢
                omega
              · have h := Ho9.out
                simpa using h
            case measure => (show ([] : List UInt8).length < l.length); rw [List.length_nil]; omega
end Go.Proofs.YtgebcifkbldfoaaDoor

/- nss.Parse: the sources that a file says. -/
namespace Go.Proofs.YtgebcifkbldfoaaDoor
open Go.RowKit
attribute [local go_sem] ba_get ext_take ext_drop ext_any ba_app
attribute [local go_sem] Oper.semAt_some

def hosT : List UInt8 := [104, 111, 115, 116, 115, 58]
/-- what the fields of a line say. -/
def lnS : List (List UInt8) → Option (List So)
  | [] => none
  | f :: R => if f = hosT then match srcF ((joi [32] R).length + 1) [] (joi [32] R) with
      | none => none
      | some L => if 0 < L.length then some (L.take 8) else none
    else none
def nssP (s : List UInt8) : List So := ((alL true s).findSome? fun c => lnS c.2).getD plainNs
structure NsI (w : World) (g2 : Nat) (S : List (Nat × List (List UInt8))) (i : Nat) (V : World) : Prop where
  bx : Boxed V g2 22 (.slice none 0 0)
  no : ((S.take i).findSome? fun c => lnS c.2) = none
  b : Below w.heap.size w V
theorem NsI.kept {w : World} {g2 i : Nat} {S : List (Nat × List (List UInt8))} {W W' : World} {row : Option Nat} (h : NsI w g2 S i W) (hg : W.grownBy W' row) (hh : Harm [] w.heap.size W row) (hne : some g2 ≠ row) : NsI w g2 S i W' :=
  ⟨(hg.block g2 h.bx.lt hne).trans h.bx, h.no, Below.kept h.b h.b.size hg hh⟩
structure NsX (w : World) (g2 : Nat) (S : List (Nat × List (List UInt8))) (c : Code) (V : World) : Prop where
  ret : c = .ret
  sl : ∃ v L, Boxed V g2 22 v ∧ V.ownsRow w.heap.size 27 5 v L.length (L.flatMap soL) ∧ (S.findSome? fun c => lnS c.2) = some L
  b : Below w.heap.size w V
theorem NsX.kept {w : World} {g2 : Nat} {S : List (Nat × List (List UInt8))} {c : Code} {W W' : World} {row : Option Nat} (h : NsX w g2 S c W) (hg : W.grownBy W' row) (hh : Harm [27] w.heap.size W row) (hne : some g2 ≠ row) : NsX w g2 S c W' := by
  obtain ⟨v, L, h1, h2, h3⟩ := h.sl
  exact ⟨h.ret, ⟨v, L, (hg.block g2 h1.lt hne).trans h1, row_kept h2 hg hh, h3⟩, Below.kept h.b h.b.size hg (hh.mono (T' := []) (by simp) (Nat.le_refl _))⟩
theorem own_hi {α : Type} {f : α → List Value} {size base n c g off : Nat} {e : TypeId} {w : World} {R : List α} (hf : ∀ x, (f x).length = size) (h0 : off = 0) (h : w.ownsRow base e size (.slice (some ⟨g, off, none⟩) n c) R.length (R.flatMap f)) {j : Nat} (hj : j ≤ R.length) :
    w.ownsRow base e size (.slice (some ⟨g, off, none⟩) j c) (R.take j).length ((R.take j).flatMap f) := by
  obtain ⟨tl, hT, hn, hb, hc, hm, hl⟩ := own_block h0 h
  subst h0
  have hjl : (R.take j).length = j := by rw [List.length_take]; omega
  have hl2 : ((R.take j).flatMap f).length = (R.take j).length * size := rows_off f hf _
  refine ⟨hl2, .inr ⟨g, c, _, by rw [hjl], hb, hT, by omega, hm, ?_, ?_⟩⟩
  · rw [List.size_toArray]; exact hl
  · show List.take ((R.take j).length * size) (R.flatMap f ++ tl) = _
    rw [← hl2]
    conv => lhs; rw [← List.take_append_drop j R]
    rw [List.flatMap_append, List.take_append_drop, List.append_assoc, List.take_left]
theorem slA {w : World} {b off cp : Nat} {f : List UInt8} {R : List (List UInt8)} (h : Sl w 1 (.slice (some ⟨b, off, none⟩) (f :: R).length cp) (f :: R).length ((f :: R).map stv)) (hc : cp = 1) : Sl w 1 (.slice (some ⟨b, off, none⟩) R.length 0) R.length (R.map stv) := by
  subst hc
  have h2 := h.cut (k := 1) (by simp)
  simpa using h2
theorem slB {w : World} {b off cp : Nat} {f : List UInt8} {R : List (List UInt8)} (h : Sl w 1 (.slice (some ⟨b, off, none⟩) (f :: R).length cp) (f :: R).length ((f :: R).map stv)) (hc : ¬ cp = 1) : Sl w 1 (.slice (some ⟨b, off + 1, none⟩) R.length (cp - 1)) R.length (R.map stv) := by
  have h2 := h.cut (k := 1) (by simp)
  rw [if_neg hc] at h2
  simpa [Addr.add] using h2
theorem results_box {P : Program} {fn : Func} {p : Tmp} {ty : TypeId} (h : fn.results = #[.cell p ty]) (tmps : Array Value) {w : World} {g : Nat} {v : Value} (hp : tmps.getD p undef = .pointer (some ⟨g, 0, none⟩)) (hc : w.cell? ⟨g, 0, none⟩ = some v)
    {d : TypeDesc} (hu : P.underlying ty = some d) (hd : d.isRow = false) : (results fn tmps).run P w = .ok v w := by
  have ha : (isAgg ty).run P w = .ok false w := by
    cases d <;> first | (cases hd; done) | simp [isAgg, run_underlying hu]
  have hr : (loadVar ty ⟨g, 0, none⟩).run P w = .ok v w := by
    simp only [loadVar, Sem.run_bind, ha, Result.andThen_ok, Bool.false_eq_true, if_false]
    simp [load, Sem.run, hc]
  have hp' : tmps[p]?.getD undef = .pointer (some ⟨g, 0, none⟩) := by simpa using hp
  simp [results, h, hp', asAddr, hr]
set_option maxRecDepth 100000 in
set_option maxHeartbeats 4000000 in
theorem nssparse_any (s : List UInt8) (w : World) (hl : s.length ≤ 100000) (ha : ∀ c ∈ alL true s, Asc (joi [32] c.2.tail) ∧ (joi [32] c.2.tail).length ≤ 1000000) : Calls Tryd.prog 15 #[.string ⟨s.toArray⟩] w (SosPost w (nssP s)) := by
  refine (callsIn_wide (n := 0)).1 ?_
  refine callsIn_of_wp_marks Tryd.func15 rfl trivial ?_ rfl
  simp only [Tryd.ntmps15, List.size_toArray, List.length_cons, List.length_nil, Nat.reduceAdd, Nat.reduceSub, Array.replicate_succ, Array.replicate_zero, List.push_toArray, List.append_toArray, List.nil_append, List.cons_append]
  gi_wp2
  refine ⟨trivial, rfl, ?_⟩
  gi_at_call 46
  refine (callsIn_wide.2 (lall_any s true _)).mono ?_
  rintro e w2 ⟨rfl, hw2⟩
  obtain ⟨g2, hg2⟩ : ∃ g, g = w.heap.size := ⟨_, rfl⟩
  obtain ⟨b4, hb4⟩ : ∃ b, b = (w.alloc (.cells #[.slice none 0 0] 22)).heap.size := ⟨_, rfl⟩
  rw [← hg2, ← hb4]
  have B3 : Boxed w2 g2 22 (.slice none 0 0) := by rw [hw2, hg2]; exact ((Boxed.new w _ _).alloc _).alloc _
  have Bs : Boxed w2 b4 9 (stv s) := by rw [hw2, hb4]; exact (Boxed.new _ _ _).alloc _
  have Bb : Boxed w2 (b4 + 1) 4 (.bool true) := by
    rw [hw2, hb4, ← World.size_alloc (w.alloc (.cells #[.slice none 0 0] 22)) (.cells #[.string ⟨s.toArray⟩] 9)]
    exact Boxed.new _ _ _
  have hb02 : Below w.heap.size w w2 := by rw [hw2]; exact (((Below.refl _ w).alloc (Nat.le_refl _) _).alloc (by simp) _).alloc (by simp; omega) _
  have hg2l : w.heap.size ≤ g2 := by omega
  have Hb02 := Lib.hid hb02
  have Ha := Lib.hid ha
  have hg2w : g2 < w2.heap.size := B3.lt
  clear hw2 hb4 hg2 hb02 ha
  gi_wp2
  refine range_seqC (gf := 76) (lb := #[.pointer (some ⟨b4, 0, none⟩), .pointer (some ⟨b4 + 1, 0, none⟩)]) rfl (enters_of Tryd.func76 (by kernel_rfl) rfl) (all_seq true s b4 (b4 + 1) w2 Bs Bb (by omega)) (Below.refl _ _) (fun h k => KpA.trans h k) (fun W l o o' h hc => KpA.put W l o o' h hc)
    (fun c args V he => by obtain ⟨v, h, _⟩ := he; rw [h]; rfl) (fun c args => encA_own _ c args)
    (fun i V => NsI w g2 (alL true s) i V)
    (fun c V => NsX w g2 (alL true s) c V)
    (fun i X Y row hs hg hr => hs.kept hg (Harm.loop (by omega) hr) (fun e => by have := (hr _ e.symm).1; omega))
    (fun c _ X Y row hs hg hr => hs.kept hg (Harm.loop (by omega) hr) (fun e => by have := (hr _ e.symm).1; omega))
    ⟨B3, rfl, Hb02.out⟩
    (fun args => { tmps := #[.string ⟨s.toArray⟩, undef, .pointer (some ⟨g2, 0, none⟩), undef, args.getD 1 undef, undef, undef, .string ⟨s.toArray⟩, .func (.func 76) #[] #[.pointer (some ⟨b4, 0, none⟩), .pointer (some ⟨b4 + 1, 0, none⟩)], args.getD 0 undef, args.getD 1 undef, undef, undef, undef, undef, undef, undef, undef, undef, undef, undef, undef, undef, undef, undef, undef, undef, undef, undef, undef, undef, undef, undef, undef], defers := [] }) ?assign ?body ?done ?stop
  case assign =>
    intro l2 c args V K he hK
    obtain ⟨v, rfl, _⟩ := he
    gi_wp2
    exact hK
  case body =>
    rintro l2 i c args V hl2 ⟨r, hr⟩ hI hc he
    obtain ⟨va, rfl, hsl⟩ := he
    have hbd := alL_bd hc
    have HI := Lib.hid hI
    have hVw := hI.b.size
    have hnx : ((alL true s).take (i + 1)).findSome? (fun c => lnS c.2) = lnS c.2 := by
      obtain ⟨hi, hx⟩ := List.getElem?_eq_some_iff.1 hc
      rw [List.take_succ_eq_append_getElem hi, hx, List.findSome?_append, hI.no]
      simp
    have hall : ∀ L, lnS c.2 = some L → (alL true s).findSome? (fun c => lnS c.2) = some L := by
      intro L hL
      rw [← List.take_append_drop (i + 1) (alL true s), List.findSome?_append, hnx, hL]
      rfl
    have Hnx := Lib.hid hnx
    have Hall := Lib.hid hall
    clear hI hnx hall hr
    obtain ⟨ln, F⟩ := c
    dsimp only at *
    cases F with
    | nil =>
      obtain ⟨A, cp, rfl, _⟩ := hsl.any
      clear hsl
      gi_wp2
      exact ⟨keeps_below (Below.refl _ _), KpA.below (Below.refl _ _), HI.out.bx, Hnx.out.trans rfl, HI.out.b⟩
    | cons f R =>
      obtain ⟨b, off, cp, rfl, hcp, hbl, hcell⟩ := hsl.pos (by simp)
      have hc0 : V.cell? ⟨b, off, none⟩ = some (.string ⟨f.toArray⟩) := by
        have := hcell 0 (stv f) rfl
        rwa [Nat.add_zero] at this
      have Hsl := Lib.hid hsl
      clear hsl hcell
      by_cases hf : f = hosT
      · subst hf
        have hjj := Ha.out _ (List.mem_of_getElem? hc)
        dsimp only [List.tail_cons] at hjj
        have HJ : Hid (∀ v w', Sl w' 1 v R.length (R.map stv) → Calls Tryd.prog 45 #[.string ⟨#[32]⟩, v] w' (StrPost' w' (joi [32] R))) := Lib.hid (fun v w' h => join_any [32] R v w' h (by have := hbd.1; simp at this; omega) (by omega))
        have HQ := Lib.hid (fun w' => sources_any (joi [32] R) w' hjj.2 hjj.1)
        have hln : lnS (hosT :: R) = match srcF ((joi [32] R).length + 1) [] (joi [32] R) with
            | none => none
            | some L => if 0 < L.length then some (L.take 8) else none := by rw [lnS, if_pos rfl]
        have e2 : (((R.length : Int) + 1) == 0) = false := by rw [beq_eq_false_iff_ne]; omega
        generalize joi [32] R = j at *
        unfold hosT at hc0
        cases hq : srcF (j.length + 1) [] j with
        | none =>
          rw [hq] at HQ hln
          have Hn2 : Hid (((alL true s).take (i + 1)).findSome? (fun c => lnS c.2) = none) := Lib.hid (by rw [Hnx.out, hln])
          clear hq hln Hnx Hall hjj hc Ha
          gi_wp2
          all_goals
            refine ⟨trivial, rfl, ?_⟩
            gi_at_call 45
            refine (CallsIn.inRound l2 (callsIn_wide.2 (HJ.out _ _ (by first | exact slA Hsl.out (by assumption) | exact slB Hsl.out (by assumption))))).mono ?_
            rintro e w5 ⟨rfl, hb5⟩
            have Hb5 := Lib.hid hb5
            clear hb5
            gi_wp2
            refine ⟨trivial, rfl, ?_⟩
            gi_at_call 47
            refine (CallsIn.inRound l2 (callsIn_wide.2 (HQ.out _))).mono ?_
            rintro e w6 ⟨rfl, hb6⟩; have Hb6 := Lib.hid (bel_tr Hb5.out hb6); clear hb6 hc0
            gi_wp2
            exact ⟨keeps_below Hb6.out, KpA.below Hb6.out, (Hb6.out.block _ (heap_lt HI.out.bx)).trans HI.out.bx, Hn2.out, bel_tr HI.out.b Hb6.out⟩
        | some L =>
          rw [hq] at HQ hln
          dsimp only at hln
          by_cases hL : 0 < L.length
          · have Hx : Hid ((alL true s).findSome? (fun c => lnS c.2) = some (L.take 8)) := Lib.hid (Hall.out _ (by rw [hln, if_pos hL]))
            have HQ2 : Hid (∀ w', Calls Tryd.prog 47 #[.string ⟨j.toArray⟩] w' fun e w'' => ∃ g o6 c, o6 = 0 ∧ e = .returned (.tuple #[.slice (some ⟨g, o6, none⟩) L.length c, .bool true]) ∧ w''.ownsRow w'.heap.size 27 5 (.slice (some ⟨g, o6, none⟩) L.length c) L.length (L.flatMap soL) ∧ L.length ≤ c ∧ Below w'.heap.size w' w'') := Lib.hid (fun w' => (HQ.out w').mono fun e w'' ⟨v, he, ho, hb⟩ => by
              obtain ⟨g, c, o6, rfl, h0, h1, h2, h3⟩ := own_head ho hL
              exact ⟨g, o6, c, h0, by rw [he, decide_eq_true hL], ho, h3, hb⟩)
            clear hq hln Hnx Hall hjj hc Ha HQ
            gi_wp2
            all_goals
              refine ⟨trivial, rfl, ?_⟩
              gi_at_call 45
              refine (CallsIn.inRound l2 (callsIn_wide.2 (HJ.out _ _ (by first | exact slA Hsl.out (by assumption) | exact slB Hsl.out (by assumption))))).mono ?_
              rintro e w5 ⟨rfl, hb5⟩
              have Hb5 := Lib.hid hb5
              clear hb5
              gi_wp2
              refine ⟨trivial, rfl, ?_⟩
              gi_at_call 47
              refine (CallsIn.inRound l2 (callsIn_wide.2 (HQ2.out _))).mono ?_
              rintro e w6 ⟨g, o6, c6, h06, rfl, ho6, hmc, hb6⟩; have Hb6 := Lib.hid (bel_tr Hb5.out hb6); have Ho6 := Lib.hid (own_base ho6 Hb5.out.size); have H06 := Lib.hid h06; clear hb6 hc0 ho6 h06
              have B6 : Bk w6 g2 22 #[.slice none 0 0] := (Hb6.out.block _ (heap_lt HI.out.bx)).trans HI.out.bx
              have cc6 : w6.cell? ⟨g2, 0, none⟩ = some (.slice none 0 0) := B6.cell 0
              have f6 := B6.free 0
              have HB6 := Lib.hid B6
              have Hmc := Lib.hid hmc
              clear B6
              by_cases h8 : L.length ≤ 8
              · have i8 : (L.length : Int) ≤ 8 := by omega
                gi_wp2
                rw [show (min (L.length : Int) 8).toNat = L.length by omega]
                have hS := Stays.cell w6 g2 0 (.slice (some ⟨g, o6, none⟩) L.length c6)
                have o7 := row_kept (own_base Ho6.out hVw) hS.grown (Harm.type hg2l (show w6.heap[g2]? = _ from HB6.out) (by decide))
                have ht : L.take 8 = L := List.take_of_length_le h8
                exact ⟨(keeps_below Hb6.out).trans (keeps_cells hS.grown HB6.out), ⟨rfl, ⟨_, L.take 8, HB6.out.set_ 0 _, by rw [ht]; exact o7, Hx.out⟩, (bel_tr HI.out.b Hb6.out).trans (hS.below hg2l)⟩⟩
              · have i8 : (8 : Int) < (L.length : Int) := by omega
                gi_wp2
                rw [show (min (L.length : Int) 8).toNat = 8 by omega]
                have hS := Stays.cell w6 g2 0 (.slice (some ⟨g, o6, none⟩) 8 c6)
                have o7 := row_kept (own_hi soL_len H06.out (own_base Ho6.out hVw) (j := 8) (by omega)) hS.grown (Harm.type hg2l (show w6.heap[g2]? = _ from HB6.out) (by decide))
                exact ⟨(keeps_below Hb6.out).trans (keeps_cells hS.grown HB6.out), ⟨rfl, ⟨_, L.take 8, HB6.out.set_ 0 _, o7, Hx.out⟩, (bel_tr HI.out.b Hb6.out).trans (hS.below hg2l)⟩⟩
          · have Hn2 : Hid (((alL true s).take (i + 1)).findSome? (fun c => lnS c.2) = none) := Lib.hid (by rw [Hnx.out, hln, if_neg hL])
            have HQ2 : Hid (∀ w', Calls Tryd.prog 47 #[.string ⟨j.toArray⟩] w' fun e w'' => ∃ A n c, e = .returned (.tuple #[.slice A n c, .bool false]) ∧ Below w'.heap.size w' w'') := Lib.hid (fun w' => (HQ.out w').mono fun e w'' ⟨v, he, ho, hb⟩ => by
              obtain ⟨A, c, rfl⟩ := own_any ho
              exact ⟨A, _, c, by rw [he, decide_eq_false hL], hb⟩)
            clear hq hln Hnx Hall hjj hc Ha HQ
            gi_wp2
            all_goals
              refine ⟨trivial, rfl, ?_⟩
              gi_at_call 45
              refine (CallsIn.inRound l2 (callsIn_wide.2 (HJ.out _ _ (by first | exact slA Hsl.out (by assumption) | exact slB Hsl.out (by assumption))))).mono ?_
              rintro e w5 ⟨rfl, hb5⟩
              have Hb5 := Lib.hid hb5
              clear hb5
              gi_wp2
              refine ⟨trivial, rfl, ?_⟩
              gi_at_call 47
              refine (CallsIn.inRound l2 (callsIn_wide.2 (HQ2.out _))).mono ?_
              rintro e w6 ⟨A6, n6, c6, rfl, hb6⟩; have Hb6 := Lib.hid (bel_tr Hb5.out hb6); clear hb6 hc0
              gi_wp2
              exact ⟨keeps_below Hb6.out, KpA.below Hb6.out, (Hb6.out.block _ (heap_lt HI.out.bx)).trans HI.out.bx, Hn2.out, bel_tr HI.out.b Hb6.out⟩
      · have e1 : (f == [104, 111, 115, 116, 115, 58]) = false := beq_eq_false_iff_ne.2 hf
        have Hn2 : Hid (((alL true s).take (i + 1)).findSome? (fun c => lnS c.2) = none) := Lib.hid (by rw [Hnx.out, lnS, if_neg hf])
        have e2 : (((R.length : Int) + 1) == 0) = false := by rw [beq_eq_false_iff_ne]; omega
        clear hf Hnx Hall
        gi_wp2
        exact ⟨keeps_below (Below.refl _ _), KpA.below (Below.refl _ _), HI.out.bx, Hn2.out, HI.out.b⟩
  case done =>
    rintro D V hD hI hK
    have hc2 := Boxed.cell hI.bx
    have HI := Lib.hid hI
    have HK := Lib.hid hK
    have f2 := Bk.free (show Bk V g2 22 #[.slice none 0 0] from hI.bx) 0
    clear hI hK
    gi_wp2
    refine ⟨trivial, rfl, ?_⟩
    gi_at_call 16
    refine (callsIn_wide.2 (nsplain_any _)).mono ?_
    rintro e w3 ⟨v, rfl, ho3, hb3⟩
    have B3' : Bk w3 g2 22 #[.slice none 0 0] := Bk.bel HI.out.bx hb3
    have c3 : w3.cell? ⟨g2, 0, none⟩ = some (.slice none 0 0) := B3'.cell 0
    have f3 := B3'.free 0
    obtain ⟨A, cp, rfl⟩ := own_any ho3
    gi_wp2
    have hS := Stays.cell w3 g2 0 (.slice A plainNs.length cp)
    have hVl := HI.out.b.size
    have B4 := B3'.set_ 0 (.slice A plainNs.length cp)
    have hK4 : (w3.setCell ⟨g2, 0, none⟩ (.slice A plainNs.length cp)).heap[D]? = some (.deferred (some [])) := (hS.block D (by intro e; omega)).trans ((hb3.block D (heap_lt HK.out)).trans HK.out)
    refine ⟨by simp, .inl ⟨_, _, rfl, run_takeDeferred hK4, ?_⟩⟩
    have hg := grownBy_putObj' (w3.setCell ⟨g2, 0, none⟩ (.slice A plainNs.length cp)) D (.deferred none)
    have hh : ∀ T, Harm T w.heap.size (w3.setCell ⟨g2, 0, none⟩ (.slice A plainNs.length cp)) (some D) := fun T => Harm.loop (B := w.heap.size) (Nat.le_refl _) (fun r e => by cases e; exact ⟨by omega, _, hK4, rfl⟩)
    have hb4 : Below w.heap.size w (w3.setCell ⟨g2, 0, none⟩ (.slice A plainNs.length cp)) := (bel_tr HI.out.b hb3).trans (hS.below hg2l)
    have B5 : Bk ((w3.setCell ⟨g2, 0, none⟩ (.slice A plainNs.length cp)).putObj D (.deferred none)) g2 22 (#[.slice none 0 0].setIfInBounds 0 (.slice A plainNs.length cp)) := (hg.block g2 (heap_lt B4) (by intro e; cases e; omega)).trans B4
    refine ⟨_, results_box rfl _ rfl (B5.cell 0) Tryd.underlying22 rfl, _, rfl, ?_, Below.kept hb4 hb4.size hg (hh [])⟩
    have hn := HI.out.no
    rw [List.take_length] at hn
    rw [show nssP s = plainNs by unfold nssP; rw [hn]; rfl]
    have o4 := own_base ho3 hVl
    exact row_kept (row_kept o4 hS.grown (Harm.type hg2l (show w3.heap[g2]? = _ from B3') (by decide))) hg (hh _)
  case stop =>
    rintro D c V hD hx hK
    obtain ⟨rfl, ⟨v, L, hbx, hown, hf⟩, hb⟩ := hx
    have Hb := Lib.hid hb
    have Hown := Lib.hid hown
    have Hf := Lib.hid hf
    clear hb hown hf
    have hc2 := Boxed.cell hbx
    gi_wp2
    refine ⟨by simp, .inl ⟨_, _, rfl, run_takeDeferred hK, ?_⟩⟩
    have hg := grownBy_putObj' V D (.deferred none)
    have hh : ∀ T, Harm T w.heap.size V (some D) := fun T => Harm.loop (B := w.heap.size) (Nat.le_refl _) (fun r e => by cases e; exact ⟨by omega, _, hK, rfl⟩)
    have hbx' : Bk (V.putObj D (.deferred none)) g2 22 #[v] := (hg.block g2 (heap_lt hbx) (by intro e; cases e; omega)).trans hbx
    refine ⟨_, results_box rfl _ rfl (hbx'.cell 0) Tryd.underlying22 rfl, v, rfl, ?_, Below.kept Hb.out Hb.out.size hg (hh [])⟩
    rw [show nssP s = L by unfold nssP; rw [Hf.out]; rfl]
    exact row_kept Hown.out hg (hh _)
end Go.Proofs.YtgebcifkbldfoaaDoor

/- What nss writes of sources, in plain words; a clause that is written is read as it was. -/
namespace Go.Proofs.YtgebcifkbldfoaaDoor
open Go.RowKit

def itmT (i : Nat) (b : Bool) : List UInt8 := statP (i : Int) ++ (if b = true then [61, 114, 101, 116, 117, 114, 110] else [61, 99, 111, 110, 116, 105, 110, 117, 101])
def itmsT (st : List Bool) : List (List UInt8) := st.mapIdx itmT
def cluT (st : List Bool) : List UInt8 := joi [32] (itmsT st)
/-- a source's words. -/
def wrdT (s : So) : List (List UInt8) := wordP s.k :: if s.st = [true, false, false, false] then [] else [91 :: (cluT s.st ++ [93])]
def txtT (L : List So) : List UInt8 := joi [32] (hosT :: L.flatMap wrdT)
set_option maxRecDepth 100000 in
set_option maxHeartbeats 4000000 in
theorem clu_back (s : So) : clP (soK s.k) (cluT s.st) = (s, true) := by
  obtain ⟨k, st, ok⟩ := s
  obtain ⟨a, b, c, d, rfl⟩ := len4 ok
  cases a <;> cases b <;> cases c <;> cases d <;> rfl
set_option maxRecDepth 100000 in
theorem clu_no (st : List Bool) (h : st.length = 4) : idx 93 (cluT st) = none := by
  obtain ⟨a, b, c, d, rfl⟩ := len4 h
  cases a <;> cases b <;> cases c <;> cases d <;> rfl
theorem soK_eq (s : So) (h : s.st = [true, false, false, false]) : soK s.k = s := So.same rfl h.symm
theorem kind_word {k : Int} (h1 : 1 ≤ k) (h2 : k ≤ 3) : kindP (wordP k) = k := by
  have : k = 1 ∨ k = 2 ∨ k = 3 := by omega
  rcases this with rfl | rfl | rfl <;> rfl
theorem endW_app : ∀ (x r : List UInt8), (∀ b ∈ x, enB b = false) → endW (x ++ 32 :: r) = x.length
  | [], _, _ => rfl
  | b :: x, r, h => by
    rw [List.cons_append, endW, if_neg (by rw [h b (by simp)]; simp), endW_app x r (fun c hc => h c (by simp [hc])), List.length_cons]
theorem endW_all : ∀ (x : List UInt8), (∀ b ∈ x, enB b = false) → endW x = x.length
  | [], _ => rfl
  | b :: x, h => by
    rw [endW, if_neg (by rw [h b (by simp)]; simp), endW_all x (fun c hc => h c (by simp [hc])), List.length_cons]
theorem word_ok (k : Int) : (∀ b ∈ wordP k, enB b = false) ∧ idx 93 (wordP k) = none ∧ ∃ c r, wordP k = c :: r ∧ c ≠ 91 ∧ blB c = false := by
  unfold wordP
  by_cases h1 : k = 1
  · rw [if_pos h1]; exact ⟨by decide, by decide, _, _, rfl, by decide, by decide⟩
  · by_cases h2 : k = 2
    · rw [if_neg h1, if_pos h2]; exact ⟨by decide, by decide, _, _, rfl, by decide, by decide⟩
    · rw [if_neg h1, if_neg h2]; exact ⟨by decide, by decide, _, _, rfl, by decide, by decide⟩
end Go.Proofs.YtgebcifkbldfoaaDoor

/- Sources that are written are read as they were (plain). -/
namespace Go.Proofs.YtgebcifkbldfoaaDoor
open Go.RowKit

/-- the text of sources, each word behind a blank. -/
def bodT : List So → List UInt8
  | [] => []
  | s :: L => 32 :: (wordP s.k ++ ((if s.st = [true, false, false, false] then [] else 32 :: 91 :: (cluT s.st ++ [93])) ++ bodT L))
theorem trim_blank (l : List UInt8) : trimL (32 :: l) = trimL l := by
  unfold trimL
  rw [List.dropWhile_cons, if_pos (by decide)]
theorem trim_hd {c : UInt8} {l : List UInt8} (h : blB c = false) : trimL (c :: l) = c :: l := by
  unfold trimL
  rw [List.dropWhile_cons, if_neg (by rw [h]; simp)]
theorem bod_hd : ∀ L : List So, bodT L = [] ∨ ∃ r, bodT L = 32 :: r
  | [] => .inl rfl
  | _ :: _ => .inr ⟨_, rfl⟩
theorem endW_rest {x rest : List UInt8} (h : ∀ b ∈ x, enB b = false) (hr : rest = [] ∨ ∃ r, rest = 32 :: r) : endW (x ++ rest) = x.length := by
  rcases hr with rfl | ⟨r, rfl⟩
  · rw [List.append_nil]; exact endW_all x h
  · exact endW_app x r h
/-- a word is read. -/
theorem srcS_word (A : List So) (k : Int) (rest : List UInt8) (h1 : 1 ≤ k) (h2 : k ≤ 3) (hr : rest = [] ∨ ∃ r, rest = 32 :: r) : srcS A (wordP k ++ rest) = some (A ++ [soK k], rest) := by
  obtain ⟨ho, hi, c, r, hw, hc, hb⟩ := word_ok k
  have he := endW_rest ho hr
  have hk := kind_word h1 h2
  have ht : (wordP k ++ rest).take (wordP k).length = wordP k := List.take_left
  have hd : (wordP k ++ rest).drop (wordP k).length = rest := List.drop_left
  have hs : ∀ y, y = wordP k ++ rest → srcS A y = some (A ++ [soK k], rest) := by
    intro y hy
    have hy2 : y = c :: (r ++ rest) := by rw [hy, hw]; rfl
    rw [hy2, srcS_w hc, ← hy2, hy, he, ht, hi, hd, hk]
    rfl
  exact hs _ rfl
theorem src_back : ∀ (L A : List So) (n : Nat), (∀ s ∈ L, 1 ≤ s.k ∧ s.k ≤ 3) → (bodT L).length < n → srcF n A (bodT L) = some (A ++ L)
  | [], A, n, _, hn => by
    cases n with
    | zero => cases hn
    | succ n => rw [List.append_nil]; rfl
  | s :: L, A, n, hk, hn => by
    obtain ⟨h1, h2⟩ := hk s (by simp)
    have hk' : ∀ s ∈ L, 1 ≤ s.k ∧ s.k ≤ 3 := fun x hx => hk x (by simp [hx])
    obtain ⟨ho, hi, c, r, hw, hc, hb⟩ := word_ok s.k
    have htr : ∀ rest, trimL (32 :: (wordP s.k ++ rest)) = wordP s.k ++ rest := by
      intro rest
      rw [trim_blank, hw, List.cons_append, trim_hd hb]
    have hne : ∀ rest, wordP s.k ++ rest ≠ [] := by intro rest; rw [hw]; simp
    cases n with
    | zero => cases hn
    | succ n =>
      unfold bodT at hn ⊢
      by_cases hp : s.st = [true, false, false, false]
      · rw [if_pos hp, List.nil_append] at hn ⊢
        rw [srcF, htr, if_neg (hne _), srcS_word A s.k _ h1 h2 (bod_hd L)]
        dsimp only
        rw [soK_eq s hp, src_back L (A ++ [s]) n hk' (by rw [List.length_cons, List.length_append] at hn; omega)]
        simp
      · rw [if_neg hp] at hn ⊢
        rw [show (32 :: 91 :: (cluT s.st ++ [93]) ++ bodT L) = 32 :: 91 :: (cluT s.st ++ 93 :: bodT L) by simp] at hn ⊢
        rw [srcF, htr, if_neg (hne _), srcS_word A s.k _ h1 h2 (.inr ⟨_, rfl⟩)]
        dsimp only
        simp only [List.length_cons, List.length_append] at hn
        cases n with
        | zero => omega
        | succ n =>
          have hx := idx_app (r := bodT L) (clu_no s.st s.ok)
          rw [srcF, trim_blank, trim_hd (by decide), if_neg (by simp), srcS_cl hx, List.take_left, clu_back, if_pos rfl]
          dsimp only
          rw [show (cluT s.st ++ 93 :: bodT L).drop ((cluT s.st).length + 1) = bodT L by rw [← List.drop_drop, List.drop_left]; rfl, src_back L (A ++ [s]) n hk' (by omega)]
          simp
end Go.Proofs.YtgebcifkbldfoaaDoor

/- The fields of what is written of sources (plain). -/
namespace Go.Proofs.YtgebcifkbldfoaaDoor
open Go.RowKit

theorem fldR_app : ∀ (x word r : List UInt8), (∀ b ∈ x, blB b = false) → fldR word (x ++ r) = fldR (word ++ x) r
  | [], word, r, _ => by simp
  | b :: x, word, r, h => by
    rw [List.cons_append, fldR, if_neg (by rw [h b (by simp)]; simp), fldR_app x (word ++ [b]) r (fun c hc => h c (by simp [hc]))]
    simp
/-- words, each behind a blank. -/
def bT (A : List (List UInt8)) : List UInt8 := A.flatMap fun x => 32 :: x
theorem bT_cons (x : List UInt8) (A : List (List UInt8)) : bT (x :: A) = 32 :: (x ++ bT A) := by simp [bT]
theorem bT_app (A B : List (List UInt8)) : bT (A ++ B) = bT A ++ bT B := by simp [bT]
theorem flds_blank (l : List UInt8) : flds (32 :: l) = flds l := by
  unfold flds
  rw [fldR, if_pos (by decide), if_pos rfl]
theorem flds_bT : ∀ (A : List (List UInt8)), (∀ x ∈ A, x ≠ [] ∧ ∀ b ∈ x, blB b = false) → flds (bT A) = A
  | [], _ => rfl
  | x :: A, h => by
    obtain ⟨h1, h2⟩ := h x (by simp)
    have ih := flds_bT A (fun y hy => h y (by simp [hy]))
    rw [bT_cons, flds_blank]
    unfold flds
    rw [fldR_app x [] _ h2, List.nil_append]
    cases A with
    | nil =>
      show fldR x [] = _
      rw [fldR, if_neg h1]
    | cons y A =>
      rw [bT_cons] at ih ⊢
      rw [flds_blank] at ih
      unfold flds at ih
      rw [fldR, if_pos (by decide), if_neg h1, ih]
/-- the fields of what is written of a source. -/
def fldT (s : So) : List (List UInt8) := wordP s.k :: if s.st = [true, false, false, false] then [] else match itmsT s.st with
  | [a, b, c, d] => [91 :: a, b, c, d ++ [93]]
  | _ => []
set_option maxRecDepth 100000 in
theorem clu_bT (st : List Bool) (h : st.length = 4) : 32 :: 91 :: (cluT st ++ [93]) = bT (match itmsT st with
  | [a, b, c, d] => [91 :: a, b, c, d ++ [93]]
  | _ => []) := by
  obtain ⟨a, b, c, d, rfl⟩ := len4 h
  cases a <;> cases b <;> cases c <;> cases d <;> rfl
theorem bodT_bT : ∀ L : List So, bodT L = bT (L.flatMap fldT)
  | [] => rfl
  | s :: L => by
    rw [bodT, List.flatMap_cons, bT_app, bodT_bT L, fldT, bT_cons]
    by_cases hp : s.st = [true, false, false, false]
    · rw [if_pos hp, if_pos hp]; simp [bT]
    · rw [if_neg hp, if_neg hp, clu_bT s.st s.ok]; simp
set_option maxRecDepth 100000 in
set_option maxHeartbeats 4000000 in
theorem fldS_ok (st : List Bool) (h : st.length = 4) : ∀ x ∈ (if st = [true, false, false, false] then [] else match itmsT st with
  | [a, b, c, d] => [91 :: a, b, c, d ++ [93]]
  | _ => []), x ≠ [] ∧ ∀ b ∈ x, blB b = false ∧ b.toNat < 128 ∧ b ≠ 10 ∧ b ≠ 13 ∧ b ≠ 35 := by
  obtain ⟨a, b, c, d, rfl⟩ := len4 h
  cases a <;> cases b <;> cases c <;> cases d <;> decide
theorem fldT_ok (s : So) : ∀ x ∈ fldT s, x ≠ [] ∧ ∀ b ∈ x, blB b = false ∧ b.toNat < 128 ∧ b ≠ 10 ∧ b ≠ 13 ∧ b ≠ 35 := by
  have hw : wordP s.k ≠ [] ∧ ∀ b ∈ wordP s.k, blB b = false ∧ b.toNat < 128 ∧ b ≠ 10 ∧ b ≠ 13 ∧ b ≠ 35 := by
    unfold wordP
    by_cases h1 : s.k = 1
    · rw [if_pos h1]; decide
    · by_cases h2 : s.k = 2
      · rw [if_neg h1, if_pos h2]; decide
      · rw [if_neg h1, if_neg h2]; decide
  intro x hx
  unfold fldT at hx
  rcases List.mem_cons.1 hx with rfl | hx
  · exact hw
  · exact fldS_ok s.st s.ok x hx
theorem joi_bT : ∀ (A : List (List UInt8)), A ≠ [] → 32 :: joi [32] A = bT A
  | [], h => absurd rfl h
  | [x], _ => by rw [bT_cons]; simp [bT, joi, Lib.join]
  | x :: y :: A, _ => by
    rw [bT_cons, ← joi_bT (y :: A) (by simp)]
    have := joi_more (A := x :: y :: A) 32 (k := 0) (by simp)
    simp at this
    rw [this]
end Go.Proofs.YtgebcifkbldfoaaDoor

/- The text of sources, read, gives the sources (plain). -/
namespace Go.Proofs.YtgebcifkbldfoaaDoor
open Go.RowKit

theorem src_back1 (s : So) (L A : List So) (n : Nat) (hk : ∀ x ∈ s :: L, 1 ≤ x.k ∧ x.k ≤ 3) (hn : (bodT (s :: L)).length ≤ n) : srcF n A (bodT (s :: L)) = some (A ++ s :: L) := by
  obtain ⟨h1, h2⟩ := hk s (by simp)
  have hk' : ∀ s ∈ L, 1 ≤ s.k ∧ s.k ≤ 3 := fun x hx => hk x (by simp [hx])
  obtain ⟨ho, hi, c, r, hw, hc, hb⟩ := word_ok s.k
  have htr : ∀ rest, trimL (32 :: (wordP s.k ++ rest)) = wordP s.k ++ rest := by
    intro rest
    rw [trim_blank, hw, List.cons_append, trim_hd hb]
  have hwl : 1 ≤ (wordP s.k).length := by rw [hw, List.length_cons]; omega
  have hne : ∀ rest, wordP s.k ++ rest ≠ [] := by intro rest; rw [hw]; simp
  cases n with
  | zero => rw [bodT, List.length_cons] at hn; omega
  | succ n =>
    unfold bodT at hn ⊢
    by_cases hp : s.st = [true, false, false, false]
    · rw [if_pos hp, List.nil_append] at hn ⊢
      rw [srcF, htr, if_neg (hne _), srcS_word A s.k _ h1 h2 (bod_hd L)]
      dsimp only
      rw [soK_eq s hp, src_back L (A ++ [s]) n hk' (by rw [List.length_cons, List.length_append] at hn; omega)]
      simp
    · rw [if_neg hp] at hn ⊢
      rw [show (32 :: 91 :: (cluT s.st ++ [93]) ++ bodT L) = 32 :: 91 :: (cluT s.st ++ 93 :: bodT L) by simp] at hn ⊢
      rw [srcF, htr, if_neg (hne _), srcS_word A s.k _ h1 h2 (.inr ⟨_, rfl⟩)]
      dsimp only
      simp only [List.length_cons, List.length_append] at hn
      cases n with
      | zero => omega
      | succ n =>
        have hx := idx_app (r := bodT L) (clu_no s.st s.ok)
        rw [srcF, trim_blank, trim_hd (by decide), if_neg (by simp), srcS_cl hx, List.take_left, clu_back, if_pos rfl]
        dsimp only
        rw [show (cluT s.st ++ 93 :: bodT L).drop ((cluT s.st).length + 1) = bodT L by rw [← List.drop_drop, List.drop_left]; rfl, src_back L (A ++ [s]) n hk' (by omega)]
        simp
theorem srcF_blank (n : Nat) (A : List So) (l : List UInt8) : srcF n A (32 :: l) = srcF n A l := by
  cases n with
  | zero => rfl
  | succ n => rw [srcF, srcF, trim_blank]
theorem lnS_back (L : List So) (hk : ∀ s ∈ L, 1 ≤ s.k ∧ s.k ≤ 3) (h0 : L ≠ []) (h8 : L.length ≤ 8) : lnS (hosT :: L.flatMap fldT) = some L := by
  obtain ⟨s, M, rfl⟩ : ∃ s M, L = s :: M := by cases L with | nil => exact absurd rfl h0 | cons s M => exact ⟨s, M, rfl⟩
  have hj : 32 :: joi [32] ((s :: M).flatMap fldT) = bodT (s :: M) := by
    rw [bodT_bT]
    exact joi_bT _ (by rw [List.flatMap_cons, fldT]; simp)
  have hl := congrArg List.length hj
  rw [List.length_cons] at hl
  have hb := src_back1 s M [] ((joi [32] ((s :: M).flatMap fldT)).length + 1) hk (by omega)
  rw [← hj, srcF_blank] at hb
  rw [lnS, if_pos rfl, hb]
  dsimp only
  rw [List.nil_append, if_pos (by simp), List.take_of_length_le h8]
end Go.Proofs.YtgebcifkbldfoaaDoor

/- What nss.Parse reads in the text of sources (plain). -/
namespace Go.Proofs.YtgebcifkbldfoaaDoor
open Go.RowKit

theorem txt_eq (L : List So) : txtT L = hosT ++ bodT L := by
  have h := joi_bT (hosT :: L.flatMap wrdT) (by simp)
  have hb : bT (L.flatMap wrdT) = bodT L := by
    induction L with
    | nil => rfl
    | cons s L ih =>
      have ih := ih (joi_bT _ (by simp))
      rw [List.flatMap_cons, bT_app, ih, bodT, wrdT, bT_cons]
      by_cases hp : s.st = [true, false, false, false]
      · rw [if_pos hp, if_pos hp]; simp [bT]
      · rw [if_neg hp, if_neg hp]; simp [bT]
  rw [bT_cons, hb] at h
  unfold txtT
  injection h
theorem bod_by (L : List So) : ∀ b ∈ bodT L, b.toNat < 128 ∧ b ≠ 10 ∧ b ≠ 13 ∧ b ≠ 35 := by
  intro b hb
  rw [bodT_bT] at hb
  unfold bT at hb
  obtain ⟨x, hx, hb⟩ := List.mem_flatMap.1 hb
  rcases List.mem_cons.1 hb with rfl | hb
  · decide
  · obtain ⟨s, _, hs⟩ := List.mem_flatMap.1 hx
    exact ((fldT_ok s x hs).2 b hb).2
theorem txt_by (L : List So) : ∀ b ∈ hosT ++ bodT L, b.toNat < 128 ∧ b ≠ 10 ∧ b ≠ 13 ∧ b ≠ 35 := by
  intro b hb
  rcases List.mem_append.1 hb with h | h
  · exact (show ∀ b ∈ hosT, b.toNat < 128 ∧ b ≠ 10 ∧ b ≠ 13 ∧ b ≠ 35 by decide) b h
  · exact bod_by L b h
theorem idx_no {c : UInt8} {l : List UInt8} (h : ∀ b ∈ l, b ≠ c) : idx c l = none := idx_none_of fun _ hj => h _ (List.getElem_mem hj)
theorem trS_no {l : List UInt8} (h : ∀ b ∈ l, b ≠ 13) : Lib.trimSuffix l [13] = l := by
  unfold Lib.trimSuffix
  refine if_neg ?_
  intro hs
  unfold Lib.hasSuffix at hs
  have := (List.isSuffixOf_iff_suffix.1 hs).subset (List.mem_singleton.2 rfl : (13 : UInt8) ∈ [13])
  exact h 13 this rfl
theorem word_len (k : Int) : (wordP k).length ≤ 5 := by
  unfold wordP
  by_cases h1 : k = 1
  · rw [if_pos h1]; decide
  · by_cases h2 : k = 2
    · rw [if_neg h1, if_pos h2]; decide
    · rw [if_neg h1, if_neg h2]; decide
set_option maxRecDepth 100000 in
theorem clu_len (st : List Bool) (h : st.length = 4) : (cluT st).length ≤ 80 := by
  obtain ⟨a, b, c, d, rfl⟩ := len4 h
  cases a <;> cases b <;> cases c <;> cases d <;> decide
theorem bod_len : ∀ L : List So, (bodT L).length ≤ 90 * L.length
  | [] => Nat.le_refl _
  | s :: L => by
    have ih := bod_len L
    have h1 := word_len s.k
    have h2 := clu_len s.st s.ok
    rw [bodT, List.length_cons, List.length_append, List.length_append, List.length_cons]
    by_cases hp : s.st = [true, false, false, false]
    · rw [if_pos hp, List.length_nil]; omega
    · rw [if_neg hp]
      simp only [List.length_cons, List.length_append, List.length_nil]
      omega
theorem alL_txt (L : List So) (h8 : L.length ≤ 8) : alL true (hosT ++ bodT L) = [(1, hosT :: L.flatMap fldT)] := by
  have hby := txt_by L
  have hlen := bod_len L
  have hl : linL (hosT ++ bodT L) = [hosT ++ bodT L] := by
    unfold linL
    rw [spB_none _ _ (idx_no fun b hb => (hby b hb).2.1)]
    rfl
  have hf : flds (hosT ++ bodT L) = hosT :: L.flatMap fldT := by
    have h := flds_bT (hosT :: L.flatMap fldT) (fun x hx => by
      rcases List.mem_cons.1 hx with rfl | hx
      · decide
      · obtain ⟨s, _, hs⟩ := List.mem_flatMap.1 hx
        exact ⟨(fldT_ok s x hs).1, fun b hb => ((fldT_ok s x hs).2 b hb).1⟩)
    rwa [bT_cons, flds_blank, ← bodT_bT] at h
  have hn : lnF true (hosT ++ bodT L) = hosT :: L.flatMap fldT := by
    unfold lnF
    rw [trS_no fun b hb => (hby b hb).2.2.1, if_neg, if_pos rfl]
    · unfold hdC
      rw [idx_no fun b hb => (hby b hb).2.2.2]
      exact hf
    · rintro (h | h)
      · unfold hosT at h; cases h
      · rw [List.length_append, show hosT.length = 6 from rfl] at h; omega
  unfold alL alN numL
  rw [hl]
  simp only [List.mapIdx_cons, List.mapIdx_nil, List.map_cons, List.map_nil, hn]
  rfl
theorem nssP_txt (L : List So) (hk : ∀ s ∈ L, 1 ≤ s.k ∧ s.k ≤ 3) (h8 : L.length ≤ 8) : nssP (txtT L) = if L = [] then plainNs else L := by
  rw [txt_eq]
  unfold nssP
  rw [alL_txt L h8]
  by_cases h0 : L = []
  · subst h0; rfl
  · rw [if_neg h0, List.findSome?_cons]
    dsimp only
    rw [lnS_back L hk h0 h8]
    rfl
end Go.Proofs.YtgebcifkbldfoaaDoor

/- ref19.Text: what the reference writes of sources. -/
namespace Go.Proofs.YtgebcifkbldfoaaDoor
open Go.RowKit
attribute [local go_sem] ba_get ext_take ext_drop ext_any ba_app

theorem bodT_snoc (L : List So) (s : So) : bodT (L ++ [s]) = bodT L ++ bodT [s] := by rw [bodT_bT, bodT_bT, bodT_bT, List.flatMap_append, bT_app]
theorem bodT_take {L : List So} {k : Nat} (h : k < L.length) : bodT (L.take (k + 1)) = bodT (L.take k) ++ bodT [L[k]] := by
  rw [List.take_succ_eq_append_getElem h, bodT_snoc]
/-- the items of a clause, so far. -/
def itsT (st : List Bool) (k : Nat) : List UInt8 := joi [32] ((itmsT st).take k)
set_option maxRecDepth 100000 in
theorem itsT_next (st : List Bool) (h : st.length = 4) (k : Nat) (hk : k < 4) : itsT st (k + 1) = itsT st k ++ ((if 0 < k then [32] else []) ++ (statP (k : Int) ++ (if st[k]'(by omega) = true then [61, 114, 101, 116, 117, 114, 110] else [61, 99, 111, 110, 116, 105, 110, 117, 101]))) := by
  obtain ⟨a, b, c, d, rfl⟩ := len4 h
  match k, hk with
  | 0, _ => cases a <;> cases b <;> cases c <;> cases d <;> rfl
  | 1, _ => cases a <;> cases b <;> cases c <;> cases d <;> rfl
  | 2, _ => cases a <;> cases b <;> cases c <;> cases d <;> rfl
  | 3, _ => cases a <;> cases b <;> cases c <;> cases d <;> rfl
theorem itsT_all (st : List Bool) (h : st.length = 4) : itsT st 4 = cluT st := by
  unfold itsT cluT itmsT
  rw [List.take_of_length_le (by rw [List.length_mapIdx]; omega)]
theorem st_size : (Tryd.prog.info? 25).map (·.size) = some 4 := by kernel_rfl
theorem wpList_loadSt {w : World} {ops : Array Oper} {rest : List Oper} {o : Oper} {a : Act} {Q : Exit → Act → World → Prop} (hgd : o.guard = none) (x : Operand) (ho : o.op = .load 25 x) {g off : Nat} (hx : a.eval x = .pointer (some ⟨g, off, none⟩))
    {st : List Bool} (h4 : st.length = 4) (hB : w.rangeAt g off (st.map Value.bool)) (h : wpList Tryd.prog ops Q rest (a.put o.dst (.agg (stA st))) w) : wpList Tryd.prog ops Q (o :: rest) a w :=
  wpList_load_mid hgd _ x ho g off hx (st.map Value.bool) _ hB Tryd.underlying25 rfl (by rw [List.length_map, h4]; exact st_size) h
theorem wpList_eqlSt {w : World} {ops : Array Oper} {rest : List Oper} {o : Oper} {a : Act} {Q : Exit → Act → World → Prop} (hgd : o.guard = none) (x y : Operand) {t : TypeId} (ho : o.op = .binOp .eql 25 x y t) {b c : List Bool} (hb : b.length = 4) (hc : c.length = 4) (hx : a.eval x = .agg (stA b)) (hy : a.eval y = .agg (stA c))
    (h : wpList Tryd.prog ops Q rest (a.put o.dst (.bool (b == c))) w) : wpList Tryd.prog ops Q (o :: rest) a w := by
  refine wpList_plain hgd fun _ hK => ?_
  unfold Oper.wp execOp
  simp only [ho, hx, hy, Sem.run_bind, run_eqGuard_agg w .eql 25 x y _ _ Tryd.eqGuardType25, Result.andThen_ok, st_eql w b c hb hc]
  exact hK _ _ h
end Go.Proofs.YtgebcifkbldfoaaDoor

/- ref19.Text: the walk (in work). -/
namespace Go.Proofs.YtgebcifkbldfoaaDoor
open Go.RowKit
attribute [local go_sem] ba_get ext_take ext_drop ext_any ba_app

theorem its_len (st : List Bool) (h : st.length = 4) (k : Nat) (hk : k ≤ 4) : (itsT st k).length ≤ 100 := by
  obtain ⟨a, b, c, d, rfl⟩ := len4 h
  match k, hk with
  | 0, _ => cases a <;> cases b <;> cases c <;> cases d <;> decide
  | 1, _ => cases a <;> cases b <;> cases c <;> cases d <;> decide
  | 2, _ => cases a <;> cases b <;> cases c <;> cases d <;> decide
  | 3, _ => cases a <;> cases b <;> cases c <;> cases d <;> decide
  | 4, _ => cases a <;> cases b <;> cases c <;> cases d <;> decide
def wdsQ : List (List UInt8) := [[115, 117, 99, 99, 101, 115, 115, 61], [110, 111, 116, 102, 111, 117, 110, 100, 61], [117, 110, 97, 118, 97, 105, 108, 61], [116, 114, 121, 97, 103, 97, 105, 110, 61]]
theorem wdsQ_at (j : Nat) (h : j < 4) : ∃ q : List UInt8, wdsQ[j]? = some q ∧ q.length ≤ 10 ∧ ∀ x : Bool, statP (j : Int) ++ (if x = true then [61, 114, 101, 116, 117, 114, 110] else [61, 99, 111, 110, 116, 105, 110, 117, 101]) = q ++ (if x = true then [114, 101, 116, 117, 114, 110] else [99, 111, 110, 116, 105, 110, 117, 101]) := by
  match j, h with
  | 0, _ => exact ⟨_, rfl, by decide, fun x => by cases x <;> rfl⟩
  | 1, _ => exact ⟨_, rfl, by decide, fun x => by cases x <;> rfl⟩
  | 2, _ => exact ⟨_, rfl, by decide, fun x => by cases x <;> rfl⟩
  | 3, _ => exact ⟨_, rfl, by decide, fun x => by cases x <;> rfl⟩
set_option maxRecDepth 100000 in
set_option maxHeartbeats 4000000 in
theorem rnstext_any (L : List So) (v : Value) (w : World) (hs : Sl w 5 v L.length (L.flatMap soL)) (hl : L.length ≤ 20) :
    Calls Tryd.prog 13 #[v] w (StrPost' w (hosT ++ bodT L)) := by
  obtain ⟨A, c, rfl, hc⟩ := hs.any
  have Hs := Lib.hid hs
  clear hs
  go_enter Tryd.func13, Tryd.ntmps13
  go_wp2
  go_loopw [3, 4, 5, 6, 7, 8, 9] (fun sv iv _ _ _ _ _ wr => ∃ k : Nat, k ≤ L.length ∧ iv = .int .i64 k ∧ sv = .string ⟨(hosT ++ bodT (L.take k)).toArray⟩ ∧ Below w.heap.size w wr) (fun _ iv _ _ _ _ _ _ => L.length - (intOf iv).toNat)
  case atStart => exact ⟨0, Nat.zero_le _, rfl, rfl, Below.refl _ _⟩
  case round =>
    obtain ⟨k, hk, rfl, rfl, hbel⟩ := hrel
    have Hbel := Lib.hid hbel
    by_cases hlt : k < L.length
    · have hltI : (k : Int) < (L.length : Int) := by omega
      have hk0 : (0 : Int) ≤ (k : Int) := by omega
      obtain ⟨b, off, c', hv, hc', hbl, hcell⟩ := Hs.out.pos (by omega)
      cases hv
      have hR := range_of soL_len hcell hlt
      have HR : wr.rangeAt b (off + k * 5) (soL L[k]) := fun j u hu => ((hbel.cell (p := ⟨b, off + k * 5 + j, none⟩) hbl).trans (hR j u hu))
      have c0 : wr.cell? ⟨b, off + k * 5, none⟩ = some (.int .i64 L[k].k) := by
        have := HR 0 _ (soL_0 L[k])
        rwa [Nat.add_zero] at this
      have hnx : hosT ++ bodT (L.take (k + 1)) = (hosT ++ bodT (L.take k)) ++ bodT [L[k]] := by rw [bodT_take hlt, List.append_assoc]
      have Hnx := Lib.hid hnx
      have hU : (hosT ++ bodT (L.take k)).length ≤ 2000 := by
        have h1 := bod_len (L.take k)
        rw [List.length_take] at h1
        rw [List.length_append, show hosT.length = 6 from rfl]
        omega
      clear hnx
      clear hR hcell hbel
      generalize hosT ++ bodT (L.take k) = T at *
      obtain ⟨T2, hT2⟩ : ∃ T2, T2 = hosT ++ bodT (L.take (k + 1)) := ⟨_, rfl⟩
      rw [← hT2] at Hnx
      have HT2 := Lib.hid hT2
      clear hT2
      generalize hs : L[k] = s at *
      have HS : Hid (wr.rangeAt b (off + k * 5 + 1) (s.st.map Value.bool)) := Lib.hid (fun j u hu => by
        have := HR (j + 1) u (by unfold soL; rw [List.getElem?_cons_succ]; exact hu)
        rwa [show off + k * 5 + (j + 1) = off + k * 5 + 1 + j by omega] at this)
      have Hst := Lib.hid s.ok
      clear HR
      have hkind : ∃ W : List UInt8, 32 :: wordP s.k = W ∧ ((s.k == 1) = true ∧ W = [32, 102, 105, 108, 101, 115] ∨ (s.k == 1) = false ∧ (s.k == 2) = true ∧ W = [32, 100, 110, 115] ∨ (s.k == 1) = false ∧ (s.k == 2) = false ∧ W = [32, 111, 116, 104, 101, 114]) := by
        refine ⟨_, rfl, ?_⟩
        unfold wordP
        by_cases h1 : s.k = 1
        · exact .inl ⟨by simp [h1], by rw [if_pos h1]⟩
        · by_cases h2 : s.k = 2
          · exact .inr (.inl ⟨by simp [h1], by simp [h2], by rw [if_neg h1, if_pos h2]⟩)
          · exact .inr (.inr ⟨by simp [h1], by simp [h2], by rw [if_neg h1, if_neg h2]⟩)
      obtain ⟨W, hW, hways⟩ := hkind
      have HW := Lib.hid hW
      clear hW
      rcases hways with ⟨e1, rfl⟩ | ⟨e1, e2, rfl⟩ | ⟨e1, e2, rfl⟩
      all_goals
        go_wp2_with (first
          | ((with_reducible refine wpList_loadSt (o := ⟨some 35, _, _, _, _, _⟩) rfl _ rfl rfl Hst.out HS.out ?_))
          | ((with_reducible show wpList _ _ _ (⟨some 36, _, _, _, _, _⟩ :: _) _ _); refine wpList_buildL (o := ⟨some 36, _, _, _, _, _⟩) rfl _ [(0, .const (.bool true)), (1, .const (.bool false)), (2, .const (.bool false)), (3, .const (.bool false))] rfl (built_st true false false false) rfl ?_)
          | ((with_reducible refine wpList_eqlSt (o := ⟨some 37, _, _, _, _, _⟩) rfl _ _ rfl Hst.out rfl rfl rfl ?_); refine holdL ?_))
        refine Lib.hid ?_
        by_cases hp : s.st = [true, false, false, false]
        · have e5 : (s.st == [true, false, false, false]) = true := by rw [beq_iff_eq]; exact hp
          rw [e5]
          have Hb1 : Hid (bodT [s] = 32 :: wordP s.k) := Lib.hid (by rw [bodT, if_pos hp]; simp [bodT])
          clear hp e5
          go_wp2
          go_roundw
          case rel => exact ⟨k + 1, by omega, by go_num, by rw [← HT2.out, Hnx.out, Hb1.out, HW.out], Hbel.out⟩
          case measure => (simp [intOf]) <;> omega
        · have e5 : (s.st == [true, false, false, false]) = false := by rw [beq_eq_false_iff_ne]; exact hp
          rw [e5]
          have Hb1 : Hid (bodT [s] = 32 :: wordP s.k ++ 32 :: 91 :: (cluT s.st ++ [93])) := Lib.hid (by rw [bodT, if_neg hp]; simp [bodT])
          clear hp e5
          obtain ⟨wo, rfl⟩ : ∃ wo, wo = wr := ⟨_, rfl⟩
          go_wp2_with (first
            | ((with_reducible show wpList _ _ _ (⟨some 38, _, _, _, _, _⟩ :: _) _ _); refine wpList_lit (o := ⟨some 38, _, _, _, _, _⟩) rfl _ _ rfl elt_strs (wdsQ.map stv) rfl (by decide) (by decide) (fun v hv => by obtain ⟨x, _, rfl⟩ := List.mem_map.1 hv; rfl) rfl ?_; intro w2 hB2 hx2 hb2 hs2; clear hx2 hs2))
          have HB2 := Lib.hid hB2
          have Hb2 := Lib.hid (Hbel.out.trans (hb2.mono Hbel.out.size))
          have hS2 : Hid (w2.rangeAt b (off + k * 5 + 1) (s.st.map Value.bool)) := Lib.hid (fun j u hu => (hb2.cell (p := ⟨b, off + k * 5 + 1 + j, none⟩) (Nat.lt_of_lt_of_le hbl Hbel.out.size)).trans (HS.out j u hu))
          clear hB2 hb2 HS
          generalize wo.heap.size = g7 at *
          go_loopw [6, 8, 9] (fun tv jv _ wv => ∃ j : Nat, j ≤ 4 ∧ jv = .int .i64 j ∧ tv = .string ⟨(itsT s.st j).toArray⟩ ∧ wv = w2) (fun _ jv _ _ => 4 - (intOf jv).toNat)
          case atStart => exact ⟨0, by omega, rfl, rfl, rfl⟩
          case round =>
            obtain ⟨j, hj, rfl, rfl, rfl⟩ := hrel
            by_cases hj4 : j < 4
            · have hjI : (j : Int) < 4 := by omega
              have hj0 : (0 : Int) ≤ (j : Int) := by omega
              obtain ⟨q, hq1, hq2, hq3⟩ := wdsQ_at j hj4
              have hnx := itsT_next s.st s.ok j hj4
              have hT6 := its_len s.st s.ok j (by omega)
              have hj5 : j < s.st.length := by rw [s.ok]; exact hj4
              obtain ⟨x, hx⟩ : ∃ x, s.st[j] = x := ⟨_, rfl⟩
              have e49 : wr.cell? ⟨b, off + k * 5 + 1 + j, none⟩ = some (.bool x) := hS2.out j (.bool x) (by rw [List.getElem?_map, List.getElem?_eq_getElem hj5, hx]; rfl)
              have e57 : wr.cell? ⟨g7, j, none⟩ = some (.string ⟨q.toArray⟩) := by
                have h := HB2.out.cell j
                rw [h, List.getElem?_toArray, show ((wdsQ.map stv).flatMap fun v => v.cells.toList) = wdsQ.map stv from rfl, List.getElem?_map, hq1]
                rfl
              rw [hx, hq3 x] at hnx
              have Hnx6 := Lib.hid hnx
              clear hnx hq1 hq3 hx
              generalize itsT s.st j = T6 at *
              by_cases hj1 : 0 < j
              case' pos =>
                have hjJ : (0 : Int) < (j : Int) := by omega
                rw [if_pos hj1] at Hnx6
              case' neg =>
                have hjJ : ¬ (0 : Int) < (j : Int) := by omega
                rw [if_neg hj1] at Hnx6
              all_goals
                cases x
                all_goals
                  go_wp2
                  go_roundw
                  case rel => exact ⟨j + 1, by omega, by go_num, by rw [Hnx6.out]; simp, trivial⟩
                  case measure => (simp [intOf]) <;> omega
            · obtain rfl : j = 4 := by omega
              have hjI : ¬ ((4 : Nat) : Int) < 4 := by omega
              rw [itsT_all s.st s.ok]
              have hcl := its_len s.st s.ok 4 (by omega)
              rw [itsT_all s.st s.ok] at hcl
              have HF : Hid (hosT ++ bodT (L.take (k + 1)) = T ++ (32 :: wordP s.k ++ 32 :: 91 :: (cluT s.st ++ [93]))) := Lib.hid (by rw [← HT2.out, Hnx.out, Hb1.out])
              rw [HW.out] at HF
              clear Hnx Hb1 HT2 HW hS2 HB2
              generalize cluT s.st = C at *
              go_wp2
              go_roundw
              case rel => exact ⟨k + 1, by omega, by go_num, by rw [HF.out]; simp, Hb2.out⟩
              case measure => (simp [intOf]) <;> omega
    · obtain rfl : k = L.length := by omega
      rw [List.take_length]
      clear hbel
      go_wp2
      go_ret
      exact ⟨rfl, Hbel.out⟩
end Go.Proofs.YtgebcifkbldfoaaDoor
