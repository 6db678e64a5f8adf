/- The contract of utf.Next: it returns the point with whose bytes a text begins, and how many they are, as the plain function nx says. -/
import Derived.Test.YtnelaegjcpkmdaaUtfA
namespace Go.Proofs.Ytnelaegjcpkmdaa
open Go.RowKit

attribute [local go_sem] ba_get

theorem cont_fin : ∀ n : Fin 256, (bits .and .u8 (n.val : Int) 192 != 128) = !decide (n.val / 64 = 2) := by decide +kernel
theorem cont_eq (b : UInt8) : (bits .and .u8 (b.toNat : Int) 192 != 128) = !decide (b.toNat / 64 = 2) := cont_fin ⟨b.toNat, b.toNat_lt⟩
theorem cont_yes {b : UInt8} (h : b.toNat / 64 = 2) : (bits .and .u8 (b.toNat : Int) 192 != 128) = false := by rw [cont_eq]; simp [h]
theorem cont_no {b : UInt8} (h : ¬ b.toNat / 64 = 2) : (bits .and .u8 (b.toNat : Int) 192 != 128) = true := by rw [cont_eq]; simp [h]

theorem ofInt_i32 (a : Nat) (ha : a < 2147483648) : (BitVec.ofInt 32 (a : Int)).toNat = a := by
  rw [BitVec.ofInt_natCast, BitVec.toNat_ofNat]; exact Nat.mod_eq_of_lt (by omega)
theorem i32_or_nat (a b : Nat) (ha : a < 2147483648) (hb : b < 2147483648) : bits .or .i32 (a : Int) (b : Int) = ((a ||| b : Nat) : Int) := by
  have hx : a ||| b < 2 ^ 31 := Nat.or_lt_two_pow (by omega) (by omega)
  show IntKind.i32.wrap ((BitVec.ofInt 32 (a : Int) ||| BitVec.ofInt 32 (b : Int)).toNat : Int) = _
  rw [BitVec.toNat_or, ofInt_i32 a ha, ofInt_i32 b hb, IntKind.wrap_i32]
  omega
theorem or64 (x y : Int) (h0 : 0 ≤ x) (h1 : x < 1000000) (h2 : 0 ≤ y) (h3 : y < 64) : bits .or .i32 (x * 64) y = x * 64 + y := by
  obtain ⟨a, rfl⟩ := Int.eq_ofNat_of_zero_le h0
  obtain ⟨b, rfl⟩ := Int.eq_ofNat_of_zero_le h2
  have e : ((a : Int) * 64) = ((a * 64 : Nat) : Int) := by omega
  rw [e, i32_or_nat _ _ (by omega) (by omega)]
  have := Nat.two_pow_add_eq_or_of_lt (i := 6) (b := b) (by omega) a
  rw [show a * 64 = 2 ^ 6 * a from by omega, ← this]
  omega

def ck (least c n : Int) : Option (Int × Int) := if c < least ∨ ptB c = false then none else some (c, n)
def nx2 (a : Int) : List UInt8 → Option (Int × Int)
  | b :: _ => if b.toNat / 64 = 2 then ck 128 (a % 32 * 64 + (b.toNat : Int) % 64) 2 else none
  | _ => none
def nx3 (a : Int) : List UInt8 → Option (Int × Int)
  | b :: c :: _ => if b.toNat / 64 = 2 then if c.toNat / 64 = 2 then ck 2048 ((a % 16 * 64 + (b.toNat : Int) % 64) * 64 + (c.toNat : Int) % 64) 3 else none else none
  | _ => none
def nx4 (a : Int) : List UInt8 → Option (Int × Int)
  | b :: c :: d :: _ => if b.toNat / 64 = 2 then if c.toNat / 64 = 2 then if d.toNat / 64 = 2 then ck 65536 (((a % 8 * 64 + (b.toNat : Int) % 64) * 64 + (c.toNat : Int) % 64) * 64 + (d.toNat : Int) % 64) 4 else none else none else none
  | _ => none
def nx1 (a : Int) (r : List UInt8) : Option (Int × Int) :=
  if a < 128 then some (a, 1) else if a < 192 then none else if a < 224 then nx2 a r else if a < 240 then nx3 a r else if a < 248 then nx4 a r else none
def nx : List UInt8 → Option (Int × Int)
  | [] => none
  | a :: r => nx1 (a.toNat : Int) r
theorem nx_cons (a : UInt8) (r : List UInt8) : nx (a :: r) = nx1 (a.toNat : Int) r := rfl
theorem nx1_1 (a : Int) (r : List UInt8) (h : a < 128) : nx1 a r = some (a, 1) := by unfold nx1; exact if_pos h
theorem nx1_0 (a : Int) (r : List UInt8) (h : (128 ≤ a ∧ a < 192) ∨ 248 ≤ a) : nx1 a r = none := by
  unfold nx1
  rcases h with ⟨h, h'⟩ | h
  · rw [if_neg (by omega), if_pos (by omega)]
  · rw [if_neg (by omega), if_neg (by omega), if_neg (by omega), if_neg (by omega), if_neg (by omega)]
theorem nx1_2 (a : Int) (r : List UInt8) (h : 192 ≤ a) (h' : a < 224) : nx1 a r = nx2 a r := by
  unfold nx1; rw [if_neg (by omega), if_neg (by omega), if_pos (by omega)]
theorem nx1_3 (a : Int) (r : List UInt8) (h : 224 ≤ a) (h' : a < 240) : nx1 a r = nx3 a r := by
  unfold nx1; rw [if_neg (by omega), if_neg (by omega), if_neg (by omega), if_pos (by omega)]
theorem nx1_4 (a : Int) (r : List UInt8) (h : 240 ≤ a) (h' : a < 248) : nx1 a r = nx4 a r := by
  unfold nx1; rw [if_neg (by omega), if_neg (by omega), if_neg (by omega), if_neg (by omega), if_pos (by omega)]
def nextV : Option (Int × Int) → Value
  | none => .tuple #[.int .i32 0, .int .i64 0, .bool false]
  | some (c, n) => .tuple #[.int .i32 c, .int .i64 n, .bool true]
theorem ck_lt {least c n : Int} (h : c < least) : ck least c n = none := by simp [ck, h]
theorem ck_pt {least c n : Int} (h : ptB c = false) : ck least c n = none := by simp [ck, h]
theorem ck_ok {least c n : Int} (h : least ≤ c) (h2 : ptB c = true) : ck least c n = some (c, n) := by simp [ck, h2]; omega

theorem retn {o : Option (Int × Int)} (h : o = none) : Ending.returned (.tuple #[.int .i32 0, .int .i64 0, .bool false]) = .returned (nextV o) := by rw [h]; rfl
theorem rets {o : Option (Int × Int)} {c n : Int} (h : o = some (c, n)) : Ending.returned (.tuple #[.int .i32 c, .int .i64 n, .bool true]) = .returned (nextV o) := by rw [h]; rfl

section
variable (a b c d : UInt8) (r : List UInt8) (w : World)

set_option maxRecDepth 100000 in
set_option maxHeartbeats 400000 in
theorem next_nil : Calls Try.prog 108 #[.string ⟨([] : List UInt8).toArray⟩] w fun e w' => e = .returned (nextV (nx [])) ∧ w = w' := by
  go_enter Try.func108, Try.ntmps108
  go_wp2
  go_ret3
  exact ⟨retn rfl, rfl⟩

/-- the head of the walk: up to what stands behind the test of the length. -/
theorem sh_of (n m k : Int) (h : (n < 128 ∧ m = 1) ∨ (((128 ≤ n ∧ n < 192) ∨ 248 ≤ n) ∧ m = 0) ∨ (192 ≤ n ∧ n < 224 ∧ m = 2) ∨ (224 ≤ n ∧ n < 240 ∧ m = 3) ∨ (240 ≤ n ∧ n < 248 ∧ m = 4)) (hk : k = m) : shN n = k := by
  subst hk
  unfold shN
  rcases h with ⟨h, e⟩ | ⟨h | h, e⟩ | ⟨h1, h2, e⟩ | ⟨h1, h2, e⟩ | ⟨h1, h2, e⟩ <;> rw [e] <;> (repeat (first | rw [if_pos (by omega)] | rw [if_neg (by omega)]))

set_option maxRecDepth 100000 in
set_option maxHeartbeats 400000 in
theorem next_one (h0 : (a.toNat : Int) < 128) :
    Calls Try.prog 108 #[.string ⟨(a :: r).toArray⟩] w fun e w' => e = .returned (nextV (nx (a :: r))) ∧ w = w' := by
  have hfin : nx (a :: r) = some ((a.toNat : Int), 1) := nx1_1 _ r h0
  have Hfin := Lib.hid hfin
  clear hfin
  have hp : ptB (a.toNat : Int) = true := by simp [ptB]; omega
  have hl0 : (0 : Int) ≤ (a.toNat : Int) := by omega
  go_enter Try.func108, Try.ntmps108
  go_wp2_with fail
  refine (shape_any _ _ (by omega) (by omega)).mono ?_
  rintro e w' ⟨rfl, rfl⟩
  rw [sh_of (a.toNat : Int) 1 1 (by omega) rfl, show shC (a.toNat : Int) = (a.toNat : Int) from by simp only [shC]; rw [if_pos (by omega)], show shL (a.toNat : Int) = 0 from by simp only [shL]; rw [if_pos (by omega)]]
  go_wp2_with fail
  refine wp_loop_rounds 1 ?_
  rw [rounds_succ]; go_wp2_with fail
  refine (point_any _ _ (by omega) (by omega)).mono ?_
  rintro e w' ⟨rfl, rfl⟩
  rw [hp]
  go_wp2_with fail
  go_ret3
  exact ⟨rets Hfin.out, rfl⟩

set_option maxRecDepth 100000 in
set_option maxHeartbeats 400000 in
theorem next_bad (h0 : (128 ≤ (a.toNat : Int) ∧ (a.toNat : Int) < 192) ∨ 248 ≤ (a.toNat : Int)) :
    Calls Try.prog 108 #[.string ⟨(a :: r).toArray⟩] w fun e w' => e = .returned (nextV (nx (a :: r))) ∧ w = w' := by
  have hfin : nx (a :: r) = none := nx1_0 _ r h0
  have Hfin := Lib.hid hfin
  clear hfin
  have hlt : (a.toNat : Int) ≤ 255 := by have := a.toNat_lt; omega
  go_enter Try.func108, Try.ntmps108
  go_wp2_with fail
  refine (shape_any _ _ (by omega) (by omega)).mono ?_
  rintro e w' ⟨rfl, rfl⟩
  rw [sh_of (a.toNat : Int) 0 0 (by omega) rfl]
  go_wp2_with fail
  go_ret3
  exact ⟨retn Hfin.out, rfl⟩

set_option maxRecDepth 100000 in
set_option maxHeartbeats 400000 in
theorem next_short (n : Int) (h2 : 2 ≤ n) (hl : (r.length : Int) + 1 < n) (hn : n ≤ 4) (hsh : shN (a.toNat : Int) = n) (hfin : nx (a :: r) = none) :
    Calls Try.prog 108 #[.string ⟨(a :: r).toArray⟩] w fun e w' => e = .returned (nextV (nx (a :: r))) ∧ w = w' := by
  have Hfin := Lib.hid hfin
  clear hfin
  have Hsh := Lib.hid hsh
  clear hsh
  have hlt : (a.toNat : Int) ≤ 255 := by have := a.toNat_lt; omega
  have hnz : ((n : Int) == 0) = false := by simp; omega
  go_enter Try.func108, Try.ntmps108
  go_wp2_with fail
  refine (shape_any _ _ (by omega) (by omega)).mono ?_
  rintro e w' ⟨rfl, rfl⟩
  rw [Hsh.out]
  go_wp2_with fail
  go_ret3
  exact ⟨retn Hfin.out, rfl⟩

set_option maxRecDepth 100000 in
set_option maxHeartbeats 400000 in
theorem next_two (hl : r.length + 2 ≤ 140737488351232) (h0 : 192 ≤ (a.toNat : Int)) (h1 : (a.toNat : Int) < 224) :
    Calls Try.prog 108 #[.string ⟨(a :: b :: r).toArray⟩] w fun e w' => e = .returned (nextV (nx (a :: b :: r))) ∧ w = w' := by
  have hfin : nx (a :: b :: r) = if b.toNat / 64 = 2 then ck 128 ((a.toNat : Int) % 32 * 64 + (b.toNat : Int) % 64) 2 else none := nx1_2 _ _ h0 h1
  have hb0 : (b.toNat : Int) ≤ 255 := by have := b.toNat_lt; omega
  have hb1 : (0 : Int) ≤ (b.toNat : Int) := by omega
  have e1 := sh_of (a.toNat : Int) 2 2 (by omega) rfl
  have e2 : shC (a.toNat : Int) = (a.toNat : Int) % 32 := by simp only [shC]; (repeat (first | rw [if_pos (by omega)] | rw [if_neg (by omega)]))
  have e3 : shL (a.toNat : Int) = 128 := by simp only [shL]; (repeat (first | rw [if_pos (by omega)] | rw [if_neg (by omega)]))
  have E1 := Lib.hid e1
  have E2 := Lib.hid e2
  have E3 := Lib.hid e3
  clear e1 e2 e3
  by_cases hb : b.toNat / 64 = 2
  · rw [if_pos hb] at hfin
    have Hfin := Lib.hid hfin
    have hc := cont_yes hb
    clear hb hfin
    have ho := or64 ((a.toNat : Int) % 32) ((b.toNat : Int) % 64) (by omega) (by omega) (by omega) (by omega)
    go_enter Try.func108, Try.ntmps108
    go_wp2_with fail
    refine (shape_any _ _ (by omega) (by omega)).mono ?_
    rintro e w' ⟨rfl, rfl⟩
    rw [E1.out, E2.out, E3.out]
    go_wp2_with fail
    refine wp_loop_rounds 2 ?_
    rw [rounds_succ]; go_wp2_with fail
    rw [rounds_succ]; go_wp2_with fail
    · refine (point_any _ _ (by omega) (by omega)).mono ?_
      rintro e w' ⟨rfl, rfl⟩
      rcases hp : ptB ((a.toNat : Int) % 32 * 64 + (b.toNat : Int) % 64)
      · go_wp2_with fail
        go_ret3
        exact ⟨retn (by rw [Hfin.out, ck_pt hp]), rfl⟩
      · go_wp2_with fail
        go_ret3
        exact ⟨rets (by rw [Hfin.out, ck_ok (by omega) hp]), rfl⟩
    · go_ret3
      exact ⟨retn (by rw [Hfin.out, ck_lt (by omega)]), rfl⟩
  · rw [if_neg hb] at hfin
    have Hfin := Lib.hid hfin
    have hc := cont_no hb
    clear hb hfin
    go_enter Try.func108, Try.ntmps108
    go_wp2_with fail
    refine (shape_any _ _ (by omega) (by omega)).mono ?_
    rintro e w' ⟨rfl, rfl⟩
    rw [E1.out, E2.out, E3.out]
    go_wp2_with fail
    refine wp_loop_rounds 1 ?_
    rw [rounds_succ]; go_wp2_with fail
    go_ret3
    exact ⟨retn Hfin.out, rfl⟩

set_option maxRecDepth 100000 in
set_option maxHeartbeats 1000000 in
theorem next_three (hl : r.length + 3 ≤ 140737488351232) (h0 : 224 ≤ (a.toNat : Int)) (h1 : (a.toNat : Int) < 240) :
    Calls Try.prog 108 #[.string ⟨(a :: b :: c :: r).toArray⟩] w fun e w' => e = .returned (nextV (nx (a :: b :: c :: r))) ∧ w = w' := by
  have hfin : nx (a :: b :: c :: r) = if b.toNat / 64 = 2 then if c.toNat / 64 = 2 then ck 2048 ((((a.toNat : Int) % 16) * 64 + (b.toNat : Int) % 64) * 64 + (c.toNat : Int) % 64) 3 else none else none := nx1_3 _ _ h0 h1
  have hb0 : (b.toNat : Int) ≤ 255 := by have := b.toNat_lt; omega
  have hb1 : (0 : Int) ≤ (b.toNat : Int) := by omega
  have hc0 : (c.toNat : Int) ≤ 255 := by have := c.toNat_lt; omega
  have hc1 : (0 : Int) ≤ (c.toNat : Int) := by omega
  have e1 := sh_of (a.toNat : Int) 3 3 (by omega) rfl
  have e2 : shC (a.toNat : Int) = (a.toNat : Int) % 16 := by simp only [shC]; (repeat (first | rw [if_pos (by omega)] | rw [if_neg (by omega)]))
  have e3 : shL (a.toNat : Int) = 2048 := by simp only [shL]; (repeat (first | rw [if_pos (by omega)] | rw [if_neg (by omega)]))
  have E1 := Lib.hid e1
  have E2 := Lib.hid e2
  have E3 := Lib.hid e3
  clear e1 e2 e3
  by_cases hb : b.toNat / 64 = 2
  · rw [if_pos hb] at hfin
    have hcb := cont_yes hb
    clear hb
    by_cases hc : c.toNat / 64 = 2
    · rw [if_pos hc] at hfin
      have hcc := cont_yes hc
      clear hc
      have Hfin := Lib.hid hfin
      clear hfin
      have hob := or64 ((a.toNat : Int) % 16) ((b.toNat : Int) % 64) (by omega) (by omega) (by omega) (by omega)
      have hoc := or64 (((a.toNat : Int) % 16) * 64 + (b.toNat : Int) % 64) ((c.toNat : Int) % 64) (by omega) (by omega) (by omega) (by omega)
      go_enter Try.func108, Try.ntmps108
      go_wp2_with fail
      refine (shape_any _ _ (by omega) (by omega)).mono ?_
      rintro e w' ⟨rfl, rfl⟩
      rw [E1.out, E2.out, E3.out]
      go_wp2_with fail
      refine wp_loop_rounds 3 ?_
      rw [rounds_succ]; go_wp2_with fail
      rw [rounds_succ]; go_wp2_with fail
      rw [rounds_succ]; go_wp2_with fail
      · refine (point_any _ _ (by omega) (by omega)).mono ?_
        rintro e w' ⟨rfl, rfl⟩
        rcases hp : ptB ((((a.toNat : Int) % 16) * 64 + (b.toNat : Int) % 64) * 64 + (c.toNat : Int) % 64)
        · go_wp2_with fail
          go_ret3
          exact ⟨retn (by rw [Hfin.out, ck_pt hp]), rfl⟩
        · go_wp2_with fail
          go_ret3
          exact ⟨rets (by rw [Hfin.out, ck_ok (by omega) hp]), rfl⟩
      · go_ret3
        exact ⟨retn (by rw [Hfin.out, ck_lt (by omega)]), rfl⟩
    · rw [if_neg hc] at hfin
      have Hfin := Lib.hid hfin
      have hcc := cont_no hc
      clear hc hfin
      have hob := or64 ((a.toNat : Int) % 16) ((b.toNat : Int) % 64) (by omega) (by omega) (by omega) (by omega)
      go_enter Try.func108, Try.ntmps108
      go_wp2_with fail
      refine (shape_any _ _ (by omega) (by omega)).mono ?_
      rintro e w' ⟨rfl, rfl⟩
      rw [E1.out, E2.out, E3.out]
      go_wp2_with fail
      refine wp_loop_rounds 2 ?_
      rw [rounds_succ]; go_wp2_with fail
      rw [rounds_succ]; go_wp2_with fail
      go_ret3
      exact ⟨retn Hfin.out, rfl⟩
  · rw [if_neg hb] at hfin
    have Hfin := Lib.hid hfin
    have hcb := cont_no hb
    clear hb hfin
    go_enter Try.func108, Try.ntmps108
    go_wp2_with fail
    refine (shape_any _ _ (by omega) (by omega)).mono ?_
    rintro e w' ⟨rfl, rfl⟩
    rw [E1.out, E2.out, E3.out]
    go_wp2_with fail
    refine wp_loop_rounds 1 ?_
    rw [rounds_succ]; go_wp2_with fail
    go_ret3
    exact ⟨retn Hfin.out, rfl⟩

set_option maxRecDepth 100000 in
set_option maxHeartbeats 1000000 in
theorem next_four (hl : r.length + 4 ≤ 140737488351232) (h0 : 240 ≤ (a.toNat : Int)) (h1 : (a.toNat : Int) < 248) :
    Calls Try.prog 108 #[.string ⟨(a :: b :: c :: d :: r).toArray⟩] w fun e w' => e = .returned (nextV (nx (a :: b :: c :: d :: r))) ∧ w = w' := by
  have hfin : nx (a :: b :: c :: d :: r) = if b.toNat / 64 = 2 then if c.toNat / 64 = 2 then if d.toNat / 64 = 2 then ck 65536 (((((a.toNat : Int) % 8) * 64 + (b.toNat : Int) % 64) * 64 + (c.toNat : Int) % 64) * 64 + (d.toNat : Int) % 64) 4 else none else none else none := nx1_4 _ _ h0 h1
  have hb0 : (b.toNat : Int) ≤ 255 := by have := b.toNat_lt; omega
  have hb1 : (0 : Int) ≤ (b.toNat : Int) := by omega
  have hc0 : (c.toNat : Int) ≤ 255 := by have := c.toNat_lt; omega
  have hc1 : (0 : Int) ≤ (c.toNat : Int) := by omega
  have hd0 : (d.toNat : Int) ≤ 255 := by have := d.toNat_lt; omega
  have hd1 : (0 : Int) ≤ (d.toNat : Int) := by omega
  have e1 := sh_of (a.toNat : Int) 4 4 (by omega) rfl
  have e2 : shC (a.toNat : Int) = (a.toNat : Int) % 8 := by simp only [shC]; (repeat (first | rw [if_pos (by omega)] | rw [if_neg (by omega)]))
  have e3 : shL (a.toNat : Int) = 65536 := by simp only [shL]; (repeat (first | rw [if_pos (by omega)] | rw [if_neg (by omega)]))
  have E1 := Lib.hid e1
  have E2 := Lib.hid e2
  have E3 := Lib.hid e3
  clear e1 e2 e3
  by_cases hb : b.toNat / 64 = 2
  · rw [if_pos hb] at hfin
    have hcb := cont_yes hb
    clear hb
    by_cases hc : c.toNat / 64 = 2
    · rw [if_pos hc] at hfin
      have hcc := cont_yes hc
      clear hc
      by_cases hd : d.toNat / 64 = 2
      · rw [if_pos hd] at hfin
        have hcd := cont_yes hd
        clear hd
        have Hfin := Lib.hid hfin
        clear hfin
        have hob := or64 ((a.toNat : Int) % 8) ((b.toNat : Int) % 64) (by omega) (by omega) (by omega) (by omega)
        have hoc := or64 (((a.toNat : Int) % 8) * 64 + (b.toNat : Int) % 64) ((c.toNat : Int) % 64) (by omega) (by omega) (by omega) (by omega)
        have hod := or64 ((((a.toNat : Int) % 8) * 64 + (b.toNat : Int) % 64) * 64 + (c.toNat : Int) % 64) ((d.toNat : Int) % 64) (by omega) (by omega) (by omega) (by omega)
        go_enter Try.func108, Try.ntmps108
        go_wp2_with fail
        refine (shape_any _ _ (by omega) (by omega)).mono ?_
        rintro e w' ⟨rfl, rfl⟩
        rw [E1.out, E2.out, E3.out]
        go_wp2_with fail
        refine wp_loop_rounds 4 ?_
        rw [rounds_succ]; go_wp2_with fail
        rw [rounds_succ]; go_wp2_with fail
        rw [rounds_succ]; go_wp2_with fail
        rw [rounds_succ]; go_wp2_with fail
        · have hge : (65536 : Int) ≤ (((((a.toNat : Int) % 8) * 64 + (b.toNat : Int) % 64) * 64 + (c.toNat : Int) % 64) * 64 + (d.toNat : Int) % 64) := by omega
          have hle : (((((a.toNat : Int) % 8) * 64 + (b.toNat : Int) % 64) * 64 + (c.toNat : Int) % 64) * 64 + (d.toNat : Int) % 64) ≤ 2147483647 := by omega
          generalize (((((a.toNat : Int) % 8) * 64 + (b.toNat : Int) % 64) * 64 + (c.toNat : Int) % 64) * 64 + (d.toNat : Int) % 64) = p at *
          refine (point_any _ _ (by omega) (by omega)).mono ?_
          rintro e w' ⟨rfl, rfl⟩
          rcases hp : ptB p
          · go_wp2_with fail
            go_ret3
            exact ⟨retn (by rw [Hfin.out, ck_pt hp]), rfl⟩
          · go_wp2_with fail
            go_ret3
            exact ⟨rets (by rw [Hfin.out, ck_ok (by omega) hp]), rfl⟩
        · go_ret3
          exact ⟨retn (by rw [Hfin.out, ck_lt (by omega)]), rfl⟩
      · rw [if_neg hd] at hfin
        have Hfin := Lib.hid hfin
        have hcd := cont_no hd
        clear hd hfin
        have hob := or64 ((a.toNat : Int) % 8) ((b.toNat : Int) % 64) (by omega) (by omega) (by omega) (by omega)
        have hoc := or64 (((a.toNat : Int) % 8) * 64 + (b.toNat : Int) % 64) ((c.toNat : Int) % 64) (by omega) (by omega) (by omega) (by omega)
        go_enter Try.func108, Try.ntmps108
        go_wp2_with fail
        refine (shape_any _ _ (by omega) (by omega)).mono ?_
        rintro e w' ⟨rfl, rfl⟩
        rw [E1.out, E2.out, E3.out]
        go_wp2_with fail
        refine wp_loop_rounds 3 ?_
        rw [rounds_succ]; go_wp2_with fail
        rw [rounds_succ]; go_wp2_with fail
        rw [rounds_succ]; go_wp2_with fail
        go_ret3
        exact ⟨retn Hfin.out, rfl⟩
    · rw [if_neg hc] at hfin
      have Hfin := Lib.hid hfin
      have hcc := cont_no hc
      clear hc hfin
      have hob := or64 ((a.toNat : Int) % 8) ((b.toNat : Int) % 64) (by omega) (by omega) (by omega) (by omega)
      go_enter Try.func108, Try.ntmps108
      go_wp2_with fail
      refine (shape_any _ _ (by omega) (by omega)).mono ?_
      rintro e w' ⟨rfl, rfl⟩
      rw [E1.out, E2.out, E3.out]
      go_wp2_with fail
      refine wp_loop_rounds 2 ?_
      rw [rounds_succ]; go_wp2_with fail
      rw [rounds_succ]; go_wp2_with fail
      go_ret3
      exact ⟨retn Hfin.out, rfl⟩
  · rw [if_neg hb] at hfin
    have Hfin := Lib.hid hfin
    have hcb := cont_no hb
    clear hb hfin
    go_enter Try.func108, Try.ntmps108
    go_wp2_with fail
    refine (shape_any _ _ (by omega) (by omega)).mono ?_
    rintro e w' ⟨rfl, rfl⟩
    rw [E1.out, E2.out, E3.out]
    go_wp2_with fail
    refine wp_loop_rounds 1 ?_
    rw [rounds_succ]; go_wp2_with fail
    go_ret3
    exact ⟨retn Hfin.out, rfl⟩

theorem next_any (l : List UInt8) (hl : l.length ≤ 140737488351232) :
    Calls Try.prog 108 #[.string ⟨l.toArray⟩] w fun e w' => e = .returned (nextV (nx l)) ∧ w = w' := by
  match l, hl with
  | [], _ => exact next_nil w
  | a :: r, hl =>
    have hl : r.length + 1 ≤ 140737488351232 := hl
    rcases (show ((a.toNat : Int) < 128 ∨ ((128 ≤ (a.toNat : Int) ∧ (a.toNat : Int) < 192) ∨ 248 ≤ (a.toNat : Int)) ∨ (192 ≤ (a.toNat : Int) ∧ (a.toNat : Int) < 224) ∨ (224 ≤ (a.toNat : Int) ∧ (a.toNat : Int) < 240) ∨ (240 ≤ (a.toNat : Int) ∧ (a.toNat : Int) < 248)) by omega) with h | h | ⟨h, h'⟩ | ⟨h, h'⟩ | ⟨h, h'⟩
    · exact next_one a r w h
    · exact next_bad a r w h
    · match r, hl with
      | [], _ => exact next_short a [] w 2 (by omega) (by simp) (by omega) (sh_of _ 2 2 (by omega) rfl) (nx1_2 _ _ h h')
      | b :: r, hl => exact next_two a b r w hl h h'
    · match r, hl with
      | [], _ => exact next_short a [] w 3 (by omega) (by simp) (by omega) (sh_of _ 3 3 (by omega) rfl) (nx1_3 _ _ h h')
      | [b], _ => exact next_short a [b] w 3 (by omega) (by simp) (by omega) (sh_of _ 3 3 (by omega) rfl) (nx1_3 _ _ h h')
      | b :: c :: r, hl => exact next_three a b c r w hl h h'
    · match r, hl with
      | [], _ => exact next_short a [] w 4 (by omega) (by simp) (by omega) (sh_of _ 4 4 (by omega) rfl) (nx1_4 _ _ h h')
      | [b], _ => exact next_short a [b] w 4 (by omega) (by simp) (by omega) (sh_of _ 4 4 (by omega) rfl) (nx1_4 _ _ h h')
      | [b, c], _ => exact next_short a [b, c] w 4 (by omega) (by simp) (by omega) (sh_of _ 4 4 (by omega) rfl) (nx1_4 _ _ h h')
      | b :: c :: d :: r, hl => exact next_four a b c d r w hl h h'

end
end Go.Proofs.Ytnelaegjcpkmdaa
