/- Contracts and plain lemmas of our own, merged. -/
import Derived.Test.YtbffkddlkfefoaaDoorZid1
import Derived.Test.YtbffkddlkfefoaaDoorProg
/- The contracts of ascii.Number and of the reference's Number: both answer what numV says. -/
namespace Go.Proofs.YtbffkddlkfefoaaDoor
open Go.RowKit
attribute [local go_sem] ba_get

def dgB (b : UInt8) : Bool := decide (48 ≤ b.toNat ∧ b.toNat ≤ 57)
def val (l : List UInt8) : Nat := l.foldl (fun n b => 10 * n + (b.toNat - 48)) 0
theorem dgB_t {b : UInt8} (h : dgB b = true) : 48 ≤ b.toNat ∧ b.toNat ≤ 57 := by simpa [dgB] using h
end Go.Proofs.YtbffkddlkfefoaaDoor

/- The contracts of domain.digit, domain.escaped and the reference's escaped. -/
namespace Go.Proofs.YtbffkddlkfefoaaDoor
open Go.RowKit
attribute [local go_sem] ba_get ext_take ext_drop

def esc3 (a : UInt8) : List UInt8 → Option (UInt8 × Nat)
  | b :: c :: _ => if dgB b = true ∧ dgB c = true then (if 100 * (a.toNat - 48) + 10 * (b.toNat - 48) + (c.toNat - 48) ≤ 255 then some (UInt8.ofNat (100 * (a.toNat - 48) + 10 * (b.toNat - 48) + (c.toNat - 48)), 3) else none) else none
  | _ => none
def esc : List UInt8 → Option (UInt8 × Nat)
  | [] => none
  | a :: r => if dgB a = true then esc3 a r else some (a, 1)
def escV : Option (UInt8 × Nat) → Value
  | none => .tuple #[.int .u8 0, .int .i64 0, .bool false]
  | some (c, n) => .tuple #[.int .u8 (c.toNat : Int), .int .i64 (n : Int), .bool true]
theorem esc_t {a : UInt8} {r : List UInt8} (h : dgB a = true) : esc (a :: r) = esc3 a r := by unfold esc; exact if_pos h
theorem esc_f {a : UInt8} {r : List UInt8} (h : dgB a = false) : esc (a :: r) = some (a, 1) := by unfold esc; exact if_neg (by simp [h])
theorem escn {o : Option (UInt8 × Nat)} (h : o = none) : Ending.returned (.tuple #[.int .u8 0, .int .i64 0, .bool false]) = .returned (escV o) := by rw [h]; rfl
theorem escs {o : Option (UInt8 × Nat)} {c : UInt8} {n : Nat} {z m : Int} (h : o = some (c, n)) (hz : z = c.toNat) (hm : m = n) : Ending.returned (.tuple #[.int .u8 z, .int .i64 m, .bool true]) = .returned (escV o) := by rw [h, hz, hm]; rfl
set_option maxHeartbeats 400000 in
theorem digit_any (b : UInt8) (w : World) : Calls Tryd.prog 203 #[.int .u8 (b.toNat : Int)] w fun e w' => e = .returned (.bool (dgB b)) ∧ w = w' := by
  go_enter Tryd.func203, Tryd.ntmps203
  go_wp2
  all_goals go_ret
  all_goals exact ⟨retb (by rw [Bool.eq_iff_iff]; simp [dgB]; omega), rfl⟩

set_option maxRecDepth 100000 in
set_option maxHeartbeats 800000 in
theorem escaped_any (l : List UInt8) (w : World) (hl : l.length ≤ 140737488351232) :
    Calls Tryd.prog 162 #[.string ⟨l.toArray⟩] w fun e w' => e = .returned (escV (esc l)) ∧ ∃ n, w' = w.drewN n := by
  rcases l with _ | ⟨a, r⟩
  · go_enter Tryd.func162, Tryd.ntmps162
    go_wp2
    go_ret3
    exact ⟨escn rfl, 0, rfl⟩
  · rw [List.length_cons] at hl
    rcases ha : dgB a
    · have Ha := Lib.hid ha
      clear ha
      go_enter Tryd.func162, Tryd.ntmps162
      go_wp2_with fail
      refine (digit_any _ _).mono ?_
      rintro e w' ⟨rfl, rfl⟩
      rw [Ha.out]
      go_wp2_with fail
      go_ret3
      exact ⟨escs (esc_f Ha.out) rfl rfl, 0, rfl⟩
    · have Ha := Lib.hid ha
      have Hda := Lib.hid (dgB_t ha)
      clear ha
      rcases r with _ | ⟨b, r⟩
      · go_enter Tryd.func162, Tryd.ntmps162
        go_wp2_with fail
        refine (digit_any _ _).mono ?_
        rintro e w' ⟨rfl, rfl⟩
        rw [Ha.out]
        go_wp2_with fail
        go_ret3
        exact ⟨escn (by rw [esc_t Ha.out]; rfl), 0, rfl⟩
      · rcases r with _ | ⟨c, r⟩
        · go_enter Tryd.func162, Tryd.ntmps162
          go_wp2_with fail
          refine (digit_any _ _).mono ?_
          rintro e w' ⟨rfl, rfl⟩
          rw [Ha.out]
          go_wp2_with fail
          go_ret3
          exact ⟨escn (by rw [esc_t Ha.out]; rfl), 0, rfl⟩
        · rcases hb : dgB b
          · have Hb := Lib.hid hb
            clear hb
            go_enter Tryd.func162, Tryd.ntmps162
            go_wp2_with fail
            refine (digit_any _ _).mono ?_
            rintro e w' ⟨rfl, rfl⟩
            rw [Ha.out]
            go_wp2_with fail
            refine (digit_any _ _).mono ?_
            rintro e w' ⟨rfl, rfl⟩
            rw [Hb.out]
            go_wp2_with fail
            go_ret3
            exact ⟨escn (by rw [esc_t Ha.out, esc3, if_neg]; rw [Hb.out]; simp), 0, rfl⟩
          · have Hb := Lib.hid hb
            have Hdb := Lib.hid (dgB_t hb)
            clear hb
            rcases hc : dgB c
            · have Hc := Lib.hid hc
              clear hc
              go_enter Tryd.func162, Tryd.ntmps162
              go_wp2_with fail
              refine (digit_any _ _).mono ?_
              rintro e w' ⟨rfl, rfl⟩
              rw [Ha.out]
              go_wp2_with fail
              refine (digit_any _ _).mono ?_
              rintro e w' ⟨rfl, rfl⟩
              rw [Hb.out]
              go_wp2_with fail
              refine (digit_any _ _).mono ?_
              rintro e w' ⟨rfl, rfl⟩
              rw [Hc.out]
              go_wp2_with fail
              go_ret3
              exact ⟨escn (by rw [esc_t Ha.out, esc3, if_neg]; rw [Hc.out]; simp), 0, rfl⟩
            · have Hc := Lib.hid hc
              have hdc := dgB_t hc
              have hda := Hda.out
              have hdb := Hdb.out
              clear hc Hda Hdb
              have q1 : (48 : Int) ≤ (a.toNat : Int) := by omega
              have q2 : (a.toNat : Int) ≤ 57 := by omega
              have q3 : (48 : Int) ≤ (b.toNat : Int) := by omega
              have q4 : (b.toNat : Int) ≤ 57 := by omega
              have q5 : (48 : Int) ≤ (c.toNat : Int) := by omega
              have q6 : (c.toNat : Int) ≤ 57 := by omega
              go_enter Tryd.func162, Tryd.ntmps162
              go_wp2_with fail
              refine (digit_any _ _).mono ?_
              rintro e w' ⟨rfl, rfl⟩
              rw [Ha.out]
              go_wp2_with fail
              refine (digit_any _ _).mono ?_
              rintro e w' ⟨rfl, rfl⟩
              rw [Hb.out]
              go_wp2_with fail
              refine (digit_any _ _).mono ?_
              rintro e w' ⟨rfl, rfl⟩
              rw [Hc.out]
              go_wp2_with fail
              go_quiet (fail)
              go_wp2
              · go_ret3
                exact ⟨escn (by rw [esc_t Ha.out, esc3, if_pos ⟨Hb.out, Hc.out⟩, if_neg (by omega)]), _, rfl⟩
              · go_ret3
                exact ⟨escs (by rw [esc_t Ha.out, esc3, if_pos ⟨Hb.out, Hc.out⟩, if_pos (by omega)]) (by rw [UInt8.toNat_ofNat_of_lt' (show _ < 256 by omega)]; omega) rfl, _, rfl⟩

end Go.Proofs.YtbffkddlkfefoaaDoor

/- Contracts of the leaves of package utf and of its reference: shape, lead, Point. -/
namespace Go.Proofs.YtbffkddlkfefoaaDoor
open Go.RowKit

def shN (c : Int) : Int := if c < 128 then 1 else if c < 192 then 0 else if c < 224 then 2 else if c < 240 then 3 else if c < 248 then 4 else 0
def shC (c : Int) : Int := if c < 128 then c else if c < 192 then 0 else if c < 224 then c % 32 else if c < 240 then c % 16 else if c < 248 then c % 8 else 0
def shL (c : Int) : Int := if c < 128 then 0 else if c < 192 then 0 else if c < 224 then 128 else if c < 240 then 2048 else if c < 248 then 65536 else 0
def ptB (c : Int) : Bool := decide (0 ≤ c ∧ c ≤ 1114111 ∧ (c < 55296 ∨ 57343 < c))

set_option maxHeartbeats 400000 in
theorem shape_any (c : Int) (w : World) (h0 : 0 ≤ c) (h1 : c ≤ 255) :
    Calls Tryd.prog 191 #[.int .u8 c] w fun e w' => e = .returned (.tuple #[.int .i64 (shN c), .int .i32 (shC c), .int .i32 (shL c)]) ∧ w = w' := by
  go_enter Tryd.func191, Tryd.ntmps191
  go_wp2
  all_goals go_ret3
  all_goals (refine ⟨ret3 (vint ?_) (vint ?_) (vint ?_), rfl⟩)
  all_goals (simp only [shN, shC, shL]; (repeat (first | rw [if_pos (by omega)] | rw [if_neg (by omega)])))

set_option maxHeartbeats 400000 in
theorem point_any (c : Int) (w : World) (h0 : -2147483648 ≤ c) (h1 : c ≤ 2147483647) :
    Calls Tryd.prog 192 #[.int .i32 c] w fun e w' => e = .returned (.bool (ptB c)) ∧ w = w' := by
  go_enter Tryd.func192, Tryd.ntmps192
  go_wp2
  all_goals go_ret
  all_goals exact ⟨retb (by rw [Bool.eq_iff_iff]; simp [ptB]; omega), rfl⟩

end Go.Proofs.YtbffkddlkfefoaaDoor

/- The contract of utf.Next: it returns the point with whose bytes a text begins, and how many they are, as the plain function nx says. -/
namespace Go.Proofs.YtbffkddlkfefoaaDoor
open Go.RowKit

attribute [local go_sem] ba_get

theorem cont_fin : ∀ n : Fin 256, (bits .and .u8 (n.val : Int) 192 != 128) = !decide (n.val / 64 = 2) := by decide +kernel
theorem cont_eq (b : UInt8) : (bits .and .u8 (b.toNat : Int) 192 != 128) = !decide (b.toNat / 64 = 2) := cont_fin ⟨b.toNat, b.toNat_lt⟩
theorem cont_yes {b : UInt8} (h : b.toNat / 64 = 2) : (bits .and .u8 (b.toNat : Int) 192 != 128) = false := by rw [cont_eq]; simp [h]
theorem cont_no {b : UInt8} (h : ¬ b.toNat / 64 = 2) : (bits .and .u8 (b.toNat : Int) 192 != 128) = true := by rw [cont_eq]; simp [h]

theorem ofInt_i32 (a : Nat) (ha : a < 2147483648) : (BitVec.ofInt 32 (a : Int)).toNat = a := by
  rw [BitVec.ofInt_natCast, BitVec.toNat_ofNat]; exact Nat.mod_eq_of_lt (by omega)
theorem i32_or_nat (a b : Nat) (ha : a < 2147483648) (hb : b < 2147483648) : bits .or .i32 (a : Int) (b : Int) = ((a ||| b : Nat) : Int) := by
  have hx : a ||| b < 2 ^ 31 := Nat.or_lt_two_pow (by omega) (by omega)
  show IntKind.i32.wrap ((BitVec.ofInt 32 (a : Int) ||| BitVec.ofInt 32 (b : Int)).toNat : Int) = _
  rw [BitVec.toNat_or, ofInt_i32 a ha, ofInt_i32 b hb, IntKind.wrap_i32]
  omega
theorem or64 (x y : Int) (h0 : 0 ≤ x) (h1 : x < 1000000) (h2 : 0 ≤ y) (h3 : y < 64) : bits .or .i32 (x * 64) y = x * 64 + y := by
  obtain ⟨a, rfl⟩ := Int.eq_ofNat_of_zero_le h0
  obtain ⟨b, rfl⟩ := Int.eq_ofNat_of_zero_le h2
  have e : ((a : Int) * 64) = ((a * 64 : Nat) : Int) := by omega
  rw [e, i32_or_nat _ _ (by omega) (by omega)]
  have := Nat.two_pow_add_eq_or_of_lt (i := 6) (b := b) (by omega) a
  rw [show a * 64 = 2 ^ 6 * a from by omega, ← this]
  omega

def ck (least c n : Int) : Option (Int × Int) := if c < least ∨ ptB c = false then none else some (c, n)
def nx2 (a : Int) : List UInt8 → Option (Int × Int)
  | b :: _ => if b.toNat / 64 = 2 then ck 128 (a % 32 * 64 + (b.toNat : Int) % 64) 2 else none
  | _ => none
def nx3 (a : Int) : List UInt8 → Option (Int × Int)
  | b :: c :: _ => if b.toNat / 64 = 2 then if c.toNat / 64 = 2 then ck 2048 ((a % 16 * 64 + (b.toNat : Int) % 64) * 64 + (c.toNat : Int) % 64) 3 else none else none
  | _ => none
def nx4 (a : Int) : List UInt8 → Option (Int × Int)
  | b :: c :: d :: _ => if b.toNat / 64 = 2 then if c.toNat / 64 = 2 then if d.toNat / 64 = 2 then ck 65536 (((a % 8 * 64 + (b.toNat : Int) % 64) * 64 + (c.toNat : Int) % 64) * 64 + (d.toNat : Int) % 64) 4 else none else none else none
  | _ => none
def nx1 (a : Int) (r : List UInt8) : Option (Int × Int) :=
  if a < 128 then some (a, 1) else if a < 192 then none else if a < 224 then nx2 a r else if a < 240 then nx3 a r else if a < 248 then nx4 a r else none
def nx : List UInt8 → Option (Int × Int)
  | [] => none
  | a :: r => nx1 (a.toNat : Int) r
theorem nx_cons (a : UInt8) (r : List UInt8) : nx (a :: r) = nx1 (a.toNat : Int) r := rfl
theorem nx1_1 (a : Int) (r : List UInt8) (h : a < 128) : nx1 a r = some (a, 1) := by unfold nx1; exact if_pos h
theorem nx1_0 (a : Int) (r : List UInt8) (h : (128 ≤ a ∧ a < 192) ∨ 248 ≤ a) : nx1 a r = none := by
  unfold nx1
  rcases h with ⟨h, h'⟩ | h
  · rw [if_neg (by omega), if_pos (by omega)]
  · rw [if_neg (by omega), if_neg (by omega), if_neg (by omega), if_neg (by omega), if_neg (by omega)]
theorem nx1_2 (a : Int) (r : List UInt8) (h : 192 ≤ a) (h' : a < 224) : nx1 a r = nx2 a r := by
  unfold nx1; rw [if_neg (by omega), if_neg (by omega), if_pos (by omega)]
theorem nx1_3 (a : Int) (r : List UInt8) (h : 224 ≤ a) (h' : a < 240) : nx1 a r = nx3 a r := by
  unfold nx1; rw [if_neg (by omega), if_neg (by omega), if_neg (by omega), if_pos (by omega)]
theorem nx1_4 (a : Int) (r : List UInt8) (h : 240 ≤ a) (h' : a < 248) : nx1 a r = nx4 a r := by
  unfold nx1; rw [if_neg (by omega), if_neg (by omega), if_neg (by omega), if_neg (by omega), if_pos (by omega)]
def nextV : Option (Int × Int) → Value
  | none => .tuple #[.int .i32 0, .int .i64 0, .bool false]
  | some (c, n) => .tuple #[.int .i32 c, .int .i64 n, .bool true]
theorem ck_lt {least c n : Int} (h : c < least) : ck least c n = none := by simp [ck, h]
theorem ck_pt {least c n : Int} (h : ptB c = false) : ck least c n = none := by simp [ck, h]
theorem ck_ok {least c n : Int} (h : least ≤ c) (h2 : ptB c = true) : ck least c n = some (c, n) := by simp [ck, h2]; omega

theorem retn {o : Option (Int × Int)} (h : o = none) : Ending.returned (.tuple #[.int .i32 0, .int .i64 0, .bool false]) = .returned (nextV o) := by rw [h]; rfl
theorem rets {o : Option (Int × Int)} {c n : Int} (h : o = some (c, n)) : Ending.returned (.tuple #[.int .i32 c, .int .i64 n, .bool true]) = .returned (nextV o) := by rw [h]; rfl

section
variable (a b c d : UInt8) (r : List UInt8) (w : World)

set_option maxRecDepth 100000 in
set_option maxHeartbeats 400000 in
theorem next_nil : Calls Tryd.prog 151 #[.string ⟨([] : List UInt8).toArray⟩] w fun e w' => e = .returned (nextV (nx [])) ∧ w = w' := by
  go_enter Tryd.func151, Tryd.ntmps151
  go_wp2
  go_ret3
  exact ⟨retn rfl, rfl⟩

/-- the head of the walk: up to what stands behind the test of the length. -/
theorem sh_of (n m k : Int) (h : (n < 128 ∧ m = 1) ∨ (((128 ≤ n ∧ n < 192) ∨ 248 ≤ n) ∧ m = 0) ∨ (192 ≤ n ∧ n < 224 ∧ m = 2) ∨ (224 ≤ n ∧ n < 240 ∧ m = 3) ∨ (240 ≤ n ∧ n < 248 ∧ m = 4)) (hk : k = m) : shN n = k := by
  subst hk
  unfold shN
  rcases h with ⟨h, e⟩ | ⟨h | h, e⟩ | ⟨h1, h2, e⟩ | ⟨h1, h2, e⟩ | ⟨h1, h2, e⟩ <;> rw [e] <;> (repeat (first | rw [if_pos (by omega)] | rw [if_neg (by omega)]))

set_option maxRecDepth 100000 in
set_option maxHeartbeats 400000 in
theorem next_one (h0 : (a.toNat : Int) < 128) :
    Calls Tryd.prog 151 #[.string ⟨(a :: r).toArray⟩] w fun e w' => e = .returned (nextV (nx (a :: r))) ∧ w = w' := by
  have hfin : nx (a :: r) = some ((a.toNat : Int), 1) := nx1_1 _ r h0
  have Hfin := Lib.hid hfin
  clear hfin
  have hp : ptB (a.toNat : Int) = true := by simp [ptB]; omega
  have hl0 : (0 : Int) ≤ (a.toNat : Int) := by omega
  go_enter Tryd.func151, Tryd.ntmps151
  go_wp2_with fail
  refine (shape_any _ _ (by omega) (by omega)).mono ?_
  rintro e w' ⟨rfl, rfl⟩
  rw [sh_of (a.toNat : Int) 1 1 (by omega) rfl, show shC (a.toNat : Int) = (a.toNat : Int) from by simp only [shC]; rw [if_pos (by omega)], show shL (a.toNat : Int) = 0 from by simp only [shL]; rw [if_pos (by omega)]]
  go_wp2_with fail
  refine wp_loop_rounds 1 ?_
  rw [rounds_succ]; go_wp2_with fail
  refine (point_any _ _ (by omega) (by omega)).mono ?_
  rintro e w' ⟨rfl, rfl⟩
  rw [hp]
  go_wp2_with fail
  go_ret3
  exact ⟨rets Hfin.out, rfl⟩

set_option maxRecDepth 100000 in
set_option maxHeartbeats 400000 in
theorem next_bad (h0 : (128 ≤ (a.toNat : Int) ∧ (a.toNat : Int) < 192) ∨ 248 ≤ (a.toNat : Int)) :
    Calls Tryd.prog 151 #[.string ⟨(a :: r).toArray⟩] w fun e w' => e = .returned (nextV (nx (a :: r))) ∧ w = w' := by
  have hfin : nx (a :: r) = none := nx1_0 _ r h0
  have Hfin := Lib.hid hfin
  clear hfin
  have hlt : (a.toNat : Int) ≤ 255 := by have := a.toNat_lt; omega
  go_enter Tryd.func151, Tryd.ntmps151
  go_wp2_with fail
  refine (shape_any _ _ (by omega) (by omega)).mono ?_
  rintro e w' ⟨rfl, rfl⟩
  rw [sh_of (a.toNat : Int) 0 0 (by omega) rfl]
  go_wp2_with fail
  go_ret3
  exact ⟨retn Hfin.out, rfl⟩

set_option maxRecDepth 100000 in
set_option maxHeartbeats 400000 in
theorem next_short (n : Int) (h2 : 2 ≤ n) (hl : (r.length : Int) + 1 < n) (hn : n ≤ 4) (hsh : shN (a.toNat : Int) = n) (hfin : nx (a :: r) = none) :
    Calls Tryd.prog 151 #[.string ⟨(a :: r).toArray⟩] w fun e w' => e = .returned (nextV (nx (a :: r))) ∧ w = w' := by
  have Hfin := Lib.hid hfin
  clear hfin
  have Hsh := Lib.hid hsh
  clear hsh
  have hlt : (a.toNat : Int) ≤ 255 := by have := a.toNat_lt; omega
  have hnz : ((n : Int) == 0) = false := by simp; omega
  go_enter Tryd.func151, Tryd.ntmps151
  go_wp2_with fail
  refine (shape_any _ _ (by omega) (by omega)).mono ?_
  rintro e w' ⟨rfl, rfl⟩
  rw [Hsh.out]
  go_wp2_with fail
  go_ret3
  exact ⟨retn Hfin.out, rfl⟩

set_option maxRecDepth 100000 in
set_option maxHeartbeats 400000 in
theorem next_two (hl : r.length + 2 ≤ 140737488351232) (h0 : 192 ≤ (a.toNat : Int)) (h1 : (a.toNat : Int) < 224) :
    Calls Tryd.prog 151 #[.string ⟨(a :: b :: r).toArray⟩] w fun e w' => e = .returned (nextV (nx (a :: b :: r))) ∧ w = w' := by
  have hfin : nx (a :: b :: r) = if b.toNat / 64 = 2 then ck 128 ((a.toNat : Int) % 32 * 64 + (b.toNat : Int) % 64) 2 else none := nx1_2 _ _ h0 h1
  have hb0 : (b.toNat : Int) ≤ 255 := by have := b.toNat_lt; omega
  have hb1 : (0 : Int) ≤ (b.toNat : Int) := by omega
  have e1 := sh_of (a.toNat : Int) 2 2 (by omega) rfl
  have e2 : shC (a.toNat : Int) = (a.toNat : Int) % 32 := by simp only [shC]; (repeat (first | rw [if_pos (by omega)] | rw [if_neg (by omega)]))
  have e3 : shL (a.toNat : Int) = 128 := by simp only [shL]; (repeat (first | rw [if_pos (by omega)] | rw [if_neg (by omega)]))
  have E1 := Lib.hid e1
  have E2 := Lib.hid e2
  have E3 := Lib.hid e3
  clear e1 e2 e3
  by_cases hb : b.toNat / 64 = 2
  · rw [if_pos hb] at hfin
    have Hfin := Lib.hid hfin
    have hc := cont_yes hb
    clear hb hfin
    have ho := or64 ((a.toNat : Int) % 32) ((b.toNat : Int) % 64) (by omega) (by omega) (by omega) (by omega)
    go_enter Tryd.func151, Tryd.ntmps151
    go_wp2_with fail
    refine (shape_any _ _ (by omega) (by omega)).mono ?_
    rintro e w' ⟨rfl, rfl⟩
    rw [E1.out, E2.out, E3.out]
    go_wp2_with fail
    refine wp_loop_rounds 2 ?_
    rw [rounds_succ]; go_wp2_with fail
    rw [rounds_succ]; go_wp2_with fail
    · refine (point_any _ _ (by omega) (by omega)).mono ?_
      rintro e w' ⟨rfl, rfl⟩
      rcases hp : ptB ((a.toNat : Int) % 32 * 64 + (b.toNat : Int) % 64)
      · go_wp2_with fail
        go_ret3
        exact ⟨retn (by rw [Hfin.out, ck_pt hp]), rfl⟩
      · go_wp2_with fail
        go_ret3
        exact ⟨rets (by rw [Hfin.out, ck_ok (by omega) hp]), rfl⟩
    · go_ret3
      exact ⟨retn (by rw [Hfin.out, ck_lt (by omega)]), rfl⟩
  · rw [if_neg hb] at hfin
    have Hfin := Lib.hid hfin
    have hc := cont_no hb
    clear hb hfin
    go_enter Tryd.func151, Tryd.ntmps151
    go_wp2_with fail
    refine (shape_any _ _ (by omega) (by omega)).mono ?_
    rintro e w' ⟨rfl, rfl⟩
    rw [E1.out, E2.out, E3.out]
    go_wp2_with fail
    refine wp_loop_rounds 1 ?_
    rw [rounds_succ]; go_wp2_with fail
    go_ret3
    exact ⟨retn Hfin.out, rfl⟩

set_option maxRecDepth 100000 in
set_option maxHeartbeats 1000000 in
theorem next_three (hl : r.length + 3 ≤ 140737488351232) (h0 : 224 ≤ (a.toNat : Int)) (h1 : (a.toNat : Int) < 240) :
    Calls Tryd.prog 151 #[.string ⟨(a :: b :: c :: r).toArray⟩] w fun e w' => e = .returned (nextV (nx (a :: b :: c :: r))) ∧ w = w' := by
  have hfin : nx (a :: b :: c :: r) = if b.toNat / 64 = 2 then if c.toNat / 64 = 2 then ck 2048 ((((a.toNat : Int) % 16) * 64 + (b.toNat : Int) % 64) * 64 + (c.toNat : Int) % 64) 3 else none else none := nx1_3 _ _ h0 h1
  have hb0 : (b.toNat : Int) ≤ 255 := by have := b.toNat_lt; omega
  have hb1 : (0 : Int) ≤ (b.toNat : Int) := by omega
  have hc0 : (c.toNat : Int) ≤ 255 := by have := c.toNat_lt; omega
  have hc1 : (0 : Int) ≤ (c.toNat : Int) := by omega
  have e1 := sh_of (a.toNat : Int) 3 3 (by omega) rfl
  have e2 : shC (a.toNat : Int) = (a.toNat : Int) % 16 := by simp only [shC]; (repeat (first | rw [if_pos (by omega)] | rw [if_neg (by omega)]))
  have e3 : shL (a.toNat : Int) = 2048 := by simp only [shL]; (repeat (first | rw [if_pos (by omega)] | rw [if_neg (by omega)]))
  have E1 := Lib.hid e1
  have E2 := Lib.hid e2
  have E3 := Lib.hid e3
  clear e1 e2 e3
  by_cases hb : b.toNat / 64 = 2
  · rw [if_pos hb] at hfin
    have hcb := cont_yes hb
    clear hb
    by_cases hc : c.toNat / 64 = 2
    · rw [if_pos hc] at hfin
      have hcc := cont_yes hc
      clear hc
      have Hfin := Lib.hid hfin
      clear hfin
      have hob := or64 ((a.toNat : Int) % 16) ((b.toNat : Int) % 64) (by omega) (by omega) (by omega) (by omega)
      have hoc := or64 (((a.toNat : Int) % 16) * 64 + (b.toNat : Int) % 64) ((c.toNat : Int) % 64) (by omega) (by omega) (by omega) (by omega)
      go_enter Tryd.func151, Tryd.ntmps151
      go_wp2_with fail
      refine (shape_any _ _ (by omega) (by omega)).mono ?_
      rintro e w' ⟨rfl, rfl⟩
      rw [E1.out, E2.out, E3.out]
      go_wp2_with fail
      refine wp_loop_rounds 3 ?_
      rw [rounds_succ]; go_wp2_with fail
      rw [rounds_succ]; go_wp2_with fail
      rw [rounds_succ]; go_wp2_with fail
      · refine (point_any _ _ (by omega) (by omega)).mono ?_
        rintro e w' ⟨rfl, rfl⟩
        rcases hp : ptB ((((a.toNat : Int) % 16) * 64 + (b.toNat : Int) % 64) * 64 + (c.toNat : Int) % 64)
        · go_wp2_with fail
          go_ret3
          exact ⟨retn (by rw [Hfin.out, ck_pt hp]), rfl⟩
        · go_wp2_with fail
          go_ret3
          exact ⟨rets (by rw [Hfin.out, ck_ok (by omega) hp]), rfl⟩
      · go_ret3
        exact ⟨retn (by rw [Hfin.out, ck_lt (by omega)]), rfl⟩
    · rw [if_neg hc] at hfin
      have Hfin := Lib.hid hfin
      have hcc := cont_no hc
      clear hc hfin
      have hob := or64 ((a.toNat : Int) % 16) ((b.toNat : Int) % 64) (by omega) (by omega) (by omega) (by omega)
      go_enter Tryd.func151, Tryd.ntmps151
      go_wp2_with fail
      refine (shape_any _ _ (by omega) (by omega)).mono ?_
      rintro e w' ⟨rfl, rfl⟩
      rw [E1.out, E2.out, E3.out]
      go_wp2_with fail
      refine wp_loop_rounds 2 ?_
      rw [rounds_succ]; go_wp2_with fail
      rw [rounds_succ]; go_wp2_with fail
      go_ret3
      exact ⟨retn Hfin.out, rfl⟩
  · rw [if_neg hb] at hfin
    have Hfin := Lib.hid hfin
    have hcb := cont_no hb
    clear hb hfin
    go_enter Tryd.func151, Tryd.ntmps151
    go_wp2_with fail
    refine (shape_any _ _ (by omega) (by omega)).mono ?_
    rintro e w' ⟨rfl, rfl⟩
    rw [E1.out, E2.out, E3.out]
    go_wp2_with fail
    refine wp_loop_rounds 1 ?_
    rw [rounds_succ]; go_wp2_with fail
    go_ret3
    exact ⟨retn Hfin.out, rfl⟩

set_option maxRecDepth 100000 in
set_option maxHeartbeats 1000000 in
theorem next_four (hl : r.length + 4 ≤ 140737488351232) (h0 : 240 ≤ (a.toNat : Int)) (h1 : (a.toNat : Int) < 248) :
    Calls Tryd.prog 151 #[.string ⟨(a :: b :: c :: d :: r).toArray⟩] w fun e w' => e = .returned (nextV (nx (a :: b :: c :: d :: r))) ∧ w = w' := by
  have hfin : nx (a :: b :: c :: d :: r) = if b.toNat / 64 = 2 then if c.toNat / 64 = 2 then if d.toNat / 64 = 2 then ck 65536 (((((a.toNat : Int) % 8) * 64 + (b.toNat : Int) % 64) * 64 + (c.toNat : Int) % 64) * 64 + (d.toNat : Int) % 64) 4 else none else none else none := nx1_4 _ _ h0 h1
  have hb0 : (b.toNat : Int) ≤ 255 := by have := b.toNat_lt; omega
  have hb1 : (0 : Int) ≤ (b.toNat : Int) := by omega
  have hc0 : (c.toNat : Int) ≤ 255 := by have := c.toNat_lt; omega
  have hc1 : (0 : Int) ≤ (c.toNat : Int) := by omega
  have hd0 : (d.toNat : Int) ≤ 255 := by have := d.toNat_lt; omega
  have hd1 : (0 : Int) ≤ (d.toNat : Int) := by omega
  have e1 := sh_of (a.toNat : Int) 4 4 (by omega) rfl
  have e2 : shC (a.toNat : Int) = (a.toNat : Int) % 8 := by simp only [shC]; (repeat (first | rw [if_pos (by omega)] | rw [if_neg (by omega)]))
  have e3 : shL (a.toNat : Int) = 65536 := by simp only [shL]; (repeat (first | rw [if_pos (by omega)] | rw [if_neg (by omega)]))
  have E1 := Lib.hid e1
  have E2 := Lib.hid e2
  have E3 := Lib.hid e3
  clear e1 e2 e3
  by_cases hb : b.toNat / 64 = 2
  · rw [if_pos hb] at hfin
    have hcb := cont_yes hb
    clear hb
    by_cases hc : c.toNat / 64 = 2
    · rw [if_pos hc] at hfin
      have hcc := cont_yes hc
      clear hc
      by_cases hd : d.toNat / 64 = 2
      · rw [if_pos hd] at hfin
        have hcd := cont_yes hd
        clear hd
        have Hfin := Lib.hid hfin
        clear hfin
        have hob := or64 ((a.toNat : Int) % 8) ((b.toNat : Int) % 64) (by omega) (by omega) (by omega) (by omega)
        have hoc := or64 (((a.toNat : Int) % 8) * 64 + (b.toNat : Int) % 64) ((c.toNat : Int) % 64) (by omega) (by omega) (by omega) (by omega)
        have hod := or64 ((((a.toNat : Int) % 8) * 64 + (b.toNat : Int) % 64) * 64 + (c.toNat : Int) % 64) ((d.toNat : Int) % 64) (by omega) (by omega) (by omega) (by omega)
        go_enter Tryd.func151, Tryd.ntmps151
        go_wp2_with fail
        refine (shape_any _ _ (by omega) (by omega)).mono ?_
        rintro e w' ⟨rfl, rfl⟩
        rw [E1.out, E2.out, E3.out]
        go_wp2_with fail
        refine wp_loop_rounds 4 ?_
        rw [rounds_succ]; go_wp2_with fail
        rw [rounds_succ]; go_wp2_with fail
        rw [rounds_succ]; go_wp2_with fail
        rw [rounds_succ]; go_wp2_with fail
        · have hge : (65536 : Int) ≤ (((((a.toNat : Int) % 8) * 64 + (b.toNat : Int) % 64) * 64 + (c.toNat : Int) % 64) * 64 + (d.toNat : Int) % 64) := by omega
          have hle : (((((a.toNat : Int) % 8) * 64 + (b.toNat : Int) % 64) * 64 + (c.toNat : Int) % 64) * 64 + (d.toNat : Int) % 64) ≤ 2147483647 := by omega
          generalize (((((a.toNat : Int) % 8) * 64 + (b.toNat : Int) % 64) * 64 + (c.toNat : Int) % 64) * 64 + (d.toNat : Int) % 64) = p at *
          refine (point_any _ _ (by omega) (by omega)).mono ?_
          rintro e w' ⟨rfl, rfl⟩
          rcases hp : ptB p
          · go_wp2_with fail
            go_ret3
            exact ⟨retn (by rw [Hfin.out, ck_pt hp]), rfl⟩
          · go_wp2_with fail
            go_ret3
            exact ⟨rets (by rw [Hfin.out, ck_ok (by omega) hp]), rfl⟩
        · go_ret3
          exact ⟨retn (by rw [Hfin.out, ck_lt (by omega)]), rfl⟩
      · rw [if_neg hd] at hfin
        have Hfin := Lib.hid hfin
        have hcd := cont_no hd
        clear hd hfin
        have hob := or64 ((a.toNat : Int) % 8) ((b.toNat : Int) % 64) (by omega) (by omega) (by omega) (by omega)
        have hoc := or64 (((a.toNat : Int) % 8) * 64 + (b.toNat : Int) % 64) ((c.toNat : Int) % 64) (by omega) (by omega) (by omega) (by omega)
        go_enter Tryd.func151, Tryd.ntmps151
        go_wp2_with fail
        refine (shape_any _ _ (by omega) (by omega)).mono ?_
        rintro e w' ⟨rfl, rfl⟩
        rw [E1.out, E2.out, E3.out]
        go_wp2_with fail
        refine wp_loop_rounds 3 ?_
        rw [rounds_succ]; go_wp2_with fail
        rw [rounds_succ]; go_wp2_with fail
        rw [rounds_succ]; go_wp2_with fail
        go_ret3
        exact ⟨retn Hfin.out, rfl⟩
    · rw [if_neg hc] at hfin
      have Hfin := Lib.hid hfin
      have hcc := cont_no hc
      clear hc hfin
      have hob := or64 ((a.toNat : Int) % 8) ((b.toNat : Int) % 64) (by omega) (by omega) (by omega) (by omega)
      go_enter Tryd.func151, Tryd.ntmps151
      go_wp2_with fail
      refine (shape_any _ _ (by omega) (by omega)).mono ?_
      rintro e w' ⟨rfl, rfl⟩
      rw [E1.out, E2.out, E3.out]
      go_wp2_with fail
      refine wp_loop_rounds 2 ?_
      rw [rounds_succ]; go_wp2_with fail
      rw [rounds_succ]; go_wp2_with fail
      go_ret3
      exact ⟨retn Hfin.out, rfl⟩
  · rw [if_neg hb] at hfin
    have Hfin := Lib.hid hfin
    have hcb := cont_no hb
    clear hb hfin
    go_enter Tryd.func151, Tryd.ntmps151
    go_wp2_with fail
    refine (shape_any _ _ (by omega) (by omega)).mono ?_
    rintro e w' ⟨rfl, rfl⟩
    rw [E1.out, E2.out, E3.out]
    go_wp2_with fail
    refine wp_loop_rounds 1 ?_
    rw [rounds_succ]; go_wp2_with fail
    go_ret3
    exact ⟨retn Hfin.out, rfl⟩

theorem next_any (l : List UInt8) (hl : l.length ≤ 140737488351232) :
    Calls Tryd.prog 151 #[.string ⟨l.toArray⟩] w fun e w' => e = .returned (nextV (nx l)) ∧ w = w' := by
  match l, hl with
  | [], _ => exact next_nil w
  | a :: r, hl =>
    have hl : r.length + 1 ≤ 140737488351232 := hl
    rcases (show ((a.toNat : Int) < 128 ∨ ((128 ≤ (a.toNat : Int) ∧ (a.toNat : Int) < 192) ∨ 248 ≤ (a.toNat : Int)) ∨ (192 ≤ (a.toNat : Int) ∧ (a.toNat : Int) < 224) ∨ (224 ≤ (a.toNat : Int) ∧ (a.toNat : Int) < 240) ∨ (240 ≤ (a.toNat : Int) ∧ (a.toNat : Int) < 248)) by omega) with h | h | ⟨h, h'⟩ | ⟨h, h'⟩ | ⟨h, h'⟩
    · exact next_one a r w h
    · exact next_bad a r w h
    · match r, hl with
      | [], _ => exact next_short a [] w 2 (by omega) (by simp) (by omega) (sh_of _ 2 2 (by omega) rfl) (nx1_2 _ _ h h')
      | b :: r, hl => exact next_two a b r w hl h h'
    · match r, hl with
      | [], _ => exact next_short a [] w 3 (by omega) (by simp) (by omega) (sh_of _ 3 3 (by omega) rfl) (nx1_3 _ _ h h')
      | [b], _ => exact next_short a [b] w 3 (by omega) (by simp) (by omega) (sh_of _ 3 3 (by omega) rfl) (nx1_3 _ _ h h')
      | b :: c :: r, hl => exact next_three a b c r w hl h h'
    · match r, hl with
      | [], _ => exact next_short a [] w 4 (by omega) (by simp) (by omega) (sh_of _ 4 4 (by omega) rfl) (nx1_4 _ _ h h')
      | [b], _ => exact next_short a [b] w 4 (by omega) (by simp) (by omega) (sh_of _ 4 4 (by omega) rfl) (nx1_4 _ _ h h')
      | [b, c], _ => exact next_short a [b, c] w 4 (by omega) (by simp) (by omega) (sh_of _ 4 4 (by omega) rfl) (nx1_4 _ _ h h')
      | b :: c :: d :: r, hl => exact next_four a b c d r w hl h h'

end
end Go.Proofs.YtbffkddlkfefoaaDoor

/- The contract of utf.Runes. -/
namespace Go.Proofs.YtbffkddlkfefoaaDoor
open Go.RowKit
attribute [local go_sem] ba_get ext_drop

def rnsF : Nat → List UInt8 → Option (List Int)
  | 0, l => if l = [] then some [] else none
  | k + 1, l => if l = [] then some [] else match nx l with
    | none => none
    | some (c, n) => (rnsF k (l.drop n.toNat)).map (c :: ·)
def rns (l : List UInt8) : Option (List Int) := rnsF l.length l

theorem ck_bd {least c n : Int} {p : Int × Int} (h : ck least c n = some p) : p = (c, n) ∧ least ≤ c ∧ ptB c = true := by
  unfold ck at h
  split at h
  · cases h
  · next hh => cases h; simp at hh; exact ⟨rfl, by omega, by simpa using hh.2⟩
theorem nx2_bd {a : Int} {r : List UInt8} {p : Int × Int} (h : nx2 a r = some p) : 1 ≤ r.length ∧ p.2 = 2 ∧ ptB p.1 = true := by
  match r, h with
  | b :: r, h =>
    simp only [nx2] at h
    split at h
    · obtain ⟨rfl, _, h⟩ := ck_bd h; exact ⟨by simp, rfl, h⟩
    · cases h
  | [], h => simp [nx2] at h
theorem nx3_bd {a : Int} {r : List UInt8} {p : Int × Int} (h : nx3 a r = some p) : 2 ≤ r.length ∧ p.2 = 3 ∧ ptB p.1 = true := by
  match r, h with
  | b :: c :: r, h =>
    simp only [nx3] at h
    split at h
    · split at h
      · obtain ⟨rfl, _, h⟩ := ck_bd h; exact ⟨by simp, rfl, h⟩
      · cases h
    · cases h
  | [_], h => simp [nx3] at h
  | [], h => simp [nx3] at h
theorem nx4_bd {a : Int} {r : List UInt8} {p : Int × Int} (h : nx4 a r = some p) : 3 ≤ r.length ∧ p.2 = 4 ∧ ptB p.1 = true := by
  match r, h with
  | b :: c :: d :: r, h =>
    simp only [nx4] at h
    split at h
    · split at h
      · split at h
        · obtain ⟨rfl, _, h⟩ := ck_bd h; exact ⟨by simp, rfl, h⟩
        · cases h
      · cases h
    · cases h
  | [_, _], h => simp [nx4] at h
  | [_], h => simp [nx4] at h
  | [], h => simp [nx4] at h
theorem nx_bd {l : List UInt8} {c n : Int} (h : nx l = some (c, n)) : 1 ≤ n ∧ n ≤ 4 ∧ n ≤ l.length ∧ ptB c = true := by
  rcases l with _ | ⟨a, r⟩
  · simp [nx] at h
  · rw [nx_cons] at h
    rcases (show ((a.toNat : Int) < 128 ∨ ((128 ≤ (a.toNat : Int) ∧ (a.toNat : Int) < 192) ∨ 248 ≤ (a.toNat : Int)) ∨ (192 ≤ (a.toNat : Int) ∧ (a.toNat : Int) < 224) ∨ (224 ≤ (a.toNat : Int) ∧ (a.toNat : Int) < 240) ∨ (240 ≤ (a.toNat : Int) ∧ (a.toNat : Int) < 248)) by omega) with h' | h' | ⟨h1, h2⟩ | ⟨h1, h2⟩ | ⟨h1, h2⟩
    · rw [nx1_1 _ _ h'] at h
      cases h
      refine ⟨by omega, by omega, by simp; omega, ?_⟩
      simp only [ptB, decide_eq_true_eq]; omega
    · rw [nx1_0 _ _ h'] at h; cases h
    · rw [nx1_2 _ _ h1 h2] at h; have := nx2_bd h; simp at this ⊢; exact ⟨by omega, by omega, by omega, this.2.2⟩
    · rw [nx1_3 _ _ h1 h2] at h; have := nx3_bd h; simp at this ⊢; exact ⟨by omega, by omega, by omega, this.2.2⟩
    · rw [nx1_4 _ _ h1 h2] at h; have := nx4_bd h; simp at this ⊢; exact ⟨by omega, by omega, by omega, this.2.2⟩
theorem ptB_bd {c : Int} (h : ptB c = true) : 0 ≤ c ∧ c ≤ 1114111 := by
  simp [ptB] at h; omega

theorem rnsF_nil (k : Nat) : rnsF k [] = some [] := by cases k <;> simp [rnsF]
theorem rnsF_enough (k : Nat) : ∀ (j : Nat) (l : List UInt8), l.length ≤ k → l.length ≤ j → rnsF k l = rnsF j l := by
  induction k with
  | zero =>
    intro j l h _
    have : l = [] := List.eq_nil_of_length_eq_zero (by omega)
    subst this
    rw [rnsF_nil, rnsF_nil]
  | succ k ih =>
    intro j l h hj
    match j with
    | 0 =>
      have : l = [] := List.eq_nil_of_length_eq_zero (by omega)
      subst this
      rw [rnsF_nil, rnsF_nil]
    | j + 1 =>
      simp only [rnsF]
      by_cases hl : l = []
      · rw [if_pos hl, if_pos hl]
      · rw [if_neg hl, if_neg hl]
        rcases hn : nx l with _ | ⟨c, n⟩
        · rfl
        · have hb := nx_bd hn
          have hd : (l.drop n.toNat).length ≤ l.length - 1 := by rw [List.length_drop]; omega
          dsimp only
          rw [ih j (l.drop n.toNat) (by omega) (by omega)]
theorem rns_nil : rns [] = some [] := rfl
theorem rns_none {l : List UInt8} (hl : l ≠ []) (h : nx l = none) : rns l = none := by
  unfold rns
  rcases l with _ | ⟨a, r⟩
  · exact absurd rfl hl
  · simp only [List.length_cons, rnsF]; rw [if_neg hl, h]
theorem rns_some {l : List UInt8} {c n : Int} (h : nx l = some (c, n)) : rns l = (rns (l.drop n.toNat)).map (c :: ·) := by
  have hb := nx_bd h
  unfold rns
  rcases l with _ | ⟨a, r⟩
  · simp [nx] at h
  · simp only [List.length_cons, rnsF]; rw [if_neg (by simp), h]
    dsimp only
    rw [rnsF_enough r.length ((a :: r).drop n.toNat).length _ (by rw [List.length_drop]; simp at hb ⊢; omega) (Nat.le_refl _)]

def RnsPost (k : IntKind) (w : World) (o : Option (List Int)) (e : Ending) (w' : World) : Prop :=
  ∃ v, e = .returned (.tuple #[v, .int .i64 (if o.isSome then 0 else 5)]) ∧ Sl w' 1 v (o.getD []).length ((o.getD []).map (Value.int k)) ∧ Below w.heap.size w w'
theorem elt_runes : Elt Tryd.prog 132 21 1 4 := Elt.mk' (z := .int .i32 0) Tryd.underlying132 (by kernel_rfl) rfl (by decide)
/-- what holds at each round's head of a reader of points. -/
def RnsRel (k : IntKind) (e : TypeId) (w : World) (l : List UInt8) (r : List UInt8) (v : Value) (wr : World) : Prop :=
  ∃ done : List Int, rns l = (rns r).map (done ++ ·) ∧ done.length + r.length ≤ l.length ∧ wr.ownsRow w.heap.size e 1 v done.length (done.map (Value.int k)) ∧ Below w.heap.size w wr
theorem RnsRel.start (k : IntKind) (e : TypeId) (w : World) (l : List UInt8) : RnsRel k e w l l (.slice none 0 0) w :=
  ⟨[], by cases rns l <;> simp, by simp, World.ownsRow_nil _ _ _ _, Below.refl _ _⟩
theorem RnsRel.finish {k : IntKind} {e : TypeId} {w wr : World} {l : List UInt8} {v : Value} (h : RnsRel k e w l [] v wr) : RnsPost k w (rns l) (.returned (.tuple #[v, .int .i64 0])) wr := by
  obtain ⟨done, h1, _, h3, h4⟩ := h
  rw [rns_nil] at h1
  rw [h1]
  exact ⟨v, rfl, by simpa using Sl.own h3, h4⟩
theorem RnsRel.fail {k : IntKind} {e : TypeId} {w wr : World} {l r : List UInt8} {v : Value} (h : RnsRel k e w l r v wr) (hr : r ≠ []) (hn : nx r = none) : RnsPost k w (rns l) (.returned (.tuple #[.slice none 0 0, .int .i64 5])) wr := by
  obtain ⟨done, h1, _, h3, h4⟩ := h
  rw [rns_none hr hn] at h1
  rw [h1]
  exact ⟨_, rfl, by simpa using Sl.nil wr 1, h4⟩
theorem RnsRel.step {k : IntKind} {e : TypeId} {w wr w1 : World} {l r : List UInt8} {v1 : Value} {c n : Int} {done : List Int} (hn : nx r = some (c, n)) (h1 : rns l = (rns r).map (done ++ ·)) (h2 : done.length + r.length ≤ l.length)
    (h3 : w1.ownsRow w.heap.size e 1 v1 (done.length + 1) (done.map (Value.int k) ++ [.int k c])) (h4 : Below w.heap.size w wr) (h5 : Below w.heap.size wr w1) : RnsRel k e w l (r.drop n.toNat) v1 w1 := by
  have hb := nx_bd hn
  refine ⟨done ++ [c], ?_, ?_, by simpa using h3, h4.trans h5⟩
  · rw [h1, rns_some hn]
    cases rns (r.drop n.toNat) <;> simp
  · simp; omega

set_option maxRecDepth 100000 in
set_option maxHeartbeats 400000 in
theorem runes_any (l : List UInt8) (w : World) (hl : l.length ≤ 1000000000) :
    Calls Tryd.prog 108 #[.string ⟨l.toArray⟩] w (RnsPost .i32 w (rns l)) := by
  go_enter Tryd.func108, Tryd.ntmps108
  go_wp2
  go_loopw [0, 4] (fun s v wr => ∃ r : List UInt8, s = .string ⟨r.toArray⟩ ∧ RnsRel .i32 21 w l r v wr) (fun s _ _ => strLen s)
  case atStart => exact ⟨l, rfl, RnsRel.start _ _ _ _⟩
  case round =>
    obtain ⟨r, rfl, hrel⟩ := hrel
    obtain ⟨done, h1, h2, h3, h4⟩ := hrel
    have H1 := Lib.hid h1
    clear h1
    by_cases hr : r = []
    · subst hr
      go_wp2
      go_ret2
      exact RnsRel.finish ⟨done, H1.out, h2, h3, h4⟩
    · have hr1 : r.isEmpty = false := by simpa using hr
      have hsz := h4.size
      rcases hn : nx r with _ | ⟨c, n⟩
      · have Hn := Lib.hid hn
        clear hn
        go_wp2_with fail
        refine (next_any _ _ (by omega)).mono ?_
        rintro e w' ⟨rfl, rfl⟩
        rw [Hn.out]
        unfold nextV
        go_wp2
        go_ret2
        exact RnsRel.fail ⟨done, H1.out, h2, h3, h4⟩ hr Hn.out
      · have hb := nx_bd hn
        have hp := ptB_bd hb.2.2.2
        have Hn := Lib.hid hn
        clear hn
        go_wp2_with fail
        refine (next_any _ _ (by omega)).mono ?_
        rintro e w' ⟨rfl, rfl⟩
        rw [Hn.out]
        unfold nextV
        go_wp2_with (at_builtin; refine wpList_appLit rfl _ _ _ rfl elt_runes rfl h3 [.int .i32 c] (m := 1) rfl rfl (by simp [Value.oneCell']) ?c1 ?c2 ?c3 ?_)
        case c1 => omega
        case c2 => omega
        case c3 => omega
        · intro v1 w1 ho1 hb1 _
          have R := RnsRel.step (k := .i32) (e := 21) Hn.out H1.out h2 ho1 h4 hb1
          clear ho1 hb1
          go_wp2
          go_roundw
          case rel => exact ⟨_, rfl, R⟩
          case measure => simp only [strLen_mk, List.length_drop]; omega
end Go.Proofs.YtbffkddlkfefoaaDoor

/- The contracts of the reference's Same and Ints. -/
namespace Go.Proofs.YtbffkddlkfefoaaDoor
open Go.RowKit

theorem sl_cell {w : World} {A : List Int} {k : IntKind} {b off j : Nat} (hc : ∀ j u, (A.map (Value.int k))[j]? = some u → w.cell? ⟨b, off + j, none⟩ = some u) (hj : j < A.length) : w.cell? ⟨b, off + j, none⟩ = some (.int k A[j]) :=
  hc j _ (by simp [hj])

def IntsRel (k : IntKind) (e : TypeId) (w : World) (A : List Int) (j : Nat) (v : Value) (wr : World) : Prop :=
  wr.ownsRow w.heap.size e 1 v j ((A.map (Value.int k)).take j) ∧ Below w.heap.size w wr
theorem IntsRel.next {k : IntKind} {e : TypeId} {w w0 w1 : World} {A : List Int} {j : Nat} {v1 : Value} (hj : j < A.length) (h1 : w1.ownsRow w.heap.size e 1 v1 (j + 1) ((A.map (Value.int k)).take j ++ [.int k A[j]])) (h0 : Below w.heap.size w w0) (hb : Below w.heap.size w0 w1) :
    IntsRel k e w A (j + 1) v1 w1 := by
  refine ⟨?_, h0.trans hb⟩
  rw [List.take_succ_eq_append_getElem (by simpa using hj)]
  simpa using h1

end Go.Proofs.YtbffkddlkfefoaaDoor
