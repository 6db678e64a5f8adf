/- The contracts of domain.digit, domain.escaped and the reference's escaped. -/
import Derived.Test.YtnelaegjcpkmdaaNumR
namespace Go.Proofs.Ytnelaegjcpkmdaa
open Go.RowKit
attribute [local go_sem] ba_get ext_take ext_drop

def esc3 (a : UInt8) : List UInt8 → Option (UInt8 × Nat)
  | b :: c :: _ => if dgB b = true ∧ dgB c = true then (if 100 * (a.toNat - 48) + 10 * (b.toNat - 48) + (c.toNat - 48) ≤ 255 then some (UInt8.ofNat (100 * (a.toNat - 48) + 10 * (b.toNat - 48) + (c.toNat - 48)), 3) else none) else none
  | _ => none
def esc : List UInt8 → Option (UInt8 × Nat)
  | [] => none
  | a :: r => if dgB a = true then esc3 a r else some (a, 1)
def escV : Option (UInt8 × Nat) → Value
  | none => .tuple #[.int .u8 0, .int .i64 0, .bool false]
  | some (c, n) => .tuple #[.int .u8 (c.toNat : Int), .int .i64 (n : Int), .bool true]
def rescV : Option (UInt8 × Nat) → Value
  | none => .tuple #[.int .u8 0, .int .i64 0]
  | some (c, n) => .tuple #[.int .u8 (c.toNat : Int), .int .i64 (n : Int)]
theorem esc_t {a : UInt8} {r : List UInt8} (h : dgB a = true) : esc (a :: r) = esc3 a r := by unfold esc; exact if_pos h
theorem esc_f {a : UInt8} {r : List UInt8} (h : dgB a = false) : esc (a :: r) = some (a, 1) := by unfold esc; exact if_neg (by simp [h])
theorem escn {o : Option (UInt8 × Nat)} (h : o = none) : Ending.returned (.tuple #[.int .u8 0, .int .i64 0, .bool false]) = .returned (escV o) := by rw [h]; rfl
theorem escs {o : Option (UInt8 × Nat)} {c : UInt8} {n : Nat} {z m : Int} (h : o = some (c, n)) (hz : z = c.toNat) (hm : m = n) : Ending.returned (.tuple #[.int .u8 z, .int .i64 m, .bool true]) = .returned (escV o) := by rw [h, hz, hm]; rfl
theorem rescn {o : Option (UInt8 × Nat)} (h : o = none) : Ending.returned (.tuple #[.int .u8 0, .int .i64 0]) = .returned (rescV o) := by rw [h]; rfl
theorem rescs {o : Option (UInt8 × Nat)} {c : UInt8} {n : Nat} {z m : Int} (h : o = some (c, n)) (hz : z = c.toNat) (hm : m = n) : Ending.returned (.tuple #[.int .u8 z, .int .i64 m]) = .returned (rescV o) := by rw [h, hz, hm]; rfl

set_option maxHeartbeats 400000 in
theorem digit_any (b : UInt8) (w : World) : Calls Try.prog 124 #[.int .u8 (b.toNat : Int)] w fun e w' => e = .returned (.bool (dgB b)) ∧ w = w' := by
  go_enter Try.func124, Try.ntmps124
  go_wp2
  all_goals go_ret
  all_goals exact ⟨retb (by rw [Bool.eq_iff_iff]; simp [dgB]; omega), rfl⟩

set_option maxRecDepth 100000 in
set_option maxHeartbeats 800000 in
theorem escaped_any (l : List UInt8) (w : World) (hl : l.length ≤ 140737488351232) :
    Calls Try.prog 116 #[.string ⟨l.toArray⟩] w fun e w' => e = .returned (escV (esc l)) ∧ ∃ n, w' = w.drewN n := by
  rcases l with _ | ⟨a, r⟩
  · go_enter Try.func116, Try.ntmps116
    go_wp2
    go_ret3
    exact ⟨escn rfl, 0, rfl⟩
  · rw [List.length_cons] at hl
    rcases ha : dgB a
    · have Ha := Lib.hid ha
      clear ha
      go_enter Try.func116, Try.ntmps116
      go_wp2_with fail
      refine (digit_any _ _).mono ?_
      rintro e w' ⟨rfl, rfl⟩
      rw [Ha.out]
      go_wp2_with fail
      go_ret3
      exact ⟨escs (esc_f Ha.out) rfl rfl, 0, rfl⟩
    · have Ha := Lib.hid ha
      have Hda := Lib.hid (dgB_t ha)
      clear ha
      rcases r with _ | ⟨b, r⟩
      · go_enter Try.func116, Try.ntmps116
        go_wp2_with fail
        refine (digit_any _ _).mono ?_
        rintro e w' ⟨rfl, rfl⟩
        rw [Ha.out]
        go_wp2_with fail
        go_ret3
        exact ⟨escn (by rw [esc_t Ha.out]; rfl), 0, rfl⟩
      · rcases r with _ | ⟨c, r⟩
        · go_enter Try.func116, Try.ntmps116
          go_wp2_with fail
          refine (digit_any _ _).mono ?_
          rintro e w' ⟨rfl, rfl⟩
          rw [Ha.out]
          go_wp2_with fail
          go_ret3
          exact ⟨escn (by rw [esc_t Ha.out]; rfl), 0, rfl⟩
        · rcases hb : dgB b
          · have Hb := Lib.hid hb
            clear hb
            go_enter Try.func116, Try.ntmps116
            go_wp2_with fail
            refine (digit_any _ _).mono ?_
            rintro e w' ⟨rfl, rfl⟩
            rw [Ha.out]
            go_wp2_with fail
            refine (digit_any _ _).mono ?_
            rintro e w' ⟨rfl, rfl⟩
            rw [Hb.out]
            go_wp2_with fail
            go_ret3
            exact ⟨escn (by rw [esc_t Ha.out, esc3, if_neg]; rw [Hb.out]; simp), 0, rfl⟩
          · have Hb := Lib.hid hb
            have Hdb := Lib.hid (dgB_t hb)
            clear hb
            rcases hc : dgB c
            · have Hc := Lib.hid hc
              clear hc
              go_enter Try.func116, Try.ntmps116
              go_wp2_with fail
              refine (digit_any _ _).mono ?_
              rintro e w' ⟨rfl, rfl⟩
              rw [Ha.out]
              go_wp2_with fail
              refine (digit_any _ _).mono ?_
              rintro e w' ⟨rfl, rfl⟩
              rw [Hb.out]
              go_wp2_with fail
              refine (digit_any _ _).mono ?_
              rintro e w' ⟨rfl, rfl⟩
              rw [Hc.out]
              go_wp2_with fail
              go_ret3
              exact ⟨escn (by rw [esc_t Ha.out, esc3, if_neg]; rw [Hc.out]; simp), 0, rfl⟩
            · have Hc := Lib.hid hc
              have hdc := dgB_t hc
              have hda := Hda.out
              have hdb := Hdb.out
              clear hc Hda Hdb
              have q1 : (48 : Int) ≤ (a.toNat : Int) := by omega
              have q2 : (a.toNat : Int) ≤ 57 := by omega
              have q3 : (48 : Int) ≤ (b.toNat : Int) := by omega
              have q4 : (b.toNat : Int) ≤ 57 := by omega
              have q5 : (48 : Int) ≤ (c.toNat : Int) := by omega
              have q6 : (c.toNat : Int) ≤ 57 := by omega
              go_enter Try.func116, Try.ntmps116
              go_wp2_with fail
              refine (digit_any _ _).mono ?_
              rintro e w' ⟨rfl, rfl⟩
              rw [Ha.out]
              go_wp2_with fail
              refine (digit_any _ _).mono ?_
              rintro e w' ⟨rfl, rfl⟩
              rw [Hb.out]
              go_wp2_with fail
              refine (digit_any _ _).mono ?_
              rintro e w' ⟨rfl, rfl⟩
              rw [Hc.out]
              go_wp2_with fail
              go_quiet (fail)
              go_wp2
              · go_ret3
                exact ⟨escn (by rw [esc_t Ha.out, esc3, if_pos ⟨Hb.out, Hc.out⟩, if_neg (by omega)]), _, rfl⟩
              · go_ret3
                exact ⟨escs (by rw [esc_t Ha.out, esc3, if_pos ⟨Hb.out, Hc.out⟩, if_pos (by omega)]) (by rw [UInt8.toNat_ofNat_of_lt' (show _ < 256 by omega)]; omega) rfl, _, rfl⟩

theorem val3 (a b c : UInt8) : val [a, b, c] = 100 * (a.toNat - 48) + 10 * (b.toNat - 48) + (c.toNat - 48) := by
  simp [val]; omega

set_option maxRecDepth 100000 in
set_option maxHeartbeats 800000 in
theorem rescaped_any (l : List UInt8) (w : World) (hl : l.length ≤ 140737488351232) :
    Calls Try.prog 68 #[.string ⟨l.toArray⟩] w fun e w' => e = .returned (rescV (esc l)) ∧ w = w' := by
  rcases l with _ | ⟨a, r⟩
  · go_enter Try.func68, Try.ntmps68
    go_wp2
    go_ret2
    exact ⟨rescn rfl, rfl⟩
  · rw [List.length_cons] at hl
    rcases ha : dgB a
    · rcases dgB_f ha with hb | hb
      · have hb' : (a.toNat : Int) < 48 := by omega
        have Ha := Lib.hid ha
        clear ha
        go_enter Try.func68, Try.ntmps68
        go_wp2
        go_ret2
        exact ⟨rescs (esc_f Ha.out) rfl rfl, rfl⟩
      · have hb' : (57 : Int) < (a.toNat : Int) := by omega
        have Ha := Lib.hid ha
        clear ha
        go_enter Try.func68, Try.ntmps68
        go_wp2
        go_ret2
        exact ⟨rescs (esc_f Ha.out) rfl rfl, rfl⟩
    · have hda := dgB_t ha
      have q1 : (48 : Int) ≤ (a.toNat : Int) := by omega
      have q2 : (a.toNat : Int) ≤ 57 := by omega
      have Ha := Lib.hid ha
      clear ha
      rcases r with _ | ⟨b, r⟩
      · go_enter Try.func68, Try.ntmps68
        go_wp2
        go_ret2
        exact ⟨rescn (by rw [esc_t Ha.out]; rfl), rfl⟩
      · rcases r with _ | ⟨c, r⟩
        · go_enter Try.func68, Try.ntmps68
          go_wp2
          go_ret2
          exact ⟨rescn (by rw [esc_t Ha.out]; rfl), rfl⟩
        · by_cases hbc : dgB b = true ∧ dgB c = true
          · have hdb := dgB_t hbc.1
            have hdc := dgB_t hbc.2
            by_cases hv : 100 * (a.toNat - 48) + 10 * (b.toNat - 48) + (c.toNat - 48) ≤ 255
            · have hn : numV [a, b, c] 255 = .tuple #[.int .i64 (val [a, b, c]), .int .i64 0] := by
                unfold numV
                rw [if_pos (by simp [Ha.out, hbc]), if_pos (by rw [val3]; omega)]
              have Hn := Lib.hid hn
              have Hbc := Lib.hid hbc
              clear hn hbc
              have hvb : val [a, b, c] ≤ 255 := by rw [val3]; omega
              go_enter Try.func68, Try.ntmps68
              go_wp2_with fail
              refine (rnumber_any [a, b, c] 255 _ (by simp) (by omega) (by omega)).mono ?_
              rintro e w' ⟨rfl, rfl⟩
              rw [Hn.out]
              go_wp2_with fail
              go_ret2
              exact ⟨rescs (by rw [esc_t Ha.out, esc3, if_pos Hbc.out, if_pos hv]) (by rw [UInt8.toNat_ofNat_of_lt' (show _ < 256 by omega), val3]) rfl, rfl⟩
            · have hn : numV [a, b, c] 255 = .tuple #[.int .i64 0, .int .i64 4] := by
                unfold numV
                rw [if_pos (by simp [Ha.out, hbc]), if_neg (by rw [val3]; omega)]
              have Hn := Lib.hid hn
              have Hbc := Lib.hid hbc
              clear hn hbc
              go_enter Try.func68, Try.ntmps68
              go_wp2_with fail
              refine (rnumber_any [a, b, c] 255 _ (by simp) (by omega) (by omega)).mono ?_
              rintro e w' ⟨rfl, rfl⟩
              rw [Hn.out]
              go_wp2_with fail
              go_ret2
              exact ⟨rescn (by rw [esc_t Ha.out, esc3, if_pos Hbc.out, if_neg hv]), rfl⟩
          · have hn : numV [a, b, c] 255 = .tuple #[.int .i64 0, .int .i64 5] := by
              unfold numV
              rw [if_neg]
              rintro ⟨_, h⟩
              simp at h
              exact hbc ⟨h.2.1, h.2.2⟩
            have Hn := Lib.hid hn
            have Hbc := Lib.hid hbc
            clear hn hbc
            go_enter Try.func68, Try.ntmps68
            go_wp2_with fail
            refine (rnumber_any [a, b, c] 255 _ (by simp) (by omega) (by omega)).mono ?_
            rintro e w' ⟨rfl, rfl⟩
            rw [Hn.out]
            go_wp2_with fail
            go_ret2
            exact ⟨rescn (by rw [esc_t Ha.out, esc3, if_neg Hbc.out]), rfl⟩
end Go.Proofs.Ytnelaegjcpkmdaa
