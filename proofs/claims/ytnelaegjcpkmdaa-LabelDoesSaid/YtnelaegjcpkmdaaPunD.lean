/- The contracts of puny.letter, figure, add, least, and of the reference's over, figures, value. -/
import Derived.Test.YtnelaegjcpkmdaaPunC
import Derived.Test.YtnelaegjcpkmdaaDomJ
namespace Go.Proofs.Ytnelaegjcpkmdaa
open Go.RowKit
attribute [local go_sem] ba_get ext_any ba_app

set_option maxHeartbeats 400000 in
theorem letter_any (z : Int) (w : World) (h0 : 0 ≤ z) (h1 : z < 36) : Calls Try.prog 84 #[.int .i64 z] w fun e w' => e = .returned (.int .u8 (((Pu.lt1 z.toNat).toNat : Nat) : Int)) ∧ w = w' := by
  have hl : ∀ n : Nat, n < 36 → ((Pu.lt1 n).toNat : Int) = if n < 26 then 97 + (n : Int) else 22 + (n : Int) := by
    intro n hn
    have : ∀ n : Fin 36, ((Pu.lt1 n.val).toNat : Int) = if n.val < 26 then 97 + (n.val : Int) else 22 + (n.val : Int) := by decide +kernel
    exact this ⟨n, hn⟩
  have Hl := Lib.hid (hl z.toNat (by omega))
  clear hl
  by_cases h : z < 26
  · go_enter Try.func84, Try.ntmps84
    go_wp2
    go_ret
    refine ⟨reti ?_, rfl⟩
    rw [Hl.out, if_pos (by omega)]; omega
  · go_enter Try.func84, Try.ntmps84
    go_wp2
    go_ret
    refine ⟨reti ?_, rfl⟩
    rw [Hl.out, if_neg (by omega)]; omega

def figV : Option Nat → Value
  | none => .tuple #[.int .i64 0, .bool false]
  | some f => .tuple #[.int .i64 (f : Int), .bool true]
theorem figr {c : UInt8} {o : Option Nat} {v : Value} (h : Pu.fig c = o) (hv : v = figV o) : Ending.returned v = .returned (figV (Pu.fig c)) := by rw [h, hv]
theorem figr1 {c : UInt8} {f : Nat} {x : Int} (h : Pu.fig c = some f) (hx : x = (f : Int)) : Ending.returned (.tuple #[.int .i64 x, .bool true]) = .returned (figV (Pu.fig c)) := by rw [h, hx]; rfl
set_option maxRecDepth 100000 in
set_option maxHeartbeats 800000 in
theorem figure_any (c : UInt8) (w : World) : Calls Try.prog 87 #[.int .u8 ((c.toNat : Nat) : Int)] w fun e w' => e = .returned (figV (Pu.fig c)) ∧ w = w' := by
  have hb := c.toNat_lt
  rcases (show c.toNat < 48 ∨ (48 ≤ c.toNat ∧ c.toNat ≤ 57) ∨ (58 ≤ c.toNat ∧ c.toNat ≤ 64) ∨ (65 ≤ c.toNat ∧ c.toNat ≤ 90) ∨ (91 ≤ c.toNat ∧ c.toNat ≤ 96) ∨ (97 ≤ c.toNat ∧ c.toNat ≤ 122) ∨ 122 < c.toNat by omega) with h | h | h | h | h | h | h
  all_goals
    first
      | have R := Lib.hid (show Pu.fig c = none by unfold Pu.fig; rw [if_neg (by omega), if_neg (by omega), if_neg (by omega)])
      | have R := Lib.hid (show Pu.fig c = some (c.toNat - 97) by unfold Pu.fig; rw [if_pos (by omega)])
      | have R := Lib.hid (show Pu.fig c = some (c.toNat - 65) by unfold Pu.fig; rw [if_neg (by omega), if_pos (by omega)])
      | have R := Lib.hid (show Pu.fig c = some (c.toNat - 22) by unfold Pu.fig; rw [if_neg (by omega), if_neg (by omega), if_pos (by omega)])
    first | have a1 : (97 : Int) ≤ ((c.toNat : Nat) : Int) := by omega
          | have a1 : ¬ (97 : Int) ≤ ((c.toNat : Nat) : Int) := by omega
    first | have a2 : ((c.toNat : Nat) : Int) ≤ 122 := by omega
          | have a2 : ¬ ((c.toNat : Nat) : Int) ≤ 122 := by omega
    first | have a3 : (65 : Int) ≤ ((c.toNat : Nat) : Int) := by omega
          | have a3 : ¬ (65 : Int) ≤ ((c.toNat : Nat) : Int) := by omega
    first | have a4 : ((c.toNat : Nat) : Int) ≤ 90 := by omega
          | have a4 : ¬ ((c.toNat : Nat) : Int) ≤ 90 := by omega
    first | have a5 : (48 : Int) ≤ ((c.toNat : Nat) : Int) := by omega
          | have a5 : ¬ (48 : Int) ≤ ((c.toNat : Nat) : Int) := by omega
    first | have a6 : ((c.toNat : Nat) : Int) ≤ 57 := by omega
          | have a6 : ¬ ((c.toNat : Nat) : Int) ≤ 57 := by omega
    go_enter Try.func87, Try.ntmps87
    go_wp2
    go_ret2
    first | exact ⟨figr R.out rfl, rfl⟩ | (refine ⟨figr1 R.out ?_, rfl⟩; omega)

set_option maxHeartbeats 400000 in
theorem rover_any (n : Nat) (w : World) (h : n ≤ 1000000000000000) : Calls Try.prog 58 #[.int .i64 (n : Int)] w fun e w' => e = .returned (.bool (decide (4294967295 < n))) ∧ w = w' := by
  by_cases hc : 4294967295 < n
  · have i1 : (4294967295 : Int) < (n : Int) := by omega
    go_enter Try.func58, Try.ntmps58
    go_wp2
    go_ret
    exact ⟨retb (by simp [hc]), rfl⟩
  · have i1 : ¬ (4294967295 : Int) < (n : Int) := by omega
    go_enter Try.func58, Try.ntmps58
    go_wp2
    go_ret
    exact ⟨retb (by simp), rfl⟩

theorem fgz {n t : Nat} (h : t ≤ n) (ht : t ≤ 26) : ((t : Int) + ((n : Int) - (t : Int)) % (36 - (t : Int))).toNat = t + (n - t) % (36 - t) := by
  have e1 : (n : Int) - (t : Int) = ((n - t : Nat) : Int) := by omega
  have e2 : (36 : Int) - (t : Int) = ((36 - t : Nat) : Int) := by omega
  rw [e1, e2, ← Int.natCast_emod]
  omega
theorem fgq {n t : Nat} (h : t ≤ n) (ht : t ≤ 26) : ((n : Int) - (t : Int)) / (36 - (t : Int)) = (((n - t) / (36 - t) : Nat) : Int) := by
  have e1 : (n : Int) - (t : Int) = ((n - t : Nat) : Int) := by omega
  have e2 : (36 : Int) - (t : Int) = ((36 - t : Nat) : Int) := by omega
  rw [e1, e2, ← Int.natCast_ediv]
theorem fgb {n t : Nat} (h : t ≤ n) (ht : t ≤ 26) : (0 : Int) ≤ ((n : Int) - (t : Int)) % (36 - (t : Int)) ∧ ((n : Int) - (t : Int)) % (36 - (t : Int)) < 36 - (t : Int) ∧ (0 : Int) ≤ ((n : Int) - (t : Int)) / (36 - (t : Int)) ∧ ((n : Int) - (t : Int)) / (36 - (t : Int)) ≤ (n : Int) - (t : Int) :=
  ⟨Int.emod_nonneg _ (by omega), Int.emod_lt_of_pos _ (by omega), Int.ediv_nonneg (by omega) (by omega), Int.ediv_le_self _ (by omega)⟩

def PaRel (base : Nat) (w : World) (zs : List Value) (bias : Nat) (n k : Nat) (v : Value) (wr : World) : Prop :=
  ∃ ys : List Value, wr.ownsRow base 5 1 v ys.length ys ∧ ys ++ (Pu.figs n bias k).map byv = zs ∧ Below base w wr
set_option maxRecDepth 100000 in
set_option maxHeartbeats 1000000 in
theorem padd_any (n0 bias : Nat) (base : Nat) (v : Value) (n : Nat) (xs : List Value) (w : World) (h0 : n0 ≤ 9999999999) (hbias : bias ≤ 1000000000000) (hb : base ≤ w.heap.size) (hn : n ≤ 1000000000) (hown : w.ownsRow base 5 1 v n xs) :
    Calls Try.prog 56 #[v, .int .i64 (n0 : Int), .int .i64 (bias : Int)] w (AddPost base 5 w n xs ((Pu.figs n0 bias 1).map byv)) := by
  have hfl := Pu.figs_len 10 n0 bias 1 (by simp; omega)
  have hxl : xs.length = n := by have := hown.1; omega
  obtain ⟨zs, hzs⟩ : ∃ zs, zs = xs ++ (Pu.figs n0 bias 1).map byv := ⟨_, rfl⟩
  have hzl : zs.length ≤ n + 11 := by rw [hzs, List.length_append, List.length_map]; omega
  have Hzs := Lib.hid hzs
  have hown' : w.ownsRow base 5 1 v xs.length xs := by rw [hxl]; exact hown
  have Hown := Lib.hid hown'
  have Hxl := Lib.hid hxl
  clear hzs hown hown' hxl
  go_enter Try.func56, Try.ntmps56
  go_wp2
  go_loopw [0, 1, 7, 8] (fun v x y _ wr => ∃ m k : Nat, x = .int .i64 (m : Int) ∧ y = .int .i64 (k : Int) ∧ m ≤ n0 ∧ 1 ≤ k ∧ k + (Pu.figs m bias k).length ≤ 12 ∧ PaRel base w zs bias m k v wr) (fun _ x _ _ _ => (intOf x).toNat)
  case atStart => exact ⟨n0, 1, rfl, rfl, Nat.le_refl _, Nat.le_refl _, by omega, xs, Hown.out, Hzs.out.symm, Below.refl _ _⟩
  case round =>
    obtain ⟨m, k, rfl, rfl, hm, hk1, hk, ys, h3, he, h4⟩ := hrel
    have hsz : base ≤ wr.heap.size := Nat.le_trans hb h4.size
    have hyl : ys.length ≤ n + 11 := by
      have := congrArg List.length he
      rw [List.length_append] at this
      omega
    have He := Lib.hid he
    clear he
    have hbl := Pu.bnd_le k bias
    have hbp := Pu.bnd_pos k bias
    go_wp2_with fail
    refine (pbound_any _ _ _ (by omega) hbias).mono ?_
    rintro e w' ⟨rfl, rfl⟩
    by_cases hlt : m < Pu.bnd k bias
    · have HF := Lib.hid (Pu.figs_stop hlt)
      have i1 : (m : Int) < ((Pu.bnd k bias : Nat) : Int) := by omega
      generalize Pu.bnd k bias = t at *
      go_wp2_with fail
      refine (letter_any _ _ (by omega) (by omega)).mono ?_
      rintro e w' ⟨rfl, rfl⟩
      rw [Int.toNat_natCast]
      obtain ⟨c, hc⟩ : ∃ c, c = Pu.lt1 m := ⟨_, rfl⟩
      rw [← hc]
      have Hc := Lib.hid hc
      clear hc
      go_wp2_with (at_builtin; refine wpList_appLit rfl _ _ _ rfl elt_bytes (n := ys.length) rfl h3 [.int .u8 ((c.toNat : Nat) : Int)] (m := 1) rfl rfl (by simp [Value.oneCell']) hsz (by omega) (by omega) ?_; intro v1 w1 ho1 hb1 hg1)
      go_ret
      refine ⟨_, rfl, ?_, h4.trans hb1⟩
      have e1 := He.out
      rw [HF.out, ← Hc.out] at e1
      rw [← Hzs.out, ← e1]
      have e2 : n + ((Pu.figs n0 bias 1).map byv).length = ys.length + 1 := by
        have := congrArg List.length e1
        rw [Hzs.out, List.length_append, List.length_append, List.length_map, List.length_map, Hxl.out] at this
        rw [List.length_map]
        simpa using this.symm
      rw [e2]
      exact ho1
    · have HF := Lib.hid (Pu.figs_go hlt)
      have hdl := Pu.div_lt hbp hlt
      have i1 : ¬ (m : Int) < ((Pu.bnd k bias : Nat) : Int) := by omega
      have hfl2 : (Pu.figs m bias k).length = (Pu.figs ((m - Pu.bnd k bias) / (36 - Pu.bnd k bias)) bias (k + 1)).length + 1 := by rw [HF.out]; simp
      have Hfl2 := Lib.hid hfl2
      clear hfl2
      obtain ⟨b1, b2, b3, b4⟩ := fgb (n := m) (t := Pu.bnd k bias) (by omega) hbl
      have Z1 := Lib.hid (fgz (n := m) (t := Pu.bnd k bias) (by omega) hbl)
      have Z2 := Lib.hid (fgq (n := m) (t := Pu.bnd k bias) (by omega) hbl)
      generalize Pu.bnd k bias = t at *
      have i2 : ((36 - (t : Int)) == 0) = false := by rw [beq_eq_false_iff_ne]; omega
      go_wp2_with fail
      refine (letter_any _ _ (by omega) (by omega)).mono ?_
      rintro e w' ⟨rfl, rfl⟩
      rw [Z1.out]
      obtain ⟨c, hg⟩ : ∃ c, c = Pu.lt1 (t + (m - t) % (36 - t)) := ⟨_, rfl⟩
      rw [← hg]
      have Hg := Lib.hid hg
      clear hg
      go_wp2_with (at_builtin; refine wpList_appLit rfl _ _ _ rfl elt_bytes (n := ys.length) rfl h3 [.int .u8 ((c.toNat : Nat) : Int)] (m := 1) rfl rfl (by simp [Value.oneCell']) hsz (by omega) (by omega) ?_; intro v1 w1 ho1 hb1 hg1)
      go_roundw
      case rel =>
        refine ⟨(m - t) / (36 - t), k + 1, vint Z2.out, by go_num, by omega, by omega, by have := Hfl2.out; omega, ys ++ [byv c], ?_, ?_, h4.trans hb1⟩
        · rw [List.length_append]; exact ho1
        · have e1 := He.out
          rw [HF.out, ← Hg.out] at e1
          rw [← e1]
          simp
      case measure => simp [intOf]; rw [Z2.out]; omega
end Go.Proofs.Ytnelaegjcpkmdaa
