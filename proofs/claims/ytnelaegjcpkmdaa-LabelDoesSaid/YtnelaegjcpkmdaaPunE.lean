/- The contracts of the reference's figures and value, and of puny.least. -/
import Derived.Test.YtnelaegjcpkmdaaPunD
namespace Go.Proofs.Ytnelaegjcpkmdaa
open Go.RowKit
attribute [local go_sem] ba_get ba_app

def figL : List UInt8 := [97, 98, 99, 100, 101, 102, 103, 104, 105, 106, 107, 108, 109, 110, 111, 112, 113, 114, 115, 116, 117, 118, 119, 120, 121, 122, 48, 49, 50, 51, 52, 53, 54, 55, 56, 57]
theorem figL_len : figL.length = 36 := rfl
theorem figL_cut {f : Nat} (h : f < 36) : (figL.take (f + 1)).drop f = [Pu.lt1 f] := by
  have : ∀ f : Fin 36, (figL.take (f.val + 1)).drop f.val = [Pu.lt1 f.val] := by decide +kernel
  exact this ⟨f, h⟩
theorem fg_cut (T : List UInt8) {f : Nat} (h : f < 36) : Value.string (ByteArray.mk T.toArray ++ (ByteArray.mk #[97, 98, 99, 100, 101, 102, 103, 104, 105, 106, 107, 108, 109, 110, 111, 112, 113, 114, 115, 116, 117, 118, 119, 120, 121, 122, 48, 49, 50, 51, 52, 53, 54, 55, 56, 57]).extract f (f + 1)) = .string ⟨(T ++ [Pu.lt1 f]).toArray⟩ := by
  have : (ByteArray.mk #[97, 98, 99, 100, 101, 102, 103, 104, 105, 106, 107, 108, 109, 110, 111, 112, 113, 114, 115, 116, 117, 118, 119, 120, 121, 122, 48, 49, 50, 51, 52, 53, 54, 55, 56, 57]) = ⟨figL.toArray⟩ := rfl
  rw [this, ext_any, figL_cut h, ba_app]

set_option maxRecDepth 100000 in
set_option maxHeartbeats 1000000 in
theorem rfigures_any (n0 bias : Nat) (w : World) (h0 : n0 ≤ 9999999999) (hbias : bias ≤ 1000000000000) :
    Calls Try.prog 59 #[.int .i64 (n0 : Int), .int .i64 (bias : Int)] w fun e w' => e = .returned (.string ⟨(Pu.figs n0 bias 1).toArray⟩) ∧ w = w' := by
  have hfl := Pu.figs_len 10 n0 bias 1 (by simp; omega)
  go_enter Try.func59, Try.ntmps59
  go_wp2
  go_loop [0, 5, 6, 7, 8] (fun x s y _ _ => ∃ m k : Nat, ∃ T : List UInt8, x = .int .i64 (m : Int) ∧ y = .int .i64 (k : Int) ∧ s = .string ⟨T.toArray⟩ ∧ m ≤ n0 ∧ 1 ≤ k ∧ k + (Pu.figs m bias k).length ≤ 12 ∧ T ++ Pu.figs m bias k = Pu.figs n0 bias 1) (fun x _ _ _ _ => (intOf x).toNat)
  case atStart => exact ⟨n0, 1, [], rfl, rfl, rfl, Nat.le_refl _, Nat.le_refl _, by omega, rfl⟩
  case round =>
    obtain ⟨m, k, T, rfl, rfl, rfl, hm, hk1, hk, he⟩ := hrel
    have hTl : T.length ≤ 12 := by
      have := congrArg List.length he
      rw [List.length_append] at this
      omega
    have He := Lib.hid he
    clear he
    have hbl := Pu.bnd_le k bias
    have hbp := Pu.bnd_pos k bias
    have i0 : (k : Int) < 100 := by omega
    go_wp2_with fail
    refine (rpbound_any _ _ _ (by omega) hbias).mono ?_
    rintro e w' ⟨rfl, rfl⟩
    by_cases hlt : m < Pu.bnd k bias
    · have HF := Lib.hid (Pu.figs_stop hlt)
      have i1 : (m : Int) < ((Pu.bnd k bias : Nat) : Int) := by omega
      have i2 : ¬ ((Pu.bnd k bias : Nat) : Int) ≤ (m : Int) := by omega
      generalize Pu.bnd k bias = t at *
      have hm36 : m < 36 := by omega
      have i3 : (m : Int) + 1 ≤ 36 := by omega
      have Hfin := Lib.hid (show T ++ [Pu.lt1 m] = Pu.figs n0 bias 1 by rw [← He.out, HF.out])
      go_wp2
      go_ret
      refine ⟨congrArg Ending.returned ?_, rfl⟩
      rw [← Hfin.out]
      exact fg_cut T hm36
    · have HF := Lib.hid (Pu.figs_go hlt)
      have hdl := Pu.div_lt hbp hlt
      have i1 : ¬ (m : Int) < ((Pu.bnd k bias : Nat) : Int) := by omega
      have i2 : ((Pu.bnd k bias : Nat) : Int) ≤ (m : Int) := by omega
      have hfl2 : (Pu.figs m bias k).length = (Pu.figs ((m - Pu.bnd k bias) / (36 - Pu.bnd k bias)) bias (k + 1)).length + 1 := by rw [HF.out]; simp
      have Hfl2 := Lib.hid hfl2
      clear hfl2
      obtain ⟨b1, b2, b3, b4⟩ := fgb (n := m) (t := Pu.bnd k bias) (by omega) hbl
      have Z1 := Lib.hid (fgz (n := m) (t := Pu.bnd k bias) (by omega) hbl)
      have Z2 := Lib.hid (fgq (n := m) (t := Pu.bnd k bias) (by omega) hbl)
      generalize Pu.bnd k bias = t at *
      have i5 : ((36 - (t : Int)) == 0) = false := by rw [beq_eq_false_iff_ne]; omega
      obtain ⟨g, hg⟩ : ∃ g : Nat, (t : Int) + ((m : Int) - (t : Int)) % (36 - (t : Int)) = (g : Int) := ⟨_, (Int.toNat_of_nonneg (by omega)).symm⟩
      have Hg := Lib.hid (show g = t + (m - t) % (36 - t) by rw [← Z1.out, hg]; rfl)
      have hg36 : g < 36 := by omega
      have i3 : (g : Int) + 1 ≤ 36 := by omega
      have Hfin := Lib.hid (show (T ++ [Pu.lt1 g]) ++ Pu.figs ((m - t) / (36 - t)) bias (k + 1) = Pu.figs n0 bias 1 by rw [← He.out, HF.out, ← Hg.out]; simp)
      go_wp2
      go_round
      case rel => exact ⟨(m - t) / (36 - t), k + 1, T ++ [Pu.lt1 g], vint Z2.out, by go_num, fg_cut T hg36, by omega, by omega, by have := Hfl2.out; omega, Hfin.out⟩
      case measure => simp [intOf]; rw [Z2.out]; omega

theorem val_hit (c : UInt8) {k : Nat} (h : k < 36) (he : Pu.lt1 k = sm c) : Pu.fig c = some k := by
  have : ∀ n : Fin 256, ∀ k : Fin 36, Pu.lt1 k.val = sm (UInt8.ofNat n.val) → Pu.fig (UInt8.ofNat n.val) = some k.val := by decide +kernel
  have := this ⟨c.toNat, c.toNat_lt⟩ ⟨k, h⟩
  simp only [UInt8.ofNat_toNat] at this
  exact this he
theorem val_none (c : UInt8) (h : ∀ k, k < 36 → Pu.lt1 k ≠ sm c) : Pu.fig c = none := by
  have : ∀ n : Fin 256, (∀ k : Fin 36, Pu.lt1 k.val ≠ sm (UInt8.ofNat n.val)) → Pu.fig (UInt8.ofNat n.val) = none := by decide +kernel
  have := this ⟨c.toNat, c.toNat_lt⟩
  simp only [UInt8.ofNat_toNat] at this
  exact this fun k => h k.val k.isLt
def valI : Option Nat → Int
  | none => -1
  | some f => (f : Int)
attribute [local go_sem] ext_any
set_option maxRecDepth 100000 in
set_option maxHeartbeats 1000000 in
theorem rvalue_any (c : UInt8) (w : World) : Calls Try.prog 88 #[.int .u8 ((c.toNat : Nat) : Int)] w fun e w' => e = .returned (.int .i64 (valI (Pu.fig c))) ∧ Below w.heap.size w w' := by
  have hcv := str_run (l := [c]) (Sl.new w [byv c] 5)
  have hcv' : (convert 62 9 (.slice (some ⟨w.heap.size, 0, none⟩) 1 1)).run Try.prog (w.alloc (.cells #[.int .u8 ((c.toNat : Nat) : Int)] 5)) = .ok (.string ⟨[c].toArray⟩) (w.alloc (.cells #[.int .u8 ((c.toNat : Nat) : Int)] 5)) := hcv
  clear hcv
  go_enter Try.func88, Try.ntmps88
  go_wp2_with fail
  refine (rlower_any _ _ (by simp)).mono ?_
  rintro e w1 ⟨rfl, hb1⟩
  have hb01 : Below w.heap.size w w1 := ((Below.refl _ _).alloc (Nat.le_refl _) _).trans (hb1.mono (by simp))
  clear hb1 hcv'
  go_wp2
  rw [show (ByteArray.mk #[97, 98, 99, 100, 101, 102, 103, 104, 105, 106, 107, 108, 109, 110, 111, 112, 113, 114, 115, 116, 117, 118, 119, 120, 121, 122, 48, 49, 50, 51, 52, 53, 54, 55, 56, 57]) = ⟨figL.toArray⟩ from rfl]
  rw [show low [c] = [sm c] from rfl]
  have hl1 : figL.length ≤ 36 := by rw [figL_len]; omega
  have hl2 : 36 ≤ figL.length := by rw [figL_len]; omega
  go_loop [5] (fun i => ∃ k : Nat, k ≤ 36 ∧ i = .int .i64 k ∧ ∀ j, j < k → Pu.lt1 j ≠ sm c) (fun i => 36 - (intOf i).toNat)
  case atStart => exact ⟨0, Nat.zero_le _, rfl, fun _ h => absurd h (Nat.not_lt_zero _)⟩
  case round =>
    obtain ⟨k, hk, rfl, hm⟩ := hrel
    have Hm := Lib.hid hm
    clear hm
    by_cases hlt : k < 36
    · have i1 : (k : Int) < (figL.length : Int) := by omega
      have i2 : (k : Int) + 1 ≤ (figL.length : Int) := by omega
      have hcut := figL_cut hlt
      by_cases he : Pu.lt1 k = sm c
      · have Hv := Lib.hid (val_hit c hlt he)
        have i3 : (Pu.lt1 k == sm c) = true := by simpa using he
        clear he
        go_wp2
        go_ret
        refine ⟨reti ?_, hb01⟩
        rw [Hv.out]; rfl
      · have i3 : (Pu.lt1 k == sm c) = false := by simpa using he
        have Hne := Lib.hid he
        clear he
        go_wp2
        go_round
        case rel =>
          refine ⟨k + 1, by omega, by go_num, fun j hjk => ?_⟩
          by_cases hjk2 : j < k
          · exact Hm.out j hjk2
          · obtain rfl : j = k := by omega
            exact Hne.out
        case measure => simp [intOf]; omega
    · have i1 : ¬ (k : Int) < (figL.length : Int) := by omega
      have Hv := Lib.hid (val_none c (fun j hj => Hm.out j (by omega)))
      go_wp2
      go_ret
      refine ⟨reti ?_, hb01⟩
      rw [Hv.out]; rfl

def rnv (c : Nat) : Value := .int .i32 (c : Int)
def inv (c : Nat) : Value := .int .i64 (c : Int)
theorem least_next {l : List Nat} {n k : Nat} (h : k < l.length) : Pu.least (l.take (k + 1)) n = if n ≤ l[k] ∧ l[k] < Pu.least (l.take k) n then l[k] else Pu.least (l.take k) n := by
  unfold Pu.least
  rw [List.take_succ_eq_append_getElem h, List.foldl_append]
  rfl
theorem least_le (l : List Nat) (n : Nat) : Pu.least l n ≤ 1114112 := (Pu.least_from n l 1114112).2.1
set_option maxRecDepth 100000 in
set_option maxHeartbeats 800000 in
theorem least_any (l : List Nat) (v : Value) (n : Nat) (w : World) (ha : Sl w 1 v l.length (l.map rnv)) (hn : l.length ≤ 1000000000) (hll : ∀ c ∈ l, c ≤ 1114111) :
    Calls Try.prog 55 #[v, .int .i64 (n : Int)] w fun e w' => e = .returned (.int .i64 ((Pu.least l n : Nat) : Int)) ∧ w = w' := by
  rcases Nat.eq_zero_or_pos l.length with h0 | hpos
  · have hA : l = [] := List.eq_nil_of_length_eq_zero h0
    subst hA
    obtain ⟨a1, c1, rfl, _⟩ := ha.zero
    clear ha hll
    go_enter Try.func55, Try.ntmps55
    go_wp2
    refine wp_loop_rounds 1 ?_
    rw [rounds_succ]; go_wp2
    go_ret
    exact ⟨rfl, rfl⟩
  · obtain ⟨b1, o1, c1, rfl, hc1, hb1, hcA⟩ := ha.pos hpos
    have HcA := Lib.hid hcA
    have Hll := Lib.hid hll
    clear hcA ha hll
    go_enter Try.func55, Try.ntmps55
    go_wp2
    go_loop [5, 7, 10] (fun m _ i => ∃ k m' : Nat, k ≤ l.length ∧ i = .int .i64 (k : Int) ∧ m = .int .i64 (m' : Int) ∧ m' = Pu.least (l.take k) n) (fun _ _ i => l.length - (intOf i).toNat)
    case atStart => exact ⟨0, 1114112, Nat.zero_le _, rfl, rfl, rfl⟩
    case round =>
      obtain ⟨k, m, hk, rfl, rfl, hm⟩ := hrel
      have hml : m ≤ 1114112 := by rw [hm]; exact least_le _ _
      have Hm := Lib.hid hm
      clear hm
      by_cases hlt : k < l.length
      · have i1 : (k : Int) < (l.length : Int) := by omega
        have q1 : w.cell? ⟨b1, o1 + k, none⟩ = some (.int .i32 ((l[k] : Nat) : Int)) := sl_at HcA.out hlt
        have hlk := Hll.out l[k] (List.getElem_mem _)
        have HN := Lib.hid (show Pu.least (l.take (k + 1)) n = if n ≤ l[k] ∧ l[k] < m then l[k] else m by rw [least_next hlt, ← Hm.out])
        generalize l[k] = c at *
        by_cases h1 : n ≤ c
        · have j1 : (n : Int) ≤ (c : Int) := by omega
          by_cases h2 : c < m
          · have j2 : (c : Int) < (m : Int) := by omega
            go_wp2
            go_round
            case rel => exact ⟨k + 1, c, by omega, by go_num, rfl, by rw [HN.out, if_pos ⟨h1, h2⟩]⟩
            case measure => simp [intOf]; omega
          · have j2 : ¬ (c : Int) < (m : Int) := by omega
            go_wp2
            go_round
            case rel => exact ⟨k + 1, m, by omega, by go_num, rfl, by rw [HN.out, if_neg (by omega)]⟩
            case measure => simp [intOf]; omega
        · have j1 : ¬ (n : Int) ≤ (c : Int) := by omega
          go_wp2
          go_round
          case rel => exact ⟨k + 1, m, by omega, by go_num, rfl, by rw [HN.out, if_neg (by omega)]⟩
          case measure => simp [intOf]; omega
      · have i1 : ¬ (k : Int) < (l.length : Int) := by omega
        obtain rfl : k = l.length := by omega
        go_wp2
        go_ret
        exact ⟨reti (by rw [Hm.out, List.take_length]), rfl⟩
end Go.Proofs.Ytnelaegjcpkmdaa
