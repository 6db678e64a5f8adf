/- The contracts of the reference's Lower and Same, of names' Same, Lower, Under and Cat. -/
import Derived.Test.YtnelaegjcpkmdaaAscB
import Derived.Test.YtnelaegjcpkmdaaDomI
namespace Go.Proofs.Ytnelaegjcpkmdaa
open Go.RowKit
attribute [local go_sem] ba_get ext_take ext_drop

theorem low_len (l : List UInt8) : (low l).length = l.length := by simp [low]
theorem low_next {l : List UInt8} {k : Nat} (h : k < l.length) : low (l.take (k + 1)) = low (l.take k) ++ [sm l[k]] := by
  unfold low; rw [List.take_succ_eq_append_getElem h, List.map_append]; rfl
theorem low_all (l : List UInt8) : low (l.take l.length) = low l := by rw [List.take_length]
def RlRel (w : World) (l : List UInt8) (k : Nat) (v : Value) (wr : World) : Prop :=
  wr.ownsRow w.heap.size 5 1 v k ((low (l.take k)).map byv) ∧ Below w.heap.size w wr
theorem RlRel.next {w w0 w1 : World} {l : List UInt8} {k : Nat} {v1 : Value} {u : Value} (hk : k < l.length) (hu : u = byv (sm l[k])) (h : w1.ownsRow w.heap.size 5 1 v1 (k + 1) ((low (l.take k)).map byv ++ [u])) (h0 : Below w.heap.size w w0) (h1 : Below w.heap.size w0 w1) : RlRel w l (k + 1) v1 w1 := by
  subst hu
  refine ⟨?_, h0.trans h1⟩
  rw [low_next hk, List.map_append]
  exact h
set_option maxRecDepth 100000 in
set_option maxHeartbeats 800000 in
theorem rlower_any (l : List UInt8) (w : World) (hl : l.length ≤ 1000000000) : Calls Try.prog 47 #[.string ⟨l.toArray⟩] w (StrPost w (low l)) := by
  go_enter Try.func47, Try.ntmps47
  go_wp2
  go_loopw [3, 4] (fun v i wr => ∃ k : Nat, k ≤ l.length ∧ i = .int .i64 k ∧ RlRel w l k v wr) (fun _ i _ => l.length - (intOf i).toNat)
  case atStart => exact ⟨0, Nat.zero_le _, rfl, World.ownsRow_nil _ _ _ _, Below.refl _ _⟩
  case round =>
    obtain ⟨k, hk, rfl, h3, h4⟩ := hrel
    have hsz := h4.size
    by_cases hlt : k < l.length
    · have i1 : (k : Int) < (l.length : Int) := by omega
      have hb := l[k].toNat_lt
      by_cases hu : 65 ≤ l[k].toNat ∧ l[k].toNat ≤ 90
      · have hs := sm_up hu
        have Hs := Lib.hid (show Value.int .u8 (((l[k].toNat : Nat) : Int) + 32) = byv (sm l[k]) by unfold byv; rw [hs]; rfl)
        have i2 : (65 : Int) ≤ ((l[k].toNat : Nat) : Int) := by omega
        have i3 : ((l[k].toNat : Nat) : Int) ≤ 90 := by omega
        clear hu hs
        go_wp2_with (at_builtin; refine wpList_appLit rfl _ _ _ rfl elt_bytes (n := k) rfl h3 [.int .u8 (((l[k].toNat : Nat) : Int) + 32)] (m := 1) rfl rfl (by simp [Value.oneCell']) hsz (by omega) (by omega) ?_; intro v1 w1 ho1 hb1 hg1)
        have R := RlRel.next hlt Hs.out ho1 h4 hb1
        clear ho1 hb1 hg1
        go_roundw
        case rel => exact ⟨k + 1, by omega, by go_num, R⟩
        case measure => simp [intOf]; omega
      · have Hs := Lib.hid (show Value.int .u8 ((l[k].toNat : Nat) : Int) = byv (sm l[k]) by unfold byv; rw [sm_id hu])
        by_cases h65 : 65 ≤ l[k].toNat
        · have i2 : (65 : Int) ≤ ((l[k].toNat : Nat) : Int) := by omega
          have i3 : ¬ ((l[k].toNat : Nat) : Int) ≤ 90 := by omega
          clear hu h65
          go_wp2_with (at_builtin; refine wpList_appLit rfl _ _ _ rfl elt_bytes (n := k) rfl h3 [.int .u8 ((l[k].toNat : Nat) : Int)] (m := 1) rfl rfl (by simp [Value.oneCell']) hsz (by omega) (by omega) ?_; intro v1 w1 ho1 hb1 hg1)
          have R := RlRel.next hlt Hs.out ho1 h4 hb1
          clear ho1 hb1 hg1
          go_roundw
          case rel => exact ⟨k + 1, by omega, by go_num, R⟩
          case measure => simp [intOf]; omega
        · have i2 : ¬ (65 : Int) ≤ ((l[k].toNat : Nat) : Int) := by omega
          clear hu h65
          go_wp2_with (at_builtin; refine wpList_appLit rfl _ _ _ rfl elt_bytes (n := k) rfl h3 [.int .u8 ((l[k].toNat : Nat) : Int)] (m := 1) rfl rfl (by simp [Value.oneCell']) hsz (by omega) (by omega) ?_; intro v1 w1 ho1 hb1 hg1)
          have R := RlRel.next hlt Hs.out ho1 h4 hb1
          clear ho1 hb1 hg1
          go_roundw
          case rel => exact ⟨k + 1, by omega, by go_num, R⟩
          case measure => simp [intOf]; omega
    · have i1 : ¬ (k : Int) < (l.length : Int) := by omega
      obtain rfl : k = l.length := by omega
      have hown := Sl.own h3
      rw [low_all] at hown
      have hown' : Sl wr 1 u3 (low l).length ((low l).map byv) := by rw [low_len]; exact hown
      have hcv := str_run hown'
      clear hown hown'
      go_wp2
      go_ret
      exact ⟨rfl, h4⟩

def lows (A : List (List UInt8)) : List (List UInt8) := A.map low
theorem lows_len (A : List (List UInt8)) : (lows A).length = A.length := by simp [lows]
def RdRel (w : World) (A : List (List UInt8)) (k : Nat) (v : Value) (wr : World) : Prop :=
  wr.ownsRow w.heap.size 9 1 v k ((lows (A.take k)).map stv) ∧ Below w.heap.size w wr
theorem RdRel.next {w w0 w1 : World} {A : List (List UInt8)} {k : Nat} {v1 : Value} (hk : k < A.length) (h : w1.ownsRow w.heap.size 9 1 v1 (k + 1) ((lows (A.take k)).map stv ++ [stv (low A[k])])) (h0 : Below w.heap.size w w0) (h1 : Below w.heap.size w0 w1) : RdRel w A (k + 1) v1 w1 := by
  refine ⟨?_, h0.trans h1⟩
  unfold lows at h ⊢
  rw [List.take_succ_eq_append_getElem hk, List.map_append, List.map_append]
  exact h
end Go.Proofs.Ytnelaegjcpkmdaa
