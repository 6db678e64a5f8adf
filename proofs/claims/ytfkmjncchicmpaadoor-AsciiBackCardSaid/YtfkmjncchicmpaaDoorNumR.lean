/- The contract of the reference's Number. -/
import Derived.Test.YtfkmjncchicmpaaDoorNum
namespace Go.Proofs.YtfkmjncchicmpaaDoor
open Go.RowKit
attribute [local go_sem] ba_get

theorem fold_ge (r : List UInt8) (n m : Nat) (h : m ≤ n) : m * 10 ^ r.length ≤ r.foldl (fun n b => 10 * n + (b.toNat - 48)) n := by
  induction r generalizing n m with
  | nil => simpa using h
  | cons b r ih =>
    have := ih (10 * n + (b.toNat - 48)) (10 * m) (by omega)
    rw [List.foldl_cons, List.length_cons, Nat.pow_succ]
    calc m * (10 ^ r.length * 10) = 10 * m * 10 ^ r.length := by rw [Nat.mul_comm (10 ^ r.length) 10, ← Nat.mul_assoc, Nat.mul_comm m 10]
      _ ≤ _ := this
theorem fold_lt (r : List UInt8) (n m : Nat) (h : n < m) (hd : r.all dgB = true) : r.foldl (fun n b => 10 * n + (b.toNat - 48)) n < m * 10 ^ r.length := by
  induction r generalizing n m with
  | nil => simpa using h
  | cons b r ih =>
    rw [List.all_cons, Bool.and_eq_true] at hd
    have hb := dgB_t hd.1
    have := ih (10 * n + (b.toNat - 48)) (10 * m) (by omega) hd.2
    rw [List.foldl_cons, List.length_cons, Nat.pow_succ]
    calc _ < 10 * m * 10 ^ r.length := this
      _ = m * (10 ^ r.length * 10) := by rw [Nat.mul_comm (10 ^ r.length) 10, ← Nat.mul_assoc, Nat.mul_comm m 10]
theorem val_split (l : List UInt8) (k : Nat) : val l = (l.drop k).foldl (fun n b => 10 * n + (b.toNat - 48)) (val (l.take k)) := by
  conv => lhs; rw [← List.take_append_drop k l]
  unfold val
  rw [List.foldl_append]
theorem pow_mono {a b : Nat} (h : a ≤ b) : 10 ^ a ≤ 10 ^ b := Nat.pow_le_pow_right (by omega) h
/-- of twenty digits or more, the first not nought: it is above all. -/
theorem val_big {l : List UInt8} {k : Nat} (hk : k < l.length) (h19 : 19 < l.length - k) (hd : dgB l[k] = true) (h48 : l[k].toNat ≠ 48) : 9223372036854775807 < val l := by
  have h1 : 1 ≤ val (l.take (k + 1)) := by rw [val_next hk]; have := dgB_t hd; omega
  have h2 := fold_ge (l.drop (k + 1)) _ 1 h1
  rw [← val_split] at h2
  have h3 : 10 ^ 19 ≤ 10 ^ (l.drop (k + 1)).length := pow_mono (by rw [List.length_drop]; omega)
  have h4 : (10 : Nat) ^ 19 = 10000000000000000000 := by decide
  omega
theorem val_small {l : List UInt8} {k j : Nat} (hkj : k ≤ j) (hj : j ≤ l.length) (h0 : val (l.take k) = 0) (ha : l.all dgB = true) : val (l.take j) < 10 ^ (j - k) := by
  have hd : ((l.take j).drop k).all dgB = true := by
    rw [List.all_eq_true] at ha ⊢
    exact fun x hx => ha x (List.mem_of_mem_take (List.mem_of_mem_drop hx))
  have := fold_lt ((l.take j).drop k) 0 1 (by omega) hd
  have e := val_split (l.take j) k
  rw [List.take_take, Nat.min_eq_left hkj, h0] at e
  rw [e]
  rw [List.length_drop, List.length_take, Nat.min_eq_left hj] at this
  omega
theorem val_small18 {l : List UInt8} {k j : Nat} (hkj : k ≤ j) (hj : j ≤ l.length) (h18 : j - k ≤ 18) (h0 : val (l.take k) = 0) (ha : l.all dgB = true) : val (l.take j) < 1000000000000000000 := by
  have h1 := val_small hkj hj h0 ha
  have h3 : 10 ^ (j - k) ≤ 10 ^ 18 := pow_mono h18
  have h4 : (10 : Nat) ^ 18 = 1000000000000000000 := by decide
  omega
theorem val_small19 {l : List UInt8} {k j : Nat} (hkj : k ≤ j) (hj : j ≤ l.length) (h18 : j - k ≤ 19) (h0 : val (l.take k) = 0) (ha : l.all dgB = true) : val (l.take j) < 10000000000000000000 := by
  have h1 := val_small hkj hj h0 ha
  have h3 : 10 ^ (j - k) ≤ 10 ^ 19 := pow_mono h18
  have h4 : (10 : Nat) ^ 19 = 10000000000000000000 := by decide
  omega

end Go.Proofs.YtfkmjncchicmpaaDoor
