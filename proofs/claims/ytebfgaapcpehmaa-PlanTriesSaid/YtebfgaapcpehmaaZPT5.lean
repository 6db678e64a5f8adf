/- Contracts and plain lemmas of our own, merged. -/
import Derived.Test.YtebfgaapcpehmaaZPT1
import Derived.Test.YtebfgaapcpehmaaZPT4
import Derived.Test.YtebfgaapcpehmaaProg
import Derived.Lib.BufferRead
import Derived.Laws.IdiomStrings
/- Words of our own for rows of bytes and of texts. -/
namespace Go.Proofs.Ytebfgaapcpehmaa
open Go.RowKit

/-- a byte as a value. -/
def byv (b : UInt8) : Value := .int .u8 (b.toNat : Int)
theorem byv_one (l : List UInt8) : ∀ u ∈ l.map byv, u.oneCell' = true := by
  intro u hu
  simp at hu
  obtain ⟨b, _, rfl⟩ := hu
  rfl
theorem byv_mk {n : Nat} (h : n < 256) {z : Int} (hz : z = n) : Value.int .u8 z = byv (UInt8.ofNat n) := by
  subst hz
  unfold byv
  rw [UInt8.toNat_ofNat_of_lt' h]

/-- a text as a value. -/
def stv (l : List UInt8) : Value := .string ⟨l.toArray⟩
theorem sl_at {w : World} {α : Type} {f : α → Value} {A : List α} {b off j : Nat} (hc : ∀ j u, (A.map f)[j]? = some u → w.cell? ⟨b, off + j, none⟩ = some u) (hj : j < A.length) : w.cell? ⟨b, off + j, none⟩ = some (f A[j]) :=
  hc j _ (by simp [hj])
theorem bel_tr {a b c : World} (h : Below a.heap.size a b) (k : Below b.heap.size b c) : Below a.heap.size a c := h.trans (k.mono h.size)
end Go.Proofs.Ytebfgaapcpehmaa

/- The contracts of small, blank, Hex and the reference's Hex. -/
namespace Go.Proofs.Ytebfgaapcpehmaa
open Go.RowKit
attribute [local go_sem] ba_get

/-- a byte, a great letter made small. -/
def sm (b : UInt8) : UInt8 := if 65 ≤ b.toNat ∧ b.toNat ≤ 90 then UInt8.ofNat (b.toNat + 32) else b
end Go.Proofs.Ytebfgaapcpehmaa

/- The contracts of Size, Check, Few, SameTexts and Exact. -/
namespace Go.Proofs.Ytebfgaapcpehmaa
open Go.RowKit
attribute [local go_sem] ba_get

/-- how many octets a name has. -/
def sz (A : List (List UInt8)) : Nat := A.foldl (fun n l => n + l.length + 1) 1
theorem sz_from (n : Nat) (A : List (List UInt8)) : n ≤ A.foldl (fun n l => n + l.length + 1) n := by
  induction A generalizing n with
  | nil => exact Nat.le_refl _
  | cons b r ih => exact Nat.le_trans (show n ≤ n + b.length + 1 by omega) (ih _)
theorem sz_app (A B : List (List UInt8)) : sz (A ++ B) = B.foldl (fun n l => n + l.length + 1) (sz A) := by unfold sz; rw [List.foldl_append]
theorem sz_next {A : List (List UInt8)} {k : Nat} (h : k < A.length) : sz (A.take (k + 1)) = sz (A.take k) + A[k].length + 1 := by
  rw [List.take_succ_eq_append_getElem h, sz_app]; rfl
theorem sz_take (A : List (List UInt8)) (k : Nat) : sz (A.take k) ≤ sz A := by
  conv => rhs; rw [← List.take_append_drop k A]
  rw [sz_app]
  exact sz_from _ _
theorem sz_all (A : List (List UInt8)) : sz (A.take A.length) = sz A := by rw [List.take_length]
def lokB (l : List UInt8) : Bool := decide (1 ≤ l.length ∧ l.length ≤ 63)
theorem lokB_t {l : List UInt8} (h : lokB l = true) : 1 ≤ l.length ∧ l.length ≤ 63 := by simpa [lokB] using h
theorem lokB_f {l : List UInt8} (h : lokB l = false) : l.length = 0 ∨ 63 < l.length := by simp [lokB] at h; omega
/-- what is wrong with a name. -/
def chk (A : List (List UInt8)) : Int := if A.all lokB = true then if 255 < sz A then 3 else 0 else 7
def fewB (A : List (List UInt8)) : Bool := decide (sz A ≤ 401)
theorem fold_ok (A : List (List UInt8)) (n : Nat) (h : A.all lokB = true) : A.foldl (fun n l => n + l.length + 1) n ≤ n + 64 * A.length := by
  induction A generalizing n with
  | nil => simp
  | cons l A ih =>
    rw [List.all_cons, Bool.and_eq_true] at h
    have h1 := lokB_t h.1
    have h2 := ih (n + l.length + 1) h.2
    rw [List.foldl_cons, List.length_cons]
    omega
theorem sz_ok {A : List (List UInt8)} (h : A.all lokB = true) : sz A ≤ 1 + 64 * A.length := fold_ok A 1 h
theorem alls_next {A : List (List UInt8)} {k : Nat} {p : List UInt8 → Bool} (h : k < A.length) (h1 : (A.take k).all p = true) (h2 : p A[k] = true) : (A.take (k + 1)).all p = true := by
  rw [List.take_succ_eq_append_getElem h, List.all_append, h1]
  simp [h2]
theorem nots_all {A : List (List UInt8)} {k : Nat} {p : List UInt8 → Bool} (h : k < A.length) (h2 : p A[k] = false) : ¬ A.all p = true := by
  intro h1
  rw [List.all_eq_true] at h1
  have := h1 _ (List.getElem_mem h)
  rw [h2] at this
  cases this
set_option maxRecDepth 100000 in
set_option maxHeartbeats 800000 in
theorem size_any (A : List (List UInt8)) (v : Value) (w : World) (ha : Sl w 1 v A.length (A.map stv)) (hn : A.length ≤ 1000000000) (hs : sz A ≤ 1000000000000000) :
    Calls Try.prog 41 #[v] w fun e w' => e = .returned (.int .i64 (sz A)) ∧ w = w' := by
  rcases Nat.eq_zero_or_pos A.length with h0 | hpos
  · have hA : A = [] := List.eq_nil_of_length_eq_zero h0
    subst hA
    obtain ⟨a1, c1, rfl, _⟩ := ha.zero
    clear ha
    go_enter Try.func41, Try.ntmps41
    go_wp2
    refine wp_loop_rounds 1 ?_
    rw [rounds_succ]; go_wp2
    go_ret
    exact ⟨rfl, rfl⟩
  · obtain ⟨b1, o1, c1, rfl, hc1, hb1, hcA⟩ := ha.pos hpos
    have HcA := Lib.hid hcA
    clear hcA ha
    go_enter Try.func41, Try.ntmps41
    go_wp2
    go_loop [3, 8] (fun n i => ∃ k m : Nat, k ≤ A.length ∧ i = .int .i64 k ∧ n = .int .i64 m ∧ m = sz (A.take k)) (fun _ i => A.length - (intOf i).toNat)
    case atStart => exact ⟨0, 1, Nat.zero_le _, rfl, rfl, rfl⟩
    case round =>
      obtain ⟨k, m, hk, rfl, rfl, hm⟩ := hrel
      have Hm := Lib.hid hm
      clear hm
      by_cases hlt : k < A.length
      · have i1 : (k : Int) < (A.length : Int) := by omega
        have q1 : w.cell? ⟨b1, o1 + k, none⟩ = some (.string ⟨A[k].toArray⟩) := sl_at HcA.out hlt
        have hnx := sz_next hlt
        rw [← Hm.out] at hnx
        have hle := sz_take A (k + 1)
        rw [hnx] at hle
        have Hnx := Lib.hid hnx
        clear hnx
        go_wp2
        go_round
        case rel => exact ⟨k + 1, m + A[k].length + 1, by omega, by go_num, vint (by omega), Hnx.out.symm⟩
        case measure => simp [intOf]; omega
      · have i1 : ¬ (k : Int) < (A.length : Int) := by omega
        obtain rfl : k = A.length := by omega
        have hm := Hm.out
        rw [sz_all] at hm
        have Hm2 := Lib.hid hm
        clear hm
        go_wp2
        go_ret
        exact ⟨reti (by rw [Hm2.out]), rfl⟩

set_option maxRecDepth 100000 in
set_option maxHeartbeats 800000 in
theorem rsize_any (A : List (List UInt8)) (v : Value) (w : World) (ha : Sl w 1 v A.length (A.map stv)) (hn : A.length ≤ 1000000000) (hs : sz A ≤ 1000000000000000) :
    Calls Try.prog 36 #[v] w fun e w' => e = .returned (.int .i64 (sz A)) ∧ w = w' := by
  rcases Nat.eq_zero_or_pos A.length with h0 | hpos
  · have hA : A = [] := List.eq_nil_of_length_eq_zero h0
    subst hA
    obtain ⟨a1, c1, rfl, _⟩ := ha.zero
    clear ha
    go_enter Try.func36, Try.ntmps36
    go_wp2
    refine wp_loop_rounds 1 ?_
    rw [rounds_succ]; go_wp2
    go_ret
    exact ⟨rfl, rfl⟩
  · obtain ⟨b1, o1, c1, rfl, hc1, hb1, hcA⟩ := ha.pos hpos
    have HcA := Lib.hid hcA
    clear hcA ha
    go_enter Try.func36, Try.ntmps36
    go_wp2
    go_loop [3, 4] (fun n i => ∃ k m : Nat, k ≤ A.length ∧ i = .int .i64 k ∧ n = .int .i64 m ∧ m = sz (A.take k)) (fun _ i => A.length - (intOf i).toNat)
    case atStart => exact ⟨0, 1, Nat.zero_le _, rfl, rfl, rfl⟩
    case round =>
      obtain ⟨k, m, hk, rfl, rfl, hm⟩ := hrel
      have Hm := Lib.hid hm
      clear hm
      by_cases hlt : k < A.length
      · have i1 : (k : Int) < (A.length : Int) := by omega
        have q1 : w.cell? ⟨b1, o1 + k, none⟩ = some (.string ⟨A[k].toArray⟩) := sl_at HcA.out hlt
        have hnx := sz_next hlt
        rw [← Hm.out] at hnx
        have hle := sz_take A (k + 1)
        rw [hnx] at hle
        have Hnx := Lib.hid hnx
        clear hnx
        go_wp2
        go_round
        case rel => exact ⟨k + 1, m + A[k].length + 1, by omega, by go_num, vint (by omega), Hnx.out.symm⟩
        case measure => simp [intOf]; omega
      · have i1 : ¬ (k : Int) < (A.length : Int) := by omega
        obtain rfl : k = A.length := by omega
        have hm := Hm.out
        rw [sz_all] at hm
        have Hm2 := Lib.hid hm
        clear hm
        go_wp2
        go_ret
        exact ⟨reti (by rw [Hm2.out]), rfl⟩

set_option maxRecDepth 100000 in
set_option maxHeartbeats 800000 in
theorem check_any (A : List (List UInt8)) (v : Value) (w : World) (ha : Sl w 1 v A.length (A.map stv)) (hn : A.length ≤ 1000000000) (hll : ∀ l ∈ A, l.length ≤ 140737488351232) :
    Calls Try.prog 56 #[v] w fun e w' => e = .returned (.int .i64 (chk A)) ∧ w = w' := by
  have Ha := Lib.hid ha
  have fin : ∀ (K : Nat), A.all lokB = true → sz A ≤ 1000000000000000 := fun _ h => by have := sz_ok h; omega
  rcases Nat.eq_zero_or_pos A.length with h0 | hpos
  · have hA : A = [] := List.eq_nil_of_length_eq_zero h0
    subst hA
    obtain ⟨a1, c1, rfl, _⟩ := ha.zero
    clear ha fin hll
    go_enter Try.func56, Try.ntmps56
    go_wp2
    refine wp_loop_rounds 1 ?_
    rw [rounds_succ]; go_wp2_with fail
    refine (size_any [] _ _ Ha.out (by simp) (by simp [sz])).mono ?_
    rintro e w' ⟨rfl, rfl⟩
    rw [show sz [] = 1 from rfl]
    go_wp2_with fail
    go_ret
    exact ⟨rfl, rfl⟩
  · obtain ⟨b1, o1, c1, rfl, hc1, hb1, hcA⟩ := ha.pos hpos
    have HcA := Lib.hid hcA
    have Hf := Lib.hid (fin 0)
    have Hll := Lib.hid hll
    clear hcA ha fin hll
    go_enter Try.func56, Try.ntmps56
    go_wp2
    go_loop [7] (fun i => ∃ k : Nat, k ≤ A.length ∧ i = .int .i64 k ∧ (A.take k).all lokB = true) (fun i => A.length - (intOf i).toNat)
    case atStart => exact ⟨0, Nat.zero_le _, rfl, rfl⟩
    case round =>
      obtain ⟨k, hk, rfl, hm⟩ := hrel
      have Hm := Lib.hid hm
      clear hm
      by_cases hlt : k < A.length
      · have i1 : (k : Int) < (A.length : Int) := by omega
        have q1 : w.cell? ⟨b1, o1 + k, none⟩ = some (.string ⟨A[k].toArray⟩) := sl_at HcA.out hlt
        have hlk := Hll.out A[k] (List.getElem_mem _)
        rcases hd : lokB A[k]
        · have hz := lokB_f hd
          have Hd := Lib.hid hd
          clear hd
          have hfin : chk A = 7 := by unfold chk; rw [if_neg (nots_all hlt Hd.out)]
          have Hfin := Lib.hid hfin
          clear hfin
          rcases hz with hz | hz
          · skip
            have t1 : A[k].isEmpty = true := by rw [List.isEmpty_iff]; exact List.eq_nil_of_length_eq_zero hz
            go_wp2
            go_ret
            exact ⟨reti Hfin.out.symm, rfl⟩
          · skip
            have t1 : A[k].isEmpty = false := by rw [List.isEmpty_eq_false_iff]; intro h; rw [h] at hz; simp at hz
            have t2 : (63 : Int) < (A[k].length : Int) := by omega
            go_wp2
            go_ret
            exact ⟨reti Hfin.out.symm, rfl⟩
        · obtain ⟨hl1, hl2⟩ := lokB_t hd
          have Hd := Lib.hid hd
          clear hd
          have t1 : A[k].isEmpty = false := by rw [List.isEmpty_eq_false_iff]; intro h; rw [h] at hl1; simp at hl1
          have t2 : (A[k].length : Int) ≤ 63 := by omega
          go_wp2
          go_round
          case rel => exact ⟨k + 1, by omega, by go_num, alls_next hlt Hm.out Hd.out⟩
          case measure => simp [intOf]; omega
      · have i1 : ¬ (k : Int) < (A.length : Int) := by omega
        obtain rfl : k = A.length := by omega
        have hm := Hm.out
        rw [List.take_length] at hm
        have Hm2 := Lib.hid hm
        clear hm
        by_cases hsz : 255 < sz A
        all_goals
          go_wp2_with fail
          refine (size_any A _ _ Ha.out hn (Hf.out Hm2.out)).mono ?_
          rintro e w' ⟨rfl, rfl⟩
          go_wp2_with fail
          go_ret
        · exact ⟨reti (by unfold chk; rw [if_pos Hm2.out, if_pos hsz]), rfl⟩
        · exact ⟨reti (by unfold chk; rw [if_pos Hm2.out, if_neg hsz]), rfl⟩

set_option maxRecDepth 100000 in
set_option maxHeartbeats 800000 in
theorem rcheck_any (A : List (List UInt8)) (v : Value) (w : World) (ha : Sl w 1 v A.length (A.map stv)) (hn : A.length ≤ 1000000000) (hll : ∀ l ∈ A, l.length ≤ 140737488351232) :
    Calls Try.prog 23 #[v] w fun e w' => e = .returned (.int .i64 (chk A)) ∧ w = w' := by
  have Ha := Lib.hid ha
  have fin : ∀ (K : Nat), A.all lokB = true → sz A ≤ 1000000000000000 := fun _ h => by have := sz_ok h; omega
  rcases Nat.eq_zero_or_pos A.length with h0 | hpos
  · have hA : A = [] := List.eq_nil_of_length_eq_zero h0
    subst hA
    obtain ⟨a1, c1, rfl, _⟩ := ha.zero
    clear ha fin hll
    go_enter Try.func23, Try.ntmps23
    go_wp2
    refine wp_loop_rounds 1 ?_
    rw [rounds_succ]; go_wp2_with fail
    refine (rsize_any [] _ _ Ha.out (by simp) (by simp [sz])).mono ?_
    rintro e w' ⟨rfl, rfl⟩
    rw [show sz [] = 1 from rfl]
    go_wp2_with fail
    go_ret
    exact ⟨rfl, rfl⟩
  · obtain ⟨b1, o1, c1, rfl, hc1, hb1, hcA⟩ := ha.pos hpos
    have HcA := Lib.hid hcA
    have Hf := Lib.hid (fin 0)
    have Hll := Lib.hid hll
    clear hcA ha fin hll
    go_enter Try.func23, Try.ntmps23
    go_wp2
    go_loop [3] (fun i => ∃ k : Nat, k ≤ A.length ∧ i = .int .i64 k ∧ (A.take k).all lokB = true) (fun i => A.length - (intOf i).toNat)
    case atStart => exact ⟨0, Nat.zero_le _, rfl, rfl⟩
    case round =>
      obtain ⟨k, hk, rfl, hm⟩ := hrel
      have Hm := Lib.hid hm
      clear hm
      by_cases hlt : k < A.length
      · have i1 : (k : Int) < (A.length : Int) := by omega
        have q1 : w.cell? ⟨b1, o1 + k, none⟩ = some (.string ⟨A[k].toArray⟩) := sl_at HcA.out hlt
        have hlk := Hll.out A[k] (List.getElem_mem _)
        rcases hd : lokB A[k]
        · have hz := lokB_f hd
          have Hd := Lib.hid hd
          clear hd
          have hfin : chk A = 7 := by unfold chk; rw [if_neg (nots_all hlt Hd.out)]
          have Hfin := Lib.hid hfin
          clear hfin
          rcases hz with hz | hz
          · skip
            have t1 : (A[k].length : Int) < 1 := by omega
            go_wp2
            go_ret
            exact ⟨reti Hfin.out.symm, rfl⟩
          · skip
            have t1 : (63 : Int) < (A[k].length : Int) := by omega
            go_wp2
            go_ret
            exact ⟨reti Hfin.out.symm, rfl⟩
        · obtain ⟨hl1, hl2⟩ := lokB_t hd
          have Hd := Lib.hid hd
          clear hd
          have t1 : (1 : Int) ≤ (A[k].length : Int) := by omega
          have t2 : (A[k].length : Int) ≤ 63 := by omega
          go_wp2
          go_round
          case rel => exact ⟨k + 1, by omega, by go_num, alls_next hlt Hm.out Hd.out⟩
          case measure => simp [intOf]; omega
      · have i1 : ¬ (k : Int) < (A.length : Int) := by omega
        obtain rfl : k = A.length := by omega
        have hm := Hm.out
        rw [List.take_length] at hm
        have Hm2 := Lib.hid hm
        clear hm
        by_cases hsz : 255 < sz A
        all_goals
          go_wp2_with fail
          refine (rsize_any A _ _ Ha.out hn (Hf.out Hm2.out)).mono ?_
          rintro e w' ⟨rfl, rfl⟩
          go_wp2_with fail
          go_ret
        · exact ⟨reti (by unfold chk; rw [if_pos Hm2.out, if_pos hsz]), rfl⟩
        · exact ⟨reti (by unfold chk; rw [if_pos Hm2.out, if_neg hsz]), rfl⟩

set_option maxRecDepth 100000 in
set_option maxHeartbeats 800000 in
theorem few_any (A : List (List UInt8)) (v : Value) (w : World) (ha : Sl w 1 v A.length (A.map stv)) (hn : A.length ≤ maxLen) (hll : ∀ l ∈ A, l.length ≤ 140737488351232) :
    Calls Try.prog 25 #[v] w fun e w' => e = .returned (.bool (fewB A)) ∧ w = w' := by
  unfold maxLen at hn
  rcases Nat.eq_zero_or_pos A.length with h0 | hpos
  · have hA : A = [] := List.eq_nil_of_length_eq_zero h0
    subst hA
    obtain ⟨a1, c1, rfl, _⟩ := ha.zero
    clear ha hll
    go_enter Try.func25, Try.ntmps25
    go_wp2
    refine wp_loop_rounds 1 ?_
    rw [rounds_succ]; go_wp2
    go_ret
    exact ⟨rfl, rfl⟩
  · obtain ⟨b1, o1, c1, rfl, hc1, hb1, hcA⟩ := ha.pos hpos
    have HcA := Lib.hid hcA
    have Hll := Lib.hid hll
    clear hcA ha hll
    go_enter Try.func25, Try.ntmps25
    go_wp2
    go_loop [3, 4] (fun n i => ∃ k m : Nat, k ≤ A.length ∧ i = .int .i64 k ∧ n = .int .i64 m ∧ m + 1 = sz (A.take k) ∧ m ≤ 400) (fun _ i => A.length - (intOf i).toNat)
    case atStart => exact ⟨0, 0, Nat.zero_le _, rfl, rfl, rfl, Nat.zero_le _⟩
    case round =>
      obtain ⟨k, m, hk, rfl, rfl, hm, hm4⟩ := hrel
      have Hm := Lib.hid hm
      clear hm
      by_cases hlt : k < A.length
      · have i1 : (k : Int) < (A.length : Int) := by omega
        have q1 : w.cell? ⟨b1, o1 + k, none⟩ = some (.string ⟨A[k].toArray⟩) := sl_at HcA.out hlt
        have hlk := Hll.out A[k] (List.getElem_mem _)
        have hnx := sz_next hlt
        rw [← Hm.out] at hnx
        have hle := sz_take A (k + 1)
        rw [hnx] at hle
        have Hnx := Lib.hid hnx
        clear hnx
        by_cases h4 : m + A[k].length + 1 ≤ 400
        · have t1 : (m : Int) + (A[k].length : Int) + 1 ≤ 400 := by omega
          clear hle
          go_wp2
          go_round
          case rel => exact ⟨k + 1, m + A[k].length + 1, by omega, by go_num, vint (by omega), (by have := Hnx.out; omega), by omega⟩
          case measure => simp [intOf]; omega
        · have t1 : (400 : Int) < (m : Int) + (A[k].length : Int) + 1 := by omega
          have hf : fewB A = false := by unfold fewB; simp; omega
          have Hf := Lib.hid hf
          clear hle hf
          go_wp2
          go_ret
          exact ⟨retb Hf.out.symm, rfl⟩
      · have i1 : ¬ (k : Int) < (A.length : Int) := by omega
        obtain rfl : k = A.length := by omega
        have hm := Hm.out
        rw [sz_all] at hm
        have hf : fewB A = true := by unfold fewB; simp; omega
        have Hf := Lib.hid hf
        clear hm hf
        go_wp2
        go_ret
        exact ⟨retb Hf.out.symm, rfl⟩

end Go.Proofs.Ytebfgaapcpehmaa

/- The contracts of ascii.Same, ascii.Fields and the reference's Lower, Same and Fields. -/
namespace Go.Proofs.Ytebfgaapcpehmaa
open Go.RowKit
attribute [local go_sem] ba_get ext_take ext_drop ext_any

def low (l : List UInt8) : List UInt8 := l.map sm
end Go.Proofs.Ytebfgaapcpehmaa

/- The contract of domain.Parse. -/
namespace Go.Proofs.Ytebfgaapcpehmaa
open Go.RowKit
attribute [local go_sem] ba_get ext_take ext_drop

/-- the labels that a reading came to (none, of an error), whether a dot stood last, and the error. -/
def pA (o : Int ⊕ (List (List UInt8) × Bool)) : List (List UInt8) := match o with | .inl _ => [] | .inr p => p.1
def pD (o : Int ⊕ (List (List UInt8) × Bool)) : Bool := match o with | .inl _ => false | .inr p => p.2
def pE (o : Int ⊕ (List (List UInt8) × Bool)) : Int := match o with | .inl e => e | .inr _ => 0
def PrsPost (w : World) (o : Int ⊕ (List (List UInt8) × Bool)) (e : Ending) (w' : World) : Prop :=
  ∃ v, e = .returned (.tuple #[v, .bool (pD o), .int .i64 (pE o)]) ∧ Sl w' 1 v (pA o).length ((pA o).map stv) ∧ Below w.heap.size w w'

theorem PrsPost.ok {w w' : World} {o : Int ⊕ (List (List UInt8) × Bool)} {n : List (List UInt8)} {d : Bool} {v : Value} (h : o = .inr (n, d)) (hs : Sl w' 1 v n.length (n.map stv)) (hb : Below w.heap.size w w') : PrsPost w o (.returned (.tuple #[v, .bool d, .int .i64 0])) w' := by
  rw [h]; exact ⟨_, rfl, hs, hb⟩

end Go.Proofs.Ytebfgaapcpehmaa

/- The contract of the reference's Parse: it answers what domain.Parse does. -/
namespace Go.Proofs.Ytebfgaapcpehmaa
open Go.RowKit
attribute [local go_sem] ba_get ext_take ext_drop

def fin (n : List (List UInt8)) (dot : Bool) : Int ⊕ (List (List UInt8) × Bool) := if 255 < sz n then .inl 3 else .inr (n, dot)
end Go.Proofs.Ytebfgaapcpehmaa

/- The contracts of domain.add, domain.Text, domain.Plain and works. -/
namespace Go.Proofs.Ytebfgaapcpehmaa
open Go.RowKit
attribute [local go_sem] ba_get ext_take ext_drop

/-- a byte of a label, written. -/
def escb (c : UInt8) : List UInt8 :=
  if c.toNat = 46 ∨ c.toNat = 92 then [92, c] else if c.toNat < 33 ∨ 126 < c.toNat then [92, UInt8.ofNat (48 + c.toNat / 100), UInt8.ofNat (48 + c.toNat / 10 % 10), UInt8.ofNat (48 + c.toNat % 10)] else [c]
def escl (l : List UInt8) : List UInt8 := l.flatMap escb
def escp (l : List UInt8) (k : Nat) : List UInt8 := (l.take k).flatMap escb
theorem escp_succ {l : List UInt8} {k : Nat} (h : k < l.length) : escp l (k + 1) = escp l k ++ escb l[k] := by
  unfold escp
  rw [List.take_succ_eq_append_getElem h, List.flatMap_append, List.flatMap_singleton]
def DaddRel (base : Nat) (w : World) (n : Nat) (xs : List Value) (l : List UInt8) (k : Nat) (v : Value) (wr : World) : Prop :=
  wr.ownsRow base 5 1 v (n + (escp l k).length) (xs ++ (escp l k).map byv) ∧ Below base w wr
theorem DaddRel.next {base : Nat} {w w0 w1 : World} {n : Nat} {xs : List Value} {l : List UInt8} {k m : Nat} {v1 : Value} {us : List Value} (hk : k < l.length) (hu : (escb l[k]).map byv = us) (hm : us.length = m) (h : w1.ownsRow base 5 1 v1 (n + (escp l k).length + m) (xs ++ (escp l k).map byv ++ us)) (h0 : Below base w w0) (h1 : Below base w0 w1) : DaddRel base w n xs l (k + 1) v1 w1 := by
  refine ⟨?_, h0.trans h1⟩
  have hl : (escb l[k]).length = m := by rw [← hm, ← hu]; simp
  rw [escp_succ hk, List.length_append, hl, List.map_append, hu, ← Nat.add_assoc, ← List.append_assoc]
  exact h

def dtxs (A : List (List UInt8)) (k : Nat) : List UInt8 := (A.take k).flatMap (fun l => escl l ++ [46])
theorem dtxs_succ {A : List (List UInt8)} {k : Nat} (h : k < A.length) : dtxs A (k + 1) = dtxs A k ++ (escl A[k] ++ [46]) := by
  unfold dtxs
  rw [List.take_succ_eq_append_getElem h, List.flatMap_append, List.flatMap_singleton]
def DtRel (w : World) (A : List (List UInt8)) (k : Nat) (v : Value) (wr : World) : Prop :=
  wr.ownsRow w.heap.size 5 1 v (dtxs A k).length ((dtxs A k).map byv) ∧ Below w.heap.size w wr
theorem DtRel.next {w w0 w1 : World} {A : List (List UInt8)} {k : Nat} {v1 : Value} (hk : k < A.length) (h : w1.ownsRow w.heap.size 5 1 v1 ((dtxs A k).length + (escl A[k]).length + 1) ((dtxs A k).map byv ++ ((escl A[k]).map byv ++ [.int .u8 46]))) (h0 : Below w.heap.size w w0) (h1 : Below w.heap.size w0 w1) : DtRel w A (k + 1) v1 w1 := by
  refine ⟨?_, h0.trans h1⟩
  rw [dtxs_succ hk]
  simp only [List.length_append, List.map_append, List.length_cons, List.length_nil, Nat.add_assoc] at h ⊢
  exact h
end Go.Proofs.Ytebfgaapcpehmaa

/- The walk of DomainBack. -/
namespace Go.Proofs.Ytebfgaapcpehmaa
open Go.RowKit
attribute [local go_sem] ba_get ext_take ext_drop

theorem few_bds {A : List (List UInt8)} (h : fewB A = true) : A.length ≤ 400 ∧ sz A ≤ 401 ∧ ∀ l ∈ A, l.length ≤ 400 := by
  have hs : sz A ≤ 401 := by simpa [fewB] using h
  have h3 : ∀ (B : List (List UInt8)) (n : Nat), n + B.length ≤ B.foldl (fun n l => n + l.length + 1) n ∧ ∀ l ∈ B, n + l.length + 1 ≤ B.foldl (fun n l => n + l.length + 1) n := by
    intro B
    induction B with
    | nil => intro n; simp
    | cons b B ih =>
      intro n
      obtain ⟨i1, i2⟩ := ih (n + b.length + 1)
      rw [List.foldl_cons, List.length_cons]
      refine ⟨by omega, fun l hl => ?_⟩
      rcases List.mem_cons.1 hl with rfl | hl
      · exact Nat.le_trans (by omega) i1
      · have := i2 l hl; omega
  obtain ⟨h4, h5⟩ := h3 A 1
  exact ⟨by unfold sz at hs; omega, hs, fun l hl => by have := h5 l hl; unfold sz at hs; omega⟩

end Go.Proofs.Ytebfgaapcpehmaa

/- The contracts of the reference's Lower and Same, of names' Same, Lower, Under and Cat. -/
namespace Go.Proofs.Ytebfgaapcpehmaa
open Go.RowKit
attribute [local go_sem] ba_get ext_take ext_drop

theorem low_next {l : List UInt8} {k : Nat} (h : k < l.length) : low (l.take (k + 1)) = low (l.take k) ++ [sm l[k]] := by
  unfold low; rw [List.take_succ_eq_append_getElem h, List.map_append]; rfl
def RlRel (w : World) (l : List UInt8) (k : Nat) (v : Value) (wr : World) : Prop :=
  wr.ownsRow w.heap.size 5 1 v k ((low (l.take k)).map byv) ∧ Below w.heap.size w wr
theorem RlRel.next {w w0 w1 : World} {l : List UInt8} {k : Nat} {v1 : Value} {u : Value} (hk : k < l.length) (hu : u = byv (sm l[k])) (h : w1.ownsRow w.heap.size 5 1 v1 (k + 1) ((low (l.take k)).map byv ++ [u])) (h0 : Below w.heap.size w w0) (h1 : Below w.heap.size w0 w1) : RlRel w l (k + 1) v1 w1 := by
  subst hu
  refine ⟨?_, h0.trans h1⟩
  rw [low_next hk, List.map_append]
  exact h
def lows (A : List (List UInt8)) : List (List UInt8) := A.map low
def RdRel (w : World) (A : List (List UInt8)) (k : Nat) (v : Value) (wr : World) : Prop :=
  wr.ownsRow w.heap.size 9 1 v k ((lows (A.take k)).map stv) ∧ Below w.heap.size w wr
theorem RdRel.next {w w0 w1 : World} {A : List (List UInt8)} {k : Nat} {v1 : Value} (hk : k < A.length) (h : w1.ownsRow w.heap.size 9 1 v1 (k + 1) ((lows (A.take k)).map stv ++ [stv (low A[k])])) (h0 : Below w.heap.size w w0) (h1 : Below w.heap.size w0 w1) : RdRel w A (k + 1) v1 w1 := by
  refine ⟨?_, h0.trans h1⟩
  unfold lows at h ⊢
  rw [List.take_succ_eq_append_getElem hk, List.map_append, List.map_append]
  exact h
end Go.Proofs.Ytebfgaapcpehmaa

/- The contracts of Under and Cat, and the walk of DomainHolds. -/
namespace Go.Proofs.Ytebfgaapcpehmaa
open Go.RowKit
attribute [local go_sem] ba_get ext_take ext_drop

/-- both together: the labels, of an error none; and the error. -/
def CatPost (w : World) (A B : List (List UInt8)) (e : Ending) (w' : World) : Prop :=
  ∃ v, e = .returned (.tuple #[v, .int .i64 (chk (A ++ B))]) ∧ (∃ C : List (List UInt8), C = (if chk (A ++ B) = 0 then A ++ B else []) ∧ Sl w' 1 v C.length (C.map stv)) ∧ Below w.heap.size w w'
theorem CatPost.ok {w w' : World} {A B : List (List UInt8)} {v : Value} (h : chk (A ++ B) = 0) (hs : Sl w' 1 v (A ++ B).length ((A ++ B).map stv)) (hb : Below w.heap.size w w') : CatPost w A B (.returned (.tuple #[v, .int .i64 0])) w' :=
  ⟨v, by rw [h], ⟨_, rfl, by rw [if_pos h]; exact hs⟩, hb⟩
end Go.Proofs.Ytebfgaapcpehmaa
