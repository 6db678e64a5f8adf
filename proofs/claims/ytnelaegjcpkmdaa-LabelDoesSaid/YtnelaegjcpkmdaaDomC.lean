/- The contracts of Size, Check, Few, SameTexts and Exact. -/
import Derived.Test.YtnelaegjcpkmdaaKB
namespace Go.Proofs.Ytnelaegjcpkmdaa
open Go.RowKit
attribute [local go_sem] ba_get

/-- how many octets a name has. -/
def sz (A : List (List UInt8)) : Nat := A.foldl (fun n l => n + l.length + 1) 1
theorem sz_from (n : Nat) (A : List (List UInt8)) : n ≤ A.foldl (fun n l => n + l.length + 1) n := by
  induction A generalizing n with
  | nil => exact Nat.le_refl _
  | cons b r ih => exact Nat.le_trans (show n ≤ n + b.length + 1 by omega) (ih _)
theorem sz_app (A B : List (List UInt8)) : sz (A ++ B) = B.foldl (fun n l => n + l.length + 1) (sz A) := by unfold sz; rw [List.foldl_append]
theorem sz_next {A : List (List UInt8)} {k : Nat} (h : k < A.length) : sz (A.take (k + 1)) = sz (A.take k) + A[k].length + 1 := by
  rw [List.take_succ_eq_append_getElem h, sz_app]; rfl
theorem sz_take (A : List (List UInt8)) (k : Nat) : sz (A.take k) ≤ sz A := by
  conv => rhs; rw [← List.take_append_drop k A]
  rw [sz_app]
  exact sz_from _ _
theorem sz_all (A : List (List UInt8)) : sz (A.take A.length) = sz A := by rw [List.take_length]
def lokB (l : List UInt8) : Bool := decide (1 ≤ l.length ∧ l.length ≤ 63)
theorem lokB_t {l : List UInt8} (h : lokB l = true) : 1 ≤ l.length ∧ l.length ≤ 63 := by simpa [lokB] using h
theorem lokB_f {l : List UInt8} (h : lokB l = false) : l.length = 0 ∨ 63 < l.length := by simp [lokB] at h; omega
/-- what is wrong with a name. -/
def chk (A : List (List UInt8)) : Int := if A.all lokB = true then if 255 < sz A then 3 else 0 else 7
def fewB (A : List (List UInt8)) : Bool := decide (sz A ≤ 401)
theorem fold_ok (A : List (List UInt8)) (n : Nat) (h : A.all lokB = true) : A.foldl (fun n l => n + l.length + 1) n ≤ n + 64 * A.length := by
  induction A generalizing n with
  | nil => simp
  | cons l A ih =>
    rw [List.all_cons, Bool.and_eq_true] at h
    have h1 := lokB_t h.1
    have h2 := ih (n + l.length + 1) h.2
    rw [List.foldl_cons, List.length_cons]
    omega
theorem sz_ok {A : List (List UInt8)} (h : A.all lokB = true) : sz A ≤ 1 + 64 * A.length := fold_ok A 1 h
theorem alls_next {A : List (List UInt8)} {k : Nat} {p : List UInt8 → Bool} (h : k < A.length) (h1 : (A.take k).all p = true) (h2 : p A[k] = true) : (A.take (k + 1)).all p = true := by
  rw [List.take_succ_eq_append_getElem h, List.all_append, h1]
  simp [h2]
theorem nots_all {A : List (List UInt8)} {k : Nat} {p : List UInt8 → Bool} (h : k < A.length) (h2 : p A[k] = false) : ¬ A.all p = true := by
  intro h1
  rw [List.all_eq_true] at h1
  have := h1 _ (List.getElem_mem h)
  rw [h2] at this
  cases this
theorem takes_eq {A B : List (List UInt8)} {k : Nat} (ha : k < A.length) (hb : k < B.length) (h : A.take k = B.take k) (he : A[k] = B[k]) : A.take (k + 1) = B.take (k + 1) := by
  rw [List.take_succ_eq_append_getElem ha, List.take_succ_eq_append_getElem hb, h, he]

set_option maxRecDepth 100000 in
set_option maxHeartbeats 800000 in
theorem size_any (A : List (List UInt8)) (v : Value) (w : World) (ha : Sl w 1 v A.length (A.map stv)) (hn : A.length ≤ 1000000000) (hs : sz A ≤ 1000000000000000) :
    Calls Try.prog 90 #[v] w fun e w' => e = .returned (.int .i64 (sz A)) ∧ w = w' := by
  rcases Nat.eq_zero_or_pos A.length with h0 | hpos
  · have hA : A = [] := List.eq_nil_of_length_eq_zero h0
    subst hA
    obtain ⟨a1, c1, rfl, _⟩ := ha.zero
    clear ha
    go_enter Try.func90, Try.ntmps90
    go_wp2
    refine wp_loop_rounds 1 ?_
    rw [rounds_succ]; go_wp2
    go_ret
    exact ⟨rfl, rfl⟩
  · obtain ⟨b1, o1, c1, rfl, hc1, hb1, hcA⟩ := ha.pos hpos
    have HcA := Lib.hid hcA
    clear hcA ha
    go_enter Try.func90, Try.ntmps90
    go_wp2
    go_loop [3, 8] (fun n i => ∃ k m : Nat, k ≤ A.length ∧ i = .int .i64 k ∧ n = .int .i64 m ∧ m = sz (A.take k)) (fun _ i => A.length - (intOf i).toNat)
    case atStart => exact ⟨0, 1, Nat.zero_le _, rfl, rfl, rfl⟩
    case round =>
      obtain ⟨k, m, hk, rfl, rfl, hm⟩ := hrel
      have Hm := Lib.hid hm
      clear hm
      by_cases hlt : k < A.length
      · have i1 : (k : Int) < (A.length : Int) := by omega
        have q1 : w.cell? ⟨b1, o1 + k, none⟩ = some (.string ⟨A[k].toArray⟩) := sl_at HcA.out hlt
        have hnx := sz_next hlt
        rw [← Hm.out] at hnx
        have hle := sz_take A (k + 1)
        rw [hnx] at hle
        have Hnx := Lib.hid hnx
        clear hnx
        go_wp2
        go_round
        case rel => exact ⟨k + 1, m + A[k].length + 1, by omega, by go_num, vint (by omega), Hnx.out.symm⟩
        case measure => simp [intOf]; omega
      · have i1 : ¬ (k : Int) < (A.length : Int) := by omega
        obtain rfl : k = A.length := by omega
        have hm := Hm.out
        rw [sz_all] at hm
        have Hm2 := Lib.hid hm
        clear hm
        go_wp2
        go_ret
        exact ⟨reti (by rw [Hm2.out]), rfl⟩

set_option maxRecDepth 100000 in
set_option maxHeartbeats 800000 in
theorem rsize_any (A : List (List UInt8)) (v : Value) (w : World) (ha : Sl w 1 v A.length (A.map stv)) (hn : A.length ≤ 1000000000) (hs : sz A ≤ 1000000000000000) :
    Calls Try.prog 69 #[v] w fun e w' => e = .returned (.int .i64 (sz A)) ∧ w = w' := by
  rcases Nat.eq_zero_or_pos A.length with h0 | hpos
  · have hA : A = [] := List.eq_nil_of_length_eq_zero h0
    subst hA
    obtain ⟨a1, c1, rfl, _⟩ := ha.zero
    clear ha
    go_enter Try.func69, Try.ntmps69
    go_wp2
    refine wp_loop_rounds 1 ?_
    rw [rounds_succ]; go_wp2
    go_ret
    exact ⟨rfl, rfl⟩
  · obtain ⟨b1, o1, c1, rfl, hc1, hb1, hcA⟩ := ha.pos hpos
    have HcA := Lib.hid hcA
    clear hcA ha
    go_enter Try.func69, Try.ntmps69
    go_wp2
    go_loop [3, 4] (fun n i => ∃ k m : Nat, k ≤ A.length ∧ i = .int .i64 k ∧ n = .int .i64 m ∧ m = sz (A.take k)) (fun _ i => A.length - (intOf i).toNat)
    case atStart => exact ⟨0, 1, Nat.zero_le _, rfl, rfl, rfl⟩
    case round =>
      obtain ⟨k, m, hk, rfl, rfl, hm⟩ := hrel
      have Hm := Lib.hid hm
      clear hm
      by_cases hlt : k < A.length
      · have i1 : (k : Int) < (A.length : Int) := by omega
        have q1 : w.cell? ⟨b1, o1 + k, none⟩ = some (.string ⟨A[k].toArray⟩) := sl_at HcA.out hlt
        have hnx := sz_next hlt
        rw [← Hm.out] at hnx
        have hle := sz_take A (k + 1)
        rw [hnx] at hle
        have Hnx := Lib.hid hnx
        clear hnx
        go_wp2
        go_round
        case rel => exact ⟨k + 1, m + A[k].length + 1, by omega, by go_num, vint (by omega), Hnx.out.symm⟩
        case measure => simp [intOf]; omega
      · have i1 : ¬ (k : Int) < (A.length : Int) := by omega
        obtain rfl : k = A.length := by omega
        have hm := Hm.out
        rw [sz_all] at hm
        have Hm2 := Lib.hid hm
        clear hm
        go_wp2
        go_ret
        exact ⟨reti (by rw [Hm2.out]), rfl⟩

set_option maxRecDepth 100000 in
set_option maxHeartbeats 800000 in
theorem check_any (A : List (List UInt8)) (v : Value) (w : World) (ha : Sl w 1 v A.length (A.map stv)) (hn : A.length ≤ 1000000000) (hll : ∀ l ∈ A, l.length ≤ 140737488351232) :
    Calls Try.prog 105 #[v] w fun e w' => e = .returned (.int .i64 (chk A)) ∧ w = w' := by
  have Ha := Lib.hid ha
  have fin : ∀ (K : Nat), A.all lokB = true → sz A ≤ 1000000000000000 := fun _ h => by have := sz_ok h; omega
  rcases Nat.eq_zero_or_pos A.length with h0 | hpos
  · have hA : A = [] := List.eq_nil_of_length_eq_zero h0
    subst hA
    obtain ⟨a1, c1, rfl, _⟩ := ha.zero
    clear ha fin hll
    go_enter Try.func105, Try.ntmps105
    go_wp2
    refine wp_loop_rounds 1 ?_
    rw [rounds_succ]; go_wp2_with fail
    refine (size_any [] _ _ Ha.out (by simp) (by simp [sz])).mono ?_
    rintro e w' ⟨rfl, rfl⟩
    rw [show sz [] = 1 from rfl]
    go_wp2_with fail
    go_ret
    exact ⟨rfl, rfl⟩
  · obtain ⟨b1, o1, c1, rfl, hc1, hb1, hcA⟩ := ha.pos hpos
    have HcA := Lib.hid hcA
    have Hf := Lib.hid (fin 0)
    have Hll := Lib.hid hll
    clear hcA ha fin hll
    go_enter Try.func105, Try.ntmps105
    go_wp2
    go_loop [7] (fun i => ∃ k : Nat, k ≤ A.length ∧ i = .int .i64 k ∧ (A.take k).all lokB = true) (fun i => A.length - (intOf i).toNat)
    case atStart => exact ⟨0, Nat.zero_le _, rfl, rfl⟩
    case round =>
      obtain ⟨k, hk, rfl, hm⟩ := hrel
      have Hm := Lib.hid hm
      clear hm
      by_cases hlt : k < A.length
      · have i1 : (k : Int) < (A.length : Int) := by omega
        have q1 : w.cell? ⟨b1, o1 + k, none⟩ = some (.string ⟨A[k].toArray⟩) := sl_at HcA.out hlt
        have hlk := Hll.out A[k] (List.getElem_mem _)
        rcases hd : lokB A[k]
        · have hz := lokB_f hd
          have Hd := Lib.hid hd
          clear hd
          have hfin : chk A = 7 := by unfold chk; rw [if_neg (nots_all hlt Hd.out)]
          have Hfin := Lib.hid hfin
          clear hfin
          rcases hz with hz | hz
          · skip
            have t1 : A[k].isEmpty = true := by rw [List.isEmpty_iff]; exact List.eq_nil_of_length_eq_zero hz
            go_wp2
            go_ret
            exact ⟨reti Hfin.out.symm, rfl⟩
          · skip
            have t1 : A[k].isEmpty = false := by rw [List.isEmpty_eq_false_iff]; intro h; rw [h] at hz; simp at hz
            have t2 : (63 : Int) < (A[k].length : Int) := by omega
            go_wp2
            go_ret
            exact ⟨reti Hfin.out.symm, rfl⟩
        · obtain ⟨hl1, hl2⟩ := lokB_t hd
          have Hd := Lib.hid hd
          clear hd
          have t1 : A[k].isEmpty = false := by rw [List.isEmpty_eq_false_iff]; intro h; rw [h] at hl1; simp at hl1
          have t2 : (A[k].length : Int) ≤ 63 := by omega
          go_wp2
          go_round
          case rel => exact ⟨k + 1, by omega, by go_num, alls_next hlt Hm.out Hd.out⟩
          case measure => simp [intOf]; omega
      · have i1 : ¬ (k : Int) < (A.length : Int) := by omega
        obtain rfl : k = A.length := by omega
        have hm := Hm.out
        rw [List.take_length] at hm
        have Hm2 := Lib.hid hm
        clear hm
        by_cases hsz : 255 < sz A
        all_goals
          go_wp2_with fail
          refine (size_any A _ _ Ha.out hn (Hf.out Hm2.out)).mono ?_
          rintro e w' ⟨rfl, rfl⟩
          go_wp2_with fail
          go_ret
        · exact ⟨reti (by unfold chk; rw [if_pos Hm2.out, if_pos hsz]), rfl⟩
        · exact ⟨reti (by unfold chk; rw [if_pos Hm2.out, if_neg hsz]), rfl⟩

set_option maxRecDepth 100000 in
set_option maxHeartbeats 800000 in
theorem rcheck_any (A : List (List UInt8)) (v : Value) (w : World) (ha : Sl w 1 v A.length (A.map stv)) (hn : A.length ≤ 1000000000) (hll : ∀ l ∈ A, l.length ≤ 140737488351232) :
    Calls Try.prog 38 #[v] w fun e w' => e = .returned (.int .i64 (chk A)) ∧ w = w' := by
  have Ha := Lib.hid ha
  have fin : ∀ (K : Nat), A.all lokB = true → sz A ≤ 1000000000000000 := fun _ h => by have := sz_ok h; omega
  rcases Nat.eq_zero_or_pos A.length with h0 | hpos
  · have hA : A = [] := List.eq_nil_of_length_eq_zero h0
    subst hA
    obtain ⟨a1, c1, rfl, _⟩ := ha.zero
    clear ha fin hll
    go_enter Try.func38, Try.ntmps38
    go_wp2
    refine wp_loop_rounds 1 ?_
    rw [rounds_succ]; go_wp2_with fail
    refine (rsize_any [] _ _ Ha.out (by simp) (by simp [sz])).mono ?_
    rintro e w' ⟨rfl, rfl⟩
    rw [show sz [] = 1 from rfl]
    go_wp2_with fail
    go_ret
    exact ⟨rfl, rfl⟩
  · obtain ⟨b1, o1, c1, rfl, hc1, hb1, hcA⟩ := ha.pos hpos
    have HcA := Lib.hid hcA
    have Hf := Lib.hid (fin 0)
    have Hll := Lib.hid hll
    clear hcA ha fin hll
    go_enter Try.func38, Try.ntmps38
    go_wp2
    go_loop [3] (fun i => ∃ k : Nat, k ≤ A.length ∧ i = .int .i64 k ∧ (A.take k).all lokB = true) (fun i => A.length - (intOf i).toNat)
    case atStart => exact ⟨0, Nat.zero_le _, rfl, rfl⟩
    case round =>
      obtain ⟨k, hk, rfl, hm⟩ := hrel
      have Hm := Lib.hid hm
      clear hm
      by_cases hlt : k < A.length
      · have i1 : (k : Int) < (A.length : Int) := by omega
        have q1 : w.cell? ⟨b1, o1 + k, none⟩ = some (.string ⟨A[k].toArray⟩) := sl_at HcA.out hlt
        have hlk := Hll.out A[k] (List.getElem_mem _)
        rcases hd : lokB A[k]
        · have hz := lokB_f hd
          have Hd := Lib.hid hd
          clear hd
          have hfin : chk A = 7 := by unfold chk; rw [if_neg (nots_all hlt Hd.out)]
          have Hfin := Lib.hid hfin
          clear hfin
          rcases hz with hz | hz
          · skip
            have t1 : (A[k].length : Int) < 1 := by omega
            go_wp2
            go_ret
            exact ⟨reti Hfin.out.symm, rfl⟩
          · skip
            have t1 : (63 : Int) < (A[k].length : Int) := by omega
            go_wp2
            go_ret
            exact ⟨reti Hfin.out.symm, rfl⟩
        · obtain ⟨hl1, hl2⟩ := lokB_t hd
          have Hd := Lib.hid hd
          clear hd
          have t1 : (1 : Int) ≤ (A[k].length : Int) := by omega
          have t2 : (A[k].length : Int) ≤ 63 := by omega
          go_wp2
          go_round
          case rel => exact ⟨k + 1, by omega, by go_num, alls_next hlt Hm.out Hd.out⟩
          case measure => simp [intOf]; omega
      · have i1 : ¬ (k : Int) < (A.length : Int) := by omega
        obtain rfl : k = A.length := by omega
        have hm := Hm.out
        rw [List.take_length] at hm
        have Hm2 := Lib.hid hm
        clear hm
        by_cases hsz : 255 < sz A
        all_goals
          go_wp2_with fail
          refine (rsize_any A _ _ Ha.out hn (Hf.out Hm2.out)).mono ?_
          rintro e w' ⟨rfl, rfl⟩
          go_wp2_with fail
          go_ret
        · exact ⟨reti (by unfold chk; rw [if_pos Hm2.out, if_pos hsz]), rfl⟩
        · exact ⟨reti (by unfold chk; rw [if_pos Hm2.out, if_neg hsz]), rfl⟩

set_option maxRecDepth 100000 in
set_option maxHeartbeats 800000 in
theorem few_any (A : List (List UInt8)) (v : Value) (w : World) (ha : Sl w 1 v A.length (A.map stv)) (hn : A.length ≤ maxLen) (hll : ∀ l ∈ A, l.length ≤ 140737488351232) :
    Calls Try.prog 49 #[v] w fun e w' => e = .returned (.bool (fewB A)) ∧ w = w' := by
  unfold maxLen at hn
  rcases Nat.eq_zero_or_pos A.length with h0 | hpos
  · have hA : A = [] := List.eq_nil_of_length_eq_zero h0
    subst hA
    obtain ⟨a1, c1, rfl, _⟩ := ha.zero
    clear ha hll
    go_enter Try.func49, Try.ntmps49
    go_wp2
    refine wp_loop_rounds 1 ?_
    rw [rounds_succ]; go_wp2
    go_ret
    exact ⟨rfl, rfl⟩
  · obtain ⟨b1, o1, c1, rfl, hc1, hb1, hcA⟩ := ha.pos hpos
    have HcA := Lib.hid hcA
    have Hll := Lib.hid hll
    clear hcA ha hll
    go_enter Try.func49, Try.ntmps49
    go_wp2
    go_loop [3, 4] (fun n i => ∃ k m : Nat, k ≤ A.length ∧ i = .int .i64 k ∧ n = .int .i64 m ∧ m + 1 = sz (A.take k) ∧ m ≤ 400) (fun _ i => A.length - (intOf i).toNat)
    case atStart => exact ⟨0, 0, Nat.zero_le _, rfl, rfl, rfl, Nat.zero_le _⟩
    case round =>
      obtain ⟨k, m, hk, rfl, rfl, hm, hm4⟩ := hrel
      have Hm := Lib.hid hm
      clear hm
      by_cases hlt : k < A.length
      · have i1 : (k : Int) < (A.length : Int) := by omega
        have q1 : w.cell? ⟨b1, o1 + k, none⟩ = some (.string ⟨A[k].toArray⟩) := sl_at HcA.out hlt
        have hlk := Hll.out A[k] (List.getElem_mem _)
        have hnx := sz_next hlt
        rw [← Hm.out] at hnx
        have hle := sz_take A (k + 1)
        rw [hnx] at hle
        have Hnx := Lib.hid hnx
        clear hnx
        by_cases h4 : m + A[k].length + 1 ≤ 400
        · have t1 : (m : Int) + (A[k].length : Int) + 1 ≤ 400 := by omega
          clear hle
          go_wp2
          go_round
          case rel => exact ⟨k + 1, m + A[k].length + 1, by omega, by go_num, vint (by omega), (by have := Hnx.out; omega), by omega⟩
          case measure => simp [intOf]; omega
        · have t1 : (400 : Int) < (m : Int) + (A[k].length : Int) + 1 := by omega
          have hf : fewB A = false := by unfold fewB; simp; omega
          have Hf := Lib.hid hf
          clear hle hf
          go_wp2
          go_ret
          exact ⟨retb Hf.out.symm, rfl⟩
      · have i1 : ¬ (k : Int) < (A.length : Int) := by omega
        obtain rfl : k = A.length := by omega
        have hm := Hm.out
        rw [sz_all] at hm
        have hf : fewB A = true := by unfold fewB; simp; omega
        have Hf := Lib.hid hf
        clear hm hf
        go_wp2
        go_ret
        exact ⟨retb Hf.out.symm, rfl⟩

set_option maxRecDepth 100000 in
set_option maxHeartbeats 800000 in
theorem sametexts_any (A B : List (List UInt8)) (va vb : Value) (w : World) (ha : Sl w 1 va A.length (A.map stv)) (hb : Sl w 1 vb B.length (B.map stv)) (hl : A.length ≤ 1000000000) :
    Calls Try.prog 70 #[va, vb] w fun e w' => e = .returned (.bool (decide (A = B))) ∧ Below w.heap.size w w' := by
  by_cases hn : A.length = B.length
  · rcases Nat.eq_zero_or_pos A.length with h0 | hpos
    · have hA : A = [] := List.eq_nil_of_length_eq_zero h0
      have hB : B = [] := List.eq_nil_of_length_eq_zero (by omega)
      subst hA hB
      obtain ⟨a1, c1, rfl, _⟩ := ha.zero
      obtain ⟨a2, c2, rfl, _⟩ := hb.zero
      go_enter Try.func70, Try.ntmps70
      go_wp2
      refine wp_loop_rounds 1 ?_
      rw [rounds_succ]; go_wp2
      go_ret
      exact ⟨rfl, Below.refl _ _⟩
    · obtain ⟨b1, o1, c1, rfl, hc1, _, hcA⟩ := ha.pos hpos
      obtain ⟨b2, o2, c2, rfl, hc2, _, hcB⟩ := hb.pos (by omega)
      have hne : ((A.length : Int) != (B.length : Int)) = false := by simp; omega
      have HcA := Lib.hid hcA
      have HcB := Lib.hid hcB
      clear hcA hcB ha hb
      have Hn := Lib.hid hn
      have hn1 : A.length ≤ B.length := by omega
      have hn2 : B.length ≤ A.length := by omega
      clear hn
      go_enter Try.func70, Try.ntmps70
      go_wp2
      go_loopw [5] (fun i wr => ∃ k m : Nat, k ≤ A.length ∧ i = .int .i64 k ∧ A.take k = B.take k ∧ wr = w.drewN m) (fun i _ => A.length - (intOf i).toNat)
      case atStart => exact ⟨0, 0, Nat.zero_le _, rfl, rfl, rfl⟩
      case round =>
        obtain ⟨k, m, hk, rfl, ht, rfl⟩ := hrel
        have Ht := Lib.hid ht
        clear ht
        by_cases hlt : k < A.length
        · have q1 : w.cell? ⟨b1, o1 + k, none⟩ = some (.string ⟨A[k].toArray⟩) := sl_at HcA.out hlt
          have q2 : w.cell? ⟨b2, o2 + k, none⟩ = some (.string ⟨B[k].toArray⟩) := sl_at HcB.out (show k < B.length by omega)
          have i1 : (k : Int) < (A.length : Int) := by omega
          have i2 : (k : Int) < (B.length : Int) := by omega
          have i3 : (0 : Int) ≤ (k : Int) := by omega
          by_cases he : A[k] = B[k]
          · have he1 : (A[k] == B[k]) = true := by simp [he]
            have He := Lib.hid he
            clear he
            go_wp2
            go_quiet (fail)
            go_wp2
            go_roundw
            case rel => exact ⟨k + 1, _, by omega, by go_num, takes_eq hlt (by omega) Ht.out He.out, rfl⟩
            case measure => simp [intOf]; omega
          · have he1 : (A[k] == B[k]) = false := by simp [he]
            have He := Lib.hid he
            clear he
            go_wp2
            go_quiet (fail)
            go_wp2
            go_ret
            refine ⟨retb ?_, below_drewN (below_drewN (Below.refl _ _) _) _⟩
            simp only [Bool.false_eq, decide_eq_false_iff_not]
            intro h
            subst h
            exact He.out rfl
        · obtain rfl : k = A.length := by omega
          go_wp2
          go_ret
          refine ⟨retb ?_, below_drewN (Below.refl _ _) _⟩
          simp only [Bool.true_eq, decide_eq_true_eq]
          have := Ht.out
          rwa [List.take_of_length_le (Nat.le_refl _), List.take_of_length_le (by omega)] at this
  · obtain ⟨a1, c1, rfl, _⟩ := ha.any
    obtain ⟨a2, c2, rfl, _⟩ := hb.any
    have hne : ((A.length : Int) != (B.length : Int)) = true := by simp; omega
    clear ha hb
    go_enter Try.func70, Try.ntmps70
    go_wp2
    go_ret
    refine ⟨retb ?_, Below.refl _ _⟩
    simp only [Bool.false_eq, decide_eq_false_iff_not]
    intro h
    exact hn (by rw [h])

set_option maxHeartbeats 400000 in
theorem exact_any (A B : List (List UInt8)) (va vb : Value) (w : World) (ha : Sl w 1 va A.length (A.map stv)) (hb : Sl w 1 vb B.length (B.map stv)) (hl : A.length ≤ 1000000000) :
    Calls Try.prog 39 #[va, vb] w fun e w' => e = .returned (.bool (decide (A = B))) ∧ Below w.heap.size w w' := by
  go_enter Try.func39, Try.ntmps39
  go_wp2_with fail
  refine (sametexts_any _ _ _ _ _ ha hb hl).mono ?_
  rintro e w' ⟨rfl, hb1⟩
  go_wp2_with fail
  go_ret
  exact ⟨rfl, hb1⟩
end Go.Proofs.Ytnelaegjcpkmdaa
