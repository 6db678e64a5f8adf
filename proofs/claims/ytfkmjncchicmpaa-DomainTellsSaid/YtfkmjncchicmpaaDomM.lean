/- The contracts of domain.Host and of its reference. -/
import Derived.Test.YtfkmjncchicmpaaDomH
import Derived.Test.YtfkmjncchicmpaaLabA
namespace Go.Proofs.Ytfkmjncchicmpaa
open Go.RowKit
attribute [local go_sem] ba_get

/-- a name that a host may have. -/
def hostsB (A : List (List UInt8)) : Bool := decide (0 < A.length ∧ sz A ≤ 255 ∧ ∀ (j : Nat) (hj : j < A.length), hostB A[j] = true)
theorem hosts_ret {A : List (List UInt8)} {b : Bool} (h : hostsB A = b) : Ending.returned (.bool b) = .returned (.bool (hostsB A)) := by rw [h]
theorem host_lok {l : List UInt8} (h : hostB l = true) : lokB l = true := by
  unfold hostB at h
  have := of_decide_eq_true h
  unfold lokB
  exact decide_eq_true ⟨this.1, this.2.1⟩
theorem hosts_chk {A : List (List UInt8)} (h : hostsB A = true) : chk A = 0 := by
  unfold hostsB at h
  obtain ⟨_, h2, h3⟩ := of_decide_eq_true h
  have : A.all lokB = true := by
    rw [List.all_eq_true]
    intro l hl
    obtain ⟨j, hj, rfl⟩ := List.getElem_of_mem hl
    exact host_lok (h3 j hj)
  unfold chk
  rw [if_pos this, if_neg (by omega)]
theorem hosts_wrong {A : List (List UInt8)} (h : chk A ≠ 0) : hostsB A = false := by
  rcases hh : hostsB A
  · rfl
  · exact absurd (hosts_chk hh) h
theorem hosts_bad {A : List (List UInt8)} {k : Nat} (hk : k < A.length) (hf : hostB A[k] = false) : hostsB A = false := by
  unfold hostsB; exact decide_eq_false fun ⟨_, _, h⟩ => by have := h k hk; rw [hf] at this; cases this
theorem hosts_big {A : List (List UInt8)} (h : ¬ sz A ≤ 255) : hostsB A = false := by
  unfold hostsB; exact decide_eq_false fun ⟨_, h2, _⟩ => h h2
theorem hosts_good {A : List (List UInt8)} (hpos : 0 < A.length) (hs : sz A ≤ 255) (h : ∀ (j : Nat) (hj : j < A.length), hostB A[j] = true) : hostsB A = true := by
  unfold hostsB; exact decide_eq_true ⟨hpos, hs, h⟩

set_option maxRecDepth 100000 in
set_option maxHeartbeats 1000000 in
theorem dhost_any (A : List (List UInt8)) (v : Value) (w : World) (ha : Sl w 1 v A.length (A.map stv)) (hn : A.length ≤ 1000000000) (hll : ∀ l ∈ A, l.length ≤ 140737488351232) :
    Calls Try.prog 60 #[v] w fun e w' => e = .returned (.bool (hostsB A)) ∧ w = w' := by
  rcases Nat.eq_zero_or_pos A.length with h0 | hpos
  · have hA : A = [] := List.eq_nil_of_length_eq_zero h0
    subst hA
    obtain ⟨a1, c1, rfl, _⟩ := ha.zero
    clear ha hll
    go_enter Try.func60, Try.ntmps60
    go_wp2
    go_ret
    exact ⟨hosts_ret (by simp [hostsB]), rfl⟩
  · have Ha := Lib.hid ha
    obtain ⟨b1, o1, c1, rfl, hc1, hb1, hcA⟩ := ha.pos hpos
    have HcA := Lib.hid hcA
    have Hll := Lib.hid hll
    have i0 : ((A.length : Int) == 0) = false := by rw [beq_eq_false_iff_ne]; omega
    clear hcA ha hll
    by_cases hc : chk A = 0
    · have Hc := Lib.hid hc
      have hs : sz A ≤ 255 := (chk_bds hc).2.1
      have R := Lib.hid (hosts_good hpos hs)
      clear hc hs
      go_enter Try.func60, Try.ntmps60
      go_wp2_with fail
      refine (check_any _ _ _ Ha.out hn Hll.out).mono ?_
      rintro e w' ⟨rfl, rfl⟩
      rw [Hc.out]
      go_wp2
      go_loop [15] (fun i => ∃ k : Nat, k ≤ A.length ∧ i = .int .i64 k ∧ ∀ (j : Nat) (hj : j < A.length), j < k → hostB A[j] = true) (fun i => A.length - (intOf i).toNat)
      case atStart => exact ⟨0, Nat.zero_le _, rfl, fun j _ h => absurd h (by omega)⟩
      case round =>
        obtain ⟨k, hk, rfl, hm⟩ := hrel
        have Hm := Lib.hid hm
        clear hm
        by_cases hlt : k < A.length
        · have i5 : (k : Int) < (A.length : Int) := by omega
          have q1 : w.cell? ⟨b1, o1 + k, none⟩ = some (.string ⟨A[k].toArray⟩) := sl_at HcA.out hlt
          have hlk := Hll.out A[k] (List.getElem_mem _)
          rcases hp : hostB A[k]
          · have Hp := Lib.hid hp
            clear hp
            go_wp2_with fail
            refine (lhost_any _ _ hlk).mono ?_
            rintro e w' ⟨rfl, rfl⟩
            rw [Hp.out]
            go_wp2
            go_ret
            exact ⟨hosts_ret (hosts_bad hlt Hp.out), rfl⟩
          · have Hp := Lib.hid hp
            clear hp
            go_wp2_with fail
            refine (lhost_any _ _ hlk).mono ?_
            rintro e w' ⟨rfl, rfl⟩
            rw [Hp.out]
            go_wp2
            go_round
            case rel =>
              refine ⟨k + 1, by omega, by go_num, fun j hj hjk => ?_⟩
              by_cases hjk2 : j < k
              · exact Hm.out j hj hjk2
              · obtain rfl : j = k := by omega
                exact Hp.out
            case measure => simp [intOf]; omega
        · have i5 : ¬ (k : Int) < (A.length : Int) := by omega
          have R2 := Lib.hid (R.out (fun j hj => Hm.out j hj (by omega)))
          go_wp2
          go_ret
          exact ⟨hosts_ret R2.out, rfl⟩
    · have R := Lib.hid (hosts_wrong hc)
      have i1 : (chk A != 0) = true := by simpa using hc
      clear hc
      go_enter Try.func60, Try.ntmps60
      go_wp2_with fail
      refine (check_any _ _ _ Ha.out hn Hll.out).mono ?_
      rintro e w' ⟨rfl, rfl⟩
      go_wp2
      go_ret
      exact ⟨hosts_ret R.out, rfl⟩

set_option maxRecDepth 100000 in
set_option maxHeartbeats 1000000 in
theorem rdhost_any (A : List (List UInt8)) (v : Value) (w : World) (ha : Sl w 1 v A.length (A.map stv)) (hn : A.length ≤ 1000000000) (hz : sz A ≤ 1000000000000000) (hll : ∀ l ∈ A, l.length ≤ 140737488351232) :
    Calls Try.prog 61 #[v] w fun e w' => e = .returned (.bool (hostsB A)) ∧ w = w' := by
  rcases Nat.eq_zero_or_pos A.length with h0 | hpos
  · have hA : A = [] := List.eq_nil_of_length_eq_zero h0
    subst hA
    obtain ⟨a1, c1, rfl, _⟩ := ha.zero
    clear ha hll
    go_enter Try.func61, Try.ntmps61
    go_wp2
    refine wp_loop_rounds 1 ?_
    rw [rounds_succ]; go_wp2
    go_ret
    exact ⟨hosts_ret (by simp [hostsB]), rfl⟩
  · have Ha := Lib.hid ha
    obtain ⟨b1, o1, c1, rfl, hc1, hb1, hcA⟩ := ha.pos hpos
    have HcA := Lib.hid hcA
    have Hll := Lib.hid hll
    have i0 : (0 : Int) < (A.length : Int) := by omega
    clear hcA ha hll
    go_enter Try.func61, Try.ntmps61
    go_wp2
    go_loop [3] (fun i => ∃ k : Nat, k ≤ A.length ∧ i = .int .i64 k ∧ ∀ (j : Nat) (hj : j < A.length), j < k → hostB A[j] = true) (fun i => A.length - (intOf i).toNat)
    case atStart => exact ⟨0, Nat.zero_le _, rfl, fun j _ h => absurd h (by omega)⟩
    case round =>
      obtain ⟨k, hk, rfl, hm⟩ := hrel
      have Hm := Lib.hid hm
      clear hm
      by_cases hlt : k < A.length
      · have i5 : (k : Int) < (A.length : Int) := by omega
        have q1 : w.cell? ⟨b1, o1 + k, none⟩ = some (.string ⟨A[k].toArray⟩) := sl_at HcA.out hlt
        have hlk := Hll.out A[k] (List.getElem_mem _)
        rcases hp : hostB A[k]
        · have Hp := Lib.hid hp
          clear hp
          go_wp2_with fail
          refine (rhost_any _ _ hlk).mono ?_
          rintro e w' ⟨rfl, rfl⟩
          rw [Hp.out]
          go_wp2
          go_ret
          exact ⟨hosts_ret (hosts_bad hlt Hp.out), rfl⟩
        · have Hp := Lib.hid hp
          clear hp
          go_wp2_with fail
          refine (rhost_any _ _ hlk).mono ?_
          rintro e w' ⟨rfl, rfl⟩
          rw [Hp.out]
          go_wp2
          go_round
          case rel =>
            refine ⟨k + 1, by omega, by go_num, fun j hj hjk => ?_⟩
            by_cases hjk2 : j < k
            · exact Hm.out j hj hjk2
            · obtain rfl : j = k := by omega
              exact Hp.out
          case measure => simp [intOf]; omega
      · have i5 : ¬ (k : Int) < (A.length : Int) := by omega
        have hall : ∀ (j : Nat) (hj : j < A.length), hostB A[j] = true := fun j hj => Hm.out j hj (by omega)
        by_cases hs : sz A ≤ 255
        · have R := Lib.hid (hosts_good hpos hs hall)
          have i6 : ((sz A : Nat) : Int) ≤ 255 := by omega
          clear hall
          go_wp2_with fail
          refine (rsize_any _ _ _ Ha.out hn hz).mono ?_
          rintro e w' ⟨rfl, rfl⟩
          go_wp2
          go_ret
          exact ⟨hosts_ret R.out, rfl⟩
        · have R := Lib.hid (hosts_big hs)
          have i6 : ¬ ((sz A : Nat) : Int) ≤ 255 := by omega
          clear hall
          go_wp2_with fail
          refine (rsize_any _ _ _ Ha.out hn hz).mono ?_
          rintro e w' ⟨rfl, rfl⟩
          go_wp2
          go_ret
          exact ⟨hosts_ret (by rw [R.out]; simp; omega), rfl⟩
end Go.Proofs.Ytfkmjncchicmpaa
