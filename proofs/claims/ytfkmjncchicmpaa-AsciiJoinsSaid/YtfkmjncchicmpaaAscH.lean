/- The contract of the reference's Join, and the walk of AsciiJoins. -/
import Derived.Test.YtfkmjncchicmpaaAscE
import Derived.OpenShut
namespace Go.Proofs.Ytfkmjncchicmpaa
open Go.RowKit
attribute [local go_sem] ba_get ext_take ext_drop ba_app

theorem joi_first {A : List (List UInt8)} (b : List UInt8) (h : 0 < A.length) : joi b (A.take 1) = A[0] := by
  rcases A with _ | ⟨x, r⟩
  · simp at h
  · unfold joi; simp [Lib.join_one]
theorem joi_snoc {A : List (List UInt8)} (b : List UInt8) {k : Nat} (hk : k < A.length) (h0 : 0 < k) : joi b (A.take (k + 1)) = joi b (A.take k) ++ b ++ A[k] := by
  rcases A with _ | ⟨x, r⟩
  · simp at hk
  · rcases k with _ | k
    · omega
    · have hk' : k < r.length := by simpa using hk
      unfold joi
      rw [List.take_succ_cons, List.take_succ_cons, Lib.join_cons, Lib.join_cons, Lib.joinTail_take_succ b r k r[k] (List.getElem?_eq_getElem hk')]
      simp [List.append_assoc]
theorem joi_nil (b : List UInt8) : joi b [] = [] := rfl
theorem joi_all (b : List UInt8) (A : List (List UInt8)) : joi b (A.take A.length) = joi b A := by rw [List.take_length]
theorem joi_len {A : List (List UInt8)} (b : List UInt8) (hb : b.length ≤ 2000) (k : Nat) (hk : k ≤ A.length) : (joi b (A.take k)).length ≤ 2000 * k + Lib.lens (A.take k) := by
  induction k with
  | zero => simp [joi_nil]
  | succ k ih =>
    have h1 := ih (by omega)
    rw [Lib.lens_take_succ A k A[k] (List.getElem?_eq_getElem (by omega))]
    rcases Nat.eq_zero_or_pos k with h0 | h0
    · subst h0
      rw [joi_first b (by omega)]
      omega
    · rw [joi_snoc b (by omega) h0, List.length_append, List.length_append]
      omega
theorem joi_mono {A : List (List UInt8)} (b : List UInt8) (k : Nat) (hk : k < A.length) : (joi b (A.take k)).length + (if k = 0 then 0 else b.length) + A[k].length = (joi b (A.take (k + 1))).length := by
  rcases Nat.eq_zero_or_pos k with h0 | h0
  · subst h0
    rw [joi_first b hk]
    simp [joi_nil]
  · rw [joi_snoc b hk h0, List.length_append, List.length_append, if_neg (by omega)]
theorem joi_le {A : List (List UInt8)} (b : List UInt8) (k : Nat) (hk : k ≤ A.length) : (joi b (A.take k)).length ≤ (joi b A).length := by
  have h : ∀ d : Nat, ∀ k : Nat, k + d = A.length → (joi b (A.take k)).length ≤ (joi b A).length := by
    intro d
    induction d with
    | zero => intro k hk; obtain rfl : k = A.length := by omega
              rw [joi_all]; exact Nat.le_refl _
    | succ d ih =>
      intro k hk
      have h1 := ih (k + 1) (by omega)
      have h2 := joi_mono (A := A) b k (by omega)
      omega
  exact h (A.length - k) k (by omega)

set_option maxRecDepth 100000 in
set_option maxHeartbeats 800000 in
theorem rjoin_any (b : List UInt8) (A : List (List UInt8)) (v : Value) (w : World) (ha : Sl w 1 v A.length (A.map stv)) (hn : A.length ≤ 1000000000) (hj : (joi b A).length ≤ 1000000000) :
    Calls Try.prog 40 #[.string ⟨b.toArray⟩, v] w fun e w' => e = .returned (.string ⟨(joi b A).toArray⟩) ∧ w = w' := by
  rcases Nat.eq_zero_or_pos A.length with h0 | hpos
  · have hA : A = [] := List.eq_nil_of_length_eq_zero h0
    subst hA
    obtain ⟨a1, c1, rfl, _⟩ := ha.zero
    clear ha
    go_enter Try.func40, Try.ntmps40
    go_wp2
    refine wp_loop_rounds 1 ?_
    rw [rounds_succ]; go_wp2
    go_ret
    exact ⟨rfl, rfl⟩
  · obtain ⟨b1, o1, c1, rfl, hc1, hb1, hcA⟩ := ha.pos hpos
    have HcA := Lib.hid hcA
    clear hcA ha
    go_enter Try.func40, Try.ntmps40
    go_wp2
    go_loop [5, 6] (fun s i => ∃ k : Nat, ∃ T : List UInt8, k ≤ A.length ∧ i = .int .i64 k ∧ s = .string ⟨T.toArray⟩ ∧ T = joi b (A.take k)) (fun _ i => A.length - (intOf i).toNat)
    case atStart => exact ⟨0, [], Nat.zero_le _, rfl, rfl, rfl⟩
    case round =>
      obtain ⟨k, T, hk, rfl, rfl, hT⟩ := hrel
      by_cases hlt : k < A.length
      · have i1 : (k : Int) < (A.length : Int) := by omega
        have q1 : w.cell? ⟨b1, o1 + k, none⟩ = some (.string ⟨A[k].toArray⟩) := sl_at HcA.out hlt
        have hmo := joi_mono b k hlt
        have hle := joi_le (A := A) b (k + 1) (by omega)
        rw [← hT] at hmo
        rcases Nat.eq_zero_or_pos k with h0 | h0
        · subst h0
          have q0 : w.cell? ⟨b1, o1, none⟩ = some (.string ⟨A[0].toArray⟩) := by simpa using q1
          have hfin : T ++ A[0] = joi b (A.take (0 + 1)) := by rw [hT]; simp [joi_nil, joi_first b hlt]
          have Hfin := Lib.hid hfin
          have hTl : T.length + A[0].length ≤ 1000000000 := by rw [if_pos rfl] at hmo; omega
          clear hfin hT hmo hle
          go_wp2
          go_round
          case rel => exact ⟨1, _, by omega, rfl, rfl, Hfin.out⟩
          case measure => simp [intOf]; omega
        · have hfin : T ++ b ++ A[k] = joi b (A.take (k + 1)) := by rw [hT, joi_snoc b hlt h0]
          have Hfin := Lib.hid hfin
          rw [if_neg (by omega)] at hmo
          have hTl : T.length + b.length + A[k].length ≤ 1000000000 := by omega
          have i2 : (0 : Int) < (k : Int) := by omega
          clear hfin hT hmo hle
          go_wp2
          go_round
          case rel => exact ⟨k + 1, _, by omega, by go_num, rfl, by rw [← Hfin.out]; simp⟩
          case measure => simp [intOf]; omega
      · have i1 : ¬ (k : Int) < (A.length : Int) := by omega
        obtain rfl : k = A.length := by omega
        rw [joi_all] at hT
        have HT := Lib.hid hT
        clear hT
        go_wp2
        go_ret
        exact ⟨congrArg Ending.returned (vstr HT.out), rfl⟩
end Go.Proofs.Ytfkmjncchicmpaa
