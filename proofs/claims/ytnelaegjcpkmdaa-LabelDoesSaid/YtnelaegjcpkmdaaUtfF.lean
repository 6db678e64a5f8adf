/- The contracts of the reference's Same and Ints. -/
import Derived.Test.YtnelaegjcpkmdaaUtfC
namespace Go.Proofs.Ytnelaegjcpkmdaa
open Go.RowKit

theorem sl_cell {w : World} {A : List Int} {k : IntKind} {b off j : Nat} (hc : ∀ j u, (A.map (Value.int k))[j]? = some u → w.cell? ⟨b, off + j, none⟩ = some u) (hj : j < A.length) : w.cell? ⟨b, off + j, none⟩ = some (.int k A[j]) :=
  hc j _ (by simp [hj])

def SamePost (w : World) (b : Bool) (e : Ending) (w' : World) : Prop := e = .returned (.bool b) ∧ ∃ n, w' = w.drewN n

theorem take_eq_next {A B : List Int} {k : Nat} (ha : k < A.length) (hb : k < B.length) (h : A.take k = B.take k) (he : A[k] = B[k]) : A.take (k + 1) = B.take (k + 1) := by
  rw [List.take_succ_eq_append_getElem ha, List.take_succ_eq_append_getElem hb, h, he]

set_option maxRecDepth 100000 in
set_option maxHeartbeats 400000 in
theorem same_any (A B : List Int) (va vb : Value) (w : World) (ha : Sl w 1 va A.length (A.map (Value.int .i64))) (hb : Sl w 1 vb B.length (B.map (Value.int .i64))) (hl : A.length ≤ 1000000000) :
    Calls Try.prog 32 #[va, vb] w (SamePost w (decide (A = B))) := by
  by_cases hn : A.length = B.length
  · rcases Nat.eq_zero_or_pos A.length with h0 | hpos
    · have hA : A = [] := List.eq_nil_of_length_eq_zero h0
      have hB : B = [] := List.eq_nil_of_length_eq_zero (by omega)
      subst hA hB
      obtain ⟨a1, c1, rfl, _⟩ := ha.zero
      obtain ⟨a2, c2, rfl, _⟩ := hb.zero
      go_enter Try.func32, Try.ntmps32
      go_wp2
      refine wp_loop_rounds 1 ?_
      rw [rounds_succ]; go_wp2
      go_ret
      exact ⟨rfl, 0, rfl⟩
    · obtain ⟨b1, o1, c1, rfl, hc1, _, hcA⟩ := ha.pos hpos
      obtain ⟨b2, o2, c2, rfl, hc2, _, hcB⟩ := hb.pos (by omega)
      have hne : ((A.length : Int) != (B.length : Int)) = false := by simp; omega
      have HcA := Lib.hid hcA
      have HcB := Lib.hid hcB
      clear hcA hcB ha hb
      have Hn := Lib.hid hn
      have hn1 : A.length ≤ B.length := by omega
      have hn2 : B.length ≤ A.length := by omega
      clear hn
      go_enter Try.func32, Try.ntmps32
      go_wp2
      go_loopw [5] (fun i wr => ∃ k m : Nat, k ≤ A.length ∧ i = .int .i64 k ∧ A.take k = B.take k ∧ wr = w.drewN m) (fun i _ => A.length - (intOf i).toNat)
      case atStart => exact ⟨0, 0, Nat.zero_le _, rfl, rfl, rfl⟩
      case round =>
        obtain ⟨k, m, hk, rfl, ht, rfl⟩ := hrel
        have Ht := Lib.hid ht
        clear ht
        by_cases hlt : k < A.length
        · have q1 := sl_cell HcA.out hlt
          have q2 := sl_cell HcB.out (show k < B.length by omega)
          have i1 : (k : Int) < (A.length : Int) := by omega
          have i2 : (k : Int) < (B.length : Int) := by omega
          have i3 : (0 : Int) ≤ (k : Int) := by omega
          by_cases he : A[k] = B[k]
          · have he1 : (A[k] != B[k]) = false := by simp [he]
            have He := Lib.hid he
            clear he
            go_wp2
            go_quiet (fail)
            go_wp2
            go_roundw
            case rel => exact ⟨k + 1, _, by omega, by go_num, take_eq_next hlt (by omega) Ht.out He.out, rfl⟩
            case measure => simp [intOf]; omega
          · have he1 : (A[k] != B[k]) = true := by simp [he]
            have He := Lib.hid he
            clear he
            go_wp2
            go_quiet (fail)
            go_wp2
            go_ret
            refine ⟨retb ?_, _, World.drewN_drewN _ _ _⟩
            simp only [Bool.false_eq, decide_eq_false_iff_not]
            intro h
            subst h
            exact He.out rfl
        · obtain rfl : k = A.length := by omega
          go_wp2
          go_ret
          refine ⟨retb ?_, _, rfl⟩
          simp only [Bool.true_eq, decide_eq_true_eq]
          have := Ht.out
          rwa [List.take_of_length_le (Nat.le_refl _), List.take_of_length_le (by omega)] at this
  · obtain ⟨a1, c1, rfl, _⟩ := ha.any
    obtain ⟨a2, c2, rfl, _⟩ := hb.any
    have hne : ((A.length : Int) != (B.length : Int)) = true := by simp; omega
    clear ha hb
    go_enter Try.func32, Try.ntmps32
    go_wp2
    go_ret
    refine ⟨retb ?_, 0, rfl⟩
    simp only [Bool.false_eq, decide_eq_false_iff_not]
    intro h
    exact hn (by rw [h])

def IntsPost (k : IntKind) (w : World) (A : List Int) (e : Ending) (w' : World) : Prop := ∃ v, e = .returned v ∧ Sl w' 1 v A.length (A.map (Value.int k)) ∧ Below w.heap.size w w'
def IntsRel (k : IntKind) (e : TypeId) (w : World) (A : List Int) (j : Nat) (v : Value) (wr : World) : Prop :=
  wr.ownsRow w.heap.size e 1 v j ((A.map (Value.int k)).take j) ∧ Below w.heap.size w wr
theorem IntsRel.next {k : IntKind} {e : TypeId} {w w0 w1 : World} {A : List Int} {j : Nat} {v1 : Value} (hj : j < A.length) (h1 : w1.ownsRow w.heap.size e 1 v1 (j + 1) ((A.map (Value.int k)).take j ++ [.int k A[j]])) (h0 : Below w.heap.size w w0) (hb : Below w.heap.size w0 w1) :
    IntsRel k e w A (j + 1) v1 w1 := by
  refine ⟨?_, h0.trans hb⟩
  rw [List.take_succ_eq_append_getElem (by simpa using hj)]
  simpa using h1

set_option maxRecDepth 100000 in
set_option maxHeartbeats 400000 in
theorem ints_any (A : List Int) (va : Value) (w : World) (ha : Sl w 1 va A.length (A.map (Value.int .i32))) (hr : ∀ x ∈ A, -2147483648 ≤ x ∧ x ≤ 2147483647) (hl : A.length ≤ 1000000000) :
    Calls Try.prog 29 #[va] w (IntsPost .i64 w A) := by
  rcases Nat.eq_zero_or_pos A.length with h0 | hpos
  · have hA : A = [] := List.eq_nil_of_length_eq_zero h0
    subst hA
    obtain ⟨a1, c1, rfl, _⟩ := ha.zero
    clear ha hr
    go_enter Try.func29, Try.ntmps29
    go_wp2
    refine wp_loop_rounds 1 ?_
    rw [rounds_succ]; go_wp2
    go_ret
    exact ⟨_, rfl, Sl.nil _ _, Below.refl _ _⟩
  · obtain ⟨b1, o1, c1, rfl, hc1, hb1, hcA⟩ := ha.pos hpos
    have HcA := Lib.hid hcA
    have Hr := Lib.hid hr
    clear hcA ha hr
    go_enter Try.func29, Try.ntmps29
    go_wp2
    go_loopw [3, 4] (fun v i wr => ∃ k : Nat, k ≤ A.length ∧ i = .int .i64 k ∧ IntsRel .i64 3 w A k v wr) (fun _ i _ => A.length - (intOf i).toNat)
    case atStart => exact ⟨0, Nat.zero_le _, rfl, World.ownsRow_nil _ _ _ _, Below.refl _ _⟩
    case round =>
      obtain ⟨k, hk, rfl, h3, h4⟩ := hrel
      have hsz := h4.size
      by_cases hlt : k < A.length
      · have q1 := (bel_cells h4 hb1 (o1 + k)).trans (sl_cell HcA.out hlt)
        have hb := Hr.out A[k] (List.getElem_mem _)
        have hb1 := hb.1
        have hb2 := hb.2
        clear hb
        have i1 : (k : Int) < (A.length : Int) := by omega
        go_wp2_with (at_builtin; refine wpList_appLit rfl _ _ _ rfl elt_ints rfl h3 [.int .i64 A[k]] (m := 1) rfl rfl (by simp [Value.oneCell']) ?c1 ?c2 ?c3 ?_)
        case c1 => omega
        case c2 => omega
        case c3 => omega
        · intro v1 w1 ho1 hb1 _
          have R := IntsRel.next hlt ho1 h4 hb1
          clear ho1 hb1
          go_wp2
          go_roundw
          case rel => exact ⟨k + 1, by omega, by go_num, R⟩
          case measure => simp [intOf]; omega
      · obtain rfl : k = A.length := by omega
        go_wp2
        go_ret
        refine ⟨_, rfl, ?_, h4⟩
        have := Sl.own h3
        rwa [List.take_of_length_le (by simp)] at this
end Go.Proofs.Ytnelaegjcpkmdaa
