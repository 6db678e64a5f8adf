/- The contracts of the reference's Lower and Same, of names' Same, Lower, Under and Cat. -/
import Derived.Test.YtfkmjncchicmpaaAscB
import Derived.Test.YtfkmjncchicmpaaDomI
namespace Go.Proofs.Ytfkmjncchicmpaa
open Go.RowKit
attribute [local go_sem] ba_get ext_take ext_drop

theorem low_len (l : List UInt8) : (low l).length = l.length := by simp [low]
theorem low_next {l : List UInt8} {k : Nat} (h : k < l.length) : low (l.take (k + 1)) = low (l.take k) ++ [sm l[k]] := by
  unfold low; rw [List.take_succ_eq_append_getElem h, List.map_append]; rfl
theorem low_all (l : List UInt8) : low (l.take l.length) = low l := by rw [List.take_length]
def RlRel (w : World) (l : List UInt8) (k : Nat) (v : Value) (wr : World) : Prop :=
  wr.ownsRow w.heap.size 5 1 v k ((low (l.take k)).map byv) ∧ Below w.heap.size w wr
theorem RlRel.next {w w0 w1 : World} {l : List UInt8} {k : Nat} {v1 : Value} {u : Value} (hk : k < l.length) (hu : u = byv (sm l[k])) (h : w1.ownsRow w.heap.size 5 1 v1 (k + 1) ((low (l.take k)).map byv ++ [u])) (h0 : Below w.heap.size w w0) (h1 : Below w.heap.size w0 w1) : RlRel w l (k + 1) v1 w1 := by
  subst hu
  refine ⟨?_, h0.trans h1⟩
  rw [low_next hk, List.map_append]
  exact h
set_option maxRecDepth 100000 in
set_option maxHeartbeats 800000 in
theorem rlower_any (l : List UInt8) (w : World) (hl : l.length ≤ 1000000000) : Calls Try.prog 50 #[.string ⟨l.toArray⟩] w (StrPost w (low l)) := by
  go_enter Try.func50, Try.ntmps50
  go_wp2
  go_loopw [3, 4] (fun v i wr => ∃ k : Nat, k ≤ l.length ∧ i = .int .i64 k ∧ RlRel w l k v wr) (fun _ i _ => l.length - (intOf i).toNat)
  case atStart => exact ⟨0, Nat.zero_le _, rfl, World.ownsRow_nil _ _ _ _, Below.refl _ _⟩
  case round =>
    obtain ⟨k, hk, rfl, h3, h4⟩ := hrel
    have hsz := h4.size
    by_cases hlt : k < l.length
    · have i1 : (k : Int) < (l.length : Int) := by omega
      have hb := l[k].toNat_lt
      by_cases hu : 65 ≤ l[k].toNat ∧ l[k].toNat ≤ 90
      · have hs := sm_up hu
        have Hs := Lib.hid (show Value.int .u8 (((l[k].toNat : Nat) : Int) + 32) = byv (sm l[k]) by unfold byv; rw [hs]; rfl)
        have i2 : (65 : Int) ≤ ((l[k].toNat : Nat) : Int) := by omega
        have i3 : ((l[k].toNat : Nat) : Int) ≤ 90 := by omega
        clear hu hs
        go_wp2_with (at_builtin; refine wpList_appLit rfl _ _ _ rfl elt_bytes (n := k) rfl h3 [.int .u8 (((l[k].toNat : Nat) : Int) + 32)] (m := 1) rfl rfl (by simp [Value.oneCell']) hsz (by omega) (by omega) ?_; intro v1 w1 ho1 hb1 hg1)
        have R := RlRel.next hlt Hs.out ho1 h4 hb1
        clear ho1 hb1 hg1
        go_roundw
        case rel => exact ⟨k + 1, by omega, by go_num, R⟩
        case measure => simp [intOf]; omega
      · have Hs := Lib.hid (show Value.int .u8 ((l[k].toNat : Nat) : Int) = byv (sm l[k]) by unfold byv; rw [sm_id hu])
        by_cases h65 : 65 ≤ l[k].toNat
        · have i2 : (65 : Int) ≤ ((l[k].toNat : Nat) : Int) := by omega
          have i3 : ¬ ((l[k].toNat : Nat) : Int) ≤ 90 := by omega
          clear hu h65
          go_wp2_with (at_builtin; refine wpList_appLit rfl _ _ _ rfl elt_bytes (n := k) rfl h3 [.int .u8 ((l[k].toNat : Nat) : Int)] (m := 1) rfl rfl (by simp [Value.oneCell']) hsz (by omega) (by omega) ?_; intro v1 w1 ho1 hb1 hg1)
          have R := RlRel.next hlt Hs.out ho1 h4 hb1
          clear ho1 hb1 hg1
          go_roundw
          case rel => exact ⟨k + 1, by omega, by go_num, R⟩
          case measure => simp [intOf]; omega
        · have i2 : ¬ (65 : Int) ≤ ((l[k].toNat : Nat) : Int) := by omega
          clear hu h65
          go_wp2_with (at_builtin; refine wpList_appLit rfl _ _ _ rfl elt_bytes (n := k) rfl h3 [.int .u8 ((l[k].toNat : Nat) : Int)] (m := 1) rfl rfl (by simp [Value.oneCell']) hsz (by omega) (by omega) ?_; intro v1 w1 ho1 hb1 hg1)
          have R := RlRel.next hlt Hs.out ho1 h4 hb1
          clear ho1 hb1 hg1
          go_roundw
          case rel => exact ⟨k + 1, by omega, by go_num, R⟩
          case measure => simp [intOf]; omega
    · have i1 : ¬ (k : Int) < (l.length : Int) := by omega
      obtain rfl : k = l.length := by omega
      have hown := Sl.own h3
      rw [low_all] at hown
      have hown' : Sl wr 1 u3 (low l).length ((low l).map byv) := by rw [low_len]; exact hown
      have hcv := str_run hown'
      clear hown hown'
      go_wp2
      go_ret
      exact ⟨rfl, h4⟩

set_option maxHeartbeats 400000 in
theorem rsame_any (a b : List UInt8) (w : World) (ha : a.length ≤ 1000000000) (hb : b.length ≤ 1000000000) :
    Calls Try.prog 52 #[.string ⟨a.toArray⟩, .string ⟨b.toArray⟩] w fun e w' => e = .returned (.bool (decide (low a = low b))) ∧ Below w.heap.size w w' := by
  go_enter Try.func52, Try.ntmps52
  go_wp2_with fail
  refine (rlower_any _ _ ha).mono ?_
  rintro e w1 ⟨rfl, hb1⟩
  go_wp2_with fail
  refine (rlower_any _ _ hb).mono ?_
  rintro e w2 ⟨rfl, hb2⟩
  go_wp2
  go_ret
  refine ⟨retb ?_, bel_tr hb1 hb2⟩
  by_cases h : low a = low b <;> simp [h]

def lows (A : List (List UInt8)) : List (List UInt8) := A.map low
theorem lows_len (A : List (List UInt8)) : (lows A).length = A.length := by simp [lows]
def RdRel (w : World) (A : List (List UInt8)) (k : Nat) (v : Value) (wr : World) : Prop :=
  wr.ownsRow w.heap.size 9 1 v k ((lows (A.take k)).map stv) ∧ Below w.heap.size w wr
theorem RdRel.next {w w0 w1 : World} {A : List (List UInt8)} {k : Nat} {v1 : Value} (hk : k < A.length) (h : w1.ownsRow w.heap.size 9 1 v1 (k + 1) ((lows (A.take k)).map stv ++ [stv (low A[k])])) (h0 : Below w.heap.size w w0) (h1 : Below w.heap.size w0 w1) : RdRel w A (k + 1) v1 w1 := by
  refine ⟨?_, h0.trans h1⟩
  unfold lows at h ⊢
  rw [List.take_succ_eq_append_getElem hk, List.map_append, List.map_append]
  exact h
set_option maxRecDepth 100000 in
set_option maxHeartbeats 800000 in
theorem rdlower_any (A : List (List UInt8)) (v : Value) (w : World) (ha : Sl w 1 v A.length (A.map stv)) (hn : A.length ≤ 1000000000) (hll : ∀ l ∈ A, l.length ≤ 1000000000) :
    Calls Try.prog 63 #[v] w (TextsPost w (lows A)) := by
  rcases Nat.eq_zero_or_pos A.length with h0 | hpos
  · have hA : A = [] := List.eq_nil_of_length_eq_zero h0
    subst hA
    obtain ⟨a1, c1, rfl, _⟩ := ha.zero
    clear ha hll
    go_enter Try.func63, Try.ntmps63
    go_wp2
    refine wp_loop_rounds 1 ?_
    rw [rounds_succ]; go_wp2
    go_ret
    exact ⟨_, rfl, Sl.nil _ _, Below.refl _ _⟩
  · obtain ⟨b1, o1, c1, rfl, hc1, hb1, hcA⟩ := ha.pos hpos
    have HcA := Lib.hid hcA
    have Hll := Lib.hid hll
    clear hcA ha hll
    go_enter Try.func63, Try.ntmps63
    go_wp2
    go_loopw [3, 4] (fun v i wr => ∃ k : Nat, k ≤ A.length ∧ i = .int .i64 k ∧ RdRel w A k v wr) (fun _ i _ => A.length - (intOf i).toNat)
    case atStart => exact ⟨0, Nat.zero_le _, rfl, World.ownsRow_nil _ _ _ _, Below.refl _ _⟩
    case round =>
      obtain ⟨k, hk, rfl, h3, h4⟩ := hrel
      have hsz := h4.size
      by_cases hlt : k < A.length
      · have i1 : (k : Int) < (A.length : Int) := by omega
        have q1 : wr.cell? ⟨b1, o1 + k, none⟩ = some (.string ⟨A[k].toArray⟩) := (bel_cells h4 hb1 (o1 + k)).trans (sl_at HcA.out hlt)
        have hlk := Hll.out A[k] (List.getElem_mem _)
        go_wp2_with fail
        refine (rlower_any _ _ hlk).mono ?_
        rintro e w0 ⟨rfl, hb0⟩
        have h3' := own_below h3 hb0
        have h4' := h4.trans (hb0.mono hsz)
        have hsz' := h4'.size
        clear h3
        go_wp2_with (at_builtin; refine wpList_appLit rfl _ _ _ rfl elt_strs (n := k) rfl h3' [stv (low A[k])] (m := 1) rfl rfl (by simp [Value.oneCell', stv]) hsz' (by omega) (by omega) ?_; intro v1 w1 ho1 hbw1 hg1)
        have R := RdRel.next hlt ho1 h4' hbw1
        clear ho1 hbw1 hg1
        go_roundw
        case rel => exact ⟨k + 1, by omega, by go_num, R⟩
        case measure => simp [intOf]; omega
      · have i1 : ¬ (k : Int) < (A.length : Int) := by omega
        obtain rfl : k = A.length := by omega
        go_wp2
        go_ret
        refine ⟨_, rfl, ?_, h4⟩
        have := Sl.own h3
        rw [List.take_length] at this
        rw [lows_len]
        exact this

set_option maxHeartbeats 400000 in
theorem rdsame_any (A B : List (List UInt8)) (va vb : Value) (w : World) (ha : Sl w 1 va A.length (A.map stv)) (hb : Sl w 1 vb B.length (B.map stv)) (hA : A.length ≤ 1000000000) (hB : B.length ≤ 1000000000) (hlA : ∀ l ∈ A, l.length ≤ 1000000000) (hlB : ∀ l ∈ B, l.length ≤ 1000000000) :
    Calls Try.prog 45 #[va, vb] w fun e w' => e = .returned (.bool (decide (lows A = lows B))) ∧ Below w.heap.size w w' := by
  go_enter Try.func45, Try.ntmps45
  go_wp2_with fail
  refine (rdlower_any _ _ _ ha hA hlA).mono ?_
  rintro e w1 ⟨v1, rfl, hs1, hb1⟩
  go_wp2_with fail
  refine (rdlower_any _ _ _ (hb.below hb1) hB hlB).mono ?_
  rintro e w2 ⟨v2, rfl, hs2, hb2⟩
  go_wp2_with fail
  refine (exact_any _ _ _ _ _ (hs1.below hb2) hs2 (by rw [lows_len]; exact hA)).mono ?_
  rintro e w3 ⟨rfl, hb3⟩
  go_wp2
  go_ret
  exact ⟨rfl, bel_tr (bel_tr hb1 hb2) hb3⟩

set_option maxRecDepth 100000 in
set_option maxHeartbeats 800000 in
theorem dsame_any (A B : List (List UInt8)) (va vb : Value) (w : World) (ha : Sl w 1 va A.length (A.map stv)) (hb : Sl w 1 vb B.length (B.map stv)) (hl : A.length ≤ 1000000000) (hlA : ∀ l ∈ A, l.length ≤ 1000000000) :
    Calls Try.prog 44 #[va, vb] w fun e w' => e = .returned (.bool (decide (lows A = lows B))) ∧ Below w.heap.size w w' := by
  by_cases hn : A.length = B.length
  · rcases Nat.eq_zero_or_pos A.length with h0 | hpos
    · have hA : A = [] := List.eq_nil_of_length_eq_zero h0
      have hB : B = [] := List.eq_nil_of_length_eq_zero (by omega)
      subst hA hB
      obtain ⟨a1, c1, rfl, _⟩ := ha.zero
      obtain ⟨a2, c2, rfl, _⟩ := hb.zero
      clear ha hb hlA
      go_enter Try.func44, Try.ntmps44
      go_wp2
      refine wp_loop_rounds 1 ?_
      rw [rounds_succ]; go_wp2
      go_ret
      exact ⟨rfl, Below.refl _ _⟩
    · obtain ⟨b1, o1, c1, rfl, hc1, hbb1, hcA⟩ := ha.pos hpos
      obtain ⟨b2, o2, c2, rfl, hc2, hbb2, hcB⟩ := hb.pos (by omega)
      have hne : ((A.length : Int) != (B.length : Int)) = false := by simp; omega
      have HcA := Lib.hid hcA
      have HcB := Lib.hid hcB
      have HlA := Lib.hid hlA
      clear hcA hcB ha hb hlA
      have Hn := Lib.hid hn
      have hn1 : A.length ≤ B.length := by omega
      have hn2 : B.length ≤ A.length := by omega
      clear hn
      go_enter Try.func44, Try.ntmps44
      go_wp2
      go_loopw [14] (fun i wr => ∃ k : Nat, k ≤ A.length ∧ i = .int .i64 k ∧ lows (A.take k) = lows (B.take k) ∧ Below w.heap.size w wr) (fun i _ => A.length - (intOf i).toNat)
      case atStart => exact ⟨0, Nat.zero_le _, rfl, rfl, Below.refl _ _⟩
      case round =>
        obtain ⟨k, hk, rfl, ht, hbw⟩ := hrel
        have Ht := Lib.hid ht
        clear ht
        by_cases hlt : k < A.length
        · have hltb : k < B.length := by omega
          have q1 : wr.cell? ⟨b1, o1 + k, none⟩ = some (.string ⟨A[k].toArray⟩) := (bel_cells hbw hbb1 (o1 + k)).trans (sl_at HcA.out hlt)
          have q2 : wr.cell? ⟨b2, o2 + k, none⟩ = some (.string ⟨B[k].toArray⟩) := (bel_cells hbw hbb2 (o2 + k)).trans (sl_at HcB.out hltb)
          have i1 : (k : Int) < (A.length : Int) := by omega
          have i2 : (k : Int) < (B.length : Int) := by omega
          have hlk := HlA.out A[k] (List.getElem_mem _)
          by_cases he : low A[k] = low B[k]
          · have He := Lib.hid he
            clear he
            go_wp2_with fail
            refine (asame_any _ _ _ (by omega)).mono ?_
            rintro e w1 ⟨rfl, hb1⟩
            rw [show decide (low A[k] = low B[k]) = true by simp [He.out]]
            go_wp2_with fail
            go_roundw
            case rel =>
              refine ⟨k + 1, by omega, by go_num, ?_, hbw.trans (hb1.mono hbw.size)⟩
              have := Ht.out
              unfold lows at this ⊢
              rw [List.take_succ_eq_append_getElem hlt, List.take_succ_eq_append_getElem hltb, List.map_append, List.map_append, this]
              simp [He.out]
            case measure => simp [intOf]; omega
          · have He := Lib.hid he
            clear he
            go_wp2_with fail
            refine (asame_any _ _ _ (by omega)).mono ?_
            rintro e w1 ⟨rfl, hb1⟩
            rw [show decide (low A[k] = low B[k]) = false by simpa using He.out]
            go_wp2_with fail
            go_ret
            refine ⟨retb ?_, hbw.trans (hb1.mono hbw.size)⟩
            simp only [Bool.false_eq, decide_eq_false_iff_not]
            intro h
            have h2 : (lows A)[k]? = (lows B)[k]? := by rw [h]
            unfold lows at h2
            simp [hlt, hltb] at h2
            exact He.out h2
        · obtain rfl : k = A.length := by omega
          have i1 : ¬ ((A.length : Nat) : Int) < (A.length : Int) := by omega
          go_wp2
          go_ret
          refine ⟨retb ?_, hbw⟩
          simp only [Bool.true_eq, decide_eq_true_eq]
          have := Ht.out
          rwa [List.take_of_length_le (Nat.le_refl _), List.take_of_length_le (by omega)] at this
  · obtain ⟨a1, c1, rfl, _⟩ := ha.any
    obtain ⟨a2, c2, rfl, _⟩ := hb.any
    have hne : ((A.length : Int) != (B.length : Int)) = true := by simp; omega
    clear ha hb hlA
    go_enter Try.func44, Try.ntmps44
    go_wp2
    go_ret
    refine ⟨retb ?_, Below.refl _ _⟩
    simp only [Bool.false_eq, decide_eq_false_iff_not]
    intro h
    have := congrArg List.length h
    rw [lows_len, lows_len] at this
    exact hn this
end Go.Proofs.Ytfkmjncchicmpaa
