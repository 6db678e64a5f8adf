/- The contracts of utf.Text and the reference's Text. -/
import Derived.Test.YtnelaegjcpkmdaaUtfG
import Derived.Test.YtnelaegjcpkmdaaUtfF
namespace Go.Proofs.Ytnelaegjcpkmdaa
open Go.RowKit
attribute [local go_sem] ba_get

def txt (A : List Int) : Option (List UInt8) := if A.all ptB then some (A.flatMap enc) else none
def txtV : Option (List UInt8) → Value
  | none => .tuple #[.string ⟨([] : List UInt8).toArray⟩, .int .i64 4]
  | some l => .tuple #[.string ⟨l.toArray⟩, .int .i64 0]
def TxtPost (w : World) (o : Option (List UInt8)) (e : Ending) (w' : World) : Prop := e = .returned (txtV o) ∧ Below w.heap.size w w'
def encs (A : List Int) (j : Nat) : List UInt8 := (A.take j).flatMap enc
theorem encs_succ {A : List Int} {j : Nat} (hj : j < A.length) : encs A (j + 1) = encs A j ++ enc A[j] := by
  unfold encs
  rw [List.take_succ_eq_append_getElem hj, List.flatMap_append, List.flatMap_singleton]
theorem encs_all (A : List Int) : encs A A.length = A.flatMap enc := by unfold encs; rw [List.take_length]
def TxtRel (w : World) (A : List Int) (j : Nat) (v : Value) (wr : World) : Prop :=
  (A.take j).all ptB = true ∧ (encs A j).length ≤ 4 * j ∧ wr.ownsRow w.heap.size 5 1 v (encs A j).length ((encs A j).map byv) ∧ Below w.heap.size w wr
theorem enc_len (c : Int) : (enc c).length ≤ 4 := by
  unfold enc
  by_cases h1 : c < 128
  · rw [if_pos h1]; simp
  · by_cases h2 : c < 2048
    · rw [if_neg h1, if_pos h2]; simp
    · by_cases h3 : c < 65536
      · rw [if_neg h1, if_neg h2, if_pos h3]; simp
      · rw [if_neg h1, if_neg h2, if_neg h3]; simp
theorem TxtRel.next {w w1 : World} {A : List Int} {j : Nat} {v1 : Value} (hj : j < A.length) (hp : ptB A[j] = true) (h1 : (A.take j).all ptB = true) (h2 : (encs A j).length ≤ 4 * j)
    (h3 : w1.ownsRow w.heap.size 5 1 v1 ((encs A j).length + ((enc A[j]).map byv).length) ((encs A j).map byv ++ (enc A[j]).map byv)) (h4 : Below w.heap.size w w1) : TxtRel w A (j + 1) v1 w1 := by
  have := enc_len A[j]
  unfold TxtRel
  rw [encs_succ hj]
  refine ⟨?_, by rw [List.length_append]; omega, ?_, h4⟩
  · rw [List.take_succ_eq_append_getElem hj, List.all_append, h1]
    simp [hp]
  · rw [List.length_append, List.map_append]
    rwa [List.length_map] at h3
theorem TxtRel.bad {w wr : World} {A : List Int} {j : Nat} (hj : j < A.length) (hp : ptB A[j] = false) (h4 : Below w.heap.size w wr) : TxtPost w (txt A) (.returned (.tuple #[.string ⟨([] : List UInt8).toArray⟩, .int .i64 4])) wr := by
  have : txt A = none := by
    unfold txt
    rw [if_neg]
    intro h
    rw [List.all_eq_true] at h
    have := h A[j] (List.getElem_mem _)
    rw [hp] at this
    cases this
  rw [this]
  exact ⟨rfl, h4⟩
theorem TxtRel.done {w wr : World} {A : List Int} {v : Value} (h : TxtRel w A A.length v wr) : txt A = some (A.flatMap enc) ∧ Sl wr 1 v (A.flatMap enc).length ((A.flatMap enc).map byv) ∧ Below w.heap.size w wr := by
  obtain ⟨h1, _, h3, h4⟩ := h
  rw [List.take_length] at h1
  rw [encs_all] at h3
  refine ⟨by unfold txt; rw [if_pos h1], Sl.own h3, h4⟩
theorem TxtRel.fin {w wr : World} {A : List Int} (h : txt A = some (A.flatMap enc)) (h4 : Below w.heap.size w wr) : TxtPost w (txt A) (.returned (.tuple #[.string ⟨(A.flatMap enc).toArray⟩, .int .i64 0])) wr := by
  rw [h]; exact ⟨rfl, h4⟩

set_option maxRecDepth 100000 in
set_option maxHeartbeats 800000 in
theorem text_any (A : List Int) (va : Value) (w : World) (ha : Sl w 1 va A.length (A.map (Value.int .i32))) (hr : ∀ x ∈ A, -2147483648 ≤ x ∧ x ≤ 2147483647) (hl : A.length ≤ 100000000) :
    Calls Try.prog 79 #[va] w (TxtPost w (txt A)) := by
  rcases Nat.eq_zero_or_pos A.length with h0 | hpos
  · have hA : A = [] := List.eq_nil_of_length_eq_zero h0
    subst hA
    obtain ⟨a1, c1, rfl, _⟩ := ha.zero
    clear ha hr
    have hk : ∀ W, (Instr.makeSlice 62 (.int .i64 0) (.int .i64 0)).run Try.prog W = .ok (.slice (some ⟨W.heap.size, 0, none⟩) 0 0) (W.alloc (.cells #[] 5)) := fun _ => by kernel_rfl
    go_enter Try.func79, Try.ntmps79
    go_wp2
    refine wp_loop_rounds 1 ?_
    have hcv : (convert 62 9 (.slice (some ⟨w.heap.size, 0, none⟩) 0 0)).run Try.prog (w.alloc (.cells #[] 5)) = .ok (.string ⟨#[]⟩) (w.alloc (.cells #[] 5)) := str_of_sl (l := []) Try.underlying62 Try.underlying5 Try.underlying9 (Sl.new w [] 5)
    rw [rounds_succ]; go_wp2
    go_ret2
    exact ⟨rfl, (Below.refl _ _).alloc (Nat.le_refl _) _⟩
  · obtain ⟨b1, o1, c1, rfl, hc1, hb1, hcA⟩ := ha.pos hpos
    have HcA := Lib.hid hcA
    have Hr := Lib.hid hr
    clear hcA ha hr
    go_enter Try.func79, Try.ntmps79
    go_wp2_with (at_make; refine wpList_mk0 rfl _ _ _ rfl elt_bytes (base := w.heap.size) A.length rfl rfl rfl (by omega) (by omega) (Nat.le_refl _) ?_; intro w0 ho0 hbw0)
    go_loopw [4, 12] (fun v i wr => ∃ k : Nat, k ≤ A.length ∧ i = .int .i64 k ∧ TxtRel w A k v wr) (fun _ i _ => A.length - (intOf i).toNat)
    case atStart => exact ⟨0, Nat.zero_le _, rfl, rfl, Nat.le_refl _, ho0, hbw0⟩
    case round =>
      clear ho0
      obtain ⟨k, hk, rfl, hrel⟩ := hrel
      by_cases hlt : k < A.length
      · obtain ⟨h1, h2, h3, h4⟩ := hrel
        have H1 := Lib.hid h1
        clear h1
        have hsz := h4.size
        have q1 := (bel_cells h4 hb1 (o1 + k)).trans (sl_cell HcA.out hlt)
        have hb := Hr.out A[k] (List.getElem_mem _)
        have hb1 := hb.1
        have hb2 := hb.2
        clear hb
        have i1 : (k : Int) < (A.length : Int) := by omega
        rcases hp : ptB A[k]
        · have Hp := Lib.hid hp
          clear hp
          go_wp2_with fail
          refine (point_any _ _ (by omega) (by omega)).mono ?_
          rintro e w' ⟨rfl, rfl⟩
          rw [Hp.out]
          go_wp2
          go_ret2
          exact TxtRel.bad hlt Hp.out h4
        · have hpb := ptB_bd hp
          have Hp := Lib.hid hp
          clear hp
          go_wp2_with fail
          refine (point_any _ _ (by omega) (by omega)).mono ?_
          rintro e w' ⟨rfl, rfl⟩
          rw [Hp.out]
          go_wp2_with fail
          refine (add_any _ _ _ _ _ _ (by omega) (by omega) hsz (by omega) h3).mono ?_
          rintro e w1 ⟨v1, rfl, ho1, hbw1⟩
          have R := TxtRel.next hlt Hp.out H1.out h2 ho1 (h4.trans hbw1)
          clear ho1
          go_wp2
          go_roundw
          case rel => exact ⟨k + 1, by omega, by go_num, R⟩
          case measure => simp [intOf]; omega
      · obtain rfl : k = A.length := by omega
        obtain ⟨hd1, hd2, hd3⟩ := hrel.done
        have Hd1 := Lib.hid hd1
        have hcv := str_of_sl Try.underlying62 Try.underlying5 Try.underlying9 hd2
        clear hd1 hd2 hrel
        go_wp2
        go_ret2
        exact TxtRel.fin Hd1.out hd3

set_option maxRecDepth 100000 in
set_option maxHeartbeats 800000 in
theorem rtext_any (A : List Int) (va : Value) (w : World) (ha : Sl w 1 va A.length (A.map (Value.int .i64))) (hl : A.length ≤ 100000000) :
    Calls Try.prog 80 #[va] w (TxtPost w (txt A)) := by
  rcases Nat.eq_zero_or_pos A.length with h0 | hpos
  · have hA : A = [] := List.eq_nil_of_length_eq_zero h0
    subst hA
    obtain ⟨a1, c1, rfl, _⟩ := ha.zero
    clear ha
    go_enter Try.func80, Try.ntmps80
    go_wp2
    refine wp_loop_rounds 1 ?_
    have hcv : (convert 62 9 (.slice none 0 0)).run Try.prog w = .ok (.string ⟨#[]⟩) w := str_of_sl (l := []) Try.underlying62 Try.underlying5 Try.underlying9 (Sl.nil w 1)
    rw [rounds_succ]; go_wp2
    go_ret2
    exact ⟨rfl, Below.refl _ _⟩
  · obtain ⟨b1, o1, c1, rfl, hc1, hb1, hcA⟩ := ha.pos hpos
    have HcA := Lib.hid hcA
    clear hcA ha
    go_enter Try.func80, Try.ntmps80
    go_wp2
    go_loopw [4, 5] (fun v i wr => ∃ k : Nat, k ≤ A.length ∧ i = .int .i64 k ∧ TxtRel w A k v wr) (fun _ i _ => A.length - (intOf i).toNat)
    case atStart => exact ⟨0, Nat.zero_le _, rfl, rfl, Nat.le_refl _, World.ownsRow_nil _ _ _ _, Below.refl _ _⟩
    case round =>
      obtain ⟨k, hk, rfl, hrel⟩ := hrel
      by_cases hlt : k < A.length
      · obtain ⟨h1, h2, h3, h4⟩ := hrel
        have H1 := Lib.hid h1
        clear h1
        have hsz := h4.size
        have q1 := (bel_cells h4 hb1 (o1 + k)).trans (sl_cell HcA.out hlt)
        have i1 : (k : Int) < (A.length : Int) := by omega
        rcases hp : ptB A[k]
        · have Hp := Lib.hid hp
          clear hp
          go_wp2_with fail
          refine (refpoint_any _ _).mono ?_
          rintro e w' ⟨rfl, rfl⟩
          rw [Hp.out]
          go_wp2
          go_ret2
          exact TxtRel.bad hlt Hp.out h4
        · have hpb := ptB_bd hp
          have Hp := Lib.hid hp
          clear hp
          go_wp2_with fail
          refine (refpoint_any _ _).mono ?_
          rintro e w' ⟨rfl, rfl⟩
          rw [Hp.out]
          go_wp2_with fail
          refine (bytes_any _ _ (by omega) (by omega)).mono ?_
          rintro e w1 ⟨v1, rfl, hsl, hbw1⟩
          have h3' := own_below h3 hbw1
          have h4' := h4.trans (hbw1.mono hsz)
          have hsz' := h4'.size
          have hel := enc_len A[k]
          clear h3
          go_wp2_with (at_builtin; refine wpList_app rfl _ _ _ rfl elt_bytes rfl h3' rfl hsl (byv_one _) hsz' (by omega) (by omega) ?_; intro v2 w2 ho2 hbw2 hg2)
          have R := TxtRel.next hlt Hp.out H1.out h2 (by simpa using ho2) (h4'.trans hbw2)
          clear ho2 h3' hsl
          go_roundw
          case rel => exact ⟨k + 1, by omega, by go_num, R⟩
          case measure => simp [intOf]; omega
      · obtain rfl : k = A.length := by omega
        obtain ⟨hd1, hd2, hd3⟩ := hrel.done
        have Hd1 := Lib.hid hd1
        have hcv := str_of_sl Try.underlying62 Try.underlying5 Try.underlying9 hd2
        clear hd1 hd2 hrel
        go_wp2
        go_ret2
        exact TxtRel.fin Hd1.out hd3
end Go.Proofs.Ytnelaegjcpkmdaa
