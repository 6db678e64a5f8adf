/- The contracts of ascii.Join and works. -/
import Derived.Test.YtfkmjncchicmpaaDoorAscB
import Derived.Test.YtfkmjncchicmpaaDoorNum
import Derived.Test.YtfkmjncchicmpaaDoorShelf
namespace Go.Proofs.YtfkmjncchicmpaaDoor
open Go.RowKit
attribute [local go_sem] ba_get ext_take ext_drop ext_any

/-- texts with one between. -/
def joi (by_ : List UInt8) (A : List (List UInt8)) : List UInt8 := Lib.join A by_
def StrPost' (w : World) (l : List UInt8) (e : Ending) (w' : World) : Prop := e = .returned (.string ⟨l.toArray⟩) ∧ Below w.heap.size w w'
theorem map_ba (A : List (List UInt8)) : (A.map (fun l => (⟨l.toArray⟩ : ByteArray))).map (·.data.toList) = A := by
  induction A with
  | nil => rfl
  | cons a A ih => rw [List.map_cons, List.map_cons, ih]
set_option maxHeartbeats 400000 in
theorem join_any (b : List UInt8) (A : List (List UInt8)) (v : Value) (w : World) (ha : Sl w 1 v A.length (A.map stv)) (hn : A.length ≤ 1000000000) (hj : (joi b A).length ≤ 1000000000) :
    Calls Tryd.prog 13 #[.string ⟨b.toArray⟩, v] w (StrPost' w (joi b A)) := by
  rcases Nat.eq_zero_or_pos A.length with h0 | hpos
  · have hA : A = [] := List.eq_nil_of_length_eq_zero h0
    subst hA
    obtain ⟨a1, c1, rfl, _⟩ := ha.zero
    clear ha
    go_enter Tryd.func13, Tryd.ntmps13
    go_wp2_with fail
    refine (Tryd.strings_Join_none _ _ _ _).mono ?_
    rintro e w' ⟨rfl, rfl⟩
    go_wp2_with fail
    go_ret
    exact ⟨rfl, Below.refl _ _⟩
  · obtain ⟨b1, o1, c1, rfl, hc1, hb1, hcA⟩ := ha.pos hpos
    have hjj : (Lib.join ((A.map (fun l => (⟨l.toArray⟩ : ByteArray))).map (·.data.toList)) b.toArray.toList).length ≤ 140737488355328 := by rw [map_ba]; unfold joi at hj; simp at hj ⊢; omega
    have hco : ∀ (j : Nat) x, (A.map (fun l => (⟨l.toArray⟩ : ByteArray)))[j]? = some x → w.cell? ⟨b1, o1 + j, none⟩ = some (.string x) := by
      intro j x hx
      refine hcA j _ ?_
      rw [List.getElem?_map, Option.map_eq_some_iff] at hx
      obtain ⟨y, hy, rfl⟩ := hx
      rw [List.getElem?_map, hy]
      rfl
    have hJ := Tryd.strings_Join b1 o1 c1 (A.map (fun l => (⟨l.toArray⟩ : ByteArray))) ⟨b.toArray⟩ w hco hb1 (by simp; omega) (by simpa using hc1) hjj
    rw [map_ba, List.length_map] at hJ
    have HJ := Lib.hid hJ
    clear hJ hco hjj hcA ha
    go_enter Tryd.func13, Tryd.ntmps13
    go_wp2_with fail
    refine HJ.out.mono ?_
    rintro e w1 ⟨rfl, hb1⟩
    go_wp2_with fail
    go_ret
    exact ⟨rfl, hb1⟩

set_option maxRecDepth 100000 in
set_option maxHeartbeats 1000000 in
theorem works01_any (w : World) : Calls Tryd.prog 4 #[] w (Good w) := by
  go_enter Tryd.func4, Tryd.ntmps4
  go_wp2_with fail
  refine (number_any [48, 48, 55] 9 _ (by simp) (by omega) (by omega)).mono ?_
  rintro e w' ⟨rfl, rfl⟩
  rw [show numV [48, 48, 55] 9 = .tuple #[.int .i64 7, .int .i64 0] from by kernel_rfl]
  go_wp2_with fail
  refine (hex_any 70 _ (by omega) (by omega)).mono ?_
  rintro e w' ⟨rfl, rfl⟩
  rw [show hexV (hex 70) = .tuple #[.int .i64 15, .bool true] from by kernel_rfl]
  go_wp2_with fail
  refine (fields_any [9, 97, 98, 32, 32, 99] _ (by simp)).mono ?_
  rw [show flds [9, 97, 98, 32, 32, 99] = [[97, 98], [99]] by decide +kernel]
  rintro e w1 ⟨v1, rfl, hs1, hb1⟩
  obtain ⟨A1, c1, hv1, _⟩ := hs1.any
  subst hv1
  have Hs1 := Lib.hid hs1
  clear hs1
  go_wp2_with fail
  refine (sametexts_any [[97, 98], [99]] [[97, 98], [99]] _ _ _ (Hs1.out.alloc _) (Sl.new w1 [stv [97, 98], stv [99]] 9) (by simp)).mono ?_
  rintro e w2 ⟨rfl, hb2⟩
  have hb2' : Below w1.heap.size w1 w2 := ((Below.refl _ _).alloc (Nat.le_refl _) _).trans (hb2.mono (by simp))
  clear hb2
  go_wp2_with fail
  refine (asame_any [97, 66] [65, 98] _ (by simp)).mono ?_
  rintro e w3 ⟨rfl, hb3⟩
  rw [show decide (low [97, 66] = low [65, 98]) = true by decide +kernel]
  go_wp2_with fail
  refine (join_any [45] [[97], [98]] _ _ (Sl.new w3 [stv [97], stv [98]] 9) (by simp) (by decide +kernel)).mono ?_
  rintro e w4 ⟨rfl, hb4⟩
  have hb4' : Below w3.heap.size w3 w4 := ((Below.refl _ _).alloc (Nat.le_refl _) _).trans (hb4.mono (by simp))
  clear hb4
  rw [show joi [45] [[97], [98]] = [97, 45, 98] by decide +kernel]
  go_wp2
  go_ret
  exact ⟨rfl, bel_tr (bel_tr (bel_tr hb1 hb2') hb3) hb4'⟩
end Go.Proofs.YtfkmjncchicmpaaDoor
