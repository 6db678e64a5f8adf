/- The contracts of Under and Cat, and the walk of DomainHolds. -/
import Derived.Test.YtnelaegjcpkmdaaDomJ
namespace Go.Proofs.Ytnelaegjcpkmdaa
open Go.RowKit
attribute [local go_sem] ba_get ext_take ext_drop

theorem Sl.len1 {w : World} {v : Value} {n : Nat} {α : Type} {f : α → Value} {A : List α} (h : Sl w 1 v n (A.map f)) : n = A.length := by
  have := h.1
  simp at this
  omega
theorem Sl.cut {w : World} {a : Option Addr} {n c k : Nat} {xs : List Value} (h : Sl w 1 (.slice a n c) n xs) (hk : k ≤ n) : Sl w 1 (.slice (if c = k then a else a.map (·.add k)) (n - k) (c - k)) (n - k) (xs.drop k) := by
  obtain ⟨h0, A, c', hv, hc, hA, hcell⟩ := h
  injection hv with e1 _ e2
  subst e1 e2
  refine ⟨by rw [List.length_drop, h0]; omega, _, _, rfl, by omega, ?_, ?_⟩
  · intro hn
    by_cases hck : c = k
    · omega
    · rw [if_neg hck, Option.map_eq_none_iff] at hn
      have := hA hn
      omega
  · intro ad had hpos
    have hck : ¬ c = k := by omega
    rw [if_neg hck] at had
    obtain ⟨a0, ha0, rfl⟩ := Option.map_eq_some_iff.1 had
    obtain ⟨g1, g2, g3⟩ := hcell a0 ha0 (by omega)
    obtain ⟨b, off, sp⟩ := a0
    dsimp only at g1 g2 g3
    subst g2
    rw [add_none]
    refine ⟨g1, rfl, fun j u hu => ?_⟩
    rw [List.getElem?_drop] at hu
    have := g3 _ _ hu
    dsimp only
    rwa [Nat.add_assoc]

theorem Sl.cut0 {w : World} {a : Option Addr} {n k : Nat} {α : Type} {f : α → Value} {A : List α} (h : Sl w 1 (.slice a n k) n (A.map f)) (hk : k ≤ n) : Sl w 1 (.slice a (n - k) 0) (n - k) ((A.drop k).map f) := by
  have := h.cut hk
  rw [if_pos rfl, Nat.sub_self] at this
  rw [List.map_drop]
  exact this
theorem Sl.cut1 {w : World} {a : Option Addr} {n c k : Nat} {α : Type} {f : α → Value} {A : List α} (h : Sl w 1 (.slice a n c) n (A.map f)) (hk : k ≤ n) (hck : ¬ c = k) : Sl w 1 (.slice (a.map (·.add k)) (n - k) (c - k)) (n - k) ((A.drop k).map f) := by
  have := h.cut hk
  rw [if_neg hck] at this
  rw [List.map_drop]
  exact this

theorem Sl.empty {w : World} {X : Option Addr} {c : Nat} {α : Type} {f : α → Value} (h : X = none → c = 0) : Sl w 1 (.slice X 0 c) 0 (([] : List α).map f) :=
  ⟨by simp, X, c, rfl, Nat.zero_le _, h, fun _ _ h => absurd h (by omega)⟩

def undB (A B : List (List UInt8)) : Bool := decide (B.length ≤ A.length) && decide (lows (A.drop (A.length - B.length)) = lows B)

/-- both together: the labels, of an error none; and the error. -/
def CatPost (w : World) (A B : List (List UInt8)) (e : Ending) (w' : World) : Prop :=
  ∃ v, e = .returned (.tuple #[v, .int .i64 (chk (A ++ B))]) ∧ (∃ C : List (List UInt8), C = (if chk (A ++ B) = 0 then A ++ B else []) ∧ Sl w' 1 v C.length (C.map stv)) ∧ Below w.heap.size w w'
theorem CatPost.ok {w w' : World} {A B : List (List UInt8)} {v : Value} (h : chk (A ++ B) = 0) (hs : Sl w' 1 v (A ++ B).length ((A ++ B).map stv)) (hb : Below w.heap.size w w') : CatPost w A B (.returned (.tuple #[v, .int .i64 0])) w' :=
  ⟨v, by rw [h], ⟨_, rfl, by rw [if_pos h]; exact hs⟩, hb⟩
theorem CatPost.no {w w' : World} {A B : List (List UInt8)} (h : chk (A ++ B) ≠ 0) (hb : Below w.heap.size w w') : CatPost w A B (.returned (.tuple #[.slice none 0 0, .int .i64 (chk (A ++ B))])) w' :=
  ⟨_, rfl, ⟨_, rfl, by rw [if_neg h]; exact Sl.nil _ _⟩, hb⟩

set_option maxRecDepth 100000 in
set_option maxHeartbeats 800000 in
theorem cat_any (A B : List (List UInt8)) (va vb : Value) (w : World) (ha : Sl w 1 va A.length (A.map stv)) (hb : Sl w 1 vb B.length (B.map stv)) (hA : A.length ≤ 100000000) (hB : B.length ≤ 100000000) (hl : ∀ l ∈ A ++ B, l.length ≤ 140737488351232) :
    Calls Try.prog 66 #[va, vb] w (CatPost w A B) := by
  obtain ⟨a1, c1, hv1, hc1⟩ := ha.any
  subst hv1
  obtain ⟨a2, c2, hv2, hc2⟩ := hb.any
  subst hv2
  have Ha := Lib.hid ha
  have Hb := Lib.hid hb
  have Hl := Lib.hid hl
  clear ha hb hl
  have hAB : (A ++ B).length = A.length + B.length := List.length_append
  have HAB := Lib.hid hAB
  clear hAB
  go_enter Try.func66, Try.ntmps66
  by_cases hc : chk (A ++ B) = 0
  all_goals
    go_wp2_with (first | (at_make; refine wpList_mk0 rfl _ _ _ rfl elt_name (base := w.heap.size) (A.length + B.length) rfl rfl (by omega) (by omega) (by omega) (Nat.le_refl _) ?_; intro w0 ho0 hbw0; have hsz0 := hbw0.size) | (at_builtin; refine wpList_app rfl (.tmp 14) (.tmp 15) _ rfl elt_name rfl ho0 rfl (Ha.out.below hbw0) (stv_one _) hsz0 (by omega) (by omega) ?_; intro v1 w1 ho1 hbw1 hg1; have hb01 := hbw0.trans hbw1; have hsz1 := hb01.size) | (at_builtin; refine wpList_app rfl (.tmp 16) (.tmp 17) _ rfl elt_name rfl ho1 rfl (Hb.out.below hb01) (stv_one _) hsz1 (by omega) (by omega) ?_; intro v2 w2 ho2 hbw2 hg2) | fail)
    have hb02 := hb01.trans hbw2
    have hown : Sl w2 1 v2 (A ++ B).length ((A ++ B).map stv) := by
      have := Sl.own ho2
      rw [HAB.out, List.map_append]
      simpa using this
    ((with_reducible refine (check_any (A ++ B) _ _ hown (by have := HAB.out; omega) Hl.out).mono ?_); rintro e w' ⟨rfl, rfl⟩)
  · rw [hc]
    have Hc := Lib.hid hc
    clear hc
    go_wp2_with fail
    go_ret2
    exact CatPost.ok Hc.out hown hb02
  · have hc1 : ((chk (A ++ B) : Int) != 0) = true := by simpa using hc
    have Hc := Lib.hid hc
    clear hc
    go_wp2_with fail
    go_ret2
    exact CatPost.no Hc.out hb02

set_option maxRecDepth 100000 in
set_option maxHeartbeats 800000 in
theorem rcat_any (A B : List (List UInt8)) (va vb : Value) (w : World) (ha : Sl w 1 va A.length (A.map stv)) (hb : Sl w 1 vb B.length (B.map stv)) (hA : A.length ≤ 100000000) (hB : B.length ≤ 100000000) (hl : ∀ l ∈ A ++ B, l.length ≤ 140737488351232) :
    Calls Try.prog 67 #[va, vb] w (CatPost w A B) := by
  obtain ⟨a1, c1, hv1, hc1⟩ := ha.any
  subst hv1
  obtain ⟨a2, c2, hv2, hc2⟩ := hb.any
  subst hv2
  have Ha := Lib.hid ha
  have Hb := Lib.hid hb
  have Hl := Lib.hid hl
  clear ha hb hl
  have hAB : (A ++ B).length = A.length + B.length := List.length_append
  have HAB := Lib.hid hAB
  clear hAB
  have ho0 := World.ownsRow_nil w w.heap.size 9 1
  go_enter Try.func67, Try.ntmps67
  by_cases hc : chk (A ++ B) = 0
  all_goals
    go_wp2_with (first | (at_builtin; refine wpList_app rfl (.tmp 8) (.tmp 9) _ rfl elt_strs rfl ho0 rfl Ha.out (stv_one _) (Nat.le_refl _) (by omega) (by omega) ?_; intro v1 w1 ho1 hbw1 hg1; have hsz1 := hbw1.size) | (at_builtin; refine wpList_app rfl (.tmp 11) (.tmp 12) _ rfl elt_strs rfl ho1 rfl (Hb.out.below hbw1) (stv_one _) hsz1 (by omega) (by omega) ?_; intro v2 w2 ho2 hbw2 hg2) | fail)
    have hb02 := hbw1.trans hbw2
    have hown : Sl w2 1 v2 (A ++ B).length ((A ++ B).map stv) := by
      have := Sl.own ho2
      rw [HAB.out, List.map_append]
      simpa using this
    ((with_reducible refine (rcheck_any (A ++ B) _ _ hown (by have := HAB.out; omega) Hl.out).mono ?_); rintro e w' ⟨rfl, rfl⟩)
  · rw [hc]
    have Hc := Lib.hid hc
    clear hc
    go_wp2_with fail
    go_ret2
    exact CatPost.ok Hc.out hown hb02
  · have hc1 : ((chk (A ++ B) : Int) != 0) = true := by simpa using hc
    have Hc := Lib.hid hc
    clear hc
    go_wp2_with fail
    go_ret2
    exact CatPost.no Hc.out hb02
end Go.Proofs.Ytnelaegjcpkmdaa
