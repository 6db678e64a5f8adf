/- The walk of DomainHolds. -/
import Derived.Test.YtfkmjncchicmpaaDomK
namespace Go.Proofs.Ytfkmjncchicmpaa
open Go.RowKit
attribute [local go_sem] ba_get ext_take ext_drop

theorem und_app (A B : List (List UInt8)) : undB (A ++ B) B = true := by
  unfold undB
  have e : (A ++ B).length - B.length = A.length := by rw [List.length_append]; omega
  rw [e, List.drop_left]
  simp
theorem cat_open {w w' : World} {A B C : List (List UInt8)} {e : Ending} (h : CatPost w A B e w') (hC : C = if chk (A ++ B) = 0 then A ++ B else []) : ∃ v, e = .returned (.tuple #[v, .int .i64 (chk (A ++ B))]) ∧ Sl w' 1 v C.length (C.map stv) ∧ Below w.heap.size w w' := by
  obtain ⟨v, he, ⟨D, hD, hs⟩, hb⟩ := h
  rw [← hC] at hD
  subst hD
  exact ⟨v, he, hs, hb⟩
set_option maxRecDepth 100000 in
set_option maxHeartbeats 1000000 in
theorem domainHolds_walk (w : World) (A : List (List UInt8)) (va : Value) (ha : Sl w 1 va A.length (A.map stv)) (hlA : A.length ≤ maxLen) (hllA : ∀ l ∈ A, l.length ≤ 140737488351232)
    (B : List (List UInt8)) (vb : Value) (hb : Sl w 1 vb B.length (B.map stv)) (hlB : B.length ≤ maxLen) (hllB : ∀ l ∈ B, l.length ≤ 140737488351232) :
    Calls Try.prog 11 #[va, vb] w (Good w) := by
  have Ha := Lib.hid ha
  have Hb := Lib.hid hb
  have HllA := Lib.hid hllA
  have HllB := Lib.hid hllB
  clear ha hb hllA hllB
  rcases hfa : fewB A
  · have Hfa := Lib.hid hfa
    clear hfa
    go_enter Try.func11, Try.ntmps11
    go_wp2_with fail
    refine (few_any _ _ _ Ha.out hlA HllA.out).mono ?_
    rintro e w' ⟨rfl, rfl⟩
    rw [Hfa.out]
    go_wp2_with fail
    refine (works05_any _).mono ?_
    rintro e w1 ⟨rfl, hb1⟩
    go_wp2_with fail
    go_ret
    exact ⟨rfl, hb1⟩
  · obtain ⟨g1, g2, g3⟩ := few_bds hfa
    have G3 := Lib.hid g3
    have Hfa := Lib.hid hfa
    clear hfa g3
    rcases hfb : fewB B
    · have Hfb := Lib.hid hfb
      clear hfb
      go_enter Try.func11, Try.ntmps11
      go_wp2_with fail
      refine (few_any _ _ _ Ha.out hlA HllA.out).mono ?_
      rintro e w' ⟨rfl, rfl⟩
      rw [Hfa.out]
      go_wp2_with fail
      refine (few_any _ _ _ Hb.out hlB HllB.out).mono ?_
      rintro e w' ⟨rfl, rfl⟩
      rw [Hfb.out]
      go_wp2_with fail
      refine (works05_any _).mono ?_
      rintro e w1 ⟨rfl, hb1⟩
      go_wp2_with fail
      go_ret
      exact ⟨rfl, hb1⟩
    · obtain ⟨k1, k2, k3⟩ := few_bds hfb
      have K3 := Lib.hid k3
      have Hfb := Lib.hid hfb
      clear hfb k3
      have hlAB : ∀ l ∈ A ++ B, l.length ≤ 140737488351232 := fun l hl => by
        rcases List.mem_append.1 hl with h | h
        · exact HllA.out l h
        · exact HllB.out l h
      have HlAB := Lib.hid hlAB
      clear hlAB
      have hlA1 : ∀ l ∈ A, l.length ≤ 1000000000 := fun l hl => by have := G3.out l hl; omega
      have hlB1 : ∀ l ∈ B, l.length ≤ 1000000000 := fun l hl => by have := K3.out l hl; omega
      have HA1 := Lib.hid hlA1
      have HB1 := Lib.hid hlB1
      clear hlA1 hlB1
      obtain ⟨C, hC⟩ : ∃ C : List (List UInt8), C = if chk (A ++ B) = 0 then A ++ B else [] := ⟨_, rfl⟩
      have hCl : C.length ≤ A.length + B.length := by
        rw [hC]; split <;> simp
      have HC := Lib.hid hC
      clear hC
      go_enter Try.func11, Try.ntmps11
      go_wp2_with fail
      refine (few_any _ _ _ Ha.out hlA HllA.out).mono ?_
      rintro e w' ⟨rfl, rfl⟩
      rw [Hfa.out]
      go_wp2_with fail
      refine (few_any _ _ _ Hb.out hlB HllB.out).mono ?_
      rintro e w' ⟨rfl, rfl⟩
      rw [Hfb.out]
      go_wp2_with fail
      refine (cat_any _ _ _ _ _ Ha.out Hb.out (by omega) (by omega) HlAB.out).mono ?_
      intro e w1 h1
      obtain ⟨v1, rfl, hs1, hb1⟩ := cat_open h1 HC.out
      clear h1
      go_wp2_with fail
      refine (rcat_any _ _ _ _ _ (Ha.out.below hb1) (Hb.out.below hb1) (by omega) (by omega) HlAB.out).mono ?_
      intro e w2 h2
      obtain ⟨v2, rfl, hs2, hb2⟩ := cat_open h2 HC.out
      clear h2
      go_wp2_with fail
      refine (works05_any _).mono ?_
      rintro e w3 ⟨rfl, hb3⟩
      have hb03 := bel_tr (bel_tr hb1 hb2) hb3
      go_wp2_with fail
      refine (dsame_any _ _ _ _ _ (Ha.out.below hb03) (Hb.out.below hb03) (by omega) HA1.out).mono ?_
      rintro e w4 ⟨rfl, hb4⟩
      have hb04 := bel_tr hb03 hb4
      go_wp2_with fail
      refine (rdsame_any _ _ _ _ _ (Ha.out.below hb04) (Hb.out.below hb04) (by omega) (by omega) HA1.out HB1.out).mono ?_
      rintro e w5 ⟨rfl, hb5⟩
      generalize decide (lows A = lows B) = D1 at *
      have hb05 := bel_tr hb04 hb5
      go_wp2_with fail
      refine (under_any _ _ _ _ _ (Ha.out.below hb05) (Hb.out.below hb05) (by omega) (by omega) HA1.out).mono ?_
      rintro e w6 ⟨rfl, hb6⟩
      have hb06 := bel_tr hb05 hb6
      go_wp2_with fail
      refine (runder_any _ _ _ _ _ (Ha.out.below hb06) (Hb.out.below hb06) (by omega) (by omega) HA1.out HB1.out).mono ?_
      rintro e w7 ⟨rfl, hb7⟩
      generalize undB A B = D2 at *
      have hb07 := bel_tr hb06 hb7
      have hb17 := bel_tr (bel_tr (bel_tr (bel_tr (bel_tr (bel_tr hb2 hb3) hb4) hb5) hb6) hb7) (Below.refl _ _)
      have hb27 := bel_tr (bel_tr (bel_tr (bel_tr (bel_tr hb3 hb4) hb5) hb6) hb7) (Below.refl _ _)
      go_wp2_with fail
      refine (exact_any _ _ _ _ _ (hs1.below hb17) (hs2.below hb27) (by omega)).mono ?_
      rintro e w8 ⟨rfl, hb8⟩
      rw [show decide (C = C) = true by simp]
      have hb08 := bel_tr hb07 hb8
      by_cases hc : chk (A ++ B) = 0
      · have hCe : C = A ++ B := by rw [HC.out, if_pos hc]
        have hC1 : ∀ l ∈ A ++ B, l.length ≤ 1000000000 := fun l hl => by
          rcases List.mem_append.1 hl with h | h
          · exact HA1.out l h
          · exact HB1.out l h
        have HC1 := Lib.hid hC1
        clear hC1
        subst hCe
        rw [hc]
        have Hc := Lib.hid hc
        clear hc
        go_wp2_with fail
        refine (under_any _ _ _ _ _ ((hs1.below hb17).below hb8) (Hb.out.below hb08) (by omega) (by omega) HC1.out).mono ?_
        rintro e w9 ⟨rfl, hb9⟩
        rw [und_app]
        go_wp2
        go_ret
        exact ⟨by simp, bel_tr hb08 hb9⟩
      · have hc1 : ((chk (A ++ B) : Int) != 0) = true := by simpa using hc
        clear hc
        generalize chk (A ++ B) = E at *
        go_wp2
        go_ret
        exact ⟨by simp, hb08⟩
end Go.Proofs.Ytfkmjncchicmpaa
