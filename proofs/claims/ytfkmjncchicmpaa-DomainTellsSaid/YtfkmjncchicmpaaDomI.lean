/- The walk of DomainBack. -/
import Derived.Test.YtfkmjncchicmpaaDomH
namespace Go.Proofs.Ytfkmjncchicmpaa
open Go.RowKit
attribute [local go_sem] ba_get ext_take ext_drop

theorem few_bds {A : List (List UInt8)} (h : fewB A = true) : A.length ≤ 400 ∧ sz A ≤ 401 ∧ ∀ l ∈ A, l.length ≤ 400 := by
  have hs : sz A ≤ 401 := by simpa [fewB] using h
  have h3 : ∀ (B : List (List UInt8)) (n : Nat), n + B.length ≤ B.foldl (fun n l => n + l.length + 1) n ∧ ∀ l ∈ B, n + l.length + 1 ≤ B.foldl (fun n l => n + l.length + 1) n := by
    intro B
    induction B with
    | nil => intro n; simp
    | cons b B ih =>
      intro n
      obtain ⟨i1, i2⟩ := ih (n + b.length + 1)
      rw [List.foldl_cons, List.length_cons]
      refine ⟨by omega, fun l hl => ?_⟩
      rcases List.mem_cons.1 hl with rfl | hl
      · exact Nat.le_trans (by omega) i1
      · have := i2 l hl; omega
  obtain ⟨h4, h5⟩ := h3 A 1
  exact ⟨by unfold sz at hs; omega, hs, fun l hl => by have := h5 l hl; unfold sz at hs; omega⟩

set_option maxRecDepth 100000 in
set_option maxHeartbeats 1000000 in
theorem domainBack_walk (w : World) (A : List (List UInt8)) (v : Value) (ha : Sl w 1 v A.length (A.map stv)) (hl : A.length ≤ maxLen) (hll : ∀ l ∈ A, l.length ≤ 140737488351232) :
    Calls Try.prog 7 #[v] w (Good w) := by
  obtain ⟨a0, c0, hv, _⟩ := ha.any
  subst hv
  have Ha := Lib.hid ha
  have Hll := Lib.hid hll
  clear ha hll
  rcases hf : fewB A
  · have Hf := Lib.hid hf
    clear hf
    go_enter Try.func7, Try.ntmps7
    go_wp2_with fail
    refine (works05_any _).mono ?_
    rintro e w0 ⟨rfl, hb0⟩
    go_wp2_with fail
    refine (few_any _ _ _ (Ha.out.below hb0) hl Hll.out).mono ?_
    rintro e w' ⟨rfl, rfl⟩
    rw [Hf.out]
    go_wp2_with fail
    refine (works05_any _).mono ?_
    rintro e w1 ⟨rfl, hb1⟩
    go_wp2_with fail
    go_ret
    exact ⟨rfl, bel_tr hb0 hb1⟩
  · obtain ⟨g1, g2, g3⟩ := few_bds hf
    have G3 := Lib.hid g3
    have Hf := Lib.hid hf
    clear hf g3
    by_cases hc : chk A = 0
    · have hp1 := prs_dtxt hc
      have hp2 := prs_dpln hc
      have Hp1 := Lib.hid hp1
      have Hp2 := Lib.hid hp2
      have Hc := Lib.hid hc
      have htl := @dtxt_len A
      have hpl : (dpln A).length ≤ (dtxt A).length := by
        unfold dpln
        by_cases h : A = []
        · rw [if_pos h]; have := @dtxt_pos A; simpa using this
        · rw [if_neg h]; simp
      have hdec : (decide (A = []) == ((A.length : Int) == 0)) = true := by
        by_cases h : A = []
        · simp [h]
        · have hl2 : 0 < A.length := List.length_pos_iff.2 h
          rw [show decide (A = []) = false by simp [h], show ((A.length : Int) == 0) = false by rw [beq_eq_false_iff_ne]; omega]
          rfl
      clear hp1 hp2 hc
      go_enter Try.func7, Try.ntmps7
      go_wp2_with fail
      refine (works05_any _).mono ?_
      rintro e w0 ⟨rfl, hb0⟩
      go_wp2_with fail
      refine (few_any _ _ _ (Ha.out.below hb0) hl Hll.out).mono ?_
      rintro e w' ⟨rfl, rfl⟩
      rw [Hf.out]
      go_wp2_with fail
      refine (rcheck_any _ _ _ (Ha.out.below hb0) (by omega) Hll.out).mono ?_
      rintro e w' ⟨rfl, rfl⟩
      rw [Hc.out]
      go_wp2_with fail
      refine (dtext_any _ _ _ (Ha.out.below hb0) (by omega) (by omega) (fun x hx => by have := G3.out x hx; omega)).mono ?_
      rintro e w2 ⟨rfl, hb2⟩
      go_wp2_with fail
      refine (parse_any _ _ (by omega)).mono ?_
      intro e w3 h3
      obtain ⟨v3, rfl, hs3, hb3⟩ := prs_open h3 Hp1.out
      clear h3
      have hb03 := bel_tr (bel_tr hb0 hb2) hb3
      go_wp2_with fail
      refine (dplain_any _ _ _ (Ha.out.below hb03) (by omega) (by omega) (fun x hx => by have := G3.out x hx; omega)).mono ?_
      rintro e w4 ⟨rfl, hb4⟩
      go_wp2_with fail
      refine (parse_any _ _ (by omega)).mono ?_
      intro e w5 h5
      obtain ⟨v5, rfl, hs5, hb5⟩ := prs_open h5 Hp2.out
      clear h5
      have hb05 := bel_tr (bel_tr hb03 hb4) hb5
      go_wp2_with fail
      refine (exact_any _ _ _ _ _ ((hs3.below hb4).below hb5) (Ha.out.below hb05) (by omega)).mono ?_
      rintro e w6 ⟨rfl, hb6⟩
      rw [show decide (A = A) = true by simp]
      generalize decide (A = []) = D at *
      go_wp2_with fail
      refine (exact_any _ _ _ _ _ (hs5.below hb6) (Ha.out.below (bel_tr hb05 hb6)) (by omega)).mono ?_
      rintro e w7 ⟨rfl, hb7⟩
      go_wp2
      go_ret
      exact ⟨by simp, bel_tr (bel_tr hb05 hb6) hb7⟩
    · have hc1 : ((chk A : Int) != 0) = true := by simpa using hc
      clear hc
      go_enter Try.func7, Try.ntmps7
      go_wp2_with fail
      refine (works05_any _).mono ?_
      rintro e w0 ⟨rfl, hb0⟩
      go_wp2_with fail
      refine (few_any _ _ _ (Ha.out.below hb0) hl Hll.out).mono ?_
      rintro e w' ⟨rfl, rfl⟩
      rw [Hf.out]
      go_wp2_with fail
      refine (rcheck_any _ _ _ (Ha.out.below hb0) (by omega) Hll.out).mono ?_
      rintro e w' ⟨rfl, rfl⟩
      go_wp2_with fail
      refine (works05_any _).mono ?_
      rintro e w1 ⟨rfl, hb1⟩
      go_wp2_with fail
      go_ret
      exact ⟨rfl, bel_tr hb0 hb1⟩
end Go.Proofs.Ytfkmjncchicmpaa
