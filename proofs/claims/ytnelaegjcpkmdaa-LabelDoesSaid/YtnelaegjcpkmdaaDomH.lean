/- The plain law of names: what is written is read; and the walks of DomainParses and DomainAgain. -/
import Derived.Test.YtnelaegjcpkmdaaDomF
import Derived.Test.YtnelaegjcpkmdaaDomG
namespace Go.Proofs.Ytnelaegjcpkmdaa
open Go.RowKit
attribute [local go_sem] ba_get ext_take ext_drop

theorem u8back (c : UInt8) : UInt8.ofNat c.toNat = c := by simp
theorem esc_written {c : UInt8} (r : List UInt8) :
    esc ([UInt8.ofNat (48 + c.toNat / 100), UInt8.ofNat (48 + c.toNat / 10 % 10), UInt8.ofNat (48 + c.toNat % 10)] ++ r) = some (c, 3) := by
  have hc := c.toNat_lt
  have a1 : (UInt8.ofNat (48 + c.toNat / 100)).toNat = 48 + c.toNat / 100 := UInt8.toNat_ofNat_of_lt' (show _ < 256 by omega)
  have a2 : (UInt8.ofNat (48 + c.toNat / 10 % 10)).toNat = 48 + c.toNat / 10 % 10 := UInt8.toNat_ofNat_of_lt' (show _ < 256 by omega)
  have a3 : (UInt8.ofNat (48 + c.toNat % 10)).toNat = 48 + c.toNat % 10 := UInt8.toNat_ofNat_of_lt' (show _ < 256 by omega)
  generalize UInt8.ofNat (48 + c.toNat / 100) = x at *
  generalize UInt8.ofNat (48 + c.toNat / 10 % 10) = y at *
  generalize UInt8.ofNat (48 + c.toNat % 10) = z at *
  simp only [List.cons_append, List.nil_append]
  rw [esc_t (by simp [dgB]; omega), esc3, if_pos ⟨by simp [dgB]; omega, by simp [dgB]; omega⟩, if_pos (by omega)]
  rw [show 100 * (x.toNat - 48) + 10 * (y.toNat - 48) + (z.toNat - 48) = c.toNat by omega, u8back]
theorem ends_esc (c : UInt8) (r : List UInt8) : ends (escb c ++ r) = false := by
  unfold escb
  by_cases h1 : c.toNat = 46 ∨ c.toNat = 92
  · rw [if_pos h1, List.cons_append, ends_cons]; decide
  · rw [if_neg h1]
    by_cases h2 : c.toNat < 33 ∨ 126 < c.toNat
    · rw [if_pos h2, List.cons_append, ends_cons]; decide
    · rw [if_neg h2, List.cons_append, ends_cons, beq_eq_false_iff_ne]
      intro h
      exact h1 (.inl (is46.1 h))
theorem stp_esc (c : UInt8) (r : List UInt8) : stp (escb c ++ r) = some (c, (escb c).length) := by
  unfold escb
  by_cases h1 : c.toNat = 46 ∨ c.toNat = 92
  · rw [if_pos h1]
    simp only [List.cons_append, List.nil_append, stp, if_true]
    rw [esc_f (by simp [dgB]; omega)]
    rfl
  · rw [if_neg h1]
    by_cases h2 : c.toNat < 33 ∨ 126 < c.toNat
    · rw [if_pos h2, List.cons_append]
      simp only [stp, if_true]
      rw [esc_written]
      rfl
    · rw [if_neg h2]
      simp only [List.cons_append, List.nil_append, stp]
      rw [if_neg (fun h => h1 (.inr (is92.1 h)))]
      rfl
theorem escl_cons (c : UInt8) (b : List UInt8) : escl (c :: b) = escb c ++ escl b := rfl
theorem one_written (b r : List UInt8) (h : ends r = true) : one (escl b ++ r) = some (b, (escl b).length) := by
  induction b with
  | nil => exact one_end h
  | cons c b ih =>
    rw [escl_cons, List.append_assoc, one_some (ends_esc _ _) (stp_esc _ _), List.drop_left, ih]
    simp
theorem oneE_written {b r : List UInt8} (h : ends r = true) (hb : lokB b = true) : oneE (escl b ++ r) = (0, b, (escl b).length) := by
  have h2 := lokB_t hb
  unfold oneE
  rw [one_written b r h]
  dsimp only
  rw [if_neg (by intro e; rw [e] at h2; simp at h2), if_neg (by omega)]
theorem escl_pos {b : List UInt8} (h : lokB b = true) : 1 ≤ (escl b).length := by
  have h2 := lokB_t h
  rcases b with _ | ⟨c, b⟩
  · simp at h2
  · rw [escl_cons, List.length_append]; have := (escb_len c).2; omega
def dots (A : List (List UInt8)) : List UInt8 := A.flatMap (fun l => escl l ++ [46])
theorem dots_cons (b : List UInt8) (A : List (List UInt8)) : dots (b :: A) = escl b ++ 46 :: dots A := by unfold dots; rw [List.flatMap_cons]; simp
theorem prsR_label {n : List (List UInt8)} {d : Bool} {b r : List UInt8} (hb : lokB b = true) : prsR n d (escl b ++ 46 :: r) = prsR (n ++ [b]) true r := by
  have hp := escl_pos hb
  have hne : escl b ++ 46 :: r ≠ [] := by simp
  have he := oneE_written (r := 46 :: r) (b := b) (by rw [ends_cons]; rfl) hb
  have hlt : (escl b).length < (escl b ++ 46 :: r).length := by simp
  rw [prsR_ok hne (by rw [he]), he]
  dsimp only
  rw [if_pos hlt]
  simp only [hlt, decide_true]
  rw [← List.drop_drop, List.drop_left]
  rfl
theorem prsR_last {n : List (List UInt8)} {d : Bool} {b : List UInt8} (hb : lokB b = true) : prsR n d (escl b) = fin (n ++ [b]) false := by
  have hp := escl_pos hb
  have hne : escl b ≠ [] := by intro h; rw [h] at hp; simp at hp
  have he := oneE_written (r := []) (b := b) rfl hb
  rw [List.append_nil] at he
  have hlt : ¬ (escl b).length < (escl b).length := by omega
  rw [prsR_ok hne (by rw [he]), he]
  dsimp only
  rw [if_neg hlt]
  simp only [hlt, decide_false, Nat.add_zero, List.drop_length]
  rfl
theorem prsR_dots {A : List (List UInt8)} (h : A.all lokB = true) (n : List (List UInt8)) (d : Bool) (r : List UInt8) : prsR n d (dots A ++ r) = if A = [] then prsR n d r else prsR (n ++ A) true r := by
  induction A generalizing n d with
  | nil => rfl
  | cons b A ih =>
    rw [List.all_cons, Bool.and_eq_true] at h
    rw [dots_cons, List.append_assoc, List.cons_append, prsR_label h.1, ih h.2, if_neg (show ¬ (b :: A = []) by simp)]
    by_cases hA : A = []
    · rw [if_pos hA, hA]
    · rw [if_neg hA, List.append_assoc]; rfl
theorem chk_ok {A : List (List UInt8)} (h : chk A = 0) : A.all lokB = true ∧ sz A ≤ 255 := by
  unfold chk at h
  split at h
  · next h1 =>
    split at h
    · cases h
    · exact ⟨h1, by omega⟩
  · cases h
theorem chk_of {A : List (List UInt8)} (h : A.all lokB = true) (hs : sz A ≤ 255) : chk A = 0 := by unfold chk; rw [if_pos h, if_neg (by omega)]
theorem prs_eq {l : List UInt8} (h1 : l ≠ [46]) (h2 : l ≠ []) : prs l = prsR [] false l := by unfold prs; rw [if_neg h1, if_neg h2]; rfl
theorem fin_small {A : List (List UInt8)} {d : Bool} (h : sz A ≤ 255) : fin A d = .inr (A, d) := by unfold fin; rw [if_neg (by omega)]
/-- what is written is read. -/
theorem prs_dtxt {A : List (List UInt8)} (h : chk A = 0) : prs (dtxt A) = .inr (A, true) := by
  obtain ⟨h1, h2⟩ := chk_ok h
  unfold dtxt
  by_cases hA : A = []
  · subst hA; rfl
  · rw [if_neg hA]
    have hd : prsR [] false (dots A) = fin A true := by
      have := prsR_dots h1 [] false []
      rw [List.append_nil, if_neg hA] at this
      rw [this]; rfl
    show prs (dots A) = _
    rcases A with _ | ⟨b, A⟩
    · exact absurd rfl hA
    · rw [List.all_cons, Bool.and_eq_true] at h1
      have hp := escl_pos h1.1
      have hl : 2 ≤ (dots (b :: A)).length := by rw [dots_cons, List.length_append, List.length_cons]; omega
      rw [prs_eq (by intro e; rw [e] at hl; simp at hl) (by intro e; rw [e] at hl; simp at hl), hd, fin_small h2]
theorem dots_app (A B : List (List UInt8)) : dots (A ++ B) = dots A ++ dots B := by unfold dots; rw [List.flatMap_append]
theorem prs_dpln {A : List (List UInt8)} (h : chk A = 0) : prs (dpln A) = .inr (A, decide (A = [])) := by
  obtain ⟨h1, h2⟩ := chk_ok h
  unfold dpln
  by_cases hA : A = []
  · subst hA; rfl
  · rw [if_neg hA]
    have : dtxt A = dots A := by unfold dtxt; rw [if_neg hA]; rfl
    rw [this]
    rcases List.eq_nil_or_concat A with rfl | ⟨B, b, rfl⟩
    · exact absurd rfl hA
    · rw [List.concat_eq_append] at *
      rw [List.all_append, Bool.and_eq_true] at h1
      have hb : lokB b = true := by simpa using h1.2
      have hp := escl_pos hb
      have e : dots (B ++ [b]) = (dots B ++ escl b) ++ [46] := by rw [dots_app, dots_cons]; simp [dots]
      rw [e, List.dropLast_concat]
      have hne : dots B ++ escl b ≠ [] := by intro h; have := congrArg List.length h; rw [List.length_append, List.length_nil] at this; omega
      have hn46 : dots B ++ escl b ≠ [46] := by
        intro h
        rcases B with _ | ⟨c, B⟩
        · have hone := oneE_written (r := []) (b := b) rfl hb
          rw [List.append_nil] at hone
          have e2 : escl b = [46] := by simpa [dots] using h
          rw [e2] at hone
          have : (oneE [46]).1 = 8 := by decide
          rw [hone] at this
          cases this
        · rw [dots_cons] at h
          have hc : lokB c = true := by rw [List.all_cons, Bool.and_eq_true] at h1; exact h1.1.1
          have := escl_pos hc
          have := congrArg List.length h
          simp at this
          omega
      rw [prs_eq hn46 hne, prsR_dots h1.1]
      by_cases hB : B = []
      · subst hB
        rw [if_pos rfl, prsR_last hb, fin_small h2]; simp
      · rw [if_neg hB, prsR_last hb, List.nil_append, fin_small h2]; simp
theorem prsF_ok (k : Nat) : ∀ (n : List (List UInt8)) (d : Bool) (r : List UInt8) (A : List (List UInt8)) (e : Bool), n.all lokB = true → prsF k n d r = .inr (A, e) → A.all lokB = true ∧ sz A ≤ 255 ∧ A.length ≤ n.length + r.length := by
  induction k with
  | zero =>
    intro n d r A e hn h
    simp only [prsF] at h
    split at h
    · cases h
    · cases h; exact ⟨hn, by omega, by omega⟩
  | succ k ih =>
    intro n d r A e hn h
    simp only [prsF] at h
    split at h
    · split at h
      · cases h
      · cases h; exact ⟨hn, by omega, by omega⟩
    · next hr =>
      split at h
      · next he =>
        have hb := (oneE_bd r).2.1 he
        obtain ⟨g1, g2, g3⟩ := ih _ _ _ _ _ (by rw [List.all_append, hn]; simp [hb.2]) h
        refine ⟨g1, g2, ?_⟩
        rw [List.length_append, List.length_drop] at g3
        have : 0 < r.length := List.length_pos_iff.2 hr
        simp at g3
        omega
      · cases h
theorem prs_ok {l : List UInt8} {A : List (List UInt8)} {d : Bool} (h : prs l = .inr (A, d)) : chk A = 0 ∧ A.length ≤ l.length := by
  unfold prs at h
  split at h
  · cases h; exact ⟨rfl, Nat.zero_le _⟩
  · split at h
    · cases h
    · obtain ⟨h1, h2, h3⟩ := prsF_ok _ _ _ _ _ _ rfl h
      exact ⟨chk_of h1 h2, by simpa using h3⟩
theorem chk_bds {A : List (List UInt8)} (h : chk A = 0) : A.length ≤ 255 ∧ sz A ≤ 255 ∧ ∀ l ∈ A, l.length ≤ 63 := by
  obtain ⟨h1, h2⟩ := chk_ok h
  have h3 : ∀ (B : List (List UInt8)) (n : Nat), n + B.length ≤ B.foldl (fun n l => n + l.length + 1) n := by
    intro B
    induction B with
    | nil => intro n; simp
    | cons b B ih => intro n; have := ih (n + b.length + 1); rw [List.foldl_cons, List.length_cons]; omega
  have h4 := h3 A 1
  refine ⟨by unfold sz at h2; omega, h2, fun l hl => ?_⟩
  rw [List.all_eq_true] at h1
  exact (lokB_t (h1 l hl)).2

end Go.Proofs.Ytnelaegjcpkmdaa
