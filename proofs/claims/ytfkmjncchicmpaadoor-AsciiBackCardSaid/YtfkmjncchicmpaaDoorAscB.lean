/- The contracts of ascii.Same, ascii.Fields and the reference's Lower, Same and Fields. -/
import Derived.Test.YtfkmjncchicmpaaDoorAscA
import Derived.Test.YtfkmjncchicmpaaDoorDomC
namespace Go.Proofs.YtfkmjncchicmpaaDoor
open Go.RowKit
attribute [local go_sem] ba_get ext_take ext_drop ext_any

def low (l : List UInt8) : List UInt8 := l.map sm
theorem low_take {a b : List UInt8} {k : Nat} (ha : k < a.length) (hb : k < b.length) (h : low (a.take k) = low (b.take k)) (he : sm a[k] = sm b[k]) : low (a.take (k + 1)) = low (b.take (k + 1)) := by
  unfold low at *
  rw [List.take_succ_eq_append_getElem ha, List.take_succ_eq_append_getElem hb, List.map_append, List.map_append, h]
  simp [he]

set_option maxRecDepth 100000 in
set_option maxHeartbeats 800000 in
theorem asame_any (a b : List UInt8) (w : World) (ha : a.length ≤ 140737488351232) :
    Calls Tryd.prog 12 #[.string ⟨a.toArray⟩, .string ⟨b.toArray⟩] w fun e w' => e = .returned (.bool (decide (low a = low b))) ∧ Below w.heap.size w w' := by
  by_cases hn : a.length = b.length
  · have hne : ((a.length : Int) != (b.length : Int)) = false := by simp; omega
    have Hn := Lib.hid hn
    have hn1 : a.length ≤ b.length := by omega
    have hn2 : b.length ≤ a.length := by omega
    clear hn
    go_enter Tryd.func12, Tryd.ntmps12
    go_wp2
    go_loopw [13] (fun i wr => ∃ k : Nat, k ≤ a.length ∧ i = .int .i64 k ∧ low (a.take k) = low (b.take k) ∧ Below w.heap.size w wr) (fun i _ => a.length - (intOf i).toNat)
    case atStart => exact ⟨0, Nat.zero_le _, rfl, rfl, Below.refl _ _⟩
    case round =>
      obtain ⟨k, hk, rfl, ht, hbw⟩ := hrel
      have Ht := Lib.hid ht
      clear ht
      by_cases hlt : k < a.length
      · have hltb : k < b.length := by omega
        have i1 : (k : Int) < (a.length : Int) := by omega
        have i2 : (k : Int) < (b.length : Int) := by omega
        have i3 : (0 : Int) ≤ (k : Int) := by omega
        by_cases he : sm a[k] = sm b[k]
        · have he1 : (((sm a[k]).toNat : Int) != ((sm b[k]).toNat : Int)) = false := by simp [he]
          have He := Lib.hid he
          clear he
          go_wp2
          go_quiet ((go_at_call 15; exact quiet_l (small_any _ _)))
          go_wp2
          go_roundw
          case rel => exact ⟨k + 1, by omega, by go_num, low_take hlt hltb Ht.out He.out, below_drewN hbw _⟩
          case measure => simp [intOf]; omega
        · have he1 : (((sm a[k]).toNat : Int) != ((sm b[k]).toNat : Int)) = true := by
            simp only [bne_iff_ne, ne_eq]
            intro h
            exact he (UInt8.toNat.inj (by omega))
          have He := Lib.hid he
          clear he
          go_wp2
          go_quiet ((go_at_call 15; exact quiet_l (small_any _ _)))
          go_wp2
          go_ret
          refine ⟨retb ?_, below_drewN hbw _⟩
          simp only [Bool.false_eq, decide_eq_false_iff_not]
          intro h
          have h2 : (low a)[k]? = (low b)[k]? := by rw [h]
          unfold low at h2
          simp [hlt, hltb] at h2
          exact He.out h2
      · obtain rfl : k = a.length := by omega
        have i1 : ¬ ((a.length : Nat) : Int) < (a.length : Int) := by omega
        go_wp2
        go_ret
        refine ⟨retb ?_, hbw⟩
        simp only [Bool.true_eq, decide_eq_true_eq]
        have := Ht.out
        rwa [List.take_of_length_le (Nat.le_refl _), List.take_of_length_le (by omega)] at this
  · have hne : ((a.length : Int) != (b.length : Int)) = true := by simp; omega
    go_enter Tryd.func12, Tryd.ntmps12
    go_wp2
    go_ret
    refine ⟨retb ?_, Below.refl _ _⟩
    simp only [Bool.false_eq, decide_eq_false_iff_not]
    intro h
    have := congrArg List.length h
    simp [low] at this
    exact hn this

/-- what stands between blanks, behind a word that has begun. -/
def fldR (word : List UInt8) : List UInt8 → List (List UInt8)
  | [] => if word = [] then [] else [word]
  | b :: r => if blB b = true then (if word = [] then fldR [] r else word :: fldR [] r) else fldR (word ++ [b]) r
def flds (l : List UInt8) : List (List UInt8) := fldR [] l
theorem fldR_blank {l : List UInt8} {k : Nat} (h : k < l.length) (hb : blB l[k] = true) : fldR [] (l.drop k) = fldR [] (l.drop (k + 1)) := by
  rw [List.drop_eq_getElem_cons h, fldR, if_pos hb, if_pos rfl]
theorem fldR_step {l word : List UInt8} {k : Nat} (h : k < l.length) (hb : blB l[k] = false) : fldR word (l.drop k) = fldR (word ++ [l[k]]) (l.drop (k + 1)) := by
  rw [List.drop_eq_getElem_cons h, fldR, if_neg (by simp [hb])]
theorem fldR_word {l word : List UInt8} {k : Nat} (hk : k ≤ l.length) (hw : word ≠ []) (hb : ∀ h : k < l.length, blB l[k] = true) : fldR word (l.drop k) = word :: fldR [] (l.drop k) := by
  by_cases h : k < l.length
  · rw [List.drop_eq_getElem_cons h, fldR, if_pos (hb h), if_neg hw, fldR, if_pos (hb h), if_pos rfl]
  · have : l.drop k = [] := List.drop_eq_nil_of_le (by omega)
    rw [this, fldR, if_neg hw]
    rfl
theorem fldR_len (word l : List UInt8) : (fldR word l).length ≤ l.length + 1 ∧ (word = [] → (fldR word l).length ≤ l.length) := by
  induction l generalizing word with
  | nil => unfold fldR; by_cases h : word = [] <;> simp [h]
  | cons b r ih =>
    unfold fldR
    by_cases hb : blB b = true
    · rw [if_pos hb]
      have h1 := (ih []).2 rfl
      by_cases h : word = []
      · rw [if_pos h]; simp; omega
      · rw [if_neg h]; simp [h]; omega
    · rw [if_neg hb]
      have h1 := (ih (word ++ [b])).1
      simp; omega
theorem flds_len (l : List UInt8) : (flds l).length ≤ l.length := (fldR_len [] l).2 rfl
def TextsPost (w : World) (A : List (List UInt8)) (e : Ending) (w' : World) : Prop := ∃ v, e = .returned v ∧ Sl w' 1 v A.length (A.map stv) ∧ Below w.heap.size w w'
def FldRel (w : World) (l : List UInt8) (k : Nat) (v : Value) (wr : World) : Prop :=
  ∃ done : List (List UInt8), flds l = done ++ fldR [] (l.drop k) ∧ done.length ≤ k ∧ wr.ownsRow w.heap.size 9 1 v done.length (done.map stv) ∧ Below w.heap.size w wr

set_option maxRecDepth 100000 in
set_option maxHeartbeats 1000000 in
theorem fields_any (l : List UInt8) (w : World) (hl : l.length ≤ 1000000000) : Calls Tryd.prog 11 #[.string ⟨l.toArray⟩] w (TextsPost w (flds l)) := by
  go_enter Tryd.func11, Tryd.ntmps11
  go_wp2
  go_loopw [3, 4] (fun v i wr => ∃ k : Nat, k ≤ l.length ∧ i = .int .i64 k ∧ FldRel w l k v wr) (fun _ i _ => l.length - (intOf i).toNat)
  case atStart => exact ⟨0, Nat.zero_le _, rfl, [], rfl, Nat.le_refl _, World.ownsRow_nil _ _ _ _, Below.refl _ _⟩
  case round =>
    obtain ⟨k, hk, rfl, done, h1, h2, h3, h4⟩ := hrel
    have H1 := Lib.hid h1
    clear h1
    have hsz := h4.size
    by_cases hlt : k < l.length
    · have i1 : (k : Int) < (l.length : Int) := by omega
      rcases hb : blB l[k]
      · have Hb := Lib.hid hb
        clear hb
        go_wp2_with fail
        refine (blank_any _ _).mono ?_
        rintro e w' ⟨rfl, rfl⟩
        rw [Hb.out]
        go_wp2_with fail
        go_loop [5] (fun i => ∃ j : Nat, k ≤ j ∧ j ≤ l.length ∧ i = .int .i64 j ∧ fldR [] (l.drop k) = fldR ((l.take j).drop k) (l.drop j) ∧ (j = k ∨ k < j)) (fun i => l.length - (intOf i).toNat)
        case atStart => exact ⟨k, Nat.le_refl _, hk, rfl, by rw [List.drop_take, Nat.sub_self, List.take_zero], .inl rfl⟩
        case round =>
          obtain ⟨j, hkj, hj, rfl, hf, hjk⟩ := hrel
          have Hf := Lib.hid hf
          clear hf
          by_cases hgo : ∃ h : j < l.length, blB l[j] = false
          · obtain ⟨hjl, hbj⟩ := hgo
            have i2 : (j : Int) < (l.length : Int) := by omega
            have hst := fldR_step (word := (l.take j).drop k) hjl hbj
            have hnx : fldR [] (l.drop k) = fldR ((l.take (j + 1)).drop k) (l.drop (j + 1)) := by
              rw [Hf.out, hst, List.take_succ_eq_append_getElem hjl, List.drop_append_of_le_length (by rw [List.length_take]; omega)]
            have Hnx := Lib.hid hnx
            have Hbj := Lib.hid hbj
            clear hst hnx hbj
            go_wp2_with fail
            refine (blank_any _ _).mono ?_
            rintro e w' ⟨rfl, rfl⟩
            rw [Hbj.out]
            go_wp2_with fail
            go_round
            case rel => exact ⟨j + 1, by omega, by omega, by go_num, Hnx.out, .inr (by omega)⟩
            case measure => simp [intOf]; omega
          · have hjk2 : k < j := by
              rcases hjk with h | h
              · subst h; exact absurd ⟨hlt, Hb.out⟩ hgo
              · exact h
            have hword : (l.take j).drop k ≠ [] := by
              intro h
              have := congrArg List.length h
              rw [List.length_drop, List.length_take] at this
              simp at this
              omega
            have hbl : ∀ h : j < l.length, blB l[j] = true := by
              intro h
              cases hh : blB l[j]
              · exact absurd ⟨h, hh⟩ hgo
              · rfl
            have hfin : flds l = (done ++ [(l.take j).drop k]) ++ fldR [] (l.drop j) := by
              rw [H1.out, Hf.out, fldR_word hj hword hbl]; simp
            have Hfin := Lib.hid hfin
            clear hfin
            by_cases hjl : j < l.length
            · have i2 : (j : Int) < (l.length : Int) := by omega
              have Hbj := Lib.hid (hbl hjl)
              clear hbl hgo
              go_wp2_with fail
              refine (blank_any _ _).mono ?_
              rintro e w' ⟨rfl, rfl⟩
              rw [Hbj.out]
              go_wp2_with (at_builtin; refine wpList_appLit rfl _ _ _ rfl elt_strs (n := done.length) rfl h3 [stv ((l.take j).drop k)] (m := 1) rfl rfl (by simp [Value.oneCell', stv]) hsz (by omega) (by omega) ?_; intro v1 w1 ho1 hb1 hg1)
              go_roundw
              case rel => exact ⟨j, hj, rfl, done ++ [(l.take j).drop k], Hfin.out, by simp; omega, by simpa using ho1, h4.trans hb1⟩
              case measure => simp [intOf]; omega
            · have i2 : ¬ (j : Int) < (l.length : Int) := by omega
              clear hbl hgo
              go_wp2_with (at_builtin; refine wpList_appLit rfl _ _ _ rfl elt_strs (n := done.length) rfl h3 [stv ((l.take j).drop k)] (m := 1) rfl rfl (by simp [Value.oneCell', stv]) hsz (by omega) (by omega) ?_; intro v1 w1 ho1 hb1 hg1)
              go_roundw
              case rel => exact ⟨j, hj, rfl, done ++ [(l.take j).drop k], Hfin.out, by simp; omega, by simpa using ho1, h4.trans hb1⟩
              case measure => simp [intOf]; omega
      · have hnx := fldR_blank hlt hb
        have hfin : flds l = done ++ fldR [] (l.drop (k + 1)) := by rw [H1.out, hnx]
        have Hfin := Lib.hid hfin
        have Hb := Lib.hid hb
        clear hb hnx hfin
        go_wp2_with fail
        refine (blank_any _ _).mono ?_
        rintro e w' ⟨rfl, rfl⟩
        rw [Hb.out]
        go_wp2_with fail
        go_roundw
        case rel => exact ⟨k + 1, by omega, by go_num, done, Hfin.out, by omega, h3, h4⟩
        case measure => simp [intOf]; omega
    · have i1 : ¬ (k : Int) < (l.length : Int) := by omega
      have hfin : flds l = done := by
        rw [H1.out, List.drop_eq_nil_of_le (by omega)]; simp [fldR]
      have Hfin := Lib.hid hfin
      clear hfin
      go_wp2
      go_ret
      rw [Hfin.out]
      exact ⟨_, rfl, Sl.own h3, h4⟩
end Go.Proofs.YtfkmjncchicmpaaDoor
