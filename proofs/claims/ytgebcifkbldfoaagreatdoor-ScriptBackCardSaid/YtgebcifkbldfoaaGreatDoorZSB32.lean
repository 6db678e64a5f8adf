/- Contracts and plain lemmas of our own, merged. -/
import Derived.Test.YtgebcifkbldfoaaGreatDoorZSB10
import Derived.Test.YtgebcifkbldfoaaGreatDoorZSB21
import Derived.Test.YtgebcifkbldfoaaGreatDoorZSB29
import Derived.Test.YtgebcifkbldfoaaGreatDoorZSB30
import Derived.Test.YtgebcifkbldfoaaGreatDoorZSB31
/- nss.clause: what stands within a clause. -/
namespace Go.Proofs.YtgebcifkbldfoaaGreatDoor
open Go.RowKit
attribute [local go_sem] ba_get ext_take ext_drop ext_any ba_app

set_option maxRecDepth 100000 in
set_option maxHeartbeats 1000000 in
theorem fieldsW_any (l : List UInt8) (w : World) (hl : l.length ≤ 1000000000) : Calls Tryz.prog 30 #[.string ⟨l.toArray⟩] w (TextsOwn w (flds l)) := by
  go_enter Tryz.func30, Tryz.ntmps30
  go_wp2
  go_loopw [3, 4] (fun v i wr => ∃ k : Nat, k ≤ l.length ∧ i = .int .i64 k ∧ FldRel w l k v wr) (fun _ i _ => l.length - (intOf i).toNat)
  case atStart => exact ⟨0, Nat.zero_le _, rfl, [], rfl, Nat.le_refl _, World.ownsRow_nil _ _ _ _, Below.refl _ _⟩
  case round =>
    obtain ⟨k, hk, rfl, done, h1, h2, h3, h4⟩ := hrel
    have H1 := Lib.hid h1
    clear h1
    have hsz := h4.size
    by_cases hlt : k < l.length
    · have i1 : (k : Int) < (l.length : Int) := by omega
      rcases hb : blB l[k]
      · have Hb := Lib.hid hb
        clear hb
        go_wp2_with fail
        refine (blank_any _ _).mono ?_
        rintro e w' ⟨rfl, rfl⟩
        rw [Hb.out]
        go_wp2_with fail
        go_loop [5] (fun i => ∃ j : Nat, k ≤ j ∧ j ≤ l.length ∧ i = .int .i64 j ∧ fldR [] (l.drop k) = fldR ((l.take j).drop k) (l.drop j) ∧ (j = k ∨ k < j)) (fun i => l.length - (intOf i).toNat)
        case atStart => exact ⟨k, Nat.le_refl _, hk, rfl, by rw [List.drop_take, Nat.sub_self, List.take_zero], .inl rfl⟩
        case round =>
          obtain ⟨j, hkj, hj, rfl, hf, hjk⟩ := hrel
          have Hf := Lib.hid hf
          clear hf
          by_cases hgo : ∃ h : j < l.length, blB l[j] = false
          · obtain ⟨hjl, hbj⟩ := hgo
            have i2 : (j : Int) < (l.length : Int) := by omega
            have hst := fldR_step (word := (l.take j).drop k) hjl hbj
            have hnx : fldR [] (l.drop k) = fldR ((l.take (j + 1)).drop k) (l.drop (j + 1)) := by
              rw [Hf.out, hst, List.take_succ_eq_append_getElem hjl, List.drop_append_of_le_length (by rw [List.length_take]; omega)]
            have Hnx := Lib.hid hnx
            have Hbj := Lib.hid hbj
            clear hst hnx hbj
            go_wp2_with fail
            refine (blank_any _ _).mono ?_
            rintro e w' ⟨rfl, rfl⟩
            rw [Hbj.out]
            go_wp2_with fail
            go_round
            case rel => exact ⟨j + 1, by omega, by omega, by go_num, Hnx.out, .inr (by omega)⟩
            case measure => simp [intOf]; omega
          · have hjk2 : k < j := by
              rcases hjk with h | h
              · subst h; exact absurd ⟨hlt, Hb.out⟩ hgo
              · exact h
            have hword : (l.take j).drop k ≠ [] := by
              intro h
              have := congrArg List.length h
              rw [List.length_drop, List.length_take] at this
              simp at this
              omega
            have hbl : ∀ h : j < l.length, blB l[j] = true := by
              intro h
              cases hh : blB l[j]
              · exact absurd ⟨h, hh⟩ hgo
              · rfl
            have hfin : flds l = (done ++ [(l.take j).drop k]) ++ fldR [] (l.drop j) := by
              rw [H1.out, Hf.out, fldR_word hj hword hbl]; simp
            have Hfin := Lib.hid hfin
            clear hfin
            by_cases hjl : j < l.length
            · have i2 : (j : Int) < (l.length : Int) := by omega
              have Hbj := Lib.hid (hbl hjl)
              clear hbl hgo
              go_wp2_with fail
              refine (blank_any _ _).mono ?_
              rintro e w' ⟨rfl, rfl⟩
              rw [Hbj.out]
              go_wp2_with (at_builtin; refine wpList_appLit rfl _ _ _ rfl elt_strs (n := done.length) rfl h3 [stv ((l.take j).drop k)] (m := 1) rfl rfl (by simp [Value.oneCell', stv]) hsz (by omega) (by omega) ?_; intro v1 w1 ho1 hb1 hg1)
              go_roundw
              case rel => exact ⟨j, hj, rfl, done ++ [(l.take j).drop k], Hfin.out, by simp; omega, by simpa using ho1, h4.trans hb1⟩
              case measure => simp [intOf]; omega
            · have i2 : ¬ (j : Int) < (l.length : Int) := by omega
              clear hbl hgo
              go_wp2_with (at_builtin; refine wpList_appLit rfl _ _ _ rfl elt_strs (n := done.length) rfl h3 [stv ((l.take j).drop k)] (m := 1) rfl rfl (by simp [Value.oneCell', stv]) hsz (by omega) (by omega) ?_; intro v1 w1 ho1 hb1 hg1)
              go_roundw
              case rel => exact ⟨j, hj, rfl, done ++ [(l.take j).drop k], Hfin.out, by simp; omega, by simpa using ho1, h4.trans hb1⟩
              case measure => simp [intOf]; omega
      · have hnx := fldR_blank hlt hb
        have hfin : flds l = done ++ fldR [] (l.drop (k + 1)) := by rw [H1.out, hnx]
        have Hfin := Lib.hid hfin
        have Hb := Lib.hid hb
        clear hb hnx hfin
        go_wp2_with fail
        refine (blank_any _ _).mono ?_
        rintro e w' ⟨rfl, rfl⟩
        rw [Hb.out]
        go_wp2_with fail
        go_roundw
        case rel => exact ⟨k + 1, by omega, by go_num, done, Hfin.out, by omega, h3, h4⟩
        case measure => simp [intOf]; omega
    · have i1 : ¬ (k : Int) < (l.length : Int) := by omega
      have hfin : flds l = done := by
        rw [H1.out, List.drop_eq_nil_of_le (by omega)]; simp [fldR]
      have Hfin := Lib.hid hfin
      clear hfin
      go_wp2
      go_ret
      rw [Hfin.out]
      exact ⟨_, rfl, h3, h4⟩
theorem flds_mem {l x : List UInt8} (h : x ∈ flds l) : x.length ≤ l.length := by
  have := fldR_mem l [] x h
  simpa using this
end Go.Proofs.YtgebcifkbldfoaaGreatDoor
