/- The walk of the reference's Parse. -/
import Derived.Test.YtnelaegjcpkmdaaDomE
namespace Go.Proofs.Ytnelaegjcpkmdaa
open Go.RowKit
attribute [local go_sem] ba_get ext_take ext_drop

set_option maxRecDepth 100000 in
set_option maxHeartbeats 2000000 in
theorem rparse_any (l : List UInt8) (w : World) (hl : l.length ≤ 1000000) : Calls Try.prog 37 #[.string ⟨l.toArray⟩] w (PrsPost w (prs l)) := by
  by_cases hd : l = [46]
  · subst hd
    go_enter Try.func37, Try.ntmps37
    go_wp2
    go_ret3
    exact ⟨_, rfl, Sl.nil _ _, Below.refl _ _⟩
  · have hd1 : (l == [46]) = false := by simpa using hd
    have hP := prs_St l hd
    have HP := Lib.hid hP
    clear hP hd
    go_enter Try.func37, Try.ntmps37
    go_wp2
    go_loopw [5, 6, 7, 8] (fun nv bv d i wr => ∃ (k : Nat) (dot : Bool), i = .int .i64 k ∧ d = .bool dot ∧ RpRel w l k nv bv dot wr) (fun _ _ _ i _ => l.length + 1 - (intOf i).toNat)
    case atStart => exact ⟨0, false, rfl, rfl, [], [], .inl ⟨Nat.zero_le _, HP.out⟩, by omega, by simp, rfl, World.ownsRow_nil _ _ _ _, World.ownsRow_nil _ _ _ _, Below.refl _ _⟩
    case round =>
      clear HP
      obtain ⟨k, dot, rfl, rfl, n, b, hst, hk, h2, ha, h3, h3b, h4⟩ := hrel
      have HA := Lib.hid ha
      clear ha
      have hsz := h4.size
      rcases hst with ⟨hkl, h1⟩ | ⟨rfl, h1⟩
      · have H1 := Lib.hid h1
        clear h1
        have i0 : (k : Int) ≤ (l.length : Int) := by omega
        by_cases hlt : k < l.length
        · have i1 : (k : Int) < (l.length : Int) := by omega
          by_cases h92 : l[k].toNat = 92
          · have i3 : (((l[k].toNat : Nat) : Int) == 92) = true := by simp; omega
            have he : ends (l.drop k) = false := by
              rw [ends_at hlt]
              simp only [beq_eq_false_iff_ne, ne_eq]
              intro h
              have := is46.1 h
              omega
            have hst : stp (l.drop k) = (esc (l.drop (k + 1))).map (fun p => (p.1, p.2 + 1)) := by
              rw [stp_at hlt, if_pos (is92.2 h92)]
            have He := Lib.hid he
            clear he h92
            have hdl : (l.drop (k + 1)).length ≤ l.length := by rw [List.length_drop]; omega
            rcases hes : esc (l.drop (k + 1)) with _ | ⟨c, m⟩
            · rw [hes] at hst
              have hfin := St_err5 hlt H1.out He.out hst
              have Hfin := Lib.hid hfin
              have Hes := Lib.hid hes
              clear hst hes hfin
              go_wp2_with fail
              refine (rescaped_any _ _ (by omega)).mono ?_
              rintro e w0 ⟨rfl, rfl⟩
              rw [Hes.out]
              unfold rescV
              go_wp2
              go_ret3
              exact PrsPost.err Hfin.out h4
            · rw [hes] at hst
              have hst' : stp (l.drop k) = some (c, m + 1) := hst
              have heb := esc_bd hes
              rw [List.length_drop] at heb
              have hm0 : ((m : Int) == 0) = false := by simp; omega
              have Hst := Lib.hid hst'
              have Hes := Lib.hid hes
              clear hst hes hst'
              have hcb := c.toNat_lt
              go_wp2_with fail
              refine (rescaped_any _ _ (by omega)).mono ?_
              rintro e w0 ⟨rfl, rfl⟩
              rw [Hes.out]
              unfold rescV
              go_wp2_with (at_builtin; refine wpList_appLit rfl _ _ _ rfl elt_bytes (n := b.length) rfl h3b [byv c] (m := 1) rfl rfl (by simp [Value.oneCell', byv]) hsz (by omega) (by omega) ?_; intro v1 w1 ho1 hb1 hg1)
              have R := RpRel.char hlt H1.out h2 HA.out He.out Hst.out h3 h3b ho1 h4 hb1 hg1
              clear ho1 hb1 hg1
              go_roundw
              case rel => exact ⟨k + (m + 1), false, vint (by omega), rfl, R⟩
              case measure => simp [intOf]; omega
          · have i3 : (((l[k].toNat : Nat) : Int) == 92) = false := by simp; omega
            by_cases h46 : l[k].toNat = 46
            · have i4 : (((l[k].toNat : Nat) : Int) != 46) = false := by simp; omega
              have he : ends (l.drop k) = true := by rw [ends_at hlt]; simpa using is46.2 h46
              have He := Lib.hid he
              clear he h92 h46
              have i5 : (((k : Nat) : Int) == ((l.length : Nat) : Int)) = false := by simp; omega
              have hown := Sl.own h3b
              have hcv := str_run hown
              obtain ⟨A6, c6, hv6, _⟩ := hown.any
              subst hv6
              clear hown
              by_cases hb0 : b = []
              · subst hb0
                have hfin := St_err8 (.inr hlt) H1.out He.out
                have Hfin := Lib.hid hfin
                clear hfin
                go_wp2
                go_ret3
                exact PrsPost.err Hfin.out h4
              · have hbl : 0 < b.length := List.length_pos_iff.2 hb0
                have hb1 : ((b.length : Int) == 0) = false := by simp; omega
                by_cases h63 : 63 < b.length
                · have hfin := St_err7 (.inr hlt) H1.out He.out hb0 h63
                  have Hfin := Lib.hid hfin
                  clear hfin
                  go_wp2
                  go_ret3
                  exact PrsPost.err Hfin.out h4
                · go_wp2_with (at_builtin; refine wpList_appLit rfl _ _ _ rfl elt_strs (n := n.length) rfl h3 [stv b] (m := 1) rfl rfl (by simp [Value.oneCell', stv]) hsz (by omega) (by omega) ?_; intro v1 w1 ho1 hb1 hg1)
                  have R := RpRel.label hlt H1.out h2 HA.out He.out hb0 h63 ho1 (h4.trans hb1)
                  clear ho1 hb1 hg1
                  go_roundw
                  case rel => exact ⟨k + 1, true, by go_num, rfl, R⟩
                  case measure => simp [intOf]; omega
            · have i4 : (((l[k].toNat : Nat) : Int) != 46) = true := by simp; omega
              have he : ends (l.drop k) = false := by
                rw [ends_at hlt]
                simp only [beq_eq_false_iff_ne, ne_eq]
                exact fun h => h46 (is46.1 h)
              have hst : stp (l.drop k) = some (l[k], 1) := by rw [stp_at hlt, if_neg (fun h => h92 (is92.1 h))]
              have He := Lib.hid he
              have Hst := Lib.hid hst
              clear he hst h92 h46
              go_wp2_with (at_builtin; refine wpList_appLit rfl _ _ _ rfl elt_bytes (n := b.length) rfl h3b [byv l[k]] (m := 1) rfl rfl (by simp [Value.oneCell', byv]) hsz (by omega) (by omega) ?_; intro v1 w1 ho1 hb1 hg1)
              have R := RpRel.char hlt H1.out h2 HA.out He.out Hst.out h3 h3b ho1 h4 hb1 hg1
              clear ho1 hb1 hg1
              go_roundw
              case rel => exact ⟨k + 1, false, by go_num, rfl, R⟩
              case measure => simp [intOf]; omega
        · obtain rfl : k = l.length := by omega
          have i1 : ¬ ((l.length : Nat) : Int) < (l.length : Int) := by omega
          clear hlt
          cases dot
          · have hown := Sl.own h3b
            have hcv := str_run hown
            obtain ⟨A6, c6, hv6, _⟩ := hown.any
            subst hv6
            clear hown
            by_cases hb0 : b = []
            · subst hb0
              have hfin := St_err8 (.inl rfl) H1.out ends_end
              have Hfin := Lib.hid hfin
              clear hfin
              go_wp2
              go_ret3
              exact PrsPost.err Hfin.out h4
            · have hbl : 0 < b.length := List.length_pos_iff.2 hb0
              have hb1 : ((b.length : Int) == 0) = false := by simp; omega
              by_cases h63 : 63 < b.length
              · have hfin := St_err7 (.inl rfl) H1.out ends_end hb0 h63
                have Hfin := Lib.hid hfin
                clear hfin
                go_wp2
                go_ret3
                exact PrsPost.err Hfin.out h4
              · go_wp2_with (at_builtin; refine wpList_appLit rfl _ _ _ rfl elt_strs (n := n.length) rfl h3 [stv b] (m := 1) rfl rfl (by simp [Value.oneCell', stv]) hsz (by omega) (by omega) ?_; intro v1 w1 ho1 hb1 hg1)
                have R := RpRel.last H1.out h2 HA.out hb0 h63 ho1 (h4.trans hb1)
                clear ho1 hb1 hg1
                go_roundw
                case rel => exact ⟨l.length + 1, false, by go_num, rfl, R⟩
                case measure => simp [intOf]
          · have hfin : prs l = fin n true := by
              rw [H1.out]; unfold St; rw [if_pos ⟨rfl, by simp⟩]
            have Hfin := Lib.hid hfin
            clear hfin
            have hso := sz_ok HA.out
            have hown := Sl.own h3
            obtain ⟨A5, c5, hv5, _⟩ := hown.any
            subst hv5
            have Ho := Lib.hid hown
            clear hown
            by_cases h255 : 255 < sz n
            all_goals
              go_wp2_with fail
              refine (rsize_any n _ _ Ho.out (by omega) (by omega)).mono ?_
              rintro e w' ⟨rfl, rfl⟩
              go_wp2
              go_ret3
            · exact fin_long Hfin.out h255 h4
            · exact fin_post Hfin.out h255 Ho.out h4
      · have Hfin := Lib.hid h1
        clear h1
        have i0 : ¬ ((l.length + 1 : Nat) : Int) ≤ (l.length : Int) := by omega
        have hso := sz_ok HA.out
        have hown := Sl.own h3
        obtain ⟨A5, c5, hv5, _⟩ := hown.any
        subst hv5
        have Ho := Lib.hid hown
        clear hown
        by_cases h255 : 255 < sz n
        all_goals
          go_wp2_with fail
          refine (rsize_any n _ _ Ho.out (by omega) (by omega)).mono ?_
          rintro e w' ⟨rfl, rfl⟩
          go_wp2
          go_ret3
        · exact fin_long Hfin.out h255 h4
        · exact fin_post Hfin.out h255 Ho.out h4
end Go.Proofs.Ytnelaegjcpkmdaa
