/- The contract of label.ToUnicode; works; the walks of LabelFixed and LabelBack. -/
import Derived.Test.YtnelaegjcpkmdaaLabD
import Derived.Test.YtnelaegjcpkmdaaShelf
namespace Go.Proofs.Ytnelaegjcpkmdaa
open Go.RowKit
attribute [local go_sem] ba_get ext_drop ext_take ba_app

theorem decF_inl (f : Nat) : ∀ (d : Pu.DS) (c : Int), Pu.decF f d = .inl c → c ≠ 0 := by
  induction f with
  | zero => intro d c h; simp only [Pu.decF] at h; cases h
  | succ f ih =>
    intro d c h
    obtain ⟨L, n, p, bias, first, s⟩ := d
    by_cases hs : s = []
    · subst hs
      rw [decF_nil] at h
      cases h
    · rcases hN : Pu.numb bias s 1 0 1 with e | ⟨x, r⟩
      · rw [decF_err hs hN] at h
        injection h with h
        have := numb_inl _ _ _ _ _ _ hN
        omega
      · rw [decF_ok hs hN] at h
        split at h
        · injection h with h; omega
        · split at h
          · injection h with h; omega
          · split at h
            · injection h with h; omega
            · exact ih _ _ h
theorem dec_inl {s : List UInt8} {c : Int} (h : Pu.dec s = .inl c) : (c != 0) = true := by
  rw [bne_iff_ne]
  unfold Pu.dec at h
  split at h
  · injection h with h; omega
  · split at h
    · next e hb =>
      injection h with h
      unfold Pu.bas at hb
      split at hb
      · split at hb
        · injection hb with hb; omega
        · cases hb
      · injection hb with hb; omega
    · exact decF_inl _ _ _ h
theorem toA_inl {s : List UInt8} {c : Int} (h : toA s = .inl c) : (c != 0) = true := by
  unfold toA at h
  split at h
  · split at h
    · injection h with h; rw [bne_iff_ne]; omega
    · split at h
      · split at h
        · next e he => injection h with h; subst h; exact encR_inl he
        · split at h
          · injection h with h; rw [bne_iff_ne]; omega
          · cases h
      · injection h with h; rw [bne_iff_ne]; omega
  · split at h
    · cases h
    · injection h with h; rw [bne_iff_ne]; omega
theorem pre_iff (t : List UInt8) : Lib.hasPrefix t mrk = decide (t.take 4 = mrk) := by
  unfold Lib.hasPrefix
  rw [Bool.eq_iff_iff, decide_eq_true_iff, List.isPrefixOf_iff_prefix, List.prefix_iff_eq_take]
  exact eq_comm
theorem toU_not {s : List UInt8} (h : ¬ (hostB (low s) = true ∧ (low s).take 4 = mrk)) : toU s = s := by unfold toU; rw [if_neg h]
theorem toU_bad {s : List UInt8} {c : Int} (h : hostB (low s) = true ∧ (low s).take 4 = mrk) (hd : Pu.dec ((low s).drop 4) = .inl c) : toU s = s := by unfold toU; rw [if_pos h, hd]
theorem toU_txt {s : List UInt8} {l : List Nat} (h : hostB (low s) = true ∧ (low s).take 4 = mrk) (hd : Pu.dec ((low s).drop 4) = .inr l) (ht : txt (zs l) = none) : toU s = s := by unfold toU; rw [if_pos h, hd]; simp only; rw [ht]
theorem toU_back {s : List UInt8} {l : List Nat} {t : List UInt8} (h : hostB (low s) = true ∧ (low s).take 4 = mrk) (hd : Pu.dec ((low s).drop 4) = .inr l) (ht : txt (zs l) = some t) : toU s = if toA t = .inr (low s) then t else s := by unfold toU; rw [if_pos h, hd]; simp only; rw [ht]
theorem str_ret {w w' : World} {s a : List UInt8} (h : a = s) (hb : Below w.heap.size w w') : StrPost w a (.returned (.string ⟨s.toArray⟩)) w' := ⟨by rw [h], hb⟩

set_option maxRecDepth 100000 in
set_option maxHeartbeats 1000000 in
theorem tounicode_any (s : List UInt8) (w : World) (hl : s.length ≤ 100000000) : Calls Try.prog 45 #[.string ⟨s.toArray⟩] w (StrPost w (toU s)) := by
  have hll : (low s).length ≤ 100000000 := by rw [low_len]; exact hl
  rcases hh : hostB (low s)
  · have H := Lib.hid (toU_not (s := s) (by rw [hh]; simp))
    have Hh := Lib.hid hh
    clear hh
    go_enter Try.func45, Try.ntmps45
    go_wp2_with fail
    refine (lower_any _ _ (by omega)).mono ?_
    rintro e w1 ⟨rfl, hb1⟩
    go_wp2_with fail
    refine (lhost_any _ _ (by omega)).mono ?_
    rintro e w' ⟨rfl, rfl⟩
    rw [Hh.out]
    go_wp2
    go_ret
    exact str_ret H.out hb1
  · have Hh := Lib.hid hh
    have hl63 := (host_mem hh).2.1
    by_cases hp : (low s).take 4 = mrk
    · have Hpre := Lib.hid (show Lib.hasPrefix (low s) mrk = true by rw [pre_iff]; simp [hp])
      have h4 : 4 ≤ (low s).length := by have := congrArg List.length hp; simp [mrk] at this; omega
      have HC : Hid (hostB (low s) = true ∧ (low s).take 4 = mrk) := Lib.hid ⟨hh, hp⟩
      clear hh hp
      have HPOST : Hid (∀ w' : World, Below w.heap.size w w' → toU s = s → StrPost w (toU s) (.returned (.string ⟨s.toArray⟩)) w') := Lib.hid (fun w' hb h => str_ret h hb)
      have HPOST2 : Hid (∀ (w' : World) (t : List UInt8), Below w.heap.size w w' → toU s = t → StrPost w (toU s) (.returned (.string ⟨t.toArray⟩)) w') := Lib.hid (fun w' t hb h => str_ret h hb)
      go_enter Try.func45, Try.ntmps45
      go_wp2_with fail
      refine (lower_any _ _ (by omega)).mono ?_
      rintro e w1 ⟨rfl, hb1⟩
      go_wp2_with fail
      refine (lhost_any _ _ (by omega)).mono ?_
      rintro e w' ⟨rfl, rfl⟩
      rw [Hh.out]
      go_wp2_with fail
      refine (Try.strings_HasPrefix ⟨(low s).toArray⟩ ⟨mrk.toArray⟩ _).mono ?_
      rintro e w' ⟨rfl, hw⟩
      have hw2 := hw.symm
      clear hw
      subst hw2
      rw [show Lib.hasPrefix (ByteArray.mk (low s).toArray).data.toList (ByteArray.mk mrk.toArray).data.toList = true from Hpre.out]
      generalize hX : low s = X at *
      have HX := Lib.hid hX
      clear hX
      go_wp2_with fail
      refine (decode_any (X.drop 4) _ (by unfold maxLen; simp; omega)).mono ?_
      intro e w2 h2
      rcases hd : Pu.dec (X.drop 4) with c | l
      · have HU := Lib.hid (toU_bad (s := s) (c := c) (by rw [HX.out]; exact HC.out) (by rw [HX.out]; exact hd))
        have hc := dec_inl hd
        obtain ⟨rfl, hb2⟩ : e = .returned (.tuple #[.slice none 0 0, .int .i64 c]) ∧ Below w1.heap.size w1 w2 := by
          rcases h2 with ⟨c', g1, g2, g3⟩ | ⟨l', v', g1, _⟩
          · rw [hd] at g1; injection g1 with g1; subst g1; exact ⟨g2, g3⟩
          · rw [hd] at g1; cases g1
        clear h2 hd
        go_wp2
        go_ret
        exact HPOST.out _ (bel_tr hb1 hb2) HU.out
      · obtain ⟨v2, rfl, hs2, hb2⟩ := dec_open h2 hd
        obtain ⟨d1, d2⟩ := dec_bd hd
        have Hd1 := Lib.hid (zs_bd d1)
        have hzl : (zs l).length ≤ 4096 := by rw [zs_len]; exact d2
        have hb02 := bel_tr hb1 hb2
        have Hd := Lib.hid hd
        clear h2 hd d1
        go_wp2_with fail
        refine (text_any _ _ _ hs2 Hd1.out (by omega)).mono ?_
        rintro e w3 ⟨rfl, hb3⟩
        have hb03 := bel_tr hb02 hb3
        rcases ht : txt (zs l) with _ | t
        · have HU := Lib.hid (toU_txt (s := s) (by rw [HX.out]; exact HC.out) (by rw [HX.out]; exact Hd.out) ht)
          clear ht
          unfold txtV
          go_wp2
          go_ret
          exact HPOST.out _ hb03 HU.out
        · have HU := Lib.hid (toU_back (s := s) (by rw [HX.out]; exact HC.out) (by rw [HX.out]; exact Hd.out) ht)
          have htl := txt_len ht
          clear ht
          unfold txtV
          go_wp2_with fail
          refine (toascii_any _ _ (by omega)).mono ?_
          rintro e w4 ⟨rfl, hb4⟩
          have hb04 := bel_tr hb03 hb4
          rcases hta : toA t with c | back
          · have hc := toA_inl hta
            have HU2 := Lib.hid (show toU s = s by rw [HU.out, hta, if_neg (by simp)])
            clear hta
            unfold encT
            go_wp2
            go_ret
            exact HPOST.out _ hb04 HU2.out
          · unfold encT
            by_cases hbk : back = X
            · have HU2 := Lib.hid (show toU s = t by rw [HU.out, hta, HX.out, hbk, if_pos rfl])
              subst hbk
              clear hta
              go_wp2
              go_ret
              exact HPOST2.out _ _ hb04 HU2.out
            · have HU2 := Lib.hid (show toU s = s by rw [HU.out, hta, HX.out, if_neg (by intro h; injection h with h; exact hbk h)])
              have k1 : (back == X) = false := by simpa using hbk
              have k2 : (back != X) = true := by simpa using hbk
              clear hta
              go_wp2
              go_ret
              exact HPOST.out _ hb04 HU2.out
    · have Hpre := Lib.hid (show Lib.hasPrefix (low s) mrk = false by rw [pre_iff]; simp [hp])
      have H := Lib.hid (toU_not (s := s) (fun h => hp h.2))
      clear hh hp
      go_enter Try.func45, Try.ntmps45
      go_wp2_with fail
      refine (lower_any _ _ (by omega)).mono ?_
      rintro e w1 ⟨rfl, hb1⟩
      go_wp2_with fail
      refine (lhost_any _ _ (by omega)).mono ?_
      rintro e w' ⟨rfl, rfl⟩
      rw [Hh.out]
      go_wp2_with fail
      refine (Try.strings_HasPrefix ⟨(low s).toArray⟩ ⟨mrk.toArray⟩ _).mono ?_
      rintro e w' ⟨rfl, hw⟩
      have hw2 := hw.symm
      clear hw
      subst hw2
      rw [show Lib.hasPrefix (ByteArray.mk (low s).toArray).data.toList (ByteArray.mk mrk.toArray).data.toList = false from Hpre.out]
      go_wp2
      go_ret
      exact str_ret H.out hb1
end Go.Proofs.Ytnelaegjcpkmdaa
