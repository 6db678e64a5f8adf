/- Contracts and plain lemmas of our own, merged. -/
import Derived.Test.YtbffkddlkfefoaaDoorZid6
import Derived.Test.YtbffkddlkfefoaaDoorShelf
import Derived.Lib.LastIndexByte
/- The contract of puny.basics. -/
namespace Go.Proofs.YtbffkddlkfefoaaDoor
open Go.RowKit
attribute [local go_sem] ba_get ext_drop ba_app

theorem elt_rn : Elt Tryd.prog 132 21 1 4 := Elt.mk' (z := .int .i32 0) Tryd.underlying132 (by kernel_rfl) rfl (by decide)
theorem dash_last (s : List UInt8) : Lib.lastIndexByte ⟨s.toArray⟩ 45 = (Pu.dash s : Int) - 1 := by
  have hg : ∀ (j : Nat) (hj : j < s.length), (s.toArray[j]!) = s[j] := by
    intro j hj
    rw [getElem!_pos s.toArray j (by simpa using hj)]
    simp
  rcases Lib.lastIndexByte_spec ⟨s.toArray⟩ 45 with ⟨e, h⟩ | ⟨i, hi, e, hc, h⟩
  · rw [e, Pu.dash_none]
    · rfl
    · intro c hc h45
      obtain ⟨j, hj, rfl⟩ := List.getElem_of_mem hc
      refine h j hj ?_
      show ((s.toArray[j]!).toNat : Int) = 45
      rw [hg j hj, h45]; rfl
  · have hi' : i < s.length := hi
    have e45 : s[i] = 45 := by
      have : ((s.toArray[i]!).toNat : Int) = 45 := hc
      rw [hg i hi'] at this
      exact UInt8.toNat.inj (by simp; omega)
    have hs : s = s.take i ++ 45 :: s.drop (i + 1) := by
      conv => lhs; rw [← List.take_append_drop i s, List.drop_eq_getElem_cons hi', e45]
    have hd : Pu.dash s = i + 1 := by
      rw [hs, Pu.dash_app]
      · simp; omega
      · intro c hc2 h45
        obtain ⟨j, hj, rfl⟩ := List.getElem_of_mem hc2
        rw [List.length_drop] at hj
        rw [List.getElem_drop] at h45
        refine h (i + 1 + j) (by omega) (show i + 1 + j < s.length by omega) ?_
        show ((s.toArray[i + 1 + j]!).toNat : Int) = 45
        rw [hg _ (by omega), h45]; rfl
    rw [e, hd]; omega
def rnb (c : UInt8) : Value := .int .i32 ((c.toNat : Nat) : Int)
theorem rnb_map (l : List UInt8) : l.map rnb = (l.map UInt8.toNat).map rnv := by rw [List.map_map]; rfl
def BasPost (w : World) (s : List UInt8) (e : Ending) (w' : World) : Prop :=
  (∃ c, Pu.bas s = .inl c ∧ e = .returned (.tuple #[.slice none 0 0, .string ⟨([] : List UInt8).toArray⟩, .int .i64 c]) ∧ Below w.heap.size w w') ∨
  ∃ l r v, Pu.bas s = .inr (l, r) ∧ e = .returned (.tuple #[v, .string ⟨r.toArray⟩, .int .i64 0]) ∧ w'.ownsRow w.heap.size 21 1 v l.length (l.map rnv) ∧ Below w.heap.size w w'
theorem bas_zero {s : List UInt8} (h : Pu.dash s = 0) : Pu.bas s = .inr ([], s) := by unfold Pu.bas; rw [h]; simp
theorem bas_bad {s : List UInt8} {a k : Nat} (h : Pu.dash s = a + 1) (hk : k < a) (hs : k < s.length) (hc : 128 ≤ s[k].toNat) : Pu.bas s = .inl 5 := by
  unfold Pu.bas
  rw [if_neg]
  rw [List.all_eq_true]
  intro hall
  have := hall s[k] (by rw [h, Nat.add_sub_cancel]; exact List.mem_take_iff_getElem.2 ⟨k, by omega, rfl⟩)
  simp at this
  omega
theorem bas_good {s : List UInt8} {a : Nat} (h : Pu.dash s = a + 1) (hc : (s.take a).all (fun c => decide (c.toNat < 128)) = true) : Pu.bas s = if 4096 < a then .inl 3 else .inr ((s.take a).map UInt8.toNat, s.drop (a + 1)) := by
  unfold Pu.bas
  rw [h, Nat.add_sub_cancel, if_pos hc]

set_option maxRecDepth 100000 in
set_option maxHeartbeats 1000000 in
theorem basics_any (s : List UInt8) (w : World) (hs : s.length ≤ 100000) : Calls Tryd.prog 200 #[.string ⟨s.toArray⟩] w (BasPost w s) := by
  have hdl := Pu.dash_le s
  have Hl := Lib.hid (dash_last s)
  rcases hD : Pu.dash s with _ | a
  · have Hz := Lib.hid (bas_zero hD)
    rw [hD] at Hl
    clear hD hdl
    go_enter Tryd.func200, Tryd.ntmps200
    go_wp2_with fail
    refine (Tryd.strings_LastIndexByte ⟨s.toArray⟩ 45 (show s.length < 4611686018427387904 by omega) _).mono ?_
    rintro e w' ⟨rfl, hw⟩
    have hw2 := hw.symm
    clear hw
    subst hw2
    rw [Hl.out, show (((0 : Nat) : Int) - 1) = -1 from rfl]
    go_wp2
    go_ret3
    exact Or.inr ⟨[], s, _, Hz.out, rfl, World.ownsRow_nil _ _ _ _, Below.refl _ _⟩
  · rw [hD] at hdl Hl
    have HD := Lib.hid hD
    clear hD
    go_enter Tryd.func200, Tryd.ntmps200
    go_wp2_with fail
    refine (Tryd.strings_LastIndexByte ⟨s.toArray⟩ 45 (show s.length < 4611686018427387904 by omega) _).mono ?_
    rintro e w' ⟨rfl, hw⟩
    have hw2 := hw.symm
    clear hw
    subst hw2
    rw [Hl.out, show (((a + 1 : Nat) : Int) - 1) = (a : Int) by omega]
    have i0 : ¬ (a : Int) < 0 := by omega
    go_wp2_with (at_make; refine wpList_mk0 rfl _ _ _ rfl elt_rn (base := w.heap.size) a rfl rfl (by omega) (by omega) (by omega) (Nat.le_refl _) ?_; intro w0 ho0 hbw0)
    go_loopw [6, 7, 16] (fun v _ i wr => ∃ k : Nat, k ≤ a ∧ i = .int .i64 (k : Int) ∧ (s.take k).all (fun c => decide (c.toNat < 128)) = true ∧ wr.ownsRow w.heap.size 21 1 v k ((s.take k).map rnb) ∧ Below w.heap.size w wr) (fun _ _ i _ => a - (intOf i).toNat)
    case atStart => exact ⟨0, Nat.zero_le _, rfl, rfl, ho0, hbw0⟩
    case round =>
      obtain ⟨k, hk, rfl, hall, h3, h4⟩ := hrel
      have hsz := h4.size
      have Hall := Lib.hid hall
      clear hall ho0 hbw0
      by_cases hlt : k < a
      · have hks : k < s.length := by omega
        have i1 : (k : Int) < (a : Int) := by omega
        have i2 : (k : Int) < (s.length : Int) := by omega
        have hb := s[k].toNat_lt
        by_cases hc : 128 ≤ s[k].toNat
        · have Hb := Lib.hid (bas_bad HD.out hlt hks hc)
          have i3 : (128 : Int) ≤ ((s[k].toNat : Nat) : Int) := by omega
          go_wp2
          go_ret3
          exact Or.inl ⟨5, Hb.out, rfl, h4⟩
        · have i3 : ¬ (128 : Int) ≤ ((s[k].toNat : Nat) : Int) := by omega
          have HA := Lib.hid (show (s.take (k + 1)).all (fun c => decide (c.toNat < 128)) = true by
            rw [List.take_succ_eq_append_getElem hks, List.all_append, Hall.out]; simp; omega)
          have HM := Lib.hid (show (s.take (k + 1)).map rnb = (s.take k).map rnb ++ [rnb s[k]] by rw [List.take_succ_eq_append_getElem hks, List.map_append]; rfl)
          generalize hX : (s.take k).map rnb = X at *
          have HX := Lib.hid hX
          clear hX
          go_wp2_with (at_builtin; refine wpList_appLit rfl _ _ _ rfl elt_rn (n := k) rfl h3 [.int .i32 ((s[k].toNat : Nat) : Int)] (m := 1) rfl rfl (by simp [Value.oneCell']) hsz (by omega) (by omega) ?_; intro v1 w1 ho1 hbw1 hg1)
          go_roundw
          case rel => exact ⟨k + 1, by omega, by go_num, HA.out, by rw [HM.out]; exact ho1, h4.trans hbw1⟩
          case measure => simp [intOf]; omega
      · have i1 : ¬ (k : Int) < (a : Int) := by omega
        obtain rfl : k = a := by omega
        have Hb := Lib.hid (bas_good HD.out Hall.out)
        obtain ⟨va, vc, hv, _⟩ := (Sl.own h3).any
        subst hv
        by_cases hbig : 4096 < k
        · have i2 : (4096 : Int) < (k : Int) := by omega
          go_wp2
          go_ret3
          exact Or.inl ⟨3, by rw [Hb.out, if_pos hbig], rfl, h4⟩
        · have i2 : ¬ (4096 : Int) < (k : Int) := by omega
          have i4 : (k : Int) + 1 ≤ (s.length : Int) := by omega
          have e1 : ((k : Int) + 1).toNat = k + 1 := by omega
          have i5 : (0 : Int) ≤ (k : Int) + 1 := by omega
          go_wp2
          go_quiet (fail)
          go_wp2
          go_ret3
          refine Or.inr ⟨(s.take k).map UInt8.toNat, s.drop (k + 1), _, by rw [Hb.out, if_neg hbig], rfl, ?_, below_drewN h4 _⟩
          rw [← rnb_map, List.length_map, List.length_take, Nat.min_eq_left (by omega)]
          exact own_below h3 (below_drewN (Below.refl _ _) _)
end Go.Proofs.YtbffkddlkfefoaaDoor
