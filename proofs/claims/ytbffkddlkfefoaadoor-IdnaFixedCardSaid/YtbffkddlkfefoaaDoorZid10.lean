/- Contracts and plain lemmas of our own, merged. -/
import Derived.Test.YtbffkddlkfefoaaDoorZid9
import Derived.IntWalk
/- The contract of puny.Decode. -/
namespace Go.Proofs.YtbffkddlkfefoaaDoor
open Go.RowKit
attribute [local go_sem] ba_get ext_drop ba_app

theorem numb_inr (bias : Nat) (s : List UInt8) : ∀ (k sum w x : Nat) (r : List UInt8), Pu.numb bias s k sum w = .inr (x, r) → r.length < s.length ∧ x ≤ 4294967295 := by
  induction s with
  | nil => intro k sum w x r h; simp [Pu.numb] at h
  | cons c s ih =>
    intro k sum w x r h
    rcases hf : Pu.fig c with _ | f
    · rw [numb_none hf] at h; cases h
    · rw [numb_cons hf] at h
      split at h
      · cases h
      · split at h
        · injection h with h
          injection h with h1 h2
          subst h2
          exact ⟨by simp, by omega⟩
        · split at h
          · cases h
          · have := ih _ _ _ _ _ h
            rw [List.length_cons]
            omega
theorem numb_inl (bias : Nat) (s : List UInt8) : ∀ (k sum w : Nat) (e : Int), Pu.numb bias s k sum w = .inl e → e = 5 ∨ e = 6 := by
  induction s with
  | nil => intro k sum w e h; simp [Pu.numb] at h; omega
  | cons c s ih =>
    intro k sum w e h
    rcases hf : Pu.fig c with _ | f
    · rw [numb_none hf] at h; injection h with h; omega
    · rw [numb_cons hf] at h
      split at h
      · injection h with h; omega
      · split at h
        · cases h
        · split at h
          · injection h with h; omega
          · exact ih _ _ _ _ h
def DecPost (w : World) (s : List UInt8) (e : Ending) (w' : World) : Prop :=
  (∃ c, Pu.dec s = .inl c ∧ e = .returned (.tuple #[.slice none 0 0, .int .i64 c]) ∧ Below w.heap.size w w') ∨
  ∃ l v, Pu.dec s = .inr l ∧ e = .returned (.tuple #[v, .int .i64 0]) ∧ Sl w' 1 v l.length (l.map rnv) ∧ Below w.heap.size w w'
theorem decF_nil {f : Nat} {l : List Nat} {n p bias : Nat} {first : Bool} : Pu.decF f ⟨l, n, p, bias, first, []⟩ = .inr l := by
  cases f with
  | zero => rfl
  | succ f => rw [Pu.decF]; simp
theorem decF_err {f : Nat} {l : List Nat} {n p bias : Nat} {first : Bool} {s : List UInt8} {e : Int} (hs : s ≠ []) (h : Pu.numb bias s 1 0 1 = .inl e) : Pu.decF (f + 1) ⟨l, n, p, bias, first, s⟩ = .inl e := by
  rw [Pu.decF]; simp only; rw [if_neg hs, h]
theorem decF_ok {f : Nat} {l : List Nat} {n p bias : Nat} {first : Bool} {s r : List UInt8} {x : Nat} (hs : s ≠ []) (h : Pu.numb bias s 1 0 1 = .inr (x, r)) : Pu.decF (f + 1) ⟨l, n, p, bias, first, s⟩ =
    if 4294967295 < p + x then .inl 6 else if 1114111 < n + (p + x) / (l.length + 1) then .inl 4 else if 4096 < l.length + 1 then .inl 3
    else Pu.decF f ⟨l.take ((p + x) % (l.length + 1)) ++ (n + (p + x) / (l.length + 1)) :: l.drop ((p + x) % (l.length + 1)), n + (p + x) / (l.length + 1), (p + x) % (l.length + 1) + 1, Pu.beh x (l.length + 1) first, false, r⟩ := by
  rw [Pu.decF]; simp only; rw [if_neg hs, h]
theorem spl_take {X C CS : List Value} {m off : Nat} (h : C.take m = X) (hm : off + CS.length ≤ m) (hC : m ≤ C.length) : (splice C off CS).take m = splice X off CS := by
  unfold splice
  have e1 : (C.take off).length = off := by simp; omega
  rw [List.take_append, e1, List.take_append, List.take_of_length_le (by omega), List.take_of_length_le (l := CS) (by omega), ← h, List.take_take, Nat.min_eq_left (by omega), List.drop_take]
  congr 3
  omega
/-- the row behind the copy and the store. -/
theorem ins_row {w : World} {base g cap R c : Nat} {e : TypeId} {L : List Nat} {cur : Array Value} {CS : List Value} (hCS : (L.drop R).map rnv = CS) (hR : R ≤ L.length)
    (H : base ≤ g ∧ L.length + 1 ≤ cap ∧ cap ≤ maxLen ∧ cur.size = cap * 1 ∧ cur.toList.take ((L.length + 1) * 1) = L.map rnv ++ [.int .i32 0])
    (hh : w.heap[g]? = some (.cells (splice cur.toList (R + 1) CS).toArray e (0, 0))) :
    (w.setCell ⟨g, R, none⟩ (rnv c)).ownsRow base e 1 (.slice (some ⟨g, 0, none⟩) (L.length + 1) cap) (L.length + 1) ((L.take R ++ c :: L.drop R).map rnv) ∧ (∃ u, w.cell? ⟨g, R, none⟩ = some u) ∧ w.frozen? ⟨g, R, none⟩ = false := by
  subst hCS
  obtain ⟨hb, hnc, hcm, hcs, htk⟩ := H
  have hcl : cur.toList.length = cap := by rw [Array.length_toList]; omega
  have hsl := length_splice cur.toList (R + 1) ((L.drop R).map rnv) (by simp only [List.length_map, List.length_drop]; omega)
  have htk' := spl_take (X := L.map rnv ++ [.int .i32 0]) (off := R + 1) (CS := (L.drop R).map rnv) htk (by simp only [List.length_map, List.length_drop]; omega) (by omega)
  have hrow : w.ownsRow base e 1 (.slice (some ⟨g, 0, none⟩) (L.length + 1) cap) (L.length + 1) (splice (L.map rnv ++ [.int .i32 0]) (R + 1) ((L.drop R).map rnv)) := by
    refine ⟨?_, Or.inr ⟨g, cap, _, rfl, hb, hh, hnc, hcm, by simp only [List.size_toArray]; omega, htk'⟩⟩
    rw [← htk', List.length_take]
    omega
  refine ⟨?_, ?_, frozen_of_row w g R _ e hh⟩
  · have h1 := (hrow.stored R (rnv c)).1
    have e1 : (splice (L.map rnv ++ [.int .i32 0]) (R + 1) ((L.drop R).map rnv)).set R (rnv c) = (L.take R ++ c :: L.drop R).map rnv := by
      unfold splice
      have e2 : (L.map rnv ++ [Value.int .i32 0]).drop (R + 1 + ((L.drop R).map rnv).length) = [] := by
        apply List.drop_of_length_le
        simp only [List.length_append, List.length_map, List.length_drop, List.length_cons, List.length_nil]
        omega
      rw [e2, List.append_nil, List.set_append_left _ _ (by simp; omega)]
      have e3 : ((L.map rnv ++ [Value.int .i32 0]).take (R + 1)).set R (rnv c) = (L.take R).map rnv ++ [rnv c] := by
        rw [List.take_succ_eq_append_getElem (by simp; omega), List.set_append_right _ _ (by simp; omega), List.take_append_of_le_length (by simp; omega)]
        simp [Nat.min_eq_left hR, List.map_take]
      rw [e3]
      simp
    rw [e1] at h1
    exact h1
  · rw [cell_of_row w g R _ e (0, 0) hh]
    refine ⟨(splice cur.toList (R + 1) ((L.drop R).map rnv))[R]'(by omega), ?_⟩
    simp

set_option maxRecDepth 100000 in
set_option maxHeartbeats 4000000 in
theorem decode_any (s : List UInt8) (w : World) (hs : s.length ≤ maxLen) : Calls Tryd.prog 160 #[.string ⟨s.toArray⟩] w (DecPost w s) := by
  unfold maxLen at hs
  by_cases hbig : 32768 < s.length
  · have i0 : (32768 : Int) < (s.length : Int) := by omega
    go_enter Tryd.func160, Tryd.ntmps160
    go_wp2
    go_ret2
    exact Or.inl ⟨3, by unfold Pu.dec; rw [if_pos hbig], rfl, Below.refl _ _⟩
  · have i0 : ¬ (32768 : Int) < (s.length : Int) := by omega
    go_enter Tryd.func160, Tryd.ntmps160
    go_wp2_with fail
    refine (basics_any _ _ (by omega)).mono ?_
    rintro e w1 (⟨c, hbas, rfl, hb1⟩ | ⟨L0, r0, v0, hbas, rfl, ho1, hb1⟩)
    · have Hfin := Lib.hid (show Pu.dec s = .inl c by unfold Pu.dec; rw [if_neg hbig, hbas])
      have hc0 : (c != 0) = true := by
        have : c = 5 ∨ c = 3 := by
          unfold Pu.bas at hbas
          split at hbas
          · split at hbas
            · injection hbas with hbas; omega
            · cases hbas
          · injection hbas with hbas; omega
        rw [bne_iff_ne]; omega
      clear hbas
      go_wp2
      go_ret2
      exact Or.inl ⟨c, Hfin.out, rfl, hb1⟩
    · generalize hD : Pu.dec s = D
      have HD0 := Lib.hid (show Pu.decF r0.length ⟨L0, 128, 0, 72, true, r0⟩ = D by rw [← hD]; unfold Pu.dec; rw [if_neg hbig, hbas])
      have HFe : Hid (∀ (c : Int) (w' : World), D = .inl c → Below w.heap.size w w' → DecPost w s (.returned (.tuple #[.slice none 0 0, .int .i64 c])) w') := Lib.hid (fun c w' h hb => Or.inl ⟨c, hD.trans h, rfl, hb⟩)
      have HFo : Hid (∀ (l : List Nat) (v : Value) (w' : World), D = .inr l → Sl w' 1 v l.length (l.map rnv) → Below w.heap.size w w' → DecPost w s (.returned (.tuple #[v, .int .i64 0])) w') := Lib.hid (fun l v w' h hs hb => Or.inr ⟨l, v, hD.trans h, rfl, hs, hb⟩)
      have hbd : L0.length ≤ 4096 ∧ r0.length ≤ 32768 := by
        unfold Pu.bas at hbas
        split at hbas
        · split at hbas
          · cases hbas
          · injection hbas with hbas
            injection hbas with h1 h2
            rw [← h1, ← h2, List.length_map, List.length_take, List.length_drop]
            omega
        · cases hbas
      obtain ⟨hL0, hr0⟩ := hbd
      clear hbas hD
      go_wp2
      go_loopw [0, 4, 6, 7, 8, 9, 10, 11, 12, 13] (fun sv v nv pv bv fv _ _ _ _ wr => ∃ (L : List Nat) (n p bias : Nat) (first : Bool) (r : List UInt8) (f : Nat), sv = .string ⟨r.toArray⟩ ∧ nv = .int .i64 (n : Int) ∧ pv = .int .i64 (p : Int) ∧ bv = .int .i64 (bias : Int) ∧ fv = .bool first ∧ L.length ≤ 4096 ∧ n ≤ 1114111 ∧ p ≤ 5000 ∧ bias ≤ 1000000000000 ∧ r.length ≤ 32768 ∧ r.length ≤ f ∧ Pu.decF f ⟨L, n, p, bias, first, r⟩ = D ∧ wr.ownsRow w.heap.size 21 1 v L.length (L.map rnv) ∧ Below w.heap.size w wr) (fun sv _ _ _ _ _ _ _ _ _ _ => strLen sv)
      case atStart => exact ⟨L0, 128, 0, 72, true, r0, r0.length, rfl, rfl, rfl, rfl, rfl, hL0, by omega, by omega, by omega, hr0, Nat.le_refl _, HD0.out, ho1, hb1⟩
      case round =>
        obtain ⟨L, n, p, bias, first, r, f, rfl, rfl, rfl, rfl, rfl, hL, hn, hp, hbi, hr, hrf, hE, h3, h4⟩ := hrel
        have HE := Lib.hid hE
        have hsz := h4.size
        clear hE ho1 HD0
        by_cases hr0' : r = []
        · subst hr0'
          have HE2 := Lib.hid (HE.out.symm.trans decF_nil)
          go_wp2
          go_ret2
          exact HFo.out _ _ _ HE2.out (Sl.own h3) h4
        · have j0 : r.isEmpty = false := by simpa using hr0'
          obtain ⟨f', rfl⟩ : ∃ f', f = f' + 1 := ⟨f - 1, by have := List.length_pos_iff.2 hr0'; omega⟩
          rcases hN : Pu.numb bias r 1 0 1 with c | ⟨x, r'⟩
          · have HE2 := Lib.hid (HE.out.symm.trans (decF_err hr0' hN))
            have hc := numb_inl _ _ _ _ _ _ hN
            have hc0 : (c != 0) = true := by rw [bne_iff_ne]; omega
            have HN := Lib.hid hN
            clear hN hc hr0'
            go_wp2_with fail
            refine (number3_any _ _ _ (by omega) hbi).mono ?_
            rintro e w' ⟨rfl, rfl⟩
            rw [HN.out]
            unfold numT
            go_wp2
            go_ret2
            exact HFe.out _ _ HE2.out h4
          · have HE2 := HE.out.symm.trans (decF_ok hr0' hN)
            obtain ⟨hx1, hx2⟩ := numb_inr _ _ _ _ _ _ _ hN
            have HN := Lib.hid hN
            have HE3 := Lib.hid HE2
            clear hN HE HE2 hr0'
            obtain ⟨Q, hQ⟩ : ∃ Q, Q = (p + x) / (L.length + 1) := ⟨_, rfl⟩
            obtain ⟨R, hR⟩ : ∃ R, R = (p + x) % (L.length + 1) := ⟨_, rfl⟩
            have hQz : ((p : Int) + (x : Int)) / ((L.length : Int) + 1) = (Q : Int) := by rw [hQ]; simp
            have hRz : ((p : Int) + (x : Int)) % ((L.length : Int) + 1) = (R : Int) := by rw [hR]; simp
            have hQl : Q ≤ p + x := by rw [hQ]; exact Nat.div_le_self _ _
            have hRl : R ≤ L.length := by have := Nat.mod_lt (p + x) (show 0 < L.length + 1 by omega); omega
            rw [← hQ, ← hR] at HE3
            clear hQ hR
            obtain ⟨va, vc, hv, _⟩ := (Sl.own h3).any
            subst hv
            go_wp2_with fail
            refine (number3_any _ _ _ (by omega) hbi).mono ?_
            rintro e w' ⟨rfl, rfl⟩
            rw [HN.out]
            unfold numT
            by_cases ho : 4294967295 < p + x
            · have j1 : (4294967295 : Int) < (p : Int) + (x : Int) := by omega
              have HE4 := Lib.hid (show D = .inl 6 by rw [HE3.out, if_pos ho])
              go_wp2
              go_ret2
              exact HFe.out _ _ HE4.out h4
            · have j1 : ¬ (4294967295 : Int) < (p : Int) + (x : Int) := by omega
              have HE4 := HE3.out
              rw [if_neg ho] at HE4
              have HE5 := Lib.hid HE4
              clear HE3 HE4
              have hbeh := Pu.beh_le x (L.length + 1) first
              have j9 : (((L.length : Int) + 1) == 0) = false := by rw [beq_eq_false_iff_ne]; omega
              go_wp2_with fail
              refine (behind_z _ _ _ _ (by omega) (by omega) (by omega) (by omega)).mono ?_
              rintro e w' ⟨rfl, rfl⟩
              rw [Int.toNat_natCast, show ((L.length : Int) + 1).toNat = L.length + 1 by omega]
              generalize Pu.beh x (L.length + 1) first = B at *
              by_cases ho2 : 1114111 < n + Q
              · have j2 : (1114111 : Int) < (n : Int) + (Q : Int) := by omega
                have HE6 := Lib.hid (show D = .inl 4 by rw [HE5.out, if_pos ho2])
                go_wp2
                go_ret2
                exact HFe.out _ _ HE6.out h4
              · have j2 : ¬ (1114111 : Int) < (n : Int) + (Q : Int) := by omega
                have HE6 := HE5.out
                rw [if_neg ho2] at HE6
                have HE7 := Lib.hid HE6
                clear HE5 HE6
                by_cases ho3 : 4096 < L.length + 1
                · have j3 : (4096 : Int) < (L.length : Int) + 1 := by omega
                  have HE8 := Lib.hid (show D = .inl 3 by rw [HE7.out, if_pos ho3])
                  go_wp2
                  go_ret2
                  exact HFe.out _ _ HE8.out h4
                · have j3 : ¬ (4096 : Int) < (L.length : Int) + 1 := by omega
                  have HE8 := Lib.hid (show Pu.decF f' ⟨L.take R ++ (n + Q) :: L.drop R, n + Q, R + 1, B, false, r'⟩ = D by rw [HE7.out, if_neg ho3])
                  clear HE7
                  go_wp2_with (at_builtin; refine wpList_appLit rfl _ _ _ rfl elt_rn (n := L.length) rfl h3 [.int .i32 0] (m := 1) rfl rfl (by simp [Value.oneCell']) hsz (by omega) (by omega) ?_; intro v1 w2 ho2' hbw2 hg2)
                  rcases ho2'.2 with ⟨_, hz⟩ | ⟨g, cap, cur, rfl, hg0, hh, hnc, hcm, hcs, htk⟩
                  · omega
                  have hb42 := h4.trans hbw2
                  have Hcur : Hid ((cur.toList).toArray = cur) := Lib.hid (by simp)
                  have hh' : w2.heap[g]? = some (.cells (cur.toList).toArray 21 (0, 0)) := by rw [Hcur.out]; exact hh
                  have HS1 : Hid (((L.drop R).map rnv).length = L.length - R) := Lib.hid (by simp)
                  have HS2 : Hid (R + 1 + ((L.drop R).map rnv).length ≤ cur.toList.length) := Lib.hid (by have e : cur.toList.length = cur.size := Array.length_toList; have := HS1.out; omega)
                  have HS3 : Hid (∀ v ∈ (L.drop R).map rnv, v.oneCell' = true) := Lib.hid (fun v hv => by obtain ⟨c, _, rfl⟩ := List.mem_map.1 hv; rfl)
                  have HS4 : Hid (∀ (j : Nat) (v : Value), ((L.drop R).map rnv)[j]? = some v → w2.cell? ⟨g, R + j, none⟩ = some v) := Lib.hid (fun j v hv => by
                    rw [cell_of_row w2 g (R + j) cur 21 (0, 0) hh]
                    have hjl : j < L.length - R := by
                      have := (List.getElem?_eq_some_iff.1 hv).1
                      simpa using this
                    have h9 : (cur.toList.take ((L.length + 1) * 1))[R + j]? = (L.map rnv ++ [.int .i32 0])[R + j]? := by rw [htk]
                    rw [List.getElem?_take, if_pos (by omega), List.getElem?_append_left (by simp; omega)] at h9
                    rw [← Array.getElem?_toList, h9, ← hv]
                    simp)
                  have Hh := Lib.hid hh'
                  have Hg := Lib.hid (⟨hg0, hnc, hcm, hcs, htk⟩ : w.heap.size ≤ g ∧ L.length + 1 ≤ cap ∧ cap ≤ maxLen ∧ cur.size = cap * 1 ∧ cur.toList.take ((L.length + 1) * 1) = L.map rnv ++ [.int .i32 0])
                  generalize hCS : (L.drop R).map rnv = CS at *
                  have HCS := Lib.hid hCS
                  clear hCS hh hh' hcm hcs htk ho2' hg2
                  have k1 : (R : Int) + 1 ≤ (L.length : Int) + 1 := by omega
                  have k2 : (R : Int) ≤ (L.length : Int) + 1 := by omega
                  have k3 : ((R : Int) + 1).toNat = R + 1 := by omega
                  have k4 : (0 : Int) ≤ (R : Int) + 1 := by omega
                  have k6 : ¬ cap = R := by omega
                  have k7 : IntKind.i64.wrap ((R : Int) + 1) = (R : Int) + 1 := IntWalk.i64_in _ (by omega)
                  by_cases hcap : cap = R + 1
                  · subst hcap
                    go_region_law (refine step_copy_splice rfl (.tmp 69) (.tmp 72) 132 132 rfl 21 Tryd.underlying132 (by kernel_rfl) (some ⟨g, 0, none⟩) (some ⟨g, R, none⟩) (L.length + 1 - (R + 1)) (R + 1 - (R + 1)) (L.length + 1 - R) (R + 1 - R) (by simp [Act.eval, Act.put]; omega) (by simp [Act.eval, Act.put]) g (R + 1) cur.toList 21 Hh.out CS (by rw [HS1.out]; simp only [Nat.min_def]; split <;> omega) (fun h => absurd h (by rw [HS1.out]; omega)) HS2.out HS3.out w.heap.size w (below_drewN hb42 _) hg0 ?_; intro w3 hg3 hb3)
                    obtain ⟨hrow, ⟨u, hcu⟩, hfz⟩ := ins_row (c := n + Q) HCS.out hRl Hg.out hg3.out
                    have Hrow := Lib.hid hrow
                    clear hrow k7
                    go_wp2
                    go_roundw
                    case rel =>
                      refine ⟨L.take R ++ (n + Q) :: L.drop R, n + Q, R + 1, B, false, r', f', rfl, by go_num, by go_num, rfl, rfl, ?_, by omega, by omega, by omega, by omega, by omega, HE8.out, ?_, ?_⟩
                      · simp; omega
                      · have e1 : (L.take R ++ (n + Q) :: L.drop R).length = L.length + 1 := by simp; omega
                        rw [e1]
                        have e2 : Value.int .i32 ((n : Int) + (Q : Int)) = rnv (n + Q) := vint (by omega)
                        rw [e2]
                        exact Hrow.out
                      · exact hb3.setCell hg0 _
                    case measure => rw [strLen_mk, strLen_mk]; omega
                  · go_region_law (refine step_copy_splice rfl (.tmp 69) (.tmp 72) 132 132 rfl 21 Tryd.underlying132 (by kernel_rfl) (some ⟨g, R + 1, none⟩) (some ⟨g, R, none⟩) (L.length + 1 - (R + 1)) (cap - (R + 1)) (L.length + 1 - R) (cap - R) (by simp [Act.eval, Act.put]) (by simp [Act.eval, Act.put]) g (R + 1) cur.toList 21 Hh.out CS (by rw [HS1.out]; simp only [Nat.min_def]; split <;> omega) (fun _ => ⟨rfl, _, rfl, fun j v hv => by rw [add_none]; exact HS4.out j v hv⟩) HS2.out HS3.out w.heap.size w (below_drewN hb42 _) hg0 ?_; intro w3 hg3 hb3)
                    obtain ⟨hrow, ⟨u, hcu⟩, hfz⟩ := ins_row (c := n + Q) HCS.out hRl Hg.out hg3.out
                    have Hrow := Lib.hid hrow
                    clear hrow k7
                    go_wp2
                    go_roundw
                    case rel =>
                      refine ⟨L.take R ++ (n + Q) :: L.drop R, n + Q, R + 1, B, false, r', f', rfl, by go_num, by go_num, rfl, rfl, ?_, by omega, by omega, by omega, by omega, by omega, HE8.out, ?_, ?_⟩
                      · simp; omega
                      · have e1 : (L.take R ++ (n + Q) :: L.drop R).length = L.length + 1 := by simp; omega
                        rw [e1]
                        have e2 : Value.int .i32 ((n : Int) + (Q : Int)) = rnv (n + Q) := vint (by omega)
                        rw [e2]
                        exact Hrow.out
                      · exact hb3.setCell hg0 _
                    case measure => rw [strLen_mk, strLen_mk]; omega
end Go.Proofs.YtbffkddlkfefoaaDoor
