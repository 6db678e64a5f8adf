/- The contract of the reference's Decode. -/
import Derived.Test.YtnelaegjcpkmdaaPunL
import Derived.Test.YtnelaegjcpkmdaaDomK
import Derived.Deep.Onto
namespace Go.Proofs.Ytnelaegjcpkmdaa
open Go.RowKit
attribute [local go_sem] ba_get ba_app

theorem elt_in : Elt Try.prog 51 3 1 8 := Elt.mk' (z := .int .i64 0) Try.underlying51 (by kernel_rfl) rfl (by decide)
theorem numb_suf (bias : Nat) (s : List UInt8) : ∀ (k sum w x : Nat) (r : List UInt8), Pu.numb bias s k sum w = .inr (x, r) → ∃ p, s = p ++ r := by
  induction s with
  | nil => intro k sum w x r h; simp [Pu.numb] at h
  | cons c s ih =>
    intro k sum w x r h
    rcases hf : Pu.fig c with _ | f
    · rw [numb_none hf] at h; cases h
    · rw [numb_cons hf] at h
      split at h
      · cases h
      · split at h
        · injection h with h
          injection h with h1 h2
          subst h2
          exact ⟨[c], rfl⟩
        · split at h
          · cases h
          · obtain ⟨p, hp⟩ := ih _ _ _ _ _ h
            exact ⟨c :: p, by rw [hp]; rfl⟩
theorem drop_suf {s r : List UInt8} {a : Nat} {p : List UInt8} (h : s.drop a = p ++ r) : s.drop (s.length - r.length) = r := by
  have e : s = (s.take a ++ p) ++ r := by rw [List.append_assoc, ← h, List.take_append_drop]
  have hl : s.length - r.length = (s.take a ++ p).length := by
    have := congrArg List.length e
    rw [List.length_append] at this
    omega
  rw [hl]
  generalize s.take a ++ p = P at *
  subst e
  exact List.drop_left' rfl
theorem Sl.pre {w : World} {a : Option Addr} {n c k : Nat} {xs : List Value} (h : Sl w 1 (.slice a n c) n xs) (hk : k ≤ n) : Sl w 1 (.slice a k c) k (xs.take k) := by
  obtain ⟨h0, A, c', hv, hc, hA, hcell⟩ := h
  simp only [Value.slice.injEq, true_and] at hv
  obtain ⟨rfl, rfl⟩ := hv
  refine ⟨by rw [List.length_take]; omega, a, c, rfl, by omega, hA, fun ad had hp => ?_⟩
  obtain ⟨h1, h2, h3⟩ := hcell ad had (by omega)
  refine ⟨h1, h2, fun j u hu => h3 j u ?_⟩
  rw [List.getElem?_take] at hu
  split at hu
  · exact hu
  · cases hu
def inb (c : UInt8) : Value := .int .i64 ((c.toNat : Nat) : Int)
theorem inb_map (l : List UInt8) : l.map inb = (l.map UInt8.toNat).map inv := by rw [List.map_map]; rfl
theorem inv_one (l : List Nat) : ∀ u ∈ l.map inv, u.oneCell' = true := by
  intro u hu
  obtain ⟨c, _, rfl⟩ := List.mem_map.1 hu
  rfl
theorem ins_fin {w : World} {base : Nat} {e : TypeId} {v : Value} {L : List Nat} {R n Q : Nat} (h : w.ownsRow base e 1 v (0 + R + 1 + (L.length - R)) ([] ++ (L.take R).map inv ++ [.int .i64 ((n : Int) + (Q : Int))] ++ (L.drop R).map inv)) (hR : R ≤ L.length) :
    w.ownsRow base e 1 v (L.take R ++ (n + Q) :: L.drop R).length ((L.take R ++ (n + Q) :: L.drop R).map inv) := by
  have e1 : (L.take R ++ (n + Q) :: L.drop R).length = 0 + R + 1 + (L.length - R) := by simp; omega
  have e2 : (L.take R ++ (n + Q) :: L.drop R).map inv = [] ++ (L.take R).map inv ++ [.int .i64 ((n : Int) + (Q : Int))] ++ (L.drop R).map inv := by
    rw [List.map_append, List.map_cons, List.nil_append, List.append_assoc]; rfl
  rw [e1, e2]
  exact h
theorem ins_fin2 {w : World} {base : Nat} {e : TypeId} {v : Value} {L : List Nat} {n Q k : Nat} (h : w.ownsRow base e 1 v k ([] ++ L.map inv ++ [.int .i64 ((n : Int) + (Q : Int))] ++ ([] : List Nat).map inv)) :
    w.ownsRow base e 1 v (L ++ [n + Q]).length ((L ++ [n + Q]).map inv) := by
  have e1 : (L ++ [n + Q]).length = k := by
    have := h.1
    simp at this
    simp
    omega
  have e2 : (L ++ [n + Q]).map inv = [] ++ L.map inv ++ [.int .i64 ((n : Int) + (Q : Int))] ++ ([] : List Nat).map inv := by
    rw [List.map_append, List.map_cons, List.nil_append, List.map_nil, List.append_nil]; rfl
  rw [e1, e2]
  exact h
def RDecPost (w : World) (s : List UInt8) (e : Ending) (w' : World) : Prop :=
  (∃ c, Pu.dec s = .inl c ∧ e = .returned (.tuple #[.slice none 0 0, .int .i64 c]) ∧ Below w.heap.size w w') ∨
  ∃ l v, Pu.dec s = .inr l ∧ e = .returned (.tuple #[v, .int .i64 0]) ∧ Sl w' 1 v l.length (l.map inv) ∧ Below w.heap.size w w'

set_option maxRecDepth 100000 in
set_option maxHeartbeats 4000000 in
theorem rdecode_any (s : List UInt8) (w : World) (hs : s.length ≤ maxLen) : Calls Try.prog 31 #[.string ⟨s.toArray⟩] w (RDecPost w s) := by
  unfold maxLen at hs
  by_cases hbig : 32768 < s.length
  · have i0 : (32768 : Int) < (s.length : Int) := by omega
    go_enter Try.func31, Try.ntmps31
    go_wp2
    go_ret2
    exact Or.inl ⟨3, by unfold Pu.dec; rw [if_pos hbig], rfl, Below.refl _ _⟩
  · have i0 : ¬ (32768 : Int) < (s.length : Int) := by omega
    go_enter Try.func31, Try.ntmps31
    go_wp2
    go_loop [4, 5] (fun fr i => ∃ k d : Nat, k ≤ s.length ∧ i = .int .i64 (k : Int) ∧ fr = .int .i64 (d : Int) ∧ d = Pu.dash (s.take k)) (fun _ i => s.length - (intOf i).toNat)
    case atStart => exact ⟨0, 0, Nat.zero_le _, rfl, rfl, rfl⟩
    case round =>
      obtain ⟨k, d, hk, rfl, rfl, hd⟩ := hrel
      by_cases hlt : k < s.length
      · have i1 : (k : Int) < (s.length : Int) := by omega
        have Hn := Lib.hid (show Pu.dash (s.take (k + 1)) = if s[k] = 45 then k + 1 else d by
          rw [List.take_succ_eq_append_getElem hlt, Pu.dash_snoc, hd, List.length_take, Nat.min_eq_left hk])
        clear hd
        by_cases hc : s[k] = 45
        · have i2 : (((s[k].toNat : Nat) : Int) == 45) = true := by rw [hc]; rfl
          go_wp2
          go_round
          case rel => exact ⟨k + 1, k + 1, by omega, by go_num, by go_num, by rw [Hn.out, if_pos hc]⟩
          case measure => simp [intOf]; omega
        · have i2 : (((s[k].toNat : Nat) : Int) == 45) = false := by
            rw [beq_eq_false_iff_ne]; intro h'; exact hc (UInt8.toNat.inj (by simp; omega))
          go_wp2
          go_round
          case rel => exact ⟨k + 1, d, by omega, by go_num, rfl, by rw [Hn.out, if_neg hc]⟩
          case measure => simp [intOf]; omega
      · have i1 : ¬ (k : Int) < (s.length : Int) := by omega
        obtain rfl : k = s.length := by omega
        rw [List.take_length] at hd
        have hdl : d ≤ s.length := by rw [hd]; exact Pu.dash_le s
        have Hd := Lib.hid hd
        clear hd
        go_wp2
        go_loopw [6, 7] (fun v i wr => ∃ k : Nat, k ≤ d - 1 ∧ i = .int .i64 (k : Int) ∧ (s.take k).all (fun c => decide (c.toNat < 128)) = true ∧ wr.ownsRow w.heap.size 3 1 v k ((s.take k).map inb) ∧ Below w.heap.size w wr) (fun _ i _ => d - (intOf i).toNat)
        case atStart => exact ⟨0, Nat.zero_le _, rfl, rfl, World.ownsRow_nil _ _ _ _, Below.refl _ _⟩
        case round =>
          obtain ⟨k, hk, rfl, hall, h3, h4⟩ := hrel
          have hsz := h4.size
          have Hall := Lib.hid hall
          clear hall
          by_cases hlt : k < d - 1
          · have hks : k < s.length := by omega
            have i1 : (k : Int) < (d : Int) - 1 := by omega
            have i2 : (k : Int) < (s.length : Int) := by omega
            have hb := s[k].toNat_lt
            by_cases hc : 128 ≤ s[k].toNat
            · have Hb := Lib.hid (show Pu.dec s = .inl 5 by unfold Pu.dec; rw [if_neg hbig, bas_bad (a := d - 1) (by rw [← Hd.out]; omega) hlt hks hc])
              have i3 : (128 : Int) ≤ ((s[k].toNat : Nat) : Int) := by omega
              go_wp2
              go_ret2
              exact Or.inl ⟨5, Hb.out, rfl, h4⟩
            · have i3 : ¬ (128 : Int) ≤ ((s[k].toNat : Nat) : Int) := by omega
              have HA := Lib.hid (show (s.take (k + 1)).all (fun c => decide (c.toNat < 128)) = true by
                rw [List.take_succ_eq_append_getElem hks, List.all_append, Hall.out]; simp; omega)
              have HM := Lib.hid (show (s.take (k + 1)).map inb = (s.take k).map inb ++ [inb s[k]] by rw [List.take_succ_eq_append_getElem hks, List.map_append]; rfl)
              generalize hX : (s.take k).map inb = X at *
              have HX := Lib.hid hX
              clear hX
              go_wp2_with (at_builtin; refine wpList_appLit rfl _ _ _ rfl elt_in (n := k) rfl h3 [.int .i64 ((s[k].toNat : Nat) : Int)] (m := 1) rfl rfl (by simp [Value.oneCell']) hsz (by omega) (by omega) ?_; intro v1 w1 ho1 hbw1 hg1)
              go_roundw
              case rel => exact ⟨k + 1, by omega, by go_num, HA.out, by rw [HM.out]; exact ho1, h4.trans hbw1⟩
              case measure => simp [intOf]; omega
          · have i1 : ¬ (k : Int) < (d : Int) - 1 := by omega
            obtain rfl : k = d - 1 := by omega
            have Hb : Hid (Pu.bas s = if 4096 < d - 1 then .inl 3 else .inr ((s.take (d - 1)).map UInt8.toNat, s.drop d)) := Lib.hid (by
              unfold Pu.bas
              rw [← Hd.out, if_pos Hall.out])
            obtain ⟨va, vc, hv, _⟩ := (Sl.own h3).any
            subst hv
            by_cases hb4 : 4096 < d - 1
            · have i2 : (4096 : Int) < ((d - 1 : Nat) : Int) := by omega
              have Hf := Lib.hid (show Pu.dec s = .inl 3 by unfold Pu.dec; rw [if_neg hbig, Hb.out, if_pos hb4])
              go_wp2
              go_ret2
              exact Or.inl ⟨3, Hf.out, rfl, h4⟩
            · have i2 : ¬ (4096 : Int) < ((d - 1 : Nat) : Int) := by omega
              generalize hD : Pu.dec s = D
              have HD0 := Lib.hid (show Pu.decF (s.drop d).length ⟨(s.take (d - 1)).map UInt8.toNat, 128, 0, 72, true, s.drop d⟩ = D by rw [← hD]; unfold Pu.dec; rw [if_neg hbig, Hb.out, if_neg hb4])
              have HFe : Hid (∀ (c : Int) (w' : World), D = .inl c → Below w.heap.size w w' → RDecPost w s (.returned (.tuple #[.slice none 0 0, .int .i64 c])) w') := Lib.hid (fun c w' h hb => Or.inl ⟨c, hD.trans h, rfl, hb⟩)
              have HFo : Hid (∀ (l : List Nat) (v : Value) (w' : World), D = .inr l → Sl w' 1 v l.length (l.map inv) → Below w.heap.size w w' → RDecPost w s (.returned (.tuple #[v, .int .i64 0])) w') := Lib.hid (fun l v w' h hs hb => Or.inr ⟨l, v, hD.trans h, rfl, hs, hb⟩)
              have ho1 : wr.ownsRow w.heap.size 3 1 (.slice va (d - 1) vc) ((s.take (d - 1)).map UInt8.toNat).length (((s.take (d - 1)).map UInt8.toNat).map inv) := by
                rw [← inb_map, List.length_map, List.length_take, Nat.min_eq_left (by omega)]
                exact h3
              have hLl : ((s.take (d - 1)).map UInt8.toNat).length ≤ 4096 := by rw [List.length_map, List.length_take]; omega
              clear hD Hb h3
              generalize (s.take (d - 1)).map UInt8.toNat = L0 at *
              go_wp2
              go_loopw [4, 6, 8, 9, 10, 11, 12, 13, 14, 15, 16] (fun av v nv pv bv fv _ _ _ _ _ wr => ∃ (L : List Nat) (a n p bias : Nat) (first : Bool) (f : Nat), av = .int .i64 (a : Int) ∧ nv = .int .i64 (n : Int) ∧ pv = .int .i64 (p : Int) ∧ bv = .int .i64 (bias : Int) ∧ fv = .bool first ∧ L.length ≤ 4096 ∧ n ≤ 1114111 ∧ p ≤ 5000 ∧ bias ≤ 1000000000000 ∧ a ≤ s.length ∧ s.length - a ≤ f ∧ Pu.decF f ⟨L, n, p, bias, first, s.drop a⟩ = D ∧ wr.ownsRow w.heap.size 3 1 v L.length (L.map inv) ∧ Below w.heap.size w wr) (fun av _ _ _ _ _ _ _ _ _ _ _ => s.length - (intOf av).toNat)
              case atStart => exact ⟨L0, d, 128, 0, 72, true, (s.drop d).length, rfl, rfl, rfl, rfl, rfl, hLl, by omega, by omega, by omega, hdl, by simp, HD0.out, ho1, h4⟩
              case round =>
                obtain ⟨L, a, n, p, bias, first, f, rfl, rfl, rfl, rfl, rfl, hL, hn, hp, hbi, ha, haf, hE, h5, h6⟩ := hrel
                have HE := Lib.hid hE
                have hsz6 := h6.size
                clear hE ho1 HD0
                by_cases hal : a < s.length
                · have j0 : (a : Int) < (s.length : Int) := by omega
                  have hr0' : s.drop a ≠ [] := by intro h; have := congrArg List.length h; simp at this; omega
                  obtain ⟨f', rfl⟩ : ∃ f', f = f' + 1 := ⟨f - 1, by omega⟩
                  rcases hN : Pu.numb bias (s.drop a) 1 0 1 with c | ⟨x, r'⟩
                  · have HE2 := Lib.hid (HE.out.symm.trans (decF_err hr0' hN))
                    have hc := numb_inl _ _ _ _ _ _ hN
                    have hc0 : (c != 0) = true := by rw [bne_iff_ne]; omega
                    have HN := Lib.hid hN
                    clear hN hc hr0'
                    go_wp2_with fail
                    refine (rnumber3_any _ _ _ _ ha (by omega) hbi).mono ?_
                    rintro e w2 ⟨rfl, hb2⟩
                    rw [HN.out]
                    unfold numU
                    go_wp2
                    go_ret2
                    exact HFe.out _ _ HE2.out (h6.trans (hb2.mono hsz6))
                  · have HE2 := HE.out.symm.trans (decF_ok hr0' hN)
                    obtain ⟨hx1, hx2⟩ := numb_inr _ _ _ _ _ _ _ hN
                    obtain ⟨pp, hpp⟩ := numb_suf _ _ _ _ _ _ _ hN
                    have Hsuf := Lib.hid (drop_suf hpp)
                    rw [List.length_drop] at hx1
                    have HN := Lib.hid hN
                    have HE3 := Lib.hid HE2
                    clear hN HE HE2 hr0' hpp
                    obtain ⟨Q, hQ⟩ : ∃ Q, Q = (p + x) / (L.length + 1) := ⟨_, rfl⟩
                    obtain ⟨R, hR⟩ : ∃ R, R = (p + x) % (L.length + 1) := ⟨_, rfl⟩
                    have hQz : ((p : Int) + (x : Int)) / ((L.length : Int) + 1) = (Q : Int) := by rw [hQ]; simp
                    have hRz : ((p : Int) + (x : Int)) % ((L.length : Int) + 1) = (R : Int) := by rw [hR]; simp
                    have hQl : Q ≤ p + x := by rw [hQ]; exact Nat.div_le_self _ _
                    have hRl : R ≤ L.length := by have := Nat.mod_lt (p + x) (show 0 < L.length + 1 by omega); omega
                    rw [← hQ, ← hR] at HE3
                    clear hQ hR
                    have hform : (∃ vc2, u6 = .slice none L.length vc2 ∧ L.length ≤ 0 ∧ vc2 = 0) ∨ ∃ g vc2, u6 = .slice (some ⟨g, 0, none⟩) L.length vc2 ∧ L.length ≤ vc2 := by
                      rcases h5.2 with ⟨hv, hz⟩ | ⟨g, cap, cur, hv, _, _, hnc, _⟩
                      · exact Or.inl ⟨0, by rw [hv, hz], by omega, rfl⟩
                      · exact Or.inr ⟨g, cap, hv, hnc⟩
                    obtain ⟨va2, vc2, hv2, hvc2, hform2⟩ : ∃ va2 vc2, u6 = .slice va2 L.length vc2 ∧ L.length ≤ vc2 ∧ ((va2 = none ∧ L.length ≤ 0 ∧ vc2 = 0) ∨ ∃ g, va2 = some ⟨g, 0, none⟩) := by
                      rcases hform with ⟨vc2, h1, h2, h3⟩ | ⟨g, vc2, h1, h2⟩
                      · exact ⟨none, vc2, h1, by omega, Or.inl ⟨rfl, h2, h3⟩⟩
                      · exact ⟨_, vc2, h1, h2, Or.inr ⟨g, rfl⟩⟩
                    subst hv2
                    have Hform2 := Lib.hid hform2
                    clear hform hform2
                    have hbeh := Pu.beh_le x (L.length + 1) first
                    have j9 : (((L.length : Int) + 1) == 0) = false := by rw [beq_eq_false_iff_ne]; omega
                    go_wp2_with fail
                    refine (rnumber3_any _ _ _ _ ha (by omega) hbi).mono ?_
                    rintro e w2 ⟨rfl, hb2⟩
                    rw [HN.out]
                    unfold numU
                    have h7 := h6.trans (hb2.mono hsz6)
                    have h8 := own_below h5 hb2
                    have hsz7 := h7.size
                    clear h5 h6 hb2
                    go_wp2_with fail
                    refine (adapt_z _ _ _ _ (by omega) (by omega) (by omega) (by omega)).mono ?_
                    rintro e w' ⟨rfl, rfl⟩
                    rw [Int.toNat_natCast, show ((L.length : Int) + 1).toNat = L.length + 1 by omega]
                    generalize Pu.beh x (L.length + 1) first = B at *
                    go_wp2_with fail
                    refine (rover_z _ _ (by omega) (by omega)).mono ?_
                    rintro e w' ⟨rfl, rfl⟩
                    by_cases ho : 4294967295 < p + x
                    · rw [show decide (4294967295 < (p : Int) + (x : Int)) = true from decide_eq_true (by omega)]
                      have HE4 := Lib.hid (show D = .inl 6 by rw [HE3.out, if_pos ho])
                      go_wp2
                      go_ret2
                      exact HFe.out _ _ HE4.out h7
                    · rw [show decide (4294967295 < (p : Int) + (x : Int)) = false from decide_eq_false (by omega)]
                      have HE4 := HE3.out
                      rw [if_neg ho] at HE4
                      have HE5 := Lib.hid HE4
                      clear HE3 HE4
                      by_cases ho2 : 1114111 < n + Q
                      · have j2 : (1114111 : Int) < (n : Int) + (Q : Int) := by omega
                        have HE6 := Lib.hid (show D = .inl 4 by rw [HE5.out, if_pos ho2])
                        go_wp2
                        go_ret2
                        exact HFe.out _ _ HE6.out h7
                      · have j2 : ¬ (1114111 : Int) < (n : Int) + (Q : Int) := by omega
                        have HE6 := HE5.out
                        rw [if_neg ho2] at HE6
                        have HE7 := Lib.hid HE6
                        clear HE5 HE6
                        by_cases ho3 : 4096 < L.length + 1
                        · have j3 : (4096 : Int) < (L.length : Int) + 1 := by omega
                          have HE8 := Lib.hid (show D = .inl 3 by rw [HE7.out, if_pos ho3])
                          go_wp2
                          go_ret2
                          exact HFe.out _ _ HE8.out h7
                        · have j3 : ¬ (4096 : Int) < (L.length : Int) + 1 := by omega
                          have HE8 := Lib.hid (show Pu.decF f' ⟨L.take R ++ (n + Q) :: L.drop R, n + Q, R + 1, B, false, s.drop (s.length - r'.length)⟩ = D by rw [Hsuf.out, HE7.out, if_neg ho3])
                          clear HE7
                          have hS := Sl.own h8
                          have Hpre := Lib.hid (hS.pre (k := R) hRl)
                          rw [← List.map_take] at Hpre
                          have j5 : (R : Int) ≤ (L.length : Int) := by omega
                          have ho0 := World.ownsRow_nil w2 w2.heap.size 3 1
                          rcases Hform2.out with ⟨rfl, hz1, rfl⟩ | ⟨g, rfl⟩
                          · obtain rfl : L = [] := List.eq_nil_of_length_eq_zero (by omega)
                            obtain rfl : R = 0 := by have : ([] : List Nat).length = 0 := rfl; omega
                            have Hcut : Hid (Sl w2 1 (.slice none 0 0) 0 (([] : List Nat).map inv)) := Lib.hid (Sl.nil _ _)
                            have Hpre2 : Hid (Sl w2 1 (.slice none 0 0) 0 (([] : List Nat).map inv)) := Lib.hid (Sl.nil _ _)
                            clear hS h8 Hpre
                            go_wp2_with (first | (at_builtin; refine wpList_app rfl (.tmp 95) (.tmp 98) _ rfl elt_in rfl ho0 rfl Hpre2.out (inv_one _) (Nat.le_refl _) (by omega) (by omega) ?_; intro v1 w3 ho1 hbw1 hg1; have hsz3 := hbw1.size) | (at_builtin; refine wpList_appLit rfl (.tmp 100) (.tmp 102) _ rfl elt_in rfl ho1 [.int .i64 ((n : Int) + (Q : Int))] (m := 1) rfl rfl (by simp [Value.oneCell']) hsz3 (by omega) (by omega) ?_; intro v2 w4 ho2' hbw2 hg2; have h24 := hbw1.trans hbw2; have hsz4 := h24.size) | (at_builtin; refine wpList_app rfl (.tmp 104) (.tmp 107) _ rfl elt_in rfl ho2' rfl (Hcut.out.below h24) (inv_one []) hsz4 (by omega) (by omega) ?_; intro v3 w5 ho3 hbw3 hg3) | fail)
                            have h25 := h24.trans hbw3
                            have h05 := h7.trans (h25.mono hsz7)
                            have Hrow := Lib.hid (ins_fin2 (L := []) (ho3.mono hsz7))
                            clear ho1 ho2' ho3 hg1 hg2 hg3
                            go_roundw
                            case rel => exact ⟨[n + Q], s.length - r'.length, n + Q, 0 + 1, B, false, f', rfl, by go_num, by go_num, rfl, rfl, by simp, by omega, by omega, by omega, by omega, by omega, HE8.out, Hrow.out, h05⟩
                            case measure => simp [intOf]; omega
                          · by_cases hck : vc2 = R
                            · have hRL : L.length = R := by omega
                              have HRL := Lib.hid hRL
                              have Hpre2 : Hid (Sl w2 1 (.slice (some ⟨g, 0, none⟩) R R) R (L.map inv)) := Lib.hid (by have := hS; rw [hck, hRL] at this; exact this)
                              have Hcut : Hid (Sl w2 1 (.slice (some ⟨g, 0, none⟩) 0 0) 0 (([] : List Nat).map inv)) := Lib.hid (Sl.empty (fun h => by cases h))
                              have HE9 := Lib.hid (show Pu.decF f' ⟨L ++ [n + Q], n + Q, R + 1, B, false, s.drop (s.length - r'.length)⟩ = D by
                                have := HE8.out
                                rw [← hRL, List.take_length, List.drop_length] at this
                                rw [← hRL]; exact this)
                              clear hS h8 HE8 Hpre
                              subst hck
                              have HLen : Hid ((L ++ [n + Q]).length ≤ 4096) := Lib.hid (by simp; omega)
                              generalize L.length = LL at *
                              subst hRL
                              go_wp2_with (first | (at_builtin; refine wpList_app rfl (.tmp 95) (.tmp 98) _ rfl elt_in rfl ho0 rfl Hpre2.out (inv_one _) (Nat.le_refl _) (by omega) (by omega) ?_; intro v1 w3 ho1 hbw1 hg1; have hsz3 := hbw1.size) | (at_builtin; refine wpList_appLit rfl (.tmp 100) (.tmp 102) _ rfl elt_in rfl ho1 [.int .i64 ((n : Int) + (Q : Int))] (m := 1) rfl rfl (by simp [Value.oneCell']) hsz3 (by omega) (by omega) ?_; intro v2 w4 ho2' hbw2 hg2; have h24 := hbw1.trans hbw2; have hsz4 := h24.size) | (at_builtin; refine wpList_app rfl (.tmp 104) (.tmp 107) _ rfl elt_in rfl ho2' rfl (Hcut.out.below h24) (inv_one []) hsz4 (by omega) (by omega) ?_; intro v3 w5 ho3 hbw3 hg3) | fail)
                              have h25 := h24.trans hbw3
                              have h05 := h7.trans (h25.mono hsz7)
                              have Hrow := Lib.hid (ins_fin2 (ho3.mono hsz7))
                              clear ho1 ho2' ho3 hg1 hg2 hg3
                              go_roundw
                              case rel => exact ⟨L ++ [n + Q], s.length - r'.length, n + Q, LL + 1, B, false, f', rfl, by go_num, by go_num, rfl, rfl, HLen.out, by omega, by omega, by omega, by omega, by omega, HE9.out, Hrow.out, h05⟩
                              case measure => simp [intOf]; omega
                            · have Hcut0 := hS.cut1 hRl hck
                              rw [Option.map_some, add_none, Nat.zero_add] at Hcut0
                              have Hcut := Lib.hid Hcut0
                              have j4 : (R : Int) ≤ (vc2 : Int) := by omega
                              clear hS h8 Hcut0
                              go_wp2_with (first | (at_builtin; refine wpList_app rfl (.tmp 95) (.tmp 98) _ rfl elt_in rfl ho0 rfl Hpre.out (inv_one _) (Nat.le_refl _) (by omega) (by omega) ?_; intro v1 w3 ho1 hbw1 hg1; have hsz3 := hbw1.size) | (at_builtin; refine wpList_appLit rfl (.tmp 100) (.tmp 102) _ rfl elt_in rfl ho1 [.int .i64 ((n : Int) + (Q : Int))] (m := 1) rfl rfl (by simp [Value.oneCell']) hsz3 (by omega) (by omega) ?_; intro v2 w4 ho2' hbw2 hg2; have h24 := hbw1.trans hbw2; have hsz4 := h24.size) | (at_builtin; refine wpList_app rfl (.tmp 104) (.tmp 107) _ rfl elt_in rfl ho2' rfl (Hcut.out.below h24) (inv_one _) hsz4 (by omega) (by omega) ?_; intro v3 w5 ho3 hbw3 hg3) | fail)
                              have h25 := h24.trans hbw3
                              have h05 := h7.trans (h25.mono hsz7)
                              have Hrow := Lib.hid (ins_fin (ho3.mono hsz7) hRl)
                              clear ho1 ho2' ho3 hg1 hg2 hg3
                              go_roundw
                              case rel => exact ⟨L.take R ++ (n + Q) :: L.drop R, s.length - r'.length, n + Q, R + 1, B, false, f', rfl, by go_num, by go_num, rfl, rfl, by simp; omega, by omega, by omega, by omega, by omega, by omega, HE8.out, Hrow.out, h05⟩
                              case measure => simp [intOf]; omega
                · have j0 : ¬ (a : Int) < (s.length : Int) := by omega
                  have HE2 := Lib.hid (show D = .inr L by rw [← HE.out, List.drop_of_length_le (by omega)]; exact decF_nil)
                  go_wp2
                  go_ret2
                  exact HFo.out _ _ _ HE2.out (Sl.own h5) h6
end Go.Proofs.Ytnelaegjcpkmdaa
