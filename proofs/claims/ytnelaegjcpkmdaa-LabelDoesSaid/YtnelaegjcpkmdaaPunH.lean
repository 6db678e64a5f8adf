/- The contract of the reference's Encode. -/
import Derived.Test.YtnelaegjcpkmdaaPunG
namespace Go.Proofs.Ytnelaegjcpkmdaa
open Go.RowKit
attribute [local go_sem] ba_get ext_any ba_app

theorem rover_z (n : Int) (w : World) (h0 : 0 ≤ n) (h : n ≤ 1000000000000000) : Calls Try.prog 58 #[.int .i64 n] w fun e w' => e = .returned (.bool (decide (4294967295 < n))) ∧ w = w' := by
  obtain ⟨a, rfl⟩ := Int.eq_ofNat_of_zero_le h0
  refine (rover_any a w (by omega)).mono ?_
  rintro e w' ⟨rfl, rfl⟩
  exact ⟨retb (by rw [Bool.eq_iff_iff]; simp; omega), rfl⟩

set_option maxRecDepth 100000 in
set_option maxHeartbeats 4000000 in
theorem rencode_any (l : List Int) (v : Value) (w : World) (ha : Sl w 1 v l.length (l.map (Value.int .i64))) (hn : l.length ≤ maxLen) (hr : ∀ x ∈ l, -2147483648 ≤ x ∧ x ≤ 2147483647) :
    Calls Try.prog 28 #[v] w (EncPost w l) := by
  unfold maxLen at hn
  by_cases h4096 : 4096 < l.length
  · obtain ⟨a1, c1, rfl, _⟩ := ha.any
    have i0 : (4096 : Int) < (l.length : Int) := by omega
    clear ha hr
    go_enter Try.func28, Try.ntmps28
    go_wp2
    go_ret2
    exact EncPost.long h4096 (Below.refl _ _)
  · have i0 : ¬ (4096 : Int) < (l.length : Int) := by omega
    rcases Nat.eq_zero_or_pos l.length with hz | hpos
    · have hA : l = [] := List.eq_nil_of_length_eq_zero hz
      subst hA
      obtain ⟨a1, c1, rfl, _⟩ := ha.zero
      clear ha hr
      go_enter Try.func28, Try.ntmps28
      go_wp2
      refine wp_loop_rounds 1 ?_
      rw [rounds_succ]; go_wp2
      refine wp_loop_rounds 1 ?_
      rw [rounds_succ]; go_wp2
      go_ret2
      exact EncPost.ok h4096 rfl rfl (Below.refl _ _)
    · obtain ⟨b1, o1, c1, rfl, hc1, hb1, hcA⟩ := ha.pos hpos
      have HcA := Lib.hid hcA
      have Hr := Lib.hid hr
      clear hcA ha hr
      go_enter Try.func28, Try.ntmps28
      go_wp2
      go_loopw [4, 5] (fun v i wr => ∃ (k : Nat) (T : List UInt8), k ≤ l.length ∧ i = .int .i64 (k : Int) ∧ v = .string ⟨T.toArray⟩ ∧ T = Pu.bas1 (nats (l.take k)) ∧ (l.take k).all okp = true ∧ Below w.heap.size w wr) (fun _ i _ => l.length - (intOf i).toNat)
      case atStart => exact ⟨0, [], Nat.zero_le _, rfl, rfl, rfl, rfl, Below.refl _ _⟩
      case round =>
        obtain ⟨k, T, hk, rfl, rfl, hT, hok, h4⟩ := hrel
        have hsz := h4.size
        have hbl := bas1_le (nats (l.take k))
        rw [nats_len, List.length_take, ← hT] at hbl
        have HT := Lib.hid hT
        clear hT
        have Hok := Lib.hid hok
        clear hok
        by_cases hlt : k < l.length
        · have i1 : (k : Int) < (l.length : Int) := by omega
          have q1 : wr.cell? ⟨b1, o1 + k, none⟩ = some (.int .i64 l[k]) := (bel_cells h4 hb1 (o1 + k)).trans (sl_at HcA.out hlt)
          have HB := Lib.hid (bas1_next hlt)
          rcases hp : okp l[k]
          · have HN := Lib.hid (okp_bad hlt hp)
            have hc : l[k] < 0 ∨ 1114111 < l[k] := by
              have := of_decide_eq_false hp
              omega
            generalize l[k] = c at *
            clear hp
            by_cases hc0 : c < 0
            · go_wp2
              go_ret2
              exact EncPost.bad h4096 HN.out h4
            · have j2 : (1114111 : Int) < c := by omega
              go_wp2
              go_ret2
              exact EncPost.bad h4096 HN.out h4
          · have HN := Lib.hid (okp_next hlt Hok.out hp)
            obtain ⟨g1, g2⟩ := okp_t hp
            clear hp
            generalize l[k] = c at *
            have j1 : ¬ c < 0 := by omega
            have j2 : ¬ (1114111 : Int) < c := by omega
            by_cases h128 : c < 128
            · have HV := Lib.hid (show Value.int .u8 c = byv (UInt8.ofNat c.toNat) from byv_mk (n := c.toNat) (by omega) (by omega))
              have hcv0 := str_run (l := [UInt8.ofNat c.toNat]) (Sl.new wr [byv (UInt8.ofNat c.toNat)] 5)
              rw [← HV.out] at hcv0
              have hcv : (convert 62 9 (.slice (some ⟨wr.heap.size, 0, none⟩) 1 1)).run Try.prog (wr.alloc (.cells #[.int .u8 c] 5)) = .ok (.string ⟨[UInt8.ofNat c.toNat].toArray⟩) (wr.alloc (.cells #[.int .u8 c] 5)) := hcv0
              have HT2 := Lib.hid (show T ++ [UInt8.ofNat c.toNat] = Pu.bas1 (nats (l.take (k + 1))) by rw [HB.out, if_pos (by omega), ← HT.out])
              clear hcv0
              generalize UInt8.ofNat c.toNat = u at *
              go_wp2
              go_roundw
              case rel => exact ⟨k + 1, T ++ [u], by omega, by go_num, rfl, HT2.out, HN.out, h4.alloc hsz _⟩
              case measure => simp [intOf]; omega
            · have HT2 := Lib.hid (show T = Pu.bas1 (nats (l.take (k + 1))) by rw [HB.out, if_neg (by omega), ← HT.out])
              go_wp2
              go_roundw
              case rel => exact ⟨k + 1, T, by omega, by go_num, rfl, HT2.out, HN.out, h4⟩
              case measure => simp [intOf]; omega
        · have i1 : ¬ (k : Int) < (l.length : Int) := by omega
          obtain rfl : k = l.length := by omega
          have Hok' := Lib.hid (show l.all okp = true by have := Hok.out; rwa [List.take_length] at this)
          have HT3 := Lib.hid (show T = Pu.bas1 (nats l) by have := HT.out; rwa [List.take_length] at this)
          clear HT
          clear Hok
          obtain ⟨e1, e2⟩ := nats_back Hok'.out
          have HcP : Hid (∀ (j : Nat) (u : Value), ((nats l).map inv)[j]? = some u → w.cell? ⟨b1, o1 + j, none⟩ = some u) := Lib.hid (by
            have := HcA.out
            rw [e1, List.map_map] at this
            exact this)
          have hPl := nats_len l
          have HP2 := Lib.hid e2
          have HE := Lib.hid (rfl : Pu.enc (nats l) = Pu.enc (nats l))
          generalize hEE : Pu.enc (nats l) = E at HE
          have HEE := Lib.hid hEE
          have Hst := Lib.hid (show Pu.encF (nats l) (Pu.bas1 (nats l)).length (nats l).length 128 ⟨Pu.head (nats l), 0, 72, (Pu.bas1 (nats l)).length⟩ = E from hEE)
          have Hbb := Lib.hid (Pu.bas1_len (nats l))
          have Hfin0 : Hid (∀ w' : World, Below w.heap.size w w' → E = none → EncPost w l (.returned (.tuple #[.string ⟨#[]⟩, .int .i64 6])) w') := Lib.hid (fun w' hb h => EncPost.over h4096 Hok'.out (HEE.out.trans h) hb)
          have Hfin1 : Hid (∀ (w' : World) (b : List UInt8), Below w.heap.size w w' → E = some b → EncPost w l (.returned (.tuple #[.string ⟨b.toArray⟩, .int .i64 0])) w') := Lib.hid (fun w' b hb h => EncPost.ok h4096 Hok'.out (HEE.out.trans h) hb)
          clear e1 e2 HE hEE HcA Hr
          generalize nats l = P at *
          have hbl2 : (Pu.bas1 P).length ≤ 4096 := by have := bas1_le P; omega
          have hlen : P.length ≤ l.length := by omega
          have hlen2 : l.length ≤ P.length := by omega
          have HPl := Lib.hid hPl
          clear hPl
          clear HEE Hok' h4096
          have HSl : Hid (∀ W : World, Below w.heap.size w W → Sl W 1 (.slice (some ⟨b1, o1, none⟩) l.length c1) P.length (P.map inv)) := Lib.hid (fun W hW => Sl.below (w := w) ⟨by simp, some ⟨b1, o1, none⟩, c1, by rw [HPl.out], by omega, (fun h => by cases h), fun ad had _ => by
            injection had with had
            subst had
            exact ⟨hb1, rfl, HcP.out⟩⟩ hW)
          have hTl2 : T.length ≤ 4096 := by rw [HT3.out]; exact hbl2
          have HTl := Lib.hid (show T.length = (Pu.bas1 P).length by rw [HT3.out])
          by_cases hb0 : Pu.bas1 P = []
          case' pos =>
            have j0 : ¬ (0 : Int) < (T.length : Int) := by rw [HT3.out, hb0]; simp
            have HT4 := Lib.hid (show T = Pu.head P by rw [HT3.out, hb0]; unfold Pu.head; rw [if_pos hb0])
            have hhl : (Pu.head P).length ≤ 5000 := by unfold Pu.head; rw [if_pos hb0]; simp
            clear hb0
            go_wp2
          case' neg =>
            have j0 : (0 : Int) < (T.length : Int) := by have := HTl.out; have := List.length_pos_iff.2 hb0; omega
            have HT4 := Lib.hid (show T ++ [45] = Pu.head P by rw [HT3.out]; unfold Pu.head; rw [if_neg hb0])
            have hhl : (Pu.head P).length ≤ 5000 := by rw [← HT4.out, List.length_append]; simp; omega
            clear hb0
            go_wp2
          all_goals
            go_loop [4, 6, 7, 8, 9, 11, 12, 13] (fun v n st bi dn _ _ _ => ∃ s : Pu.ES, EoRel P E st n bi dn s ∧ v = .string ⟨s.b.toArray⟩) (fun _ _ _ _ dn _ _ _ => P.length - (intOf dn).toNat)
            case atStart => exact ⟨⟨Pu.head P, 0, 72, (Pu.bas1 P).length⟩, ⟨128, P.length, rfl, rfl, rfl, vint (by rw [HTl.out]), Hbb.out, by omega, by simp, by simp, by dsimp only; omega, by omega, Hst.out⟩, vstr HT4.out⟩
            case round =>
              obtain ⟨⟨sb, sst, sbi, sdn⟩, ⟨n, f, rfl, rfl, rfl, rfl, hdn, hn1, hst, hbi, hsb, hf, hE⟩, rfl⟩ := hrel
              dsimp only at hdn hst hbi hsb hf hE
              have HE := Lib.hid hE
              have Hdn := Lib.hid hdn
              have hdl : sdn ≤ P.length := by rw [hdn]; exact Pu.bel_le _ _
              clear hE hdn
              by_cases hlt : sdn < P.length
              · have k1 : (sdn : Int) < (l.length : Int) := by omega
                obtain ⟨m1, m2, m3⟩ := Pu.least_spec (l := P) (n := n) (fun c hc => by have := HP2.out c hc; omega) (by rw [← Hdn.out]; exact hlt)
                have hm112 := HP2.out _ m1
                have HL1 := Lib.hid (Pu.bel_more m1 m2)
                have HL2 := Lib.hid (Pu.bel_jump m2 m3)
                have hjl := jump_le (P := P) (n := n) (d := sdn) (by omega)
                clear m1 m3
                obtain ⟨f', rfl⟩ : ∃ f', f = f' + 1 := ⟨f - 1, by omega⟩
                go_wp2
                go_loop [11, 12] (fun x i => ∃ k m' : Nat, k ≤ P.length ∧ i = .int .i64 (k : Int) ∧ x = .int .i64 (m' : Int) ∧ m' = Pu.least (P.take k) n) (fun _ i => P.length - (intOf i).toNat)
                case atStart => exact ⟨0, 1114112, Nat.zero_le _, rfl, rfl, rfl⟩
                case round =>
                 obtain ⟨k, mm, hk, rfl, rfl, hmm⟩ := hrel
                 have hml : mm ≤ 1114112 := by rw [hmm]; exact least_le _ _
                 have Hmm := Lib.hid hmm
                 clear hmm
                 by_cases hkl : k < P.length
                 · have k3 : (k : Int) < (l.length : Int) := by omega
                   have q1 : wr.cell? ⟨b1, o1 + k, none⟩ = some (.int .i64 ((P[k] : Nat) : Int)) := (bel_cells h4 hb1 (o1 + k)).trans (sl_at HcP.out hkl)
                   have hck := HP2.out P[k] (List.getElem_mem _)
                   have HN := Lib.hid (show Pu.least (P.take (k + 1)) n = if n ≤ P[k] ∧ P[k] < mm then P[k] else mm by rw [least_next hkl, ← Hmm.out])
                   generalize P[k] = c at *
                   by_cases h1 : n ≤ c
                   · have j1 : (n : Int) ≤ (c : Int) := by omega
                     by_cases h2 : c < mm
                     · have j2 : (c : Int) < (mm : Int) := by omega
                       go_wp2
                       go_round
                       case rel => exact ⟨k + 1, c, by omega, by go_num, rfl, by rw [HN.out, if_pos ⟨h1, h2⟩]⟩
                       case measure => simp [intOf]; omega
                     · have j2 : ¬ (c : Int) < (mm : Int) := by omega
                       go_wp2
                       go_round
                       case rel => exact ⟨k + 1, mm, by omega, by go_num, rfl, by rw [HN.out, if_neg (by omega)]⟩
                       case measure => simp [intOf]; omega
                   · have j1 : ¬ (n : Int) ≤ (c : Int) := by omega
                     go_wp2
                     go_round
                     case rel => exact ⟨k + 1, mm, by omega, by go_num, rfl, by rw [HN.out, if_neg (by omega)]⟩
                     case measure => simp [intOf]; omega
                 have k3 : ¬ (k : Int) < (l.length : Int) := by omega
                 obtain rfl : k = P.length := by omega
                 obtain rfl : mm = Pu.least P n := by have := Hmm.out; rwa [List.take_length] at this
                 generalize hm : Pu.least P n = m at *
                 have Hm := Lib.hid hm
                 clear hm
                 obtain ⟨J, hJ⟩ : ∃ J : Nat, J = (m - n) * (sdn + 1) := ⟨_, rfl⟩
                 have hJz : ((m : Int) - (n : Int)) * ((sdn : Int) + 1) = (J : Int) := by
                   rw [hJ, Int.natCast_mul, Int.natCast_sub m2, Int.natCast_add]; rfl
                 rw [← hJ] at hjl
                 have HJ := Lib.hid hJ
                 clear hJ
                 by_cases hov : 4294967295 < sst + J
                 · have k2 : (4294967295 : Int) < (sst : Int) + (J : Int) := by omega
                   have HE2 := Lib.hid (HE.out.symm.trans (Pu.encF_over (s := ⟨sb, sst, sbi, sdn⟩) hlt (by dsimp only; rw [Hm.out, ← HJ.out]; exact hov)))
                   go_wp2_with fail
                   refine (rover_z _ _ (by omega) (by omega)).mono ?_
                   rintro e w' ⟨rfl, rfl⟩
                   rw [show decide (4294967295 < (sst : Int) + (J : Int)) = true from decide_eq_true (by omega)]
                   go_wp2
                   go_ret2
                   exact Hfin0.out _ h4 HE2.out
                 · have k2 : ¬ (4294967295 : Int) < (sst : Int) + (J : Int) := by omega
                   have HnE : Hid (Pu.pass m (Pu.bas1 P).length ⟨sb, sst + J, sbi, sdn⟩ P = none → E = none) := Lib.hid (fun h => HE.out.symm.trans (Pu.encF_none (s := ⟨sb, sst, sbi, sdn⟩) hlt (by dsimp only; rw [Hm.out, ← HJ.out]; exact hov) (by dsimp only; rw [Hm.out, ← HJ.out]; exact h)))
                   have HsE : Hid (∀ s' : Pu.ES, Pu.pass m (Pu.bas1 P).length ⟨sb, sst + J, sbi, sdn⟩ P = some s' → Pu.encF P (Pu.bas1 P).length f' (m + 1) ⟨s'.b, s'.steps + 1, s'.bias, s'.done⟩ = E) := Lib.hid (fun s' h => by
                     rw [← HE.out, Pu.encF_some (s := ⟨sb, sst, sbi, sdn⟩) hlt (by dsimp only; rw [Hm.out, ← HJ.out]; exact hov) (s' := s') (by dsimp only; rw [Hm.out, ← HJ.out]; exact h), Hm.out])
                   have Hps : Hid (∀ (i : Nat), i ≤ P.length → ∀ s', Pu.pass m (Pu.bas1 P).length ⟨sb, sst + J, sbi, sdn⟩ (P.take i) = some s' → s'.done = (Pu.Lp P m i).length) := Lib.hid (Pu.pass_done (by dsimp only; rw [HL2.out]; exact Hdn.out))
                   clear HE hov
                   go_wp2_with fail
                   refine (rover_z _ _ (by omega) (by omega)).mono ?_
                   rintro e w' ⟨rfl, rfl⟩
                   rw [show decide (4294967295 < (sst : Int) + (J : Int)) = false from decide_eq_false (by omega)]
                   go_wp2
                   go_loop [4, 7, 8, 9, 13] (fun v st bi dn i => ∃ (k : Nat) (s : Pu.ES), k ≤ P.length ∧ i = .int .i64 (k : Int) ∧ EiRel P ⟨sb, sst + J, sbi, sdn⟩ m k st bi dn s ∧ v = .string ⟨s.b.toArray⟩) (fun _ _ _ _ i => P.length - (intOf i).toNat)
                   case atStart => exact ⟨0, ⟨sb, sst + J, sbi, sdn⟩, Nat.zero_le _, rfl, ⟨by simp, rfl, rfl, ⟨by dsimp only; omega, hbi, hsb⟩, rfl⟩, rfl⟩
                   case round =>
                     obtain ⟨k, ⟨tb, tst, tbi, tdn⟩, hk, rfl, ⟨rfl, rfl, rfl, hsm, hp⟩, rfl⟩ := hrel
                     obtain ⟨t1, t2, t3⟩ := hsm
                     have Hsm : Hid (Pu.Small ⟨tb, tst, tbi, tdn⟩) := Lib.hid ⟨t1, t2, t3⟩
                     dsimp only at t1 t2 t3
                     have Hp := Lib.hid hp
                     have htd := Hps.out k hk _ hp
                     have htl := (Pu.Lp_len P m k).2
                     dsimp only at htd
                     have htdn : tdn ≤ P.length := by omega
                     clear htd htl hp
                     by_cases hkl : k < P.length
                     · have k3 : (k : Int) < (l.length : Int) := by omega
                       have q1 : wr.cell? ⟨b1, o1 + k, none⟩ = some (.int .i64 ((P[k] : Nat) : Int)) := (bel_cells h4 hb1 (o1 + k)).trans (sl_at HcP.out hkl)
                       have hck := HP2.out P[k] (List.getElem_mem _)
                       have HPS : Hid (∀ s2, Pu.pstep m (Pu.bas1 P).length ⟨tb, tst, tbi, tdn⟩ P[k] = some s2 → Pu.pass m (Pu.bas1 P).length ⟨sb, sst + J, sbi, sdn⟩ (P.take (k + 1)) = some s2) := Lib.hid (fun s2 h => Pu.pass_step hkl Hp.out h)
                       have HPN : Hid (Pu.pstep m (Pu.bas1 P).length ⟨tb, tst, tbi, tdn⟩ P[k] = none → E = none) := Lib.hid (fun h => HnE.out (Pu.pass_none hkl Hp.out h))
                       generalize P[k] = c at *
                       rcases Nat.lt_trichotomy c m with hc | hc | hc
                       · have k4 : (c : Int) < (m : Int) := by omega
                         have k5 : ((c : Int) == (m : Int)) = false := by rw [beq_eq_false_iff_ne]; omega
                         by_cases hov2 : tst + 1 ≤ 4294967295
                         · have k6 : ¬ (4294967295 : Int) < (tst : Int) + 1 := by omega
                           have HS := Lib.hid (HPS.out _ (Pu.pstep_lt (s := ⟨tb, tst, tbi, tdn⟩) hc hov2))
                           go_wp2_with fail
                           refine (rover_z _ _ (by omega) (by omega)).mono ?_
                           rintro e w' ⟨rfl, rfl⟩
                           rw [show decide (4294967295 < (tst : Int) + 1) = false from decide_eq_false (by omega)]
                           go_wp2
                           go_round
                           case rel => exact ⟨k + 1, ⟨tb, tst + 1, tbi, tdn⟩, by omega, by go_num, ⟨by go_num, rfl, rfl, ⟨hov2, t2, t3⟩, HS.out⟩, rfl⟩
                           case measure => simp [intOf]; omega
                         · have k6 : (4294967295 : Int) < (tst : Int) + 1 := by omega
                           have HS := Lib.hid (HPN.out (Pu.pstep_over (s := ⟨tb, tst, tbi, tdn⟩) hc hov2))
                           go_wp2_with fail
                           refine (rover_z _ _ (by omega) (by omega)).mono ?_
                           rintro e w' ⟨rfl, rfl⟩
                           rw [show decide (4294967295 < (tst : Int) + 1) = true from decide_eq_true (by omega)]
                           go_wp2
                           go_ret2
                           exact Hfin0.out _ h4 HS.out
                       · have k4 : ¬ (c : Int) < (m : Int) := by omega
                         have k5 : ((c : Int) == (m : Int)) = true := by rw [beq_iff_eq]; omega
                         have HS := Lib.hid (HPS.out _ (Pu.pstep_eq (s := ⟨tb, tst, tbi, tdn⟩) hc))
                         have HSm := Lib.hid (Hsm.out.emit (basic := (Pu.bas1 P).length))
                         obtain ⟨fb, hfb⟩ : ∃ fb, fb = decide (tdn = (Pu.bas1 P).length) := ⟨_, rfl⟩
                         have k7 : (((tdn : Nat) : Int) == ((T.length : Nat) : Int)) = fb := by
                           rw [hfb, HTl.out, Bool.eq_iff_iff]; simp; omega
                         rw [← hfb] at HS HSm
                         clear hfb
                         have hfl := Pu.figs_len 10 tst tbi 1 (by simp; omega)
                         go_wp2_with fail
                         refine (rover_z _ _ (by omega) (by omega)).mono ?_
                         rintro e w' ⟨rfl, rfl⟩
                         rw [show decide (4294967295 < (tst : Int)) = false from decide_eq_false (by omega)]
                         go_wp2_with fail
                         refine (rfigures_any _ _ _ (by omega) t2).mono ?_
                         rintro e w' ⟨rfl, rfl⟩
                         generalize hFG : Pu.figs tst tbi 1 = FG at *
                         have HFG := Lib.hid hFG
                         clear hFG
                         go_wp2_with fail
                         refine (adapt_z _ _ _ _ (by omega) (by omega) (by omega) (by omega)).mono ?_
                         rintro e w' ⟨rfl, rfl⟩
                         rw [Int.toNat_natCast, show ((tdn : Int) + 1).toNat = tdn + 1 by omega]
                         go_wp2
                         go_round
                         case rel =>
                           exact ⟨k + 1, ⟨tb ++ FG, 0, Pu.beh tst (tdn + 1) fb, tdn + 1⟩, by omega, by go_num, ⟨rfl, rfl, by go_num, HSm.out, HS.out⟩, rfl⟩
                         case measure => simp [intOf]; omega
                       · have k4 : ¬ (c : Int) < (m : Int) := by omega
                         have k5 : ((c : Int) == (m : Int)) = false := by rw [beq_eq_false_iff_ne]; omega
                         have HS := Lib.hid (HPS.out _ (Pu.pstep_gt (s := ⟨tb, tst, tbi, tdn⟩) hc))
                         go_wp2_with fail
                         refine (rover_z _ _ (by omega) (by omega)).mono ?_
                         rintro e w' ⟨rfl, rfl⟩
                         rw [show decide (4294967295 < (tst : Int)) = false from decide_eq_false (by omega)]
                         go_wp2
                         go_round
                         case rel => exact ⟨k + 1, ⟨tb, tst, tbi, tdn⟩, by omega, by go_num, ⟨rfl, rfl, rfl, ⟨t1, t2, t3⟩, HS.out⟩, rfl⟩
                         case measure => simp [intOf]; omega
                     · have k3 : ¬ (k : Int) < (l.length : Int) := by omega
                       obtain rfl : k = P.length := by omega
                       have hpa : Pu.pass m (Pu.bas1 P).length ⟨sb, sst + J, sbi, sdn⟩ P = some ⟨tb, tst, tbi, tdn⟩ := by rw [← Pu.pass_all]; exact Hp.out
                       have HS := Lib.hid (HsE.out _ hpa)
                       have hdn2 := Hps.out _ (Nat.le_refl _) _ Hp.out
                       rw [(Pu.Lp_all P m).1] at hdn2
                       dsimp only at hdn2
                       have Hdn2 := Lib.hid hdn2
                       have hgt : sdn < tdn := by rw [hdn2, Hdn.out]; exact HL1.out
                       clear hpa hdn2
                       go_wp2
                       go_round
                       case rel => exact ⟨⟨tb, tst + 1, tbi, tdn⟩, ⟨m + 1, f', by go_num, by go_num, rfl, rfl, Hdn2.out, by omega, by dsimp only; omega, t2, t3, by dsimp only; omega, HS.out⟩, rfl⟩
                       case measure => simp [intOf]; omega
              · have k1 : ¬ (sdn : Int) < (l.length : Int) := by omega
                have HE2 := Lib.hid (HE.out.symm.trans (Pu.encF_done (s := ⟨sb, sst, sbi, sdn⟩) hlt))
                go_wp2
                go_ret2
                exact Hfin1.out _ _ h4 HE2.out
end Go.Proofs.Ytnelaegjcpkmdaa
