/- The contract of puny.Encode. -/
import Derived.Test.YtnelaegjcpkmdaaPunF
namespace Go.Proofs.Ytnelaegjcpkmdaa
open Go.RowKit
attribute [local go_sem] ba_get ext_any ba_app

def EbRel (w : World) (l : List Int) (k : Nat) (v : Value) (wr : World) : Prop :=
  (l.take k).all okp = true ∧ wr.ownsRow w.heap.size 5 1 v (Pu.bas1 (nats (l.take k))).length ((Pu.bas1 (nats (l.take k))).map byv) ∧ Below w.heap.size w wr
theorem okp_next {l : List Int} {k : Nat} (h : k < l.length) (h1 : (l.take k).all okp = true) (h2 : okp l[k] = true) : (l.take (k + 1)).all okp = true := by
  rw [List.take_succ_eq_append_getElem h, List.all_append, h1]; simp [h2]
theorem okp_bad {l : List Int} {k : Nat} (h : k < l.length) (h2 : okp l[k] = false) : ¬ l.all okp = true := by
  intro h1
  rw [List.all_eq_true] at h1
  have := h1 _ (List.getElem_mem h)
  rw [h2] at this
  cases this

set_option maxRecDepth 100000 in
set_option maxHeartbeats 4000000 in
theorem encode_any (l : List Int) (v : Value) (w : World) (ha : Sl w 1 v l.length (l.map (Value.int .i32))) (hn : l.length ≤ maxLen) (hr : ∀ x ∈ l, -2147483648 ≤ x ∧ x ≤ 2147483647) :
    Calls Try.prog 27 #[v] w (EncPost w l) := by
  unfold maxLen at hn
  by_cases h4096 : 4096 < l.length
  · obtain ⟨a1, c1, rfl, _⟩ := ha.any
    have i0 : (4096 : Int) < (l.length : Int) := by omega
    clear ha hr
    go_enter Try.func27, Try.ntmps27
    go_wp2
    go_ret2
    exact EncPost.long h4096 (Below.refl _ _)
  · have i0 : ¬ (4096 : Int) < (l.length : Int) := by omega
    rcases Nat.eq_zero_or_pos l.length with hz | hpos
    · have hA : l = [] := List.eq_nil_of_length_eq_zero hz
      subst hA
      obtain ⟨a1, c1, rfl, _⟩ := ha.zero
      have hcv := str_run (w := w) (l := []) (Sl.nil w 1)
      clear ha hr
      go_enter Try.func27, Try.ntmps27
      go_wp2
      refine wp_loop_rounds 1 ?_
      rw [rounds_succ]; go_wp2
      refine wp_loop_rounds 1 ?_
      rw [rounds_succ]; go_wp2
      go_ret2
      exact EncPost.ok h4096 rfl rfl (Below.refl _ _)
    · obtain ⟨b1, o1, c1, rfl, hc1, hb1, hcA⟩ := ha.pos hpos
      have HcA := Lib.hid hcA
      have Hr := Lib.hid hr
      clear hcA ha hr
      go_enter Try.func27, Try.ntmps27
      go_wp2
      go_loopw [4, 6, 20] (fun v _ i wr => ∃ k : Nat, k ≤ l.length ∧ i = .int .i64 (k : Int) ∧ EbRel w l k v wr) (fun _ _ i _ => l.length - (intOf i).toNat)
      case atStart => exact ⟨0, Nat.zero_le _, rfl, rfl, World.ownsRow_nil _ _ _ _, Below.refl _ _⟩
      case round =>
        obtain ⟨k, hk, rfl, hok, h3, h4⟩ := hrel
        have hsz := h4.size
        have hbl := bas1_le (nats (l.take k))
        rw [nats_len, List.length_take] at hbl
        have Hok := Lib.hid hok
        clear hok
        by_cases hlt : k < l.length
        · have i1 : (k : Int) < (l.length : Int) := by omega
          have q1 : wr.cell? ⟨b1, o1 + k, none⟩ = some (.int .i32 l[k]) := (bel_cells h4 hb1 (o1 + k)).trans (sl_at HcA.out hlt)
          have HB := Lib.hid (bas1_next hlt)
          rcases hp : okp l[k]
          · have HN := Lib.hid (okp_bad hlt hp)
            have hc : l[k] < 0 ∨ 1114111 < l[k] := by
              have := of_decide_eq_false hp
              omega
            generalize l[k] = c at *
            clear hp
            by_cases hc0 : c < 0
            · go_wp2
              go_ret2
              exact EncPost.bad h4096 HN.out h4
            · have j2 : (1114111 : Int) < c := by omega
              go_wp2
              go_ret2
              exact EncPost.bad h4096 HN.out h4
          · have HN := Lib.hid (okp_next hlt Hok.out hp)
            obtain ⟨g1, g2⟩ := okp_t hp
            clear hp
            generalize l[k] = c at *
            have j1 : ¬ c < 0 := by omega
            have j2 : ¬ (1114111 : Int) < c := by omega
            by_cases h128 : c < 128
            · have HV := Lib.hid (show Value.int .u8 c = byv (UInt8.ofNat c.toNat) from byv_mk (n := c.toNat) (by omega) (by omega))
              go_wp2_with (at_builtin; refine wpList_appLit rfl _ _ _ rfl elt_bytes (n := (Pu.bas1 (nats (l.take k))).length) rfl h3 [.int .u8 c] (m := 1) rfl rfl (by simp [Value.oneCell']) hsz (by omega) (by omega) ?_; intro v1 w1 ho1 hbw1 hg1)
              go_roundw
              case rel =>
                refine ⟨k + 1, by omega, by go_num, HN.out, ?_, h4.trans hbw1⟩
                rw [HB.out, if_pos (by omega), List.length_append, List.map_append]
                rw [HV.out] at ho1
                exact ho1
              case measure => simp [intOf]; omega
            · go_wp2
              go_roundw
              case rel => exact ⟨k + 1, by omega, by go_num, HN.out, by rw [HB.out, if_neg (by omega)]; exact h3, h4⟩
              case measure => simp [intOf]; omega
        · have i1 : ¬ (k : Int) < (l.length : Int) := by omega
          obtain rfl : k = l.length := by omega
          have Hok' := Lib.hid (show l.all okp = true by have := Hok.out; rwa [List.take_length] at this)
          rw [List.take_length] at h3 hbl
          clear Hok
          obtain ⟨e1, e2⟩ := nats_back Hok'.out
          have HcP : Hid (∀ (j : Nat) (u : Value), ((nats l).map rnv)[j]? = some u → w.cell? ⟨b1, o1 + j, none⟩ = some u) := Lib.hid (by
            have := HcA.out
            rw [e1, List.map_map] at this
            exact this)
          have hPl := nats_len l
          have HP2 := Lib.hid e2
          have HE := Lib.hid (rfl : Pu.enc (nats l) = Pu.enc (nats l))
          generalize hEE : Pu.enc (nats l) = E at HE
          have HEE := Lib.hid hEE
          have Hst := Lib.hid (show Pu.encF (nats l) (Pu.bas1 (nats l)).length (nats l).length 128 ⟨Pu.head (nats l), 0, 72, (Pu.bas1 (nats l)).length⟩ = E from hEE)
          have Hbb := Lib.hid (Pu.bas1_len (nats l))
          have Hfin0 : Hid (∀ w' : World, Below w.heap.size w w' → E = none → EncPost w l (.returned (.tuple #[.string ⟨#[]⟩, .int .i64 6])) w') := Lib.hid (fun w' hb h => EncPost.over h4096 Hok'.out (HEE.out.trans h) hb)
          have Hfin1 : Hid (∀ (w' : World) (b : List UInt8), Below w.heap.size w w' → E = some b → EncPost w l (.returned (.tuple #[.string ⟨b.toArray⟩, .int .i64 0])) w') := Lib.hid (fun w' b hb h => EncPost.ok h4096 Hok'.out (HEE.out.trans h) hb)
          clear e1 e2 HE hEE HcA Hr
          generalize nats l = P at *
          have hbl2 : (Pu.bas1 P).length ≤ 4096 := by omega
          have hlen : P.length ≤ l.length := by omega
          have hlen2 : l.length ≤ P.length := by omega
          have HPl := Lib.hid hPl
          clear hPl
          clear HEE Hok' h4096
          have HSl : Hid (∀ W : World, Below w.heap.size w W → Sl W 1 (.slice (some ⟨b1, o1, none⟩) l.length c1) P.length (P.map rnv)) := Lib.hid (fun W hW => Sl.below (w := w) ⟨by simp, some ⟨b1, o1, none⟩, c1, by rw [HPl.out], by omega, (fun h => by cases h), fun ad had _ => by
            injection had with had
            subst had
            exact ⟨hb1, rfl, HcP.out⟩⟩ hW)
          obtain ⟨va, vc, hv4, _⟩ := (Sl.own h3).any
          subst hv4
          by_cases hb0 : Pu.bas1 P = []
          case' pos =>
            have hl0 : (Pu.bas1 P).length ≤ 0 := by rw [hb0]; simp
            have j0 : ¬ (0 : Int) < ((Pu.bas1 P).length : Int) := by omega
            have ho2 : wr.ownsRow w.heap.size 5 1 (.slice va (Pu.bas1 P).length vc) (Pu.head P).length ((Pu.head P).map byv) := by
              have e : Pu.head P = [] := by unfold Pu.head; rw [if_pos hb0]
              rw [e]
              rw [hb0] at h3 ⊢
              exact h3
            have hhl : (Pu.head P).length ≤ 5000 := by unfold Pu.head; rw [if_pos hb0]; simp
            have hb2 := h4
            clear hb0 h3
            go_wp2
          case' neg =>
            have hl0 : 0 < (Pu.bas1 P).length := List.length_pos_iff.2 hb0
            have j0 : (0 : Int) < ((Pu.bas1 P).length : Int) := by omega
            have Hhd2 := Lib.hid (show Pu.head P = Pu.bas1 P ++ [45] by unfold Pu.head; rw [if_neg hb0])
            clear hb0
            go_wp2_with (at_builtin; refine wpList_appLit rfl _ _ _ rfl elt_bytes (n := (Pu.bas1 P).length) rfl h3 [.int .u8 45] (m := 1) rfl rfl (by simp [Value.oneCell']) hsz (by omega) (by omega) ?_; intro v1 w1 ho1 hbw1 hg1)
            have ho2 : w1.ownsRow w.heap.size 5 1 v1 (Pu.head P).length ((Pu.head P).map byv) := by
              rw [Hhd2.out, List.length_append, List.map_append]
              exact ho1
            have hhl : (Pu.head P).length ≤ 5000 := by rw [Hhd2.out, List.length_append]; simp; omega
            have hb2 := h4.trans hbw1
            clear ho1 hbw1 hg1 h3 Hhd2
          all_goals
            go_loopw [4, 8, 9, 10, 11, 12, 14] (fun v st n bi dn _ _ wr => ∃ s : Pu.ES, EoRel P E st n bi dn s ∧ wr.ownsRow w.heap.size 5 1 v s.b.length (s.b.map byv) ∧ Below w.heap.size w wr) (fun _ _ _ _ dn _ _ _ => P.length - (intOf dn).toNat)
            case atStart => exact ⟨⟨Pu.head P, 0, 72, (Pu.bas1 P).length⟩, ⟨128, P.length, rfl, rfl, rfl, rfl, Hbb.out, by omega, by simp, by simp, by dsimp only; omega, by omega, Hst.out⟩, ho2, hb2⟩
            case round =>
              obtain ⟨⟨sb, sst, sbi, sdn⟩, ⟨n, f, rfl, rfl, rfl, rfl, hdn, hn1, hst, hbi, hsb, hf, hE⟩, h5, h6⟩ := hrel
              dsimp only at hdn hst hbi hsb hf hE h5
              have HE := Lib.hid hE
              have Hdn := Lib.hid hdn
              have hdl : sdn ≤ P.length := by rw [hdn]; exact Pu.bel_le _ _
              clear hE hdn ho2 hb2
              have hsz6 := h6.size
              by_cases hlt : sdn < P.length
              · have k1 : (sdn : Int) < (l.length : Int) := by omega
                obtain ⟨m1, m2, m3⟩ := Pu.least_spec (l := P) (n := n) (fun c hc => by have := HP2.out c hc; omega) (by rw [← Hdn.out]; exact hlt)
                have hm112 := HP2.out _ m1
                have HL1 := Lib.hid (Pu.bel_more m1 m2)
                have HL2 := Lib.hid (Pu.bel_jump m2 m3)
                have hjl := jump_le (P := P) (n := n) (d := sdn) (by omega)
                clear m1 m3
                obtain ⟨f', rfl⟩ : ∃ f', f = f' + 1 := ⟨f - 1, by omega⟩
                go_wp2_with fail
                refine (least_any P _ _ _ (HSl.out _ h6) (by omega) HP2.out).mono ?_
                rintro e w' ⟨rfl, rfl⟩
                generalize hm : Pu.least P n = m at *
                have Hm := Lib.hid hm
                clear hm
                obtain ⟨J, hJ⟩ : ∃ J : Nat, J = (m - n) * (sdn + 1) := ⟨_, rfl⟩
                have hJz : ((m : Int) - (n : Int)) * ((sdn : Int) + 1) = (J : Int) := by
                  rw [hJ, Int.natCast_mul, Int.natCast_sub m2, Int.natCast_add]; rfl
                rw [← hJ] at hjl
                have HJ := Lib.hid hJ
                clear hJ
                by_cases hov : 4294967295 < sst + J
                · have k2 : (4294967295 : Int) < (sst : Int) + (J : Int) := by omega
                  have HE2 := Lib.hid (HE.out.symm.trans (Pu.encF_over (s := ⟨sb, sst, sbi, sdn⟩) hlt (by dsimp only; rw [Hm.out, ← HJ.out]; exact hov)))
                  go_wp2
                  go_ret2
                  exact Hfin0.out _ h6 HE2.out
                · have k2 : ¬ (4294967295 : Int) < (sst : Int) + (J : Int) := by omega
                  have HnE : Hid (Pu.pass m (Pu.bas1 P).length ⟨sb, sst + J, sbi, sdn⟩ P = none → E = none) := Lib.hid (fun h => HE.out.symm.trans (Pu.encF_none (s := ⟨sb, sst, sbi, sdn⟩) hlt (by dsimp only; rw [Hm.out, ← HJ.out]; exact hov) (by dsimp only; rw [Hm.out, ← HJ.out]; exact h)))
                  have HsE : Hid (∀ s' : Pu.ES, Pu.pass m (Pu.bas1 P).length ⟨sb, sst + J, sbi, sdn⟩ P = some s' → Pu.encF P (Pu.bas1 P).length f' (m + 1) ⟨s'.b, s'.steps + 1, s'.bias, s'.done⟩ = E) := Lib.hid (fun s' h => by
                    rw [← HE.out, Pu.encF_some (s := ⟨sb, sst, sbi, sdn⟩) hlt (by dsimp only; rw [Hm.out, ← HJ.out]; exact hov) (s' := s') (by dsimp only; rw [Hm.out, ← HJ.out]; exact h), Hm.out])
                  have Hps : Hid (∀ (i : Nat), i ≤ P.length → ∀ s', Pu.pass m (Pu.bas1 P).length ⟨sb, sst + J, sbi, sdn⟩ (P.take i) = some s' → s'.done = (Pu.Lp P m i).length) := Lib.hid (Pu.pass_done (by dsimp only; rw [HL2.out]; exact Hdn.out))
                  clear HE hov
                  go_wp2
                  go_loopw [4, 8, 10, 11, 14, 66] (fun v st bi dn _ i wr => ∃ (k : Nat) (s : Pu.ES), k ≤ P.length ∧ i = .int .i64 (k : Int) ∧ EiRel P ⟨sb, sst + J, sbi, sdn⟩ m k st bi dn s ∧ wr.ownsRow w.heap.size 5 1 v s.b.length (s.b.map byv) ∧ Below w.heap.size w wr) (fun _ _ _ _ _ i _ => P.length - (intOf i).toNat)
                  case atStart => exact ⟨0, ⟨sb, sst + J, sbi, sdn⟩, Nat.zero_le _, rfl, ⟨by simp, rfl, rfl, ⟨by dsimp only; omega, hbi, hsb⟩, rfl⟩, h5, h6⟩
                  case round =>
                    obtain ⟨k, ⟨tb, tst, tbi, tdn⟩, hk, rfl, ⟨rfl, rfl, rfl, hsm, hp⟩, h7, h8⟩ := hrel
                    obtain ⟨t1, t2, t3⟩ := hsm
                    have Hsm : Hid (Pu.Small ⟨tb, tst, tbi, tdn⟩) := Lib.hid ⟨t1, t2, t3⟩
                    dsimp only at t1 t2 t3 h7
                    have Hp := Lib.hid hp
                    have htd := Hps.out k hk _ hp
                    have htl := (Pu.Lp_len P m k).2
                    dsimp only at htd
                    have htdn : tdn ≤ P.length := by omega
                    clear htd htl hp h5 h6
                    have hsz8 := h8.size
                    by_cases hkl : k < P.length
                    · have k3 : (k : Int) < (l.length : Int) := by omega
                      have q1 : wr.cell? ⟨b1, o1 + k, none⟩ = some (.int .i32 ((P[k] : Nat) : Int)) := (bel_cells h8 hb1 (o1 + k)).trans (sl_at HcP.out hkl)
                      have hck := HP2.out P[k] (List.getElem_mem _)
                      have HPS : Hid (∀ s2, Pu.pstep m (Pu.bas1 P).length ⟨tb, tst, tbi, tdn⟩ P[k] = some s2 → Pu.pass m (Pu.bas1 P).length ⟨sb, sst + J, sbi, sdn⟩ (P.take (k + 1)) = some s2) := Lib.hid (fun s2 h => Pu.pass_step hkl Hp.out h)
                      have HPN : Hid (Pu.pstep m (Pu.bas1 P).length ⟨tb, tst, tbi, tdn⟩ P[k] = none → E = none) := Lib.hid (fun h => HnE.out (Pu.pass_none hkl Hp.out h))
                      generalize P[k] = c at *
                      rcases Nat.lt_trichotomy c m with hc | hc | hc
                      · have k4 : (c : Int) < (m : Int) := by omega
                        have k5 : ((c : Int) == (m : Int)) = false := by rw [beq_eq_false_iff_ne]; omega
                        by_cases hov2 : tst + 1 ≤ 4294967295
                        · have k6 : ¬ (4294967295 : Int) < (tst : Int) + 1 := by omega
                          have HS := Lib.hid (HPS.out _ (Pu.pstep_lt (s := ⟨tb, tst, tbi, tdn⟩) hc hov2))
                          go_wp2
                          go_roundw
                          case rel => exact ⟨k + 1, ⟨tb, tst + 1, tbi, tdn⟩, by omega, by go_num, ⟨by go_num, rfl, rfl, ⟨hov2, t2, t3⟩, HS.out⟩, h7, h8⟩
                          case measure => simp [intOf]; omega
                        · have k6 : (4294967295 : Int) < (tst : Int) + 1 := by omega
                          have HS := Lib.hid (HPN.out (Pu.pstep_over (s := ⟨tb, tst, tbi, tdn⟩) hc hov2))
                          go_wp2
                          go_ret2
                          exact Hfin0.out _ h8 HS.out
                      · have k4 : ¬ (c : Int) < (m : Int) := by omega
                        have k5 : ((c : Int) == (m : Int)) = true := by rw [beq_iff_eq]; omega
                        have HS := Lib.hid (HPS.out _ (Pu.pstep_eq (s := ⟨tb, tst, tbi, tdn⟩) hc))
                        have HSm := Lib.hid (Hsm.out.emit (basic := (Pu.bas1 P).length))
                        obtain ⟨fb, hfb⟩ : ∃ fb, fb = decide (tdn = (Pu.bas1 P).length) := ⟨_, rfl⟩
                        have k7 : (((tdn : Nat) : Int) == (((Pu.bas1 P).length : Nat) : Int)) = fb := by
                          rw [hfb, Bool.eq_iff_iff]; simp; omega
                        rw [← hfb] at HS HSm
                        clear hfb
                        go_wp2_with fail
                        refine (padd_any _ _ _ _ _ _ _ (by omega) t2 hsz8 (by omega) h7).mono ?_
                        rintro e w0 ⟨v0, rfl, ho0, hb0⟩
                        have h9 := h8.trans hb0
                        go_wp2_with fail
                        refine (behind_z _ _ _ _ (by omega) (by omega) (by omega) (by omega)).mono ?_
                        rintro e w' ⟨rfl, rfl⟩
                        rw [Int.toNat_natCast, show ((tdn : Int) + 1).toNat = tdn + 1 by omega]
                        go_wp2
                        go_roundw
                        case rel =>
                          refine ⟨k + 1, ⟨tb ++ Pu.figs tst tbi 1, 0, Pu.beh tst (tdn + 1) fb, tdn + 1⟩, by omega, by go_num, ⟨rfl, rfl, by go_num, HSm.out, HS.out⟩, ?_, h9⟩
                          dsimp only
                          rw [List.length_map] at ho0
                          rw [List.length_append, List.map_append]
                          exact ho0
                        case measure => simp [intOf]; omega
                      · have k4 : ¬ (c : Int) < (m : Int) := by omega
                        have k5 : ((c : Int) == (m : Int)) = false := by rw [beq_eq_false_iff_ne]; omega
                        have HS := Lib.hid (HPS.out _ (Pu.pstep_gt (s := ⟨tb, tst, tbi, tdn⟩) hc))
                        go_wp2
                        go_roundw
                        case rel => exact ⟨k + 1, ⟨tb, tst, tbi, tdn⟩, by omega, by go_num, ⟨rfl, rfl, rfl, ⟨t1, t2, t3⟩, HS.out⟩, h7, h8⟩
                        case measure => simp [intOf]; omega
                    · have k3 : ¬ (k : Int) < (l.length : Int) := by omega
                      obtain rfl : k = P.length := by omega
                      have hpa : Pu.pass m (Pu.bas1 P).length ⟨sb, sst + J, sbi, sdn⟩ P = some ⟨tb, tst, tbi, tdn⟩ := by rw [← Pu.pass_all]; exact Hp.out
                      have HS := Lib.hid (HsE.out _ hpa)
                      have hdn2 := Hps.out _ (Nat.le_refl _) _ Hp.out
                      rw [(Pu.Lp_all P m).1] at hdn2
                      dsimp only at hdn2
                      have Hdn2 := Lib.hid hdn2
                      have hgt : sdn < tdn := by rw [hdn2, Hdn.out]; exact HL1.out
                      clear hpa hdn2
                      go_wp2
                      go_roundw
                      case rel => exact ⟨⟨tb, tst + 1, tbi, tdn⟩, ⟨m + 1, f', by go_num, by go_num, rfl, rfl, Hdn2.out, by omega, by dsimp only; omega, t2, t3, by dsimp only; omega, HS.out⟩, h7, h8⟩
                      case measure => simp [intOf]; omega
              · have k1 : ¬ (sdn : Int) < (l.length : Int) := by omega
                have HE2 := Lib.hid (HE.out.symm.trans (Pu.encF_done (s := ⟨sb, sst, sbi, sdn⟩) hlt))
                have hcv := str_run (Sl.own h5)
                go_wp2
                go_ret2
                exact Hfin1.out _ _ h6 HE2.out
end Go.Proofs.Ytnelaegjcpkmdaa
