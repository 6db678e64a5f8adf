/- The contracts of label.ToASCII and of its reference. -/
import Derived.Test.YtnelaegjcpkmdaaLabC
namespace Go.Proofs.Ytnelaegjcpkmdaa
open Go.RowKit
attribute [local go_sem] ba_get ext_drop ext_take ba_app

theorem encR_inl {l : List Int} {c : Int} (h : encR l = .inl c) : (c != 0) = true := by
  have : c = 3 ∨ c = 4 ∨ c = 6 := by
    unfold encR at h
    split at h
    · injection h with h; omega
    · split at h
      · split at h
        · injection h with h; omega
        · cases h
      · injection h with h; omega
  rw [bne_iff_ne]; omega
theorem rns_sl {k : IntKind} {w w' : World} {t : List UInt8} {l : List Int} {e : Ending} (h : RnsPost k w (rns t) e w') (hr : rns t = some l) : ∃ v, e = .returned (.tuple #[v, .int .i64 0]) ∧ Sl w' 1 v l.length (l.map (Value.int k)) ∧ Below w.heap.size w w' := by
  rw [hr] at h
  exact h
theorem rns_no {k : IntKind} {w w' : World} {t : List UInt8} {e : Ending} (h : RnsPost k w (rns t) e w') (hr : rns t = none) : ∃ v, e = .returned (.tuple #[v, .int .i64 5]) ∧ Below w.heap.size w w' := by
  rw [hr] at h
  obtain ⟨v, h1, _, h3⟩ := h
  exact ⟨v, h1, h3⟩
def Lng (s : Pu.ES) : Prop := s.b.length ≤ 5000 + 11 * s.done ∧ s.steps ≤ 4294967296
theorem Lng.step {n bs : Nat} {s s' : Pu.ES} {c : Nat} (h : Lng s) (e : Pu.pstep n bs s c = some s') : Lng s' := by
  obtain ⟨h1, h2⟩ := h
  unfold Pu.pstep at e
  split at e
  · split at e
    · cases e
    · injection e with e; subst e; exact ⟨h1, by dsimp only; omega⟩
  · split at e
    · injection e with e; subst e
      have := Pu.figs_len 10 s.steps s.bias 1 (by simp; omega)
      refine ⟨?_, by simp⟩
      simp only [List.length_append]
      omega
    · injection e with e; subst e; exact ⟨h1, h2⟩
theorem Lng.pass {n bs : Nat} (l : List Nat) : ∀ {s s' : Pu.ES}, Lng s → Pu.pass n bs s l = some s' → Lng s' ∧ (s.steps ≤ 4294967295 → s'.steps ≤ 4294967295) := by
  induction l with
  | nil => intro s s' h e; simp [Pu.pass] at e; rw [← e]; exact ⟨h, id⟩
  | cons c l ih =>
    intro s s' h e
    unfold Pu.pass at e
    rw [List.foldlM_cons] at e
    obtain ⟨s1, e1, e2⟩ := Option.bind_eq_some_iff.1 e
    obtain ⟨i1, i2⟩ := ih (h.step e1) e2
    refine ⟨i1, fun hs => i2 ?_⟩
    unfold Pu.pstep at e1
    split at e1
    · split at e1
      · cases e1
      · injection e1 with e1; subst e1; dsimp only; omega
    · split at e1
      · injection e1 with e1; subst e1; simp
      · injection e1 with e1; subst e1; exact hs
theorem encF_lng {l : List Nat} {basic : Nat} (hl : ∀ c ∈ l, c < 1114112) (f : Nat) : ∀ (n : Nat) (s : Pu.ES) (b : List UInt8), Lng s → s.done = (Pu.bel l n).length → Pu.encF l basic f n s = some b → b.length ≤ 5000 + 11 * l.length := by
  have fin : ∀ (n : Nat) (s : Pu.ES) (b : List UInt8), Lng s → s.done = (Pu.bel l n).length → some s.b = some b → b.length ≤ 5000 + 11 * l.length := by
    rintro n s b ⟨h1, _⟩ hd hb
    injection hb with hb
    have := Pu.bel_le l n
    rw [← hb]; omega
  induction f with
  | zero => intro n s b h hd e; exact fin n s b h hd e
  | succ f ih =>
    intro n s b h hd' e
    by_cases hd1 : s.done < l.length
    · rw [Pu.encF, if_pos hd1] at e
      split at e
      · cases e
      · next hov =>
        split at e
        · cases e
        · next s' hp =>
          obtain ⟨m1, m2, m3⟩ := Pu.least_spec (l := l) (n := n) hl (by omega)
          have hj := Pu.bel_jump m2 m3
          have hdn := Pu.pass_done (l := l) (n := Pu.least l n) (basic := basic) (s := { s with steps := s.steps + (Pu.least l n - n) * (s.done + 1) }) (by dsimp only; rw [hj]; exact hd') l.length (Nat.le_refl _) s' (by rw [Pu.pass_all]; exact hp)
          rw [(Pu.Lp_all l (Pu.least l n)).1] at hdn
          obtain ⟨g1, g2⟩ := Lng.pass l (s := { s with steps := s.steps + (Pu.least l n - n) * (s.done + 1) }) ⟨h.1, by dsimp only; omega⟩ hp
          have g3 := g2 (by dsimp only; omega)
          exact ih (Pu.least l n + 1) { s' with steps := s'.steps + 1 } b ⟨g1.1, by dsimp only; omega⟩ hdn e
    · rw [Pu.encF, if_neg hd1] at e
      exact fin n s b h hd' e
theorem encR_len {l : List Int} {t : List UInt8} (h : encR l = .inr t) : t.length ≤ 60000 := by
  unfold encR at h
  split at h
  · cases h
  · next hl =>
    split at h
    · next hok =>
      split at h
      · cases h
      · next b hb =>
        injection h with h
        subst h
        have hnl := nats_len l
        have e2 := (nats_back hok).2
        have h1 := bas1_le (nats l)
        have h2 : (Pu.head (nats l)).length ≤ 4097 := by
          unfold Pu.head
          split
          · simp
          · rw [List.length_append]; simp; omega
        have := encF_lng (l := nats l) (fun c hc => by have := e2 c hc; omega) _ 128 _ _ ⟨by dsimp only; omega, by simp⟩ (Pu.bas1_len (nats l)) hb
        omega
    · cases h
def AscPost (w : World) (s : List UInt8) (e : Ending) (w' : World) : Prop := e = .returned (encT (toA s)) ∧ Below w.heap.size w w'
theorem AscPost.err {w w' : World} {s : List UInt8} {c : Int} (h : toA s = .inl c) (hb : Below w.heap.size w w') : AscPost w s (.returned (.tuple #[.string ⟨#[]⟩, .int .i64 c])) w' := ⟨by rw [h]; rfl, hb⟩
theorem AscPost.ok {w w' : World} {s b : List UInt8} (h : toA s = .inr b) (hb : Below w.heap.size w w') : AscPost w s (.returned (.tuple #[.string ⟨b.toArray⟩, .int .i64 0])) w' := ⟨by rw [h]; rfl, hb⟩
theorem toA_near {s : List UInt8} (h : farB s = false) : toA s = if hostB s = true then .inr (low s) else .inl 7 := by unfold toA; rw [h, if_neg (by simp)]
theorem toA_none {s : List UInt8} (h : farB s = true) (hr : rns (low s) = none) : toA s = .inl 5 := by unfold toA; rw [if_pos h, hr]
theorem toA_some {s : List UInt8} {l : List Int} (h : farB s = true) (hr : rns (low s) = some l) : toA s = if mayB l = true then (match encR l with | .inl e => .inl e | .inr t => if 63 < t.length + 4 then .inl 7 else .inr (mrk ++ t)) else .inl 7 := by unfold toA; rw [if_pos h, hr]; rfl

set_option maxRecDepth 100000 in
set_option maxHeartbeats 1000000 in
theorem toascii_any (s : List UInt8) (w : World) (hl : s.length ≤ 100000000) : Calls Try.prog 41 #[.string ⟨s.toArray⟩] w (AscPost w s) := by
  rcases hf : farB s
  · have Hn := Lib.hid (toA_near hf)
    have Hf := Lib.hid hf
    clear hf
    go_enter Try.func41, Try.ntmps41
    go_wp2_with fail
    refine (basic_any _ _ (by omega)).mono ?_
    rintro e w' ⟨rfl, rfl⟩
    rw [Hf.out]
    go_wp2_with fail
    refine (lhost_any _ _ (by omega)).mono ?_
    rintro e w' ⟨rfl, rfl⟩
    rcases hh : hostB s
    · have H := Lib.hid (show toA s = .inl 7 by rw [Hn.out, hh]; rfl)
      clear hh
      go_wp2
      go_ret2
      exact AscPost.err H.out (Below.refl _ _)
    · have H := Lib.hid (show toA s = .inr (low s) by rw [Hn.out, hh]; rfl)
      clear hh
      go_wp2_with fail
      refine (lower_any _ _ (by omega)).mono ?_
      rintro e w1 ⟨rfl, hb1⟩
      go_wp2
      go_ret2
      exact AscPost.ok H.out hb1
  · have Hf := Lib.hid hf
    have hll := low_len s
    have hll2 : (low s).length ≤ 100000000 := by omega
    rcases hr : rns (low s) with _ | l
    · have H := Lib.hid (toA_none hf hr)
      have Hr := Lib.hid hr
      clear hf hr hll
      go_enter Try.func41, Try.ntmps41
      go_wp2_with fail
      refine (basic_any _ _ (by omega)).mono ?_
      rintro e w' ⟨rfl, rfl⟩
      rw [Hf.out]
      go_wp2_with fail
      refine (lower_any _ _ (by omega)).mono ?_
      rintro e w1 ⟨rfl, hb1⟩
      go_wp2_with fail
      refine (runes_any _ _ (by omega)).mono ?_
      intro e w2 h2
      obtain ⟨v2, rfl, hb2⟩ := rns_no h2 Hr.out
      clear h2
      go_wp2
      go_ret2
      exact AscPost.err H.out (bel_tr hb1 hb2)
    · have H := Lib.hid (toA_some hf hr)
      have Hr := Lib.hid hr
      obtain ⟨hbd1, hbd2⟩ := rns_bd hr
      obtain ⟨c0, hc0, _⟩ := rns_far hr (by rw [farB_low]; exact hf)
      have hpos : 0 < l.length := List.length_pos_of_mem hc0
      have Hbd : Hid (∀ x ∈ l, 0 ≤ x ∧ x ≤ 1114111) := Lib.hid (fun x hx => ptB_bd (hbd2 x hx))
      have Hbd2 : Hid (∀ x ∈ l, -2147483648 ≤ x ∧ x ≤ 2147483647) := Lib.hid (fun x hx => by have := ptB_bd (hbd2 x hx); omega)
      clear hf hr hll hbd2 hc0
      go_enter Try.func41, Try.ntmps41
      go_wp2_with fail
      refine (basic_any _ _ (by omega)).mono ?_
      rintro e w' ⟨rfl, rfl⟩
      rw [Hf.out]
      go_wp2_with fail
      refine (lower_any _ _ (by omega)).mono ?_
      rintro e w1 ⟨rfl, hb1⟩
      go_wp2_with fail
      refine (runes_any _ _ (by omega)).mono ?_
      intro e w2 h2
      obtain ⟨v2, rfl, hs2, hb2⟩ := rns_sl h2 Hr.out
      clear h2
      have hb02 := bel_tr hb1 hb2
      go_wp2_with fail
      refine (may_any _ _ _ hs2 (by omega) hpos Hbd.out).mono ?_
      rintro e w' ⟨rfl, rfl⟩
      rcases hm : mayB l
      · have H2 := Lib.hid (show toA s = .inl 7 by rw [H.out, hm]; rfl)
        clear hm
        go_wp2
        go_ret2
        exact AscPost.err H2.out hb02
      · have H2 := H.out
        rw [hm, if_pos rfl] at H2
        have H3 := Lib.hid H2
        clear hm H2 H
        go_wp2_with fail
        refine (encode_any _ _ _ hs2 (by unfold maxLen; omega) Hbd2.out).mono ?_
        rintro e w3 ⟨rfl, hb3⟩
        have hb03 := bel_tr hb02 hb3
        rcases he : encR l with c | t
        · have hc := encR_inl he
          have H4 := Lib.hid (show toA s = .inl c by rw [H3.out, he])
          clear he
          unfold encT
          go_wp2
          go_ret2
          exact AscPost.err H4.out hb03
        · have H4 := Lib.hid (show toA s = if 63 < t.length + 4 then .inl 7 else .inr (mrk ++ t) by rw [H3.out, he])
          have htl := encR_len he
          clear he
          unfold encT
          by_cases hbig : 63 < t.length + 4
          · have H5 := Lib.hid (show toA s = .inl 7 by rw [H4.out, if_pos hbig])
            have k1 : (63 : Int) < (t.length : Int) + 1 + 1 + 1 + 1 := by omega
            go_wp2
            go_ret2
            exact AscPost.err H5.out hb03
          · have H5 := Lib.hid (show toA s = .inr (mrk ++ t) by rw [H4.out, if_neg hbig])
            have k1 : ¬ (63 : Int) < (t.length : Int) + 1 + 1 + 1 + 1 := by omega
            go_wp2
            go_ret2
            exact AscPost.ok H5.out hb03
end Go.Proofs.Ytnelaegjcpkmdaa
