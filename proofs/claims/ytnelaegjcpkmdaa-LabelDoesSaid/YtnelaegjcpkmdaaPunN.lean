/- The walks of PunyWrites, PunyReads and PunyBack. -/
import Derived.Test.YtnelaegjcpkmdaaPunM
import Derived.Test.YtnelaegjcpkmdaaUtfF
import Derived.OpenShut
namespace Go.Proofs.Ytnelaegjcpkmdaa
open Go.RowKit
attribute [local go_sem] ba_get ba_app

theorem w3enc : encR [98, 252, 99, 104, 101, 114] = .inr [98, 99, 104, 101, 114, 45, 107, 118, 97] := by decide +kernel
theorem w3dec : Pu.dec [66, 99, 104, 101, 114, 45, 75, 86, 65] = .inr [66, 252, 99, 104, 101, 114] := by decide +kernel
def zs (P : List Nat) : List Int := P.map (fun c : Nat => (c : Int))
theorem zs_len (P : List Nat) : (zs P).length = P.length := by simp [zs]
theorem rnv_zs (P : List Nat) : P.map rnv = (zs P).map (Value.int .i32) := by unfold zs; rw [List.map_map]; rfl
theorem inv_zs (P : List Nat) : P.map inv = (zs P).map (Value.int .i64) := by unfold zs; rw [List.map_map]; rfl
theorem decF_bd (f : Nat) : ∀ (d : Pu.DS) (l : List Nat), Pu.decF f d = .inr l → (∀ c ∈ d.l, c ≤ 1114111) → d.l.length ≤ 4096 → (∀ c ∈ l, c ≤ 1114111) ∧ l.length ≤ 4096 := by
  induction f with
  | zero => intro d l h h1 h2; simp only [Pu.decF] at h; injection h with h; subst h; exact ⟨h1, h2⟩
  | succ f ih =>
    intro d l h h1 h2
    obtain ⟨L, n, p, bias, first, s⟩ := d
    dsimp only at h1 h2
    by_cases hs : s = []
    · subst hs
      rw [decF_nil] at h
      injection h with h
      subst h
      exact ⟨h1, h2⟩
    · rcases hN : Pu.numb bias s 1 0 1 with e | ⟨x, r⟩
      · rw [decF_err hs hN] at h; cases h
      · rw [decF_ok hs hN] at h
        split at h
        · cases h
        · split at h
          · cases h
          · split at h
            · cases h
            · refine ih _ _ h ?_ ?_
              · intro c hc
                dsimp only at hc
                rcases List.mem_append.1 hc with hc | hc
                · exact h1 c (List.mem_of_mem_take hc)
                · rcases List.mem_cons.1 hc with rfl | hc
                  · omega
                  · exact h1 c (List.mem_of_mem_drop hc)
              · have := Nat.mod_lt (p + x) (show 0 < L.length + 1 by omega)
                simp only [List.length_append, List.length_cons, List.length_take, List.length_drop]
                omega
theorem dec_bd {s : List UInt8} {l : List Nat} (h : Pu.dec s = .inr l) : (∀ c ∈ l, c ≤ 1114111) ∧ l.length ≤ 4096 := by
  unfold Pu.dec at h
  split at h
  · cases h
  · split at h
    · cases h
    · next L r hb =>
      refine decF_bd _ _ _ h ?_ ?_
      · unfold Pu.bas at hb
        split at hb
        · split at hb
          · cases hb
          · injection hb with hb
            injection hb with h1 h2
            intro c hc
            dsimp only at hc
            rw [← h1] at hc
            obtain ⟨u, _, rfl⟩ := List.mem_map.1 hc
            have := u.toNat_lt
            omega
        · cases hb
      · unfold Pu.bas at hb
        split at hb
        · split at hb
          · cases hb
          · injection hb with hb
            injection hb with h1 h2
            dsimp only
            rw [← h1, List.length_map, List.length_take]
            omega
        · cases hb
theorem bds_i32 {l : List Int} (h : ∀ n ∈ l, (Lit.int .i32 n).wf = true) : ∀ x ∈ l, -2147483648 ≤ x ∧ x ≤ 2147483647 := fun x hx => Go.bounds_i32 (h x hx)
theorem zs_bd {l : List Nat} (h : ∀ c ∈ l, c ≤ 1114111) : ∀ x ∈ zs l, -2147483648 ≤ x ∧ x ≤ 2147483647 := by
  intro x hx
  obtain ⟨c, hc, rfl⟩ := List.mem_map.1 hx
  have := h c hc
  omega
theorem dec_open {w w' : World} {s : List UInt8} {l : List Nat} {e : Ending} (h : DecPost w s e w') (hd : Pu.dec s = .inr l) : ∃ v, e = .returned (.tuple #[v, .int .i64 0]) ∧ Sl w' 1 v (zs l).length ((zs l).map (Value.int .i32)) ∧ Below w.heap.size w w' := by
  rcases h with ⟨c, h1, _⟩ | ⟨l', v, h1, h2, h3, h4⟩
  · rw [hd] at h1; cases h1
  · rw [hd] at h1
    injection h1 with h1
    subst h1
    exact ⟨v, h2, by rw [zs_len, ← rnv_zs]; exact h3, h4⟩

set_option maxRecDepth 100000 in
set_option maxHeartbeats 1000000 in
theorem works03_any (w : World) : Calls Try.prog 26 #[] w (Good w) := by
  go_enter Try.func26, Try.ntmps26
  go_wp2_with fail
  refine (encode_any [98, 252, 99, 104, 101, 114] _ _ (Sl.new w [.int .i32 98, .int .i32 252, .int .i32 99, .int .i32 104, .int .i32 101, .int .i32 114] 21) (by simp [maxLen]) (by simp)).mono ?_
  rintro e w1 ⟨rfl, hb1⟩
  have hb01 : Below w.heap.size w w1 := ((Below.refl _ _).alloc (Nat.le_refl _) _).trans (hb1.mono (by simp))
  clear hb1
  rw [w3enc]
  unfold encT
  go_wp2_with fail
  refine (decode_any [66, 99, 104, 101, 114, 45, 75, 86, 65] _ (by simp [maxLen])).mono ?_
  intro e w2 h2
  obtain ⟨v2, rfl, hs2, hb2⟩ := dec_open h2 w3dec
  clear h2
  have hb02 := bel_tr hb01 hb2
  go_wp2_with fail
  refine (ints_any _ _ _ hs2 (zs_bd (by simp)) (by simp [zs])).mono ?_
  rintro e w3 ⟨v3, rfl, hs3, hb3⟩
  have hb03 := bel_tr hb02 hb3
  go_wp2_with fail
  refine (same_any _ [66, 252, 99, 104, 101, 114] _ _ _ (hs3.alloc _) (Sl.new w3 [.int .i64 66, .int .i64 252, .int .i64 99, .int .i64 104, .int .i64 101, .int .i64 114] 3) (by simp [zs])).mono ?_
  rintro e w4 ⟨rfl, n, rfl⟩
  rw [show decide (zs [66, 252, 99, 104, 101, 114] = [66, 252, 99, 104, 101, 114]) = true by decide]
  go_wp2
  go_ret
  exact ⟨rfl, below_drewN (hb03.alloc hb03.size _) _⟩

theorem encT_two (o : Int ⊕ List UInt8) : ∃ (s : List UInt8) (c : Int), encT o = .tuple #[.string ⟨s.toArray⟩, .int .i64 c] := by
  rcases o with c | b
  · exact ⟨[], c, rfl⟩
  · exact ⟨b, 0, rfl⟩
set_option maxRecDepth 100000 in
set_option maxHeartbeats 1000000 in
theorem punyWrites_walk (w : World) (l : List Int) (v : Value) (ha : Sl w 1 v l.length (l.map (Value.int .i32))) (hl : l.length ≤ maxLen) (hr : ∀ x ∈ l, -2147483648 ≤ x ∧ x ≤ 2147483647) :
    Calls Try.prog 5 #[v] w (Good w) := by
  obtain ⟨a0, c0, hv, _⟩ := ha.any
  subst hv
  have Ha := Lib.hid ha
  have Hr := Lib.hid hr
  have Hl := Lib.hid hl
  unfold maxLen at hl
  clear ha hr
  by_cases h150 : 150 < l.length
  · have i0 : (150 : Int) < (l.length : Int) := by omega
    go_enter Try.func5, Try.ntmps5
    go_wp2_with fail
    refine (works03_any _).mono ?_
    rintro e w1 ⟨rfl, hb1⟩
    go_wp2
    go_ret
    exact ⟨rfl, hb1⟩
  · have i0 : ¬ (150 : Int) < (l.length : Int) := by omega
    obtain ⟨s, c, hsc⟩ := encT_two (encR l)
    have Hsc := Lib.hid hsc
    clear hsc
    go_enter Try.func5, Try.ntmps5
    go_wp2_with fail
    refine (encode_any _ _ _ Ha.out Hl.out Hr.out).mono ?_
    rintro e w1 ⟨rfl, hb1⟩
    rw [Hsc.out]
    go_wp2_with fail
    refine (ints_any _ _ _ (Ha.out.below hb1) Hr.out (by omega)).mono ?_
    rintro e w2 ⟨v2, rfl, hs2, hb2⟩
    have hb02 := bel_tr hb1 hb2
    go_wp2_with fail
    refine (rencode_any _ _ _ hs2 Hl.out Hr.out).mono ?_
    rintro e w3 ⟨rfl, hb3⟩
    have hb03 := bel_tr hb02 hb3
    rw [Hsc.out]
    go_wp2_with fail
    refine (works03_any _).mono ?_
    rintro e w4 ⟨rfl, hb4⟩
    go_wp2
    go_ret
    exact ⟨by simp, bel_tr hb03 hb4⟩

set_option maxRecDepth 100000 in
set_option maxHeartbeats 1000000 in
theorem punyReads_walk (w : World) (s : List UInt8) (hl : s.length ≤ maxLen) :
    Calls Try.prog 6 #[.string ⟨s.toArray⟩] w (Good w) := by
  have Hl := Lib.hid hl
  unfold maxLen at hl
  by_cases h400 : 400 < s.length
  · have i0 : (400 : Int) < (s.length : Int) := by omega
    go_enter Try.func6, Try.ntmps6
    go_wp2_with fail
    refine (works03_any _).mono ?_
    rintro e w1 ⟨rfl, hb1⟩
    go_wp2
    go_ret
    exact ⟨rfl, hb1⟩
  · have i0 : ¬ (400 : Int) < (s.length : Int) := by omega
    obtain ⟨Z, c, hdec, hZl, hZr⟩ : ∃ (Z : List Int) (c : Int), (∀ (w w' : World) (e : Ending), DecPost w s e w' → ∃ v, e = .returned (.tuple #[v, .int .i64 c]) ∧ Sl w' 1 v Z.length (Z.map (Value.int .i32)) ∧ Below w.heap.size w w') ∧ (Z.length ≤ 4096 ∧ ∀ (w w' : World) (e : Ending), RDecPost w s e w' → ∃ v, e = .returned (.tuple #[v, .int .i64 c]) ∧ Sl w' 1 v Z.length (Z.map (Value.int .i64)) ∧ Below w.heap.size w w') ∧ ∀ x ∈ Z, -2147483648 ≤ x ∧ x ≤ 2147483647 := by
      rcases hd : Pu.dec s with c | l
      · refine ⟨[], c, ?_, ⟨by simp, ?_⟩, by simp⟩
        · rintro w w' e (⟨c', h1, h2, h3⟩ | ⟨l', v, h1, _⟩)
          · rw [hd] at h1; injection h1 with h1; subst h1
            exact ⟨_, h2, Sl.nil _ _, h3⟩
          · rw [hd] at h1; cases h1
        · rintro w w' e (⟨c', h1, h2, h3⟩ | ⟨l', v, h1, _⟩)
          · rw [hd] at h1; injection h1 with h1; subst h1
            exact ⟨_, h2, Sl.nil _ _, h3⟩
          · rw [hd] at h1; cases h1
      · obtain ⟨b1, b2⟩ := dec_bd hd
        refine ⟨zs l, 0, ?_, ⟨by rw [zs_len]; exact b2, ?_⟩, zs_bd b1⟩
        · intro w w' e h
          exact dec_open h hd
        · rintro w w' e (⟨c', h1, _⟩ | ⟨l', v, h1, h2, h3, h4⟩)
          · rw [hd] at h1; cases h1
          · rw [hd] at h1; injection h1 with h1; subst h1
            exact ⟨v, h2, by rw [zs_len, ← inv_zs]; exact h3, h4⟩
    have Hdec := Lib.hid hdec
    have Hrdec := Lib.hid hZl.2
    have hZl1 := hZl.1
    have HZr := Lib.hid hZr
    clear hdec hZl hZr
    go_enter Try.func6, Try.ntmps6
    go_wp2_with fail
    refine (decode_any _ _ Hl.out).mono ?_
    intro e w1 h1
    obtain ⟨v1, rfl, hs1, hb1⟩ := Hdec.out _ _ _ h1
    clear h1
    go_wp2_with fail
    refine (rdecode_any _ _ Hl.out).mono ?_
    intro e w2 h2
    obtain ⟨v2, rfl, hs2, hb2⟩ := Hrdec.out _ _ _ h2
    clear h2
    have hb02 := bel_tr hb1 hb2
    go_wp2_with fail
    refine (works03_any _).mono ?_
    rintro e w3 ⟨rfl, hb3⟩
    have hb03 := bel_tr hb02 hb3
    go_wp2_with fail
    refine (ints_any _ _ _ (hs1.below (bel_tr hb2 hb3)) HZr.out (by omega)).mono ?_
    rintro e w4 ⟨v4, rfl, hs4, hb4⟩
    have hb04 := bel_tr hb03 hb4
    go_wp2_with fail
    refine (same_any _ _ _ _ _ hs4 (hs2.below (bel_tr hb3 hb4)) (by omega)).mono ?_
    rintro e w5 ⟨rfl, n, rfl⟩
    rw [show decide (Z = Z) = true by simp]
    go_wp2
    go_ret
    exact ⟨by simp, below_drewN hb04 _⟩

theorem nats_zs {l : List Int} (h : l.all okp = true) : zs (nats l) = l := (nats_back h).1.symm
/-- what PunyBack and PunyCase lean on. -/
theorem short_back {l : List Int} (hlen : l.length ≤ 150) (hok : l.all okp = true) : ∃ em, encR l = .inr (Pu.head (nats l) ++ em) ∧ (∀ c ∈ Pu.head (nats l), c.toNat < 128) ∧ (∀ c ∈ em, c.toNat < 128 ∧ c ≠ 45) ∧ (Pu.head (nats l) ++ em).length ≤ 2000 ∧ (∀ em', em' = em ∨ em' = em.map Pu.up → Pu.dec (Pu.head (nats l) ++ em') = .inr (nats l)) := by
  obtain ⟨e1, e2⟩ := nats_back hok
  have hnl := nats_len l
  obtain ⟨em, k, h1, h2, h3, h4, h5, h6⟩ := Pu.enc_dec (l := nats l) (N := 1114112) (fun c hc => by have := e2 c hc; omega) (by omega) (by omega) (by omega)
  have hb := bas1_le (nats l)
  have hhl : (Pu.head (nats l)).length ≤ 151 := by
    unfold Pu.head
    split
    · simp
    · rw [List.length_append]; simp; omega
  have htot : (Pu.head (nats l) ++ em).length ≤ 2000 := by rw [List.length_append]; omega
  refine ⟨em, ?_, ?_, h5, htot, ?_⟩
  · unfold encR
    rw [if_neg (by omega), if_pos hok, h1]
  · intro c hc
    unfold Pu.head at hc
    split at hc
    · simp at hc
    · rcases List.mem_append.1 hc with hc | hc
      · exact (Pu.bas1_ok (nats l)).1 c hc
      · rw [List.mem_singleton] at hc; subst hc; decide
  · intro em' hem
    rcases hem with rfl | rfl
    · exact Pu.dec_enc (by omega) h5 h2 h6 (by omega)
    · refine Pu.dec_enc (k := k) (by omega) ?_ (by simpa using h2) (fun f' => ?_) (by rw [List.length_append, List.length_map, ← List.length_append]; omega)
      · intro c hc
        obtain ⟨x, hx, rfl⟩ := List.mem_map.1 hc
        exact Pu.up_ok (h5 x hx)
      · rw [Pu.decF_up]; exact h6 f'
theorem encR_bad {l : List Int} (hlen : l.length ≤ 150) (hok : ¬ l.all okp = true) : encR l = .inl 4 := by unfold encR; rw [if_neg (by omega), if_neg hok]

set_option maxRecDepth 100000 in
set_option maxHeartbeats 1000000 in
theorem punyBack_walk (w : World) (l : List Int) (v : Value) (ha : Sl w 1 v l.length (l.map (Value.int .i32))) (hl : l.length ≤ maxLen) (hr : ∀ x ∈ l, -2147483648 ≤ x ∧ x ≤ 2147483647) :
    Calls Try.prog 7 #[v] w (Good w) := by
  obtain ⟨a0, c0, hv, _⟩ := ha.any
  subst hv
  have Ha := Lib.hid ha
  have Hr := Lib.hid hr
  have Hl := Lib.hid hl
  unfold maxLen at hl
  clear ha hr
  by_cases h150 : 150 < l.length
  · have i0 : (150 : Int) < (l.length : Int) := by omega
    go_enter Try.func7, Try.ntmps7
    go_wp2_with fail
    refine (works03_any _).mono ?_
    rintro e w0 ⟨rfl, hb0⟩
    go_wp2_with fail
    refine (works03_any _).mono ?_
    rintro e w1 ⟨rfl, hb1⟩
    go_wp2
    go_ret
    exact ⟨rfl, bel_tr hb0 hb1⟩
  · have i0 : ¬ (150 : Int) < (l.length : Int) := by omega
    by_cases hok : l.all okp = true
    · obtain ⟨em, q1, q2, q3, q4, q5⟩ := short_back (by omega) hok
      have q6 := q5 em (Or.inl rfl)
      have hall : ∀ c ∈ Pu.head (nats l) ++ em, c.toNat < 128 := by
        intro c hc
        rcases List.mem_append.1 hc with hc | hc
        · exact q2 c hc
        · exact (q3 c hc).1
      have Hz := Lib.hid (nats_zs hok)
      have Hbd := Lib.hid (zs_bd (nats_back hok).2)
      have hzl : (zs (nats l)).length ≤ 150 := by rw [zs_len, nats_len]; omega
      clear q2 q3 q5 hok
      generalize Pu.head (nats l) ++ em = T at *
      have Hall := Lib.hid hall
      have Q1 := Lib.hid q1
      have Q6 := Lib.hid q6
      clear hall q1 q6
      go_enter Try.func7, Try.ntmps7
      go_wp2_with fail
      refine (works03_any _).mono ?_
      rintro e w0 ⟨rfl, hb0⟩
      go_wp2_with fail
      refine (encode_any _ _ _ (Ha.out.below hb0) Hl.out Hr.out).mono ?_
      rintro e w1 ⟨rfl, hb1⟩
      rw [Q1.out]
      unfold encT
      have hb01 := bel_tr hb0 hb1
      go_wp2
      go_loop [5] (fun i => ∃ k : Nat, k ≤ T.length ∧ i = .int .i64 (k : Int)) (fun i => T.length - (intOf i).toNat)
      case atStart => exact ⟨0, Nat.zero_le _, rfl⟩
      case round =>
        obtain ⟨k, hk, rfl⟩ := hrel
        by_cases hlt : k < T.length
        · have i1 : (k : Int) < (T.length : Int) := by omega
          have hc := Hall.out T[k] (List.getElem_mem _)
          have i2 : ¬ (128 : Int) ≤ ((T[k].toNat : Nat) : Int) := by omega
          go_wp2
          go_round
          case rel => exact ⟨k + 1, by omega, by go_num⟩
          case measure => simp [intOf]; omega
        · have i1 : ¬ (k : Int) < (T.length : Int) := by omega
          go_wp2_with fail
          refine (decode_any _ _ (by unfold maxLen; omega)).mono ?_
          intro e w2 h2
          obtain ⟨v2, rfl, hs2, hb2⟩ := dec_open h2 Q6.out
          clear h2
          have hb02 := bel_tr hb01 hb2
          go_wp2_with fail
          refine (ints_any _ _ _ hs2 Hbd.out (by omega)).mono ?_
          rintro e w3 ⟨v3, rfl, hs3, hb3⟩
          have hb03 := bel_tr hb02 hb3
          go_wp2_with fail
          refine (ints_any _ _ _ (Ha.out.below hb03) Hr.out (by omega)).mono ?_
          rintro e w4 ⟨v4, rfl, hs4, hb4⟩
          have hb04 := bel_tr hb03 hb4
          go_wp2_with fail
          refine (same_any _ _ _ _ _ (hs3.below hb4) hs4 (by omega)).mono ?_
          rintro e w5 ⟨rfl, n, rfl⟩
          rw [show decide (zs (nats l) = l) = true by simp [Hz.out]]
          go_wp2
          go_ret
          exact ⟨rfl, below_drewN hb04 _⟩
    · have Hb := Lib.hid (encR_bad (by omega) hok)
      clear hok
      go_enter Try.func7, Try.ntmps7
      go_wp2_with fail
      refine (works03_any _).mono ?_
      rintro e w0 ⟨rfl, hb0⟩
      go_wp2_with fail
      refine (encode_any _ _ _ (Ha.out.below hb0) Hl.out Hr.out).mono ?_
      rintro e w1 ⟨rfl, hb1⟩
      rw [Hb.out]
      unfold encT
      go_wp2
      go_ret
      exact ⟨rfl, bel_tr hb0 hb1⟩
end Go.Proofs.Ytnelaegjcpkmdaa
