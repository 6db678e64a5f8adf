/- Labels in plain words: ToASCII, ToUnicode, what is accepted. No walk here. -/
import Derived.Test.YtnelaegjcpkmdaaPunN
import Derived.Test.YtnelaegjcpkmdaaUtfI
import Derived.Test.YtnelaegjcpkmdaaLabA
import Derived.Test.YtnelaegjcpkmdaaAscF
namespace Go.Proofs.Ytnelaegjcpkmdaa
open Go.RowKit

def farB (s : List UInt8) : Bool := s.any (fun c => decide (128 ≤ c.toNat))
def mayc (c : Int) : Bool := decide ((128 ≤ c ∨ plnB c.toNat = true) ∧ c ≠ 12290 ∧ c ≠ 65294 ∧ c ≠ 65377)
def mayB (A : List Int) : Bool := decide (A.all mayc = true ∧ A[0]? ≠ some 45 ∧ A[A.length - 1]? ≠ some 45)
def mrk : List UInt8 := [120, 110, 45, 45]
def toA (s : List UInt8) : Int ⊕ List UInt8 :=
  if farB s = true then
    match rns (low s) with
    | none => .inl 5
    | some l => if mayB l = true then (match encR l with | .inl e => .inl e | .inr t => if 63 < t.length + 4 then .inl 7 else .inr (mrk ++ t)) else .inl 7
  else if hostB s = true then .inr (low s) else .inl 7
def toU (s : List UInt8) : List UInt8 :=
  if hostB (low s) = true ∧ (low s).take 4 = mrk then
    match Pu.dec ((low s).drop 4) with
    | .inl _ => s
    | .inr l => match txt (zs l) with
      | none => s
      | some text => if toA text = .inr (low s) then text else s
  else s

theorem sm_byte (P : UInt8 → Bool) (h : ∀ n : Fin 256, P (UInt8.ofNat n.val) = true) (c : UInt8) : P c = true := by
  have := h ⟨c.toNat, c.toNat_lt⟩
  simpa using this
theorem sm_sm (c : UInt8) : sm (sm c) = sm c := by simpa using sm_byte (fun c => sm (sm c) == sm c) (by decide +kernel) c
theorem sm_far (c : UInt8) : (128 ≤ (sm c).toNat) ↔ (128 ≤ c.toNat) := by simpa using sm_byte (fun c => decide ((128 ≤ (sm c).toNat) ↔ (128 ≤ c.toNat))) (by decide +kernel) c
theorem sm_pln (c : UInt8) : plnB (sm c).toNat = plnB c.toNat := by simpa using sm_byte (fun c => plnB (sm c).toNat == plnB c.toNat) (by decide +kernel) c
theorem sm_45 (c : UInt8) : (sm c = 45) ↔ (c = 45) := by simpa using sm_byte (fun c => decide ((sm c = 45) ↔ (c = 45))) (by decide +kernel) c
theorem low_low2 (l : List UInt8) : low (low l) = low l := by
  unfold low; rw [List.map_map]; exact List.map_congr_left fun c _ => sm_sm c
theorem low_app (a b : List UInt8) : low (a ++ b) = low a ++ low b := List.map_append
theorem farB_low (s : List UInt8) : farB (low s) = farB s := by
  unfold farB low
  rw [List.any_map]
  congr 1
  funext c
  simp only [Function.comp]
  rw [Bool.eq_iff_iff]
  simpa using sm_far c
theorem low_at {s : List UInt8} {j : Nat} (h : j < s.length) (h2 : j < (low s).length) : (low s)[j] = sm s[j] := by simp [low]
theorem hostB_low (s : List UInt8) : hostB (low s) = hostB s := by
  unfold hostB
  rw [Bool.eq_iff_iff, decide_eq_true_iff, decide_eq_true_iff]
  have e : ∀ j : Nat, ((low s)[j]? ≠ some 45) ↔ (s[j]? ≠ some 45) := by
    intro j
    unfold low
    rw [List.getElem?_map]
    cases s[j]? with
    | none => simp
    | some c => simp [sm_45]
  have hl := low_len s
  constructor
  · rintro ⟨h1, h2, h3, h4, h5⟩
    rw [hl] at h4
    refine ⟨by omega, by omega, (e _).1 h3, (e _).1 h4, fun j hj => ?_⟩
    have := h5 j (by omega)
    rwa [low_at hj, sm_pln] at this
  · rintro ⟨h1, h2, h3, h4, h5⟩
    refine ⟨by omega, by omega, (e _).2 h3, by rw [hl]; exact (e _).2 h4, fun j hj => ?_⟩
    rw [low_at (s := s) (by omega), sm_pln]
    exact h5 j (by omega)
theorem toA_low (s : List UInt8) : toA (low s) = toA s := by
  unfold toA
  rw [farB_low, low_low2, hostB_low]
theorem hostB_mk {a : List UInt8} (h1 : 1 ≤ a.length) (h2 : a.length ≤ 63) (h3 : a[0]? ≠ some 45) (h4 : a[a.length - 1]? ≠ some 45) (h5 : ∀ c ∈ a, plnB c.toNat = true) : hostB a = true := by
  unfold hostB
  exact decide_eq_true ⟨h1, h2, h3, h4, fun j hj => h5 _ (List.getElem_mem hj)⟩
theorem host_mem {a : List UInt8} (h : hostB a = true) : 1 ≤ a.length ∧ a.length ≤ 63 ∧ ∀ c ∈ a, plnB c.toNat = true := by
  unfold hostB at h
  obtain ⟨h1, h2, _, _, h5⟩ := of_decide_eq_true h
  refine ⟨h1, h2, fun c hc => ?_⟩
  obtain ⟨j, hj, rfl⟩ := List.getElem_of_mem hc
  exact h5 j hj
theorem pln_near {n : Nat} (h : plnB n = true) : n < 128 := by unfold plnB at h; have := of_decide_eq_true h; omega
theorem host_near {a : List UInt8} (h : hostB a = true) : farB a = false := by
  unfold farB
  rw [List.any_eq_false]
  intro c hc
  have := pln_near ((host_mem h).2.2 c hc)
  simp
  omega

/-- a figure's byte. -/
def okf (c : UInt8) : Prop := plnB c.toNat = true ∧ sm c = c ∧ c ≠ 45
theorem okf_lt1 {n : Nat} (h : n < 36) : okf (Pu.lt1 n) := by
  have : ∀ n : Fin 36, plnB (Pu.lt1 n.val).toNat = true ∧ sm (Pu.lt1 n.val) = Pu.lt1 n.val ∧ Pu.lt1 n.val ≠ 45 := by decide +kernel
  exact this ⟨n, h⟩
theorem figs_okf (n : Nat) : ∀ bias k : Nat, ∀ c ∈ Pu.figs n bias k, okf c := by
  induction n using Nat.strongRecOn with
  | ind n ih =>
    intro bias k c hc
    by_cases h : n < Pu.bnd k bias
    · rw [Pu.figs_stop h, List.mem_singleton] at hc
      subst hc
      have := Pu.bnd_le k bias
      exact okf_lt1 (by omega)
    · rw [Pu.figs_go h] at hc
      rcases List.mem_cons.1 hc with rfl | hc
      · exact okf_lt1 (Pu.fg_lt (Pu.bnd_le k bias))
      · exact ih _ (Pu.div_lt (Pu.bnd_pos k bias) h) bias (k + 1) c hc
def Shp (hd : List UInt8) (basic : Nat) (s : Pu.ES) : Prop := ∃ em, s.b = hd ++ em ∧ (∀ c ∈ em, okf c) ∧ s.done ≤ basic + em.length
theorem Shp.step {hd : List UInt8} {basic n bs : Nat} {s s' : Pu.ES} {c : Nat} (h : Shp hd basic s) (e : Pu.pstep n bs s c = some s') : Shp hd basic s' := by
  obtain ⟨em, h1, h2, h3⟩ := h
  unfold Pu.pstep at e
  split at e
  · split at e
    · cases e
    · injection e with e; subst e; exact ⟨em, h1, h2, h3⟩
  · split at e
    · injection e with e; subst e
      have := (Pu.figs_ok s.steps s.bias 1).2
      refine ⟨em ++ Pu.figs s.steps s.bias 1, by simp [h1], fun c hc => ?_, by rw [List.length_append]; dsimp only; omega⟩
      rcases List.mem_append.1 hc with hc | hc
      · exact h2 c hc
      · exact figs_okf _ _ _ c hc
    · injection e with e; subst e; exact ⟨em, h1, h2, h3⟩
theorem Shp.pass {hd : List UInt8} {basic n bs : Nat} (l : List Nat) : ∀ {s s' : Pu.ES}, Shp hd basic s → Pu.pass n bs s l = some s' → Shp hd basic s' := by
  induction l with
  | nil => intro s s' h e; simp [Pu.pass] at e; rw [← e]; exact h
  | cons c l ih =>
    intro s s' h e
    unfold Pu.pass at e
    rw [List.foldlM_cons] at e
    obtain ⟨s1, e1, e2⟩ := Option.bind_eq_some_iff.1 e
    exact ih (h.step e1) e2
theorem encF_shape {l : List Nat} {hd : List UInt8} {basic : Nat} (hl : ∀ c ∈ l, c < 1114112) (f : Nat) : ∀ (n : Nat) (s : Pu.ES) (b : List UInt8), Shp hd basic s → s.done = (Pu.bel l n).length → l.length - s.done ≤ f → Pu.encF l basic f n s = some b → ∃ em, b = hd ++ em ∧ (∀ c ∈ em, okf c) ∧ l.length ≤ basic + em.length := by
  have fin : ∀ (s : Pu.ES) (b : List UInt8), Shp hd basic s → l.length ≤ s.done → some s.b = some b → ∃ em, b = hd ++ em ∧ (∀ c ∈ em, okf c) ∧ l.length ≤ basic + em.length := by
    rintro s b ⟨em, h1, h2, h3⟩ hd hb
    injection hb with hb
    exact ⟨em, by rw [← hb, h1], h2, by omega⟩
  induction f with
  | zero => intro n s b h hd hf e; exact fin s b h (by omega) e
  | succ f ih =>
    intro n s b h hd' hf e
    by_cases hd1 : s.done < l.length
    · rw [Pu.encF, if_pos hd1] at e
      split at e
      · cases e
      · split at e
        · cases e
        · next s' hp =>
          obtain ⟨m1, m2, m3⟩ := Pu.least_spec (l := l) (n := n) hl (by omega)
          have hj := Pu.bel_jump m2 m3
          have hdn := Pu.pass_done (l := l) (n := Pu.least l n) (basic := basic) (s := { s with steps := s.steps + (Pu.least l n - n) * (s.done + 1) }) (by dsimp only; rw [hj]; exact hd') l.length (Nat.le_refl _) s' (by rw [Pu.pass_all]; exact hp)
          rw [(Pu.Lp_all l (Pu.least l n)).1] at hdn
          have hmo := Pu.bel_more (n := n) m1 m2
          have hs1 : Shp hd basic s' := Shp.pass l (s := { s with steps := s.steps + (Pu.least l n - n) * (s.done + 1) }) (by obtain ⟨em, h1, h2, h3⟩ := h; exact ⟨em, h1, h2, h3⟩) hp
          exact ih (Pu.least l n + 1) { s' with steps := s'.steps + 1 } b (by obtain ⟨em, h1, h2, h3⟩ := hs1; exact ⟨em, h1, h2, h3⟩) hdn (by dsimp only; omega) e
    · rw [Pu.encF, if_neg hd1] at e
      exact fin s b h (by omega) e
theorem enc_shape {l : List Nat} {b : List UInt8} (hl : ∀ c ∈ l, c < 1114112) (h : Pu.enc l = some b) : ∃ em, b = Pu.head l ++ em ∧ (∀ c ∈ em, okf c) ∧ l.length ≤ (Pu.bas1 l).length + em.length := by
  refine encF_shape hl l.length 128 _ b ⟨[], by simp, by simp, by simp⟩ (Pu.bas1_len l) (by simp) h
theorem head_len (l : List Nat) : (Pu.bas1 l).length ≤ (Pu.head l).length := by
  unfold Pu.head
  split
  · next h => rw [h]; simp
  · rw [List.length_append]; omega

theorem rns_small {t : List UInt8} {l : List Int} (h : rns t = some l) {c : Int} (hc : c ∈ l) (h1 : c < 128) : UInt8.ofNat c.toNat ∈ t := by
  obtain ⟨_, h3⟩ := txt_of_rnsF _ _ _ h
  rw [← h3]
  refine List.mem_flatMap.2 ⟨c, hc, ?_⟩
  unfold enc
  rw [if_pos h1]
  simp
theorem rns_far {t : List UInt8} {l : List Int} (h : rns t = some l) (hf : farB t = true) : ∃ c ∈ l, 128 ≤ c := by
  apply Classical.byContradiction
  intro hno
  obtain ⟨_, h3⟩ := txt_of_rnsF _ _ _ h
  obtain ⟨b, hb, h128⟩ := List.any_eq_true.1 hf
  rw [← h3] at hb
  obtain ⟨c, hc, hbc⟩ := List.mem_flatMap.1 hb
  have hlt : c < 128 := by
    apply Classical.byContradiction
    intro h'
    exact hno ⟨c, hc, by omega⟩
  unfold enc at hbc
  rw [if_pos hlt] at hbc
  rw [List.mem_singleton] at hbc
  subst hbc
  have hp := ptB_bd ((rns_bd h).2 c hc)
  simp at h128
  omega
theorem rns_okp {t : List UInt8} {l : List Int} (h : rns t = some l) : l.all okp = true := by
  rw [List.all_eq_true]
  intro c hc
  exact decide_eq_true (ptB_bd ((rns_bd h).2 c hc))

/-- what is accepted of a far text. -/
theorem far_shape {s : List UInt8} {l : List Int} {t : List UInt8} (hf : farB s = true) (hr : rns (low s) = some l) (hm : mayB l = true) (he : encR l = .inr t) (hlen : ¬ 63 < t.length + 4) :
    hostB (mrk ++ t) = true ∧ low (mrk ++ t) = mrk ++ t ∧ Pu.dec t = .inr (nats l) := by
  have hok := rns_okp hr
  obtain ⟨e1, e2⟩ := nats_back hok
  have hnl := nats_len l
  have henc : Pu.enc (nats l) = some t := by
    unfold encR at he
    split at he
    · cases he
    · split at he
      · cases he
      · injection he with he; subst he; assumption
  obtain ⟨em, h1, h2, h3⟩ := enc_shape (fun c hc => by have := e2 c hc; omega) henc
  have hhl := head_len (nats l)
  have htl : t.length = (Pu.head (nats l)).length + em.length := by rw [h1, List.length_append]
  obtain ⟨c0, hc0, hc128⟩ := rns_far hr (by rw [farB_low]; exact hf)
  have hbl : (Pu.bas1 (nats l)).length < (nats l).length := by
    rw [Pu.bas1_len]
    apply Classical.byContradiction
    intro hno
    have hall := Pu.bel_all (l := nats l) (n := 128) (by omega)
    have hmem : c0.toNat ∈ nats l := List.mem_map.2 ⟨c0, hc0, rfl⟩
    rw [← hall] at hmem
    have := (List.mem_filter.1 hmem).2
    simp at this
    omega
  have hem : 0 < em.length := by omega
  unfold mayB at hm
  obtain ⟨hm1, _, _⟩ := of_decide_eq_true hm
  rw [List.all_eq_true] at hm1
  have hbas : ∀ c ∈ Pu.bas1 (nats l), plnB c.toNat = true ∧ sm c = c := by
    intro c hc
    unfold Pu.bas1 at hc
    obtain ⟨n, hn, rfl⟩ := List.mem_map.1 hc
    obtain ⟨hn1, hn2⟩ := List.mem_filter.1 hn
    simp at hn2
    obtain ⟨z, hz, rfl⟩ := List.mem_map.1 hn1
    have hz0 := okp_t (List.all_eq_true.1 hok z hz)
    have hmc := of_decide_eq_true (show decide _ = true from hm1 z hz)
    have hin := rns_small hr hz (by omega)
    have hsm : sm (UInt8.ofNat z.toNat) = UInt8.ofNat z.toNat := by
      obtain ⟨y, _, hy⟩ := List.mem_map.1 hin
      rw [← hy, sm_sm]
    refine ⟨?_, hsm⟩
    rw [UInt8.toNat_ofNat_of_lt' (by show z.toNat < 256; omega)]
    rcases hmc.1 with h | h
    · omega
    · exact h
  have hhead : ∀ c ∈ Pu.head (nats l), plnB c.toNat = true ∧ sm c = c := by
    intro c hc
    unfold Pu.head at hc
    split at hc
    · simp at hc
    · rcases List.mem_append.1 hc with hc | hc
      · exact hbas c hc
      · rw [List.mem_singleton] at hc; subst hc; decide +kernel
  have hall : ∀ c ∈ mrk ++ t, plnB c.toNat = true ∧ sm c = c := by
    intro c hc
    rcases List.mem_append.1 hc with hc | hc
    · have : ∀ c ∈ mrk, plnB c.toNat = true ∧ sm c = c := by decide +kernel
      exact this c hc
    · rw [h1] at hc
      rcases List.mem_append.1 hc with hc | hc
      · exact hhead c hc
      · exact ⟨(h2 c hc).1, (h2 c hc).2.1⟩
  refine ⟨?_, ?_, ?_⟩
  · refine hostB_mk (by simp [mrk]) (by rw [List.length_append]; simp [mrk]; omega) (by simp [mrk]) ?_ (fun c hc => (hall c hc).1)
    intro h45
    rw [h1, ← List.append_assoc, List.length_append, List.getElem?_append_right (by omega)] at h45
    have := List.mem_of_getElem? h45
    exact (h2 45 this).2.2 rfl
  · unfold low
    conv => rhs; rw [← List.map_id (mrk ++ t)]
    exact List.map_congr_left fun c hc => (hall c hc).2
  · obtain ⟨em', k, g1, g2, g3, g4, g5, g6⟩ := Pu.enc_dec (l := nats l) (N := 1114112) (fun c hc => by have := e2 c hc; omega) (by
      have : (nats l).length ≤ 60 := by omega
      omega) (by omega) (by omega)
    rw [henc] at g1
    injection g1 with g1
    rw [g1]
    exact Pu.dec_enc (by omega) g5 g2 g6 (by rw [← g1]; omega)

theorem toA_fixed {s a : List UInt8} (h : toA s = .inr a) : toA a = .inr a ∧ a.length ≤ 63 ∧ hostB a = true ∧ low a = a := by
  have fin : hostB a = true → low a = a → toA a = .inr a ∧ a.length ≤ 63 ∧ hostB a = true ∧ low a = a := by
    intro h1 h2
    refine ⟨?_, (host_mem h1).2.1, h1, h2⟩
    unfold toA
    rw [host_near h1, if_neg (by simp), if_pos h1, h2]
  unfold toA at h
  by_cases hf : farB s = true
  · rw [if_pos hf] at h
    split at h
    · cases h
    · next l hr =>
      by_cases hm : mayB l = true
      · rw [if_pos hm] at h
        split at h
        · cases h
        · next t he =>
          split at h
          · cases h
          · next hlen =>
            injection h with h
            subst h
            obtain ⟨g1, g2, _⟩ := far_shape hf hr hm he hlen
            exact fin g1 g2
      · rw [if_neg hm] at h; cases h
  · rw [if_neg hf] at h
    by_cases hh : hostB s = true
    · rw [if_pos hh] at h
      injection h with h
      subst h
      exact fin (by rw [hostB_low]; exact hh) (low_low2 s)
    · rw [if_neg hh] at h; cases h
theorem toU_of {s a : List UInt8} (h : toA s = .inr a) (hf : farB s = true) : toU a = low s := by
  have hA := toA_low s
  obtain ⟨_, _, hh, hl⟩ := toA_fixed h
  have h' := h
  unfold toA at h
  rw [if_pos hf] at h
  split at h
  · cases h
  · next l hr =>
    by_cases hm : mayB l = true
    · rw [if_pos hm] at h
      split at h
      · cases h
      · next t he =>
        split at h
        · cases h
        · next hlen =>
          injection h with h
          subst h
          obtain ⟨g1, g2, g3⟩ := far_shape hf hr hm he hlen
          unfold toU
          rw [g2, if_pos ⟨g1, rfl⟩, show (mrk ++ t).drop 4 = t from rfl, g3]
          simp only
          rw [nats_zs (rns_okp hr), txt_of_rns hr]
          simp only
          rw [if_pos (by rw [hA]; exact h')]
    · rw [if_neg hm] at h; cases h
theorem toU_ne {s : List UInt8} (h : toU s ≠ s) : toA (toU s) = .inr (low s) := by
  unfold toU at h ⊢
  split
  · next hc =>
    rw [if_pos hc] at h
    split
    · next e hd => rw [hd] at h; exact absurd rfl h
    · next l hd =>
      rw [hd] at h
      simp only at h
      split
      · next ht => rw [ht] at h; exact absurd rfl h
      · next text ht =>
        rw [ht] at h
        simp only at h
        split
        · assumption
        · next hn => rw [if_neg hn] at h; exact absurd rfl h
  · next hc => rw [if_neg hc] at h; exact absurd rfl h
end Go.Proofs.Ytnelaegjcpkmdaa
