/- Contracts and plain lemmas of our own, merged. -/
import Derived.Test.YtbffkddlkfefoaaDoorZid11
import Derived.Test.YtbffkddlkfefoaaDoorZid12
import Derived.Test.YtbffkddlkfefoaaDoorZid14
import Derived.Test.YtbffkddlkfefoaaDoorZid5
import Derived.Test.YtbffkddlkfefoaaDoorZid6
import Derived.OpenShut
import Derived.Test.YtbffkddlkfefoaaDoorShelf
/- The walks of PunyWrites, PunyReads and PunyBack. -/
namespace Go.Proofs.YtbffkddlkfefoaaDoor
open Go.RowKit
attribute [local go_sem] ba_get ba_app

def zs (P : List Nat) : List Int := P.map (fun c : Nat => (c : Int))
theorem zs_len (P : List Nat) : (zs P).length = P.length := by simp [zs]
theorem rnv_zs (P : List Nat) : P.map rnv = (zs P).map (Value.int .i32) := by unfold zs; rw [List.map_map]; rfl
theorem decF_bd (f : Nat) : ∀ (d : Pu.DS) (l : List Nat), Pu.decF f d = .inr l → (∀ c ∈ d.l, c ≤ 1114111) → d.l.length ≤ 4096 → (∀ c ∈ l, c ≤ 1114111) ∧ l.length ≤ 4096 := by
  induction f with
  | zero => intro d l h h1 h2; simp only [Pu.decF] at h; injection h with h; subst h; exact ⟨h1, h2⟩
  | succ f ih =>
    intro d l h h1 h2
    obtain ⟨L, n, p, bias, first, s⟩ := d
    dsimp only at h1 h2
    by_cases hs : s = []
    · subst hs
      rw [decF_nil] at h
      injection h with h
      subst h
      exact ⟨h1, h2⟩
    · rcases hN : Pu.numb bias s 1 0 1 with e | ⟨x, r⟩
      · rw [decF_err hs hN] at h; cases h
      · rw [decF_ok hs hN] at h
        split at h
        · cases h
        · split at h
          · cases h
          · split at h
            · cases h
            · refine ih _ _ h ?_ ?_
              · intro c hc
                dsimp only at hc
                rcases List.mem_append.1 hc with hc | hc
                · exact h1 c (List.mem_of_mem_take hc)
                · rcases List.mem_cons.1 hc with rfl | hc
                  · omega
                  · exact h1 c (List.mem_of_mem_drop hc)
              · have := Nat.mod_lt (p + x) (show 0 < L.length + 1 by omega)
                simp only [List.length_append, List.length_cons, List.length_take, List.length_drop]
                omega
theorem dec_bd {s : List UInt8} {l : List Nat} (h : Pu.dec s = .inr l) : (∀ c ∈ l, c ≤ 1114111) ∧ l.length ≤ 4096 := by
  unfold Pu.dec at h
  split at h
  · cases h
  · split at h
    · cases h
    · next L r hb =>
      refine decF_bd _ _ _ h ?_ ?_
      · unfold Pu.bas at hb
        split at hb
        · split at hb
          · cases hb
          · injection hb with hb
            injection hb with h1 h2
            intro c hc
            dsimp only at hc
            rw [← h1] at hc
            obtain ⟨u, _, rfl⟩ := List.mem_map.1 hc
            have := u.toNat_lt
            omega
        · cases hb
      · unfold Pu.bas at hb
        split at hb
        · split at hb
          · cases hb
          · injection hb with hb
            injection hb with h1 h2
            dsimp only
            rw [← h1, List.length_map, List.length_take]
            omega
        · cases hb
theorem zs_bd {l : List Nat} (h : ∀ c ∈ l, c ≤ 1114111) : ∀ x ∈ zs l, -2147483648 ≤ x ∧ x ≤ 2147483647 := by
  intro x hx
  obtain ⟨c, hc, rfl⟩ := List.mem_map.1 hx
  have := h c hc
  omega
theorem dec_open {w w' : World} {s : List UInt8} {l : List Nat} {e : Ending} (h : DecPost w s e w') (hd : Pu.dec s = .inr l) : ∃ v, e = .returned (.tuple #[v, .int .i64 0]) ∧ Sl w' 1 v (zs l).length ((zs l).map (Value.int .i32)) ∧ Below w.heap.size w w' := by
  rcases h with ⟨c, h1, _⟩ | ⟨l', v, h1, h2, h3, h4⟩
  · rw [hd] at h1; cases h1
  · rw [hd] at h1
    injection h1 with h1
    subst h1
    exact ⟨v, h2, by rw [zs_len, ← rnv_zs]; exact h3, h4⟩

end Go.Proofs.YtbffkddlkfefoaaDoor

/- Labels in plain words: ToASCII, ToUnicode, what is accepted. No walk here. -/
namespace Go.Proofs.YtbffkddlkfefoaaDoor
open Go.RowKit

def farB (s : List UInt8) : Bool := s.any (fun c => decide (128 ≤ c.toNat))
def mayc (c : Int) : Bool := decide ((128 ≤ c ∨ plnB c.toNat = true) ∧ c ≠ 12290 ∧ c ≠ 65294 ∧ c ≠ 65377)
def mayB (A : List Int) : Bool := decide (A.all mayc = true ∧ A[0]? ≠ some 45 ∧ A[A.length - 1]? ≠ some 45)
def mrk : List UInt8 := [120, 110, 45, 45]
def toA (s : List UInt8) : Int ⊕ List UInt8 :=
  if farB s = true then
    match rns (low s) with
    | none => .inl 5
    | some l => if mayB l = true then (match encR l with | .inl e => .inl e | .inr t => if 63 < t.length + 4 then .inl 7 else .inr (mrk ++ t)) else .inl 7
  else if hostB s = true then .inr (low s) else .inl 7
def toU (s : List UInt8) : List UInt8 :=
  if hostB (low s) = true ∧ (low s).take 4 = mrk then
    match Pu.dec ((low s).drop 4) with
    | .inl _ => s
    | .inr l => match txt (zs l) with
      | none => s
      | some text => if toA text = .inr (low s) then text else s
  else s

theorem sm_byte (P : UInt8 → Bool) (h : ∀ n : Fin 256, P (UInt8.ofNat n.val) = true) (c : UInt8) : P c = true := by
  have := h ⟨c.toNat, c.toNat_lt⟩
  simpa using this
theorem sm_sm (c : UInt8) : sm (sm c) = sm c := by simpa using sm_byte (fun c => sm (sm c) == sm c) (by decide +kernel) c
theorem sm_far (c : UInt8) : (128 ≤ (sm c).toNat) ↔ (128 ≤ c.toNat) := by simpa using sm_byte (fun c => decide ((128 ≤ (sm c).toNat) ↔ (128 ≤ c.toNat))) (by decide +kernel) c
theorem sm_pln (c : UInt8) : plnB (sm c).toNat = plnB c.toNat := by simpa using sm_byte (fun c => plnB (sm c).toNat == plnB c.toNat) (by decide +kernel) c
theorem sm_45 (c : UInt8) : (sm c = 45) ↔ (c = 45) := by simpa using sm_byte (fun c => decide ((sm c = 45) ↔ (c = 45))) (by decide +kernel) c
theorem low_low2 (l : List UInt8) : low (low l) = low l := by
  unfold low; rw [List.map_map]; exact List.map_congr_left fun c _ => sm_sm c
theorem low_app (a b : List UInt8) : low (a ++ b) = low a ++ low b := List.map_append
theorem farB_low (s : List UInt8) : farB (low s) = farB s := by
  unfold farB low
  rw [List.any_map]
  congr 1
  funext c
  simp only [Function.comp]
  rw [Bool.eq_iff_iff]
  simpa using sm_far c
theorem low_at {s : List UInt8} {j : Nat} (h : j < s.length) (h2 : j < (low s).length) : (low s)[j] = sm s[j] := by simp [low]
theorem hostB_low (s : List UInt8) : hostB (low s) = hostB s := by
  unfold hostB
  rw [Bool.eq_iff_iff, decide_eq_true_iff, decide_eq_true_iff]
  have e : ∀ j : Nat, ((low s)[j]? ≠ some 45) ↔ (s[j]? ≠ some 45) := by
    intro j
    unfold low
    rw [List.getElem?_map]
    cases s[j]? with
    | none => simp
    | some c => simp [sm_45]
  have hl := low_len s
  constructor
  · rintro ⟨h1, h2, h3, h4, h5⟩
    rw [hl] at h4
    refine ⟨by omega, by omega, (e _).1 h3, (e _).1 h4, fun j hj => ?_⟩
    have := h5 j (by omega)
    rwa [low_at hj, sm_pln] at this
  · rintro ⟨h1, h2, h3, h4, h5⟩
    refine ⟨by omega, by omega, (e _).2 h3, by rw [hl]; exact (e _).2 h4, fun j hj => ?_⟩
    rw [low_at (s := s) (by omega), sm_pln]
    exact h5 j (by omega)
theorem hostB_mk {a : List UInt8} (h1 : 1 ≤ a.length) (h2 : a.length ≤ 63) (h3 : a[0]? ≠ some 45) (h4 : a[a.length - 1]? ≠ some 45) (h5 : ∀ c ∈ a, plnB c.toNat = true) : hostB a = true := by
  unfold hostB
  exact decide_eq_true ⟨h1, h2, h3, h4, fun j hj => h5 _ (List.getElem_mem hj)⟩
theorem host_mem {a : List UInt8} (h : hostB a = true) : 1 ≤ a.length ∧ a.length ≤ 63 ∧ ∀ c ∈ a, plnB c.toNat = true := by
  unfold hostB at h
  obtain ⟨h1, h2, _, _, h5⟩ := of_decide_eq_true h
  refine ⟨h1, h2, fun c hc => ?_⟩
  obtain ⟨j, hj, rfl⟩ := List.getElem_of_mem hc
  exact h5 j hj
theorem pln_near {n : Nat} (h : plnB n = true) : n < 128 := by unfold plnB at h; have := of_decide_eq_true h; omega
theorem host_near {a : List UInt8} (h : hostB a = true) : farB a = false := by
  unfold farB
  rw [List.any_eq_false]
  intro c hc
  have := pln_near ((host_mem h).2.2 c hc)
  simp
  omega

/-- a figure's byte. -/
def okf (c : UInt8) : Prop := plnB c.toNat = true ∧ sm c = c ∧ c ≠ 45
theorem okf_lt1 {n : Nat} (h : n < 36) : okf (Pu.lt1 n) := by
  have : ∀ n : Fin 36, plnB (Pu.lt1 n.val).toNat = true ∧ sm (Pu.lt1 n.val) = Pu.lt1 n.val ∧ Pu.lt1 n.val ≠ 45 := by decide +kernel
  exact this ⟨n, h⟩
theorem figs_okf (n : Nat) : ∀ bias k : Nat, ∀ c ∈ Pu.figs n bias k, okf c := by
  induction n using Nat.strongRecOn with
  | ind n ih =>
    intro bias k c hc
    by_cases h : n < Pu.bnd k bias
    · rw [Pu.figs_stop h, List.mem_singleton] at hc
      subst hc
      have := Pu.bnd_le k bias
      exact okf_lt1 (by omega)
    · rw [Pu.figs_go h] at hc
      rcases List.mem_cons.1 hc with rfl | hc
      · exact okf_lt1 (Pu.fg_lt (Pu.bnd_le k bias))
      · exact ih _ (Pu.div_lt (Pu.bnd_pos k bias) h) bias (k + 1) c hc
def Shp (hd : List UInt8) (basic : Nat) (s : Pu.ES) : Prop := ∃ em, s.b = hd ++ em ∧ (∀ c ∈ em, okf c) ∧ s.done ≤ basic + em.length
theorem Shp.step {hd : List UInt8} {basic n bs : Nat} {s s' : Pu.ES} {c : Nat} (h : Shp hd basic s) (e : Pu.pstep n bs s c = some s') : Shp hd basic s' := by
  obtain ⟨em, h1, h2, h3⟩ := h
  unfold Pu.pstep at e
  split at e
  · split at e
    · cases e
    · injection e with e; subst e; exact ⟨em, h1, h2, h3⟩
  · split at e
    · injection e with e; subst e
      have := (Pu.figs_ok s.steps s.bias 1).2
      refine ⟨em ++ Pu.figs s.steps s.bias 1, by simp [h1], fun c hc => ?_, by rw [List.length_append]; dsimp only; omega⟩
      rcases List.mem_append.1 hc with hc | hc
      · exact h2 c hc
      · exact figs_okf _ _ _ c hc
    · injection e with e; subst e; exact ⟨em, h1, h2, h3⟩
theorem Shp.pass {hd : List UInt8} {basic n bs : Nat} (l : List Nat) : ∀ {s s' : Pu.ES}, Shp hd basic s → Pu.pass n bs s l = some s' → Shp hd basic s' := by
  induction l with
  | nil => intro s s' h e; simp [Pu.pass] at e; rw [← e]; exact h
  | cons c l ih =>
    intro s s' h e
    unfold Pu.pass at e
    rw [List.foldlM_cons] at e
    obtain ⟨s1, e1, e2⟩ := Option.bind_eq_some_iff.1 e
    exact ih (h.step e1) e2
theorem encF_shape {l : List Nat} {hd : List UInt8} {basic : Nat} (hl : ∀ c ∈ l, c < 1114112) (f : Nat) : ∀ (n : Nat) (s : Pu.ES) (b : List UInt8), Shp hd basic s → s.done = (Pu.bel l n).length → l.length - s.done ≤ f → Pu.encF l basic f n s = some b → ∃ em, b = hd ++ em ∧ (∀ c ∈ em, okf c) ∧ l.length ≤ basic + em.length := by
  have fin : ∀ (s : Pu.ES) (b : List UInt8), Shp hd basic s → l.length ≤ s.done → some s.b = some b → ∃ em, b = hd ++ em ∧ (∀ c ∈ em, okf c) ∧ l.length ≤ basic + em.length := by
    rintro s b ⟨em, h1, h2, h3⟩ hd hb
    injection hb with hb
    exact ⟨em, by rw [← hb, h1], h2, by omega⟩
  induction f with
  | zero => intro n s b h hd hf e; exact fin s b h (by omega) e
  | succ f ih =>
    intro n s b h hd' hf e
    by_cases hd1 : s.done < l.length
    · rw [Pu.encF, if_pos hd1] at e
      split at e
      · cases e
      · split at e
        · cases e
        · next s' hp =>
          obtain ⟨m1, m2, m3⟩ := Pu.least_spec (l := l) (n := n) hl (by omega)
          have hj := Pu.bel_jump m2 m3
          have hdn := Pu.pass_done (l := l) (n := Pu.least l n) (basic := basic) (s := { s with steps := s.steps + (Pu.least l n - n) * (s.done + 1) }) (by dsimp only; rw [hj]; exact hd') l.length (Nat.le_refl _) s' (by rw [Pu.pass_all]; exact hp)
          rw [(Pu.Lp_all l (Pu.least l n)).1] at hdn
          have hmo := Pu.bel_more (n := n) m1 m2
          have hs1 : Shp hd basic s' := Shp.pass l (s := { s with steps := s.steps + (Pu.least l n - n) * (s.done + 1) }) (by obtain ⟨em, h1, h2, h3⟩ := h; exact ⟨em, h1, h2, h3⟩) hp
          exact ih (Pu.least l n + 1) { s' with steps := s'.steps + 1 } b (by obtain ⟨em, h1, h2, h3⟩ := hs1; exact ⟨em, h1, h2, h3⟩) hdn (by dsimp only; omega) e
    · rw [Pu.encF, if_neg hd1] at e
      exact fin s b h (by omega) e
theorem enc_shape {l : List Nat} {b : List UInt8} (hl : ∀ c ∈ l, c < 1114112) (h : Pu.enc l = some b) : ∃ em, b = Pu.head l ++ em ∧ (∀ c ∈ em, okf c) ∧ l.length ≤ (Pu.bas1 l).length + em.length := by
  refine encF_shape hl l.length 128 _ b ⟨[], by simp, by simp, by simp⟩ (Pu.bas1_len l) (by simp) h
theorem head_len (l : List Nat) : (Pu.bas1 l).length ≤ (Pu.head l).length := by
  unfold Pu.head
  split
  · next h => rw [h]; simp
  · rw [List.length_append]; omega

theorem rns_small {t : List UInt8} {l : List Int} (h : rns t = some l) {c : Int} (hc : c ∈ l) (h1 : c < 128) : UInt8.ofNat c.toNat ∈ t := by
  obtain ⟨_, h3⟩ := txt_of_rnsF _ _ _ h
  rw [← h3]
  refine List.mem_flatMap.2 ⟨c, hc, ?_⟩
  unfold enc
  rw [if_pos h1]
  simp
theorem rns_far {t : List UInt8} {l : List Int} (h : rns t = some l) (hf : farB t = true) : ∃ c ∈ l, 128 ≤ c := by
  apply Classical.byContradiction
  intro hno
  obtain ⟨_, h3⟩ := txt_of_rnsF _ _ _ h
  obtain ⟨b, hb, h128⟩ := List.any_eq_true.1 hf
  rw [← h3] at hb
  obtain ⟨c, hc, hbc⟩ := List.mem_flatMap.1 hb
  have hlt : c < 128 := by
    apply Classical.byContradiction
    intro h'
    exact hno ⟨c, hc, by omega⟩
  unfold enc at hbc
  rw [if_pos hlt] at hbc
  rw [List.mem_singleton] at hbc
  subst hbc
  have hp := ptB_bd ((rns_bd h).2 c hc)
  simp at h128
  omega
theorem rns_okp {t : List UInt8} {l : List Int} (h : rns t = some l) : l.all okp = true := by
  rw [List.all_eq_true]
  intro c hc
  exact decide_eq_true (ptB_bd ((rns_bd h).2 c hc))

/-- what is accepted of a far text. -/
theorem far_shape {s : List UInt8} {l : List Int} {t : List UInt8} (hf : farB s = true) (hr : rns (low s) = some l) (hm : mayB l = true) (he : encR l = .inr t) (hlen : ¬ 63 < t.length + 4) :
    hostB (mrk ++ t) = true ∧ low (mrk ++ t) = mrk ++ t ∧ Pu.dec t = .inr (nats l) := by
  have hok := rns_okp hr
  obtain ⟨e1, e2⟩ := nats_back hok
  have hnl := nats_len l
  have henc : Pu.enc (nats l) = some t := by
    unfold encR at he
    split at he
    · cases he
    · split at he
      · cases he
      · injection he with he; subst he; assumption
  obtain ⟨em, h1, h2, h3⟩ := enc_shape (fun c hc => by have := e2 c hc; omega) henc
  have hhl := head_len (nats l)
  have htl : t.length = (Pu.head (nats l)).length + em.length := by rw [h1, List.length_append]
  obtain ⟨c0, hc0, hc128⟩ := rns_far hr (by rw [farB_low]; exact hf)
  have hbl : (Pu.bas1 (nats l)).length < (nats l).length := by
    rw [Pu.bas1_len]
    apply Classical.byContradiction
    intro hno
    have hall := Pu.bel_all (l := nats l) (n := 128) (by omega)
    have hmem : c0.toNat ∈ nats l := List.mem_map.2 ⟨c0, hc0, rfl⟩
    rw [← hall] at hmem
    have := (List.mem_filter.1 hmem).2
    simp at this
    omega
  have hem : 0 < em.length := by omega
  unfold mayB at hm
  obtain ⟨hm1, _, _⟩ := of_decide_eq_true hm
  rw [List.all_eq_true] at hm1
  have hbas : ∀ c ∈ Pu.bas1 (nats l), plnB c.toNat = true ∧ sm c = c := by
    intro c hc
    unfold Pu.bas1 at hc
    obtain ⟨n, hn, rfl⟩ := List.mem_map.1 hc
    obtain ⟨hn1, hn2⟩ := List.mem_filter.1 hn
    simp at hn2
    obtain ⟨z, hz, rfl⟩ := List.mem_map.1 hn1
    have hz0 := okp_t (List.all_eq_true.1 hok z hz)
    have hmc := of_decide_eq_true (show decide _ = true from hm1 z hz)
    have hin := rns_small hr hz (by omega)
    have hsm : sm (UInt8.ofNat z.toNat) = UInt8.ofNat z.toNat := by
      obtain ⟨y, _, hy⟩ := List.mem_map.1 hin
      rw [← hy, sm_sm]
    refine ⟨?_, hsm⟩
    rw [UInt8.toNat_ofNat_of_lt' (by show z.toNat < 256; omega)]
    rcases hmc.1 with h | h
    · omega
    · exact h
  have hhead : ∀ c ∈ Pu.head (nats l), plnB c.toNat = true ∧ sm c = c := by
    intro c hc
    unfold Pu.head at hc
    split at hc
    · simp at hc
    · rcases List.mem_append.1 hc with hc | hc
      · exact hbas c hc
      · rw [List.mem_singleton] at hc; subst hc; decide +kernel
  have hall : ∀ c ∈ mrk ++ t, plnB c.toNat = true ∧ sm c = c := by
    intro c hc
    rcases List.mem_append.1 hc with hc | hc
    · have : ∀ c ∈ mrk, plnB c.toNat = true ∧ sm c = c := by decide +kernel
      exact this c hc
    · rw [h1] at hc
      rcases List.mem_append.1 hc with hc | hc
      · exact hhead c hc
      · exact ⟨(h2 c hc).1, (h2 c hc).2.1⟩
  refine ⟨?_, ?_, ?_⟩
  · refine hostB_mk (by simp [mrk]) (by rw [List.length_append]; simp [mrk]; omega) (by simp [mrk]) ?_ (fun c hc => (hall c hc).1)
    intro h45
    rw [h1, ← List.append_assoc, List.length_append, List.getElem?_append_right (by omega)] at h45
    have := List.mem_of_getElem? h45
    exact (h2 45 this).2.2 rfl
  · unfold low
    conv => rhs; rw [← List.map_id (mrk ++ t)]
    exact List.map_congr_left fun c hc => (hall c hc).2
  · obtain ⟨em', k, g1, g2, g3, g4, g5, g6⟩ := Pu.enc_dec (l := nats l) (N := 1114112) (fun c hc => by have := e2 c hc; omega) (by
      have : (nats l).length ≤ 60 := by omega
      omega) (by omega) (by omega)
    rw [henc] at g1
    injection g1 with g1
    rw [g1]
    exact Pu.dec_enc (by omega) g5 g2 g6 (by rw [← g1]; omega)

theorem toA_fixed {s a : List UInt8} (h : toA s = .inr a) : toA a = .inr a ∧ a.length ≤ 63 ∧ hostB a = true ∧ low a = a := by
  have fin : hostB a = true → low a = a → toA a = .inr a ∧ a.length ≤ 63 ∧ hostB a = true ∧ low a = a := by
    intro h1 h2
    refine ⟨?_, (host_mem h1).2.1, h1, h2⟩
    unfold toA
    rw [host_near h1, if_neg (by simp), if_pos h1, h2]
  unfold toA at h
  by_cases hf : farB s = true
  · rw [if_pos hf] at h
    split at h
    · cases h
    · next l hr =>
      by_cases hm : mayB l = true
      · rw [if_pos hm] at h
        split at h
        · cases h
        · next t he =>
          split at h
          · cases h
          · next hlen =>
            injection h with h
            subst h
            obtain ⟨g1, g2, _⟩ := far_shape hf hr hm he hlen
            exact fin g1 g2
      · rw [if_neg hm] at h; cases h
  · rw [if_neg hf] at h
    by_cases hh : hostB s = true
    · rw [if_pos hh] at h
      injection h with h
      subst h
      exact fin (by rw [hostB_low]; exact hh) (low_low2 s)
    · rw [if_neg hh] at h; cases h
theorem toU_ne {s : List UInt8} (h : toU s ≠ s) : toA (toU s) = .inr (low s) := by
  unfold toU at h ⊢
  split
  · next hc =>
    rw [if_pos hc] at h
    split
    · next e hd => rw [hd] at h; exact absurd rfl h
    · next l hd =>
      rw [hd] at h
      simp only at h
      split
      · next ht => rw [ht] at h; exact absurd rfl h
      · next text ht =>
        rw [ht] at h
        simp only at h
        split
        · assumption
        · next hn => rw [if_neg hn] at h; exact absurd rfl h
  · next hc => rw [if_neg hc] at h; exact absurd rfl h
end Go.Proofs.YtbffkddlkfefoaaDoor

/- The contracts of label.basic, may, ToASCII, ToUnicode and of their references. -/
namespace Go.Proofs.YtbffkddlkfefoaaDoor
open Go.RowKit
attribute [local go_sem] ba_get ext_drop ext_take ba_app

theorem far_next {s : List UInt8} {k : Nat} (h : k < s.length) (h1 : farB (s.take k) = false) (h2 : ¬ 128 ≤ s[k].toNat) : farB (s.take (k + 1)) = false := by
  unfold farB at *
  rw [List.take_succ_eq_append_getElem h, List.any_append, h1]
  simp
  omega
theorem far_hit {s : List UInt8} {k : Nat} (h : k < s.length) (h2 : 128 ≤ s[k].toNat) : farB s = true := by
  unfold farB
  exact List.any_eq_true.2 ⟨s[k], List.getElem_mem _, by simpa using h2⟩
set_option maxHeartbeats 400000 in
theorem basic_any (s : List UInt8) (w : World) (hl : s.length ≤ 140737488351232) : Calls Tryd.prog 153 #[.string ⟨s.toArray⟩] w fun e w' => e = .returned (.bool (!farB s)) ∧ w = w' := by
  go_enter Tryd.func153, Tryd.ntmps153
  go_wp2
  go_loop [3, 6] (fun _ i => ∃ k : Nat, k ≤ s.length ∧ i = .int .i64 (k : Int) ∧ farB (s.take k) = false) (fun _ i => s.length - (intOf i).toNat)
  case atStart => exact ⟨0, Nat.zero_le _, rfl, rfl⟩
  case round =>
    obtain ⟨k, hk, rfl, hf⟩ := hrel
    have Hf := Lib.hid hf
    clear hf
    by_cases hlt : k < s.length
    · have i1 : (k : Int) < (s.length : Int) := by omega
      by_cases hc : 128 ≤ s[k].toNat
      · have i2 : (128 : Int) ≤ ((s[k].toNat : Nat) : Int) := by omega
        have H := Lib.hid (far_hit hlt hc)
        go_wp2
        go_ret
        exact ⟨retb (by rw [H.out]; rfl), rfl⟩
      · have i2 : ¬ (128 : Int) ≤ ((s[k].toNat : Nat) : Int) := by omega
        have H := Lib.hid (far_next hlt Hf.out hc)
        go_wp2
        go_round
        case rel => exact ⟨k + 1, by omega, by go_num, H.out⟩
        case measure => simp [intOf]; omega
    · have i1 : ¬ (k : Int) < (s.length : Int) := by omega
      have H := Lib.hid (show farB s = false by have := Hf.out; rwa [List.take_of_length_le (by omega)] at this)
      go_wp2
      go_ret
      exact ⟨retb (by rw [H.out]; rfl), rfl⟩
theorem mayc_bad1 {m : Nat} (h : m < 128) (hp : plnB m = false) : mayc (m : Int) = false := by
  unfold mayc; exact decide_eq_false fun ⟨h1, _⟩ => by
    rcases h1 with h1 | h1
    · omega
    · rw [Int.toNat_natCast, hp] at h1; cases h1
theorem mayc_bad2 {m : Nat} (h : m = 12290 ∨ m = 65294 ∨ m = 65377) : mayc (m : Int) = false := by
  unfold mayc; exact decide_eq_false fun ⟨_, h1, h2, h3⟩ => by omega
theorem mayc_good {m : Nat} (h : 128 ≤ m ∨ plnB m = true) (h1 : m ≠ 12290) (h2 : m ≠ 65294) (h3 : m ≠ 65377) : mayc (m : Int) = true := by
  unfold mayc
  refine decide_eq_true ⟨?_, by omega, by omega, by omega⟩
  rcases h with h | h
  · exact Or.inl (by omega)
  · exact Or.inr (by rw [Int.toNat_natCast]; exact h)
theorem may_bad {A : List Int} {k : Nat} (h : k < A.length) (hc : mayc A[k] = false) : mayB A = false := by
  unfold mayB
  refine decide_eq_false fun ⟨h1, _⟩ => ?_
  rw [List.all_eq_true] at h1
  have := h1 _ (List.getElem_mem h)
  rw [hc] at this; cases this
theorem may_next {A : List Int} {k : Nat} (h : k < A.length) (h1 : (A.take k).all mayc = true) (h2 : mayc A[k] = true) : (A.take (k + 1)).all mayc = true := by
  rw [List.take_succ_eq_append_getElem h, List.all_append, h1]; simp [h2]
theorem may_fin {A : List Int} (hpos : 0 < A.length) (h1 : A.all mayc = true) : mayB A = (decide (A[0] ≠ 45) && decide (A[A.length - 1] ≠ 45)) := by
  unfold mayB
  rw [Bool.eq_iff_iff, decide_eq_true_iff, List.getElem?_eq_getElem hpos, List.getElem?_eq_getElem (show A.length - 1 < A.length by omega)]
  simp [h1]

set_option maxRecDepth 100000 in
set_option maxHeartbeats 1000000 in
theorem may_any (A : List Int) (v : Value) (w : World) (ha : Sl w 1 v A.length (A.map (Value.int .i32))) (hn : A.length ≤ 1000000000) (hpos : 0 < A.length) (hr : ∀ x ∈ A, 0 ≤ x ∧ x ≤ 1114111) :
    Calls Tryd.prog 156 #[v] w fun e w' => e = .returned (.bool (mayB A)) ∧ w = w' := by
  obtain ⟨b1, o1, c1, rfl, hc1, hb1, hcA⟩ := ha.pos hpos
  have HcA := Lib.hid hcA
  have Hr := Lib.hid hr
  clear hcA ha hr
  go_enter Tryd.func156, Tryd.ntmps156
  go_wp2
  go_loop [4, 7] (fun _ i => ∃ k : Nat, k ≤ A.length ∧ i = .int .i64 (k : Int) ∧ (A.take k).all mayc = true) (fun _ i => A.length - (intOf i).toNat)
  case atStart => exact ⟨0, Nat.zero_le _, rfl, rfl⟩
  case round =>
    obtain ⟨k, hk, rfl, hm⟩ := hrel
    have Hm := Lib.hid hm
    clear hm
    by_cases hlt : k < A.length
    · have i1 : (k : Int) < (A.length : Int) := by omega
      have q1 : w.cell? ⟨b1, o1 + k, none⟩ = some (.int .i32 A[k]) := sl_cell HcA.out hlt
      obtain ⟨g1, g2⟩ := Hr.out A[k] (List.getElem_mem _)
      have Hbad : Hid (mayc A[k] = false → mayB A = false) := Lib.hid (may_bad hlt)
      have Hgood : Hid (mayc A[k] = true → (A.take (k + 1)).all mayc = true) := Lib.hid (may_next hlt Hm.out)
      generalize A[k] = c at *
      obtain ⟨m, rfl⟩ := Int.eq_ofNat_of_zero_le g1
      by_cases h128 : m < 128
      · have i2 : (m : Int) < 128 := by omega
        rcases hp : plnB m
        · have HB := Lib.hid (Hbad.out (mayc_bad1 h128 hp))
          have Hp := Lib.hid hp
          clear hp
          go_wp2_with fail
          refine (lplain_any _ _ (by omega)).mono ?_
          rintro e w' ⟨rfl, rfl⟩
          rw [Hp.out]
          go_wp2
          go_ret
          exact ⟨retb (by rw [HB.out]), rfl⟩
        · have HG := Lib.hid (Hgood.out (mayc_good (Or.inr hp) (by omega) (by omega) (by omega)))
          have Hp := Lib.hid hp
          clear hp
          have j1 : ((m : Int) == 12290) = false := by rw [beq_eq_false_iff_ne]; omega
          have j2 : ((m : Int) == 65294) = false := by rw [beq_eq_false_iff_ne]; omega
          have j3 : ((m : Int) == 65377) = false := by rw [beq_eq_false_iff_ne]; omega
          go_wp2_with fail
          refine (lplain_any _ _ (by omega)).mono ?_
          rintro e w' ⟨rfl, rfl⟩
          rw [Hp.out]
          go_wp2
          go_round
          case rel => exact ⟨k + 1, by omega, by go_num, HG.out⟩
          case measure => simp [intOf]; omega
      · have i2 : ¬ (m : Int) < 128 := by omega
        by_cases h3 : m = 12290 ∨ m = 65294 ∨ m = 65377
        · have HB := Lib.hid (Hbad.out (mayc_bad2 h3))
          by_cases e1 : m = 12290
          · have j1 : ((m : Int) == 12290) = true := by rw [beq_iff_eq]; omega
            clear h3 e1
            go_wp2
            go_ret
            exact ⟨retb (by rw [HB.out]), rfl⟩
          · have j1 : ((m : Int) == 12290) = false := by rw [beq_eq_false_iff_ne]; omega
            by_cases e2 : m = 65294
            · have j2 : ((m : Int) == 65294) = true := by rw [beq_iff_eq]; omega
              clear h3 e1 e2
              go_wp2
              go_ret
              exact ⟨retb (by rw [HB.out]), rfl⟩
            · have j2 : ((m : Int) == 65294) = false := by rw [beq_eq_false_iff_ne]; omega
              have j3 : ((m : Int) == 65377) = true := by rw [beq_iff_eq]; omega
              clear h3 e1 e2
              go_wp2
              go_ret
              exact ⟨retb (by rw [HB.out]), rfl⟩
        · have HG := Lib.hid (Hgood.out (mayc_good (Or.inl (by omega)) (by omega) (by omega) (by omega)))
          have j1 : ((m : Int) == 12290) = false := by rw [beq_eq_false_iff_ne]; omega
          have j2 : ((m : Int) == 65294) = false := by rw [beq_eq_false_iff_ne]; omega
          have j3 : ((m : Int) == 65377) = false := by rw [beq_eq_false_iff_ne]; omega
          clear h3
          go_wp2
          go_round
          case rel => exact ⟨k + 1, by omega, by go_num, HG.out⟩
          case measure => simp [intOf]; omega
    · have i1 : ¬ (k : Int) < (A.length : Int) := by omega
      have HF := Lib.hid (may_fin hpos (by have := Hm.out; rwa [List.take_of_length_le (by omega)] at this))
      have q1 : w.cell? ⟨b1, o1, none⟩ = some (.int .i32 A[0]) := by have := sl_cell HcA.out hpos; simpa using this
      have q2 : w.cell? ⟨b1, o1 + (A.length - 1), none⟩ = some (.int .i32 A[A.length - 1]) := sl_cell HcA.out (by omega)
      have e1 : ((A.length : Int) - 1).toNat = A.length - 1 := by omega
      have j3 : (A.length : Int) - 1 < (A.length : Int) := by omega
      have j4 : (0 : Int) ≤ (A.length : Int) - 1 := by omega
      have j5 : (0 : Int) < (A.length : Int) := by omega
      have j6 : (1 : Int) ≤ (A.length : Int) := by omega
      generalize A[0] = x at *
      generalize A[A.length - 1] = y at *
      by_cases hx : x = 45
      · have k1 : (x != 45) = false := by simp [hx]
        go_wp2
        go_ret
        exact ⟨retb (by rw [HF.out]; simp [hx]), rfl⟩
      · have k1 : (x != 45) = true := by simp [hx]
        by_cases hy : y = 45
        · have k2 : (y != 45) = false := by simp [hy]
          go_wp2
          go_ret
          exact ⟨retb (by rw [HF.out]; simp [hy]), rfl⟩
        · have k2 : (y != 45) = true := by simp [hy]
          go_wp2
          go_ret
          exact ⟨retb (by rw [HF.out]; simp [hx, hy]), rfl⟩
end Go.Proofs.YtbffkddlkfefoaaDoor

/- The contracts of label.ToASCII and of its reference. -/
namespace Go.Proofs.YtbffkddlkfefoaaDoor
open Go.RowKit
attribute [local go_sem] ba_get ext_drop ext_take ba_app

theorem encR_inl {l : List Int} {c : Int} (h : encR l = .inl c) : (c != 0) = true := by
  have : c = 3 ∨ c = 4 ∨ c = 6 := by
    unfold encR at h
    split at h
    · injection h with h; omega
    · split at h
      · split at h
        · injection h with h; omega
        · cases h
      · injection h with h; omega
  rw [bne_iff_ne]; omega
theorem rns_sl {k : IntKind} {w w' : World} {t : List UInt8} {l : List Int} {e : Ending} (h : RnsPost k w (rns t) e w') (hr : rns t = some l) : ∃ v, e = .returned (.tuple #[v, .int .i64 0]) ∧ Sl w' 1 v l.length (l.map (Value.int k)) ∧ Below w.heap.size w w' := by
  rw [hr] at h
  exact h
theorem rns_no {k : IntKind} {w w' : World} {t : List UInt8} {e : Ending} (h : RnsPost k w (rns t) e w') (hr : rns t = none) : ∃ v, e = .returned (.tuple #[v, .int .i64 5]) ∧ Below w.heap.size w w' := by
  rw [hr] at h
  obtain ⟨v, h1, _, h3⟩ := h
  exact ⟨v, h1, h3⟩
def Lng (s : Pu.ES) : Prop := s.b.length ≤ 5000 + 11 * s.done ∧ s.steps ≤ 4294967296
theorem Lng.step {n bs : Nat} {s s' : Pu.ES} {c : Nat} (h : Lng s) (e : Pu.pstep n bs s c = some s') : Lng s' := by
  obtain ⟨h1, h2⟩ := h
  unfold Pu.pstep at e
  split at e
  · split at e
    · cases e
    · injection e with e; subst e; exact ⟨h1, by dsimp only; omega⟩
  · split at e
    · injection e with e; subst e
      have := Pu.figs_len 10 s.steps s.bias 1 (by simp; omega)
      refine ⟨?_, by simp⟩
      simp only [List.length_append]
      omega
    · injection e with e; subst e; exact ⟨h1, h2⟩
theorem Lng.pass {n bs : Nat} (l : List Nat) : ∀ {s s' : Pu.ES}, Lng s → Pu.pass n bs s l = some s' → Lng s' ∧ (s.steps ≤ 4294967295 → s'.steps ≤ 4294967295) := by
  induction l with
  | nil => intro s s' h e; simp [Pu.pass] at e; rw [← e]; exact ⟨h, id⟩
  | cons c l ih =>
    intro s s' h e
    unfold Pu.pass at e
    rw [List.foldlM_cons] at e
    obtain ⟨s1, e1, e2⟩ := Option.bind_eq_some_iff.1 e
    obtain ⟨i1, i2⟩ := ih (h.step e1) e2
    refine ⟨i1, fun hs => i2 ?_⟩
    unfold Pu.pstep at e1
    split at e1
    · split at e1
      · cases e1
      · injection e1 with e1; subst e1; dsimp only; omega
    · split at e1
      · injection e1 with e1; subst e1; simp
      · injection e1 with e1; subst e1; exact hs
theorem encF_lng {l : List Nat} {basic : Nat} (hl : ∀ c ∈ l, c < 1114112) (f : Nat) : ∀ (n : Nat) (s : Pu.ES) (b : List UInt8), Lng s → s.done = (Pu.bel l n).length → Pu.encF l basic f n s = some b → b.length ≤ 5000 + 11 * l.length := by
  have fin : ∀ (n : Nat) (s : Pu.ES) (b : List UInt8), Lng s → s.done = (Pu.bel l n).length → some s.b = some b → b.length ≤ 5000 + 11 * l.length := by
    rintro n s b ⟨h1, _⟩ hd hb
    injection hb with hb
    have := Pu.bel_le l n
    rw [← hb]; omega
  induction f with
  | zero => intro n s b h hd e; exact fin n s b h hd e
  | succ f ih =>
    intro n s b h hd' e
    by_cases hd1 : s.done < l.length
    · rw [Pu.encF, if_pos hd1] at e
      split at e
      · cases e
      · next hov =>
        split at e
        · cases e
        · next s' hp =>
          obtain ⟨m1, m2, m3⟩ := Pu.least_spec (l := l) (n := n) hl (by omega)
          have hj := Pu.bel_jump m2 m3
          have hdn := Pu.pass_done (l := l) (n := Pu.least l n) (basic := basic) (s := { s with steps := s.steps + (Pu.least l n - n) * (s.done + 1) }) (by dsimp only; rw [hj]; exact hd') l.length (Nat.le_refl _) s' (by rw [Pu.pass_all]; exact hp)
          rw [(Pu.Lp_all l (Pu.least l n)).1] at hdn
          obtain ⟨g1, g2⟩ := Lng.pass l (s := { s with steps := s.steps + (Pu.least l n - n) * (s.done + 1) }) ⟨h.1, by dsimp only; omega⟩ hp
          have g3 := g2 (by dsimp only; omega)
          exact ih (Pu.least l n + 1) { s' with steps := s'.steps + 1 } b ⟨g1.1, by dsimp only; omega⟩ hdn e
    · rw [Pu.encF, if_neg hd1] at e
      exact fin n s b h hd' e
theorem encR_len {l : List Int} {t : List UInt8} (h : encR l = .inr t) : t.length ≤ 60000 := by
  unfold encR at h
  split at h
  · cases h
  · next hl =>
    split at h
    · next hok =>
      split at h
      · cases h
      · next b hb =>
        injection h with h
        subst h
        have hnl := nats_len l
        have e2 := (nats_back hok).2
        have h1 := bas1_le (nats l)
        have h2 : (Pu.head (nats l)).length ≤ 4097 := by
          unfold Pu.head
          split
          · simp
          · rw [List.length_append]; simp; omega
        have := encF_lng (l := nats l) (fun c hc => by have := e2 c hc; omega) _ 128 _ _ ⟨by dsimp only; omega, by simp⟩ (Pu.bas1_len (nats l)) hb
        omega
    · cases h
def AscPost (w : World) (s : List UInt8) (e : Ending) (w' : World) : Prop := e = .returned (encT (toA s)) ∧ Below w.heap.size w w'
theorem AscPost.err {w w' : World} {s : List UInt8} {c : Int} (h : toA s = .inl c) (hb : Below w.heap.size w w') : AscPost w s (.returned (.tuple #[.string ⟨#[]⟩, .int .i64 c])) w' := ⟨by rw [h]; rfl, hb⟩
theorem AscPost.ok {w w' : World} {s b : List UInt8} (h : toA s = .inr b) (hb : Below w.heap.size w w') : AscPost w s (.returned (.tuple #[.string ⟨b.toArray⟩, .int .i64 0])) w' := ⟨by rw [h]; rfl, hb⟩
theorem toA_near {s : List UInt8} (h : farB s = false) : toA s = if hostB s = true then .inr (low s) else .inl 7 := by unfold toA; rw [h, if_neg (by simp)]
theorem toA_none {s : List UInt8} (h : farB s = true) (hr : rns (low s) = none) : toA s = .inl 5 := by unfold toA; rw [if_pos h, hr]
theorem toA_some {s : List UInt8} {l : List Int} (h : farB s = true) (hr : rns (low s) = some l) : toA s = if mayB l = true then (match encR l with | .inl e => .inl e | .inr t => if 63 < t.length + 4 then .inl 7 else .inr (mrk ++ t)) else .inl 7 := by unfold toA; (rw [if_pos h, hr]) <;> rfl

set_option maxRecDepth 100000 in
set_option maxHeartbeats 1000000 in
theorem toascii_any (s : List UInt8) (w : World) (hl : s.length ≤ 100000000) : Calls Tryd.prog 110 #[.string ⟨s.toArray⟩] w (AscPost w s) := by
  rcases hf : farB s
  · have Hn := Lib.hid (toA_near hf)
    have Hf := Lib.hid hf
    clear hf
    go_enter Tryd.func110, Tryd.ntmps110
    go_wp2_with fail
    refine (basic_any _ _ (by omega)).mono ?_
    rintro e w' ⟨rfl, rfl⟩
    rw [Hf.out]
    go_wp2_with fail
    refine (lhost_any _ _ (by omega)).mono ?_
    rintro e w' ⟨rfl, rfl⟩
    rcases hh : hostB s
    · have H := Lib.hid (show toA s = .inl 7 by rw [Hn.out, hh]; rfl)
      clear hh
      go_wp2
      go_ret2
      exact AscPost.err H.out (Below.refl _ _)
    · have H := Lib.hid (show toA s = .inr (low s) by rw [Hn.out, hh]; rfl)
      clear hh
      go_wp2_with fail
      refine (lower_any _ _ (by omega)).mono ?_
      rintro e w1 ⟨rfl, hb1⟩
      go_wp2
      go_ret2
      exact AscPost.ok H.out hb1
  · have Hf := Lib.hid hf
    have hll := low_len s
    have hll2 : (low s).length ≤ 100000000 := by omega
    rcases hr : rns (low s) with _ | l
    · have H := Lib.hid (toA_none hf hr)
      have Hr := Lib.hid hr
      clear hf hr hll
      go_enter Tryd.func110, Tryd.ntmps110
      go_wp2_with fail
      refine (basic_any _ _ (by omega)).mono ?_
      rintro e w' ⟨rfl, rfl⟩
      rw [Hf.out]
      go_wp2_with fail
      refine (lower_any _ _ (by omega)).mono ?_
      rintro e w1 ⟨rfl, hb1⟩
      go_wp2_with fail
      refine (runes_any _ _ (by omega)).mono ?_
      intro e w2 h2
      obtain ⟨v2, rfl, hb2⟩ := rns_no h2 Hr.out
      clear h2
      go_wp2
      go_ret2
      exact AscPost.err H.out (bel_tr hb1 hb2)
    · have H := Lib.hid (toA_some hf hr)
      have Hr := Lib.hid hr
      obtain ⟨hbd1, hbd2⟩ := rns_bd hr
      obtain ⟨c0, hc0, _⟩ := rns_far hr (by rw [farB_low]; exact hf)
      have hpos : 0 < l.length := List.length_pos_of_mem hc0
      have Hbd : Hid (∀ x ∈ l, 0 ≤ x ∧ x ≤ 1114111) := Lib.hid (fun x hx => ptB_bd (hbd2 x hx))
      have Hbd2 : Hid (∀ x ∈ l, -2147483648 ≤ x ∧ x ≤ 2147483647) := Lib.hid (fun x hx => by have := ptB_bd (hbd2 x hx); omega)
      clear hf hr hll hbd2 hc0
      go_enter Tryd.func110, Tryd.ntmps110
      go_wp2_with fail
      refine (basic_any _ _ (by omega)).mono ?_
      rintro e w' ⟨rfl, rfl⟩
      rw [Hf.out]
      go_wp2_with fail
      refine (lower_any _ _ (by omega)).mono ?_
      rintro e w1 ⟨rfl, hb1⟩
      go_wp2_with fail
      refine (runes_any _ _ (by omega)).mono ?_
      intro e w2 h2
      obtain ⟨v2, rfl, hs2, hb2⟩ := rns_sl h2 Hr.out
      clear h2
      have hb02 := bel_tr hb1 hb2
      go_wp2_with fail
      refine (may_any _ _ _ hs2 (by omega) hpos Hbd.out).mono ?_
      rintro e w' ⟨rfl, rfl⟩
      rcases hm : mayB l
      · have H2 := Lib.hid (show toA s = .inl 7 by rw [H.out, hm]; rfl)
        clear hm
        go_wp2
        go_ret2
        exact AscPost.err H2.out hb02
      · have H2 := H.out
        rw [hm, if_pos rfl] at H2
        have H3 := Lib.hid H2
        clear hm H2 H
        go_wp2_with fail
        refine (encode_any _ _ _ hs2 (by unfold maxLen; omega) Hbd2.out).mono ?_
        rintro e w3 ⟨rfl, hb3⟩
        have hb03 := bel_tr hb02 hb3
        rcases he : encR l with c | t
        · have hc := encR_inl he
          have H4 := Lib.hid (show toA s = .inl c by rw [H3.out, he])
          clear he
          unfold encT
          go_wp2
          go_ret2
          exact AscPost.err H4.out hb03
        · have H4 := Lib.hid (show toA s = if 63 < t.length + 4 then .inl 7 else .inr (mrk ++ t) by rw [H3.out, he])
          have htl := encR_len he
          clear he
          unfold encT
          by_cases hbig : 63 < t.length + 4
          · have H5 := Lib.hid (show toA s = .inl 7 by rw [H4.out, if_pos hbig])
            have k1 : (63 : Int) < (t.length : Int) + 1 + 1 + 1 + 1 := by omega
            go_wp2
            go_ret2
            exact AscPost.err H5.out hb03
          · have H5 := Lib.hid (show toA s = .inr (mrk ++ t) by rw [H4.out, if_neg hbig])
            have k1 : ¬ (63 : Int) < (t.length : Int) + 1 + 1 + 1 + 1 := by omega
            go_wp2
            go_ret2
            exact AscPost.ok H5.out hb03
end Go.Proofs.YtbffkddlkfefoaaDoor

/- The contract of label.ToUnicode; works; the walks of LabelFixed and LabelBack. -/
namespace Go.Proofs.YtbffkddlkfefoaaDoor
open Go.RowKit
attribute [local go_sem] ba_get ext_drop ext_take ba_app

theorem decF_inl (f : Nat) : ∀ (d : Pu.DS) (c : Int), Pu.decF f d = .inl c → c ≠ 0 := by
  induction f with
  | zero => intro d c h; simp only [Pu.decF] at h; cases h
  | succ f ih =>
    intro d c h
    obtain ⟨L, n, p, bias, first, s⟩ := d
    by_cases hs : s = []
    · subst hs
      rw [decF_nil] at h
      cases h
    · rcases hN : Pu.numb bias s 1 0 1 with e | ⟨x, r⟩
      · rw [decF_err hs hN] at h
        injection h with h
        have := numb_inl _ _ _ _ _ _ hN
        omega
      · rw [decF_ok hs hN] at h
        split at h
        · injection h with h; omega
        · split at h
          · injection h with h; omega
          · split at h
            · injection h with h; omega
            · exact ih _ _ h
theorem dec_inl {s : List UInt8} {c : Int} (h : Pu.dec s = .inl c) : (c != 0) = true := by
  rw [bne_iff_ne]
  unfold Pu.dec at h
  split at h
  · injection h with h; omega
  · split at h
    · next e hb =>
      injection h with h
      unfold Pu.bas at hb
      split at hb
      · split at hb
        · injection hb with hb; omega
        · cases hb
      · injection hb with hb; omega
    · exact decF_inl _ _ _ h
theorem toA_inl {s : List UInt8} {c : Int} (h : toA s = .inl c) : (c != 0) = true := by
  unfold toA at h
  split at h
  · split at h
    · injection h with h; rw [bne_iff_ne]; omega
    · split at h
      · split at h
        · next e he => injection h with h; subst h; exact encR_inl he
        · split at h
          · injection h with h; rw [bne_iff_ne]; omega
          · cases h
      · injection h with h; rw [bne_iff_ne]; omega
  · split at h
    · cases h
    · injection h with h; rw [bne_iff_ne]; omega
theorem pre_iff (t : List UInt8) : Lib.hasPrefix t mrk = decide (t.take 4 = mrk) := by
  unfold Lib.hasPrefix
  rw [Bool.eq_iff_iff, decide_eq_true_iff, List.isPrefixOf_iff_prefix, List.prefix_iff_eq_take]
  exact eq_comm
theorem toU_not {s : List UInt8} (h : ¬ (hostB (low s) = true ∧ (low s).take 4 = mrk)) : toU s = s := by unfold toU; rw [if_neg h]
theorem toU_bad {s : List UInt8} {c : Int} (h : hostB (low s) = true ∧ (low s).take 4 = mrk) (hd : Pu.dec ((low s).drop 4) = .inl c) : toU s = s := by unfold toU; rw [if_pos h, hd]
theorem toU_txt {s : List UInt8} {l : List Nat} (h : hostB (low s) = true ∧ (low s).take 4 = mrk) (hd : Pu.dec ((low s).drop 4) = .inr l) (ht : txt (zs l) = none) : toU s = s := by unfold toU; rw [if_pos h, hd]; simp only; rw [ht]
theorem toU_back {s : List UInt8} {l : List Nat} {t : List UInt8} (h : hostB (low s) = true ∧ (low s).take 4 = mrk) (hd : Pu.dec ((low s).drop 4) = .inr l) (ht : txt (zs l) = some t) : toU s = if toA t = .inr (low s) then t else s := by unfold toU; rw [if_pos h, hd]; simp only; rw [ht]
theorem str_ret {w w' : World} {s a : List UInt8} (h : a = s) (hb : Below w.heap.size w w') : StrPost w a (.returned (.string ⟨s.toArray⟩)) w' := ⟨by rw [h], hb⟩

set_option maxRecDepth 100000 in
set_option maxHeartbeats 1000000 in
theorem tounicode_any (s : List UInt8) (w : World) (hl : s.length ≤ 100000000) : Calls Tryd.prog 113 #[.string ⟨s.toArray⟩] w (StrPost w (toU s)) := by
  have hll : (low s).length ≤ 100000000 := by rw [low_len]; exact hl
  rcases hh : hostB (low s)
  · have H := Lib.hid (toU_not (s := s) (by rw [hh]; simp))
    have Hh := Lib.hid hh
    clear hh
    go_enter Tryd.func113, Tryd.ntmps113
    go_wp2_with fail
    refine (lower_any _ _ (by omega)).mono ?_
    rintro e w1 ⟨rfl, hb1⟩
    go_wp2_with fail
    refine (lhost_any _ _ (by omega)).mono ?_
    rintro e w' ⟨rfl, rfl⟩
    rw [Hh.out]
    go_wp2
    go_ret
    exact str_ret H.out hb1
  · have Hh := Lib.hid hh
    have hl63 := (host_mem hh).2.1
    by_cases hp : (low s).take 4 = mrk
    · have Hpre := Lib.hid (show Lib.hasPrefix (low s) mrk = true by rw [pre_iff]; simp [hp])
      have h4 : 4 ≤ (low s).length := by have := congrArg List.length hp; simp [mrk] at this; omega
      have HC : Hid (hostB (low s) = true ∧ (low s).take 4 = mrk) := Lib.hid ⟨hh, hp⟩
      clear hh hp
      have HPOST : Hid (∀ w' : World, Below w.heap.size w w' → toU s = s → StrPost w (toU s) (.returned (.string ⟨s.toArray⟩)) w') := Lib.hid (fun w' hb h => str_ret h hb)
      have HPOST2 : Hid (∀ (w' : World) (t : List UInt8), Below w.heap.size w w' → toU s = t → StrPost w (toU s) (.returned (.string ⟨t.toArray⟩)) w') := Lib.hid (fun w' t hb h => str_ret h hb)
      go_enter Tryd.func113, Tryd.ntmps113
      go_wp2_with fail
      refine (lower_any _ _ (by omega)).mono ?_
      rintro e w1 ⟨rfl, hb1⟩
      go_wp2_with fail
      refine (lhost_any _ _ (by omega)).mono ?_
      rintro e w' ⟨rfl, rfl⟩
      rw [Hh.out]
      go_wp2_with fail
      refine (Tryd.strings_HasPrefix ⟨(low s).toArray⟩ ⟨mrk.toArray⟩ _).mono ?_
      rintro e w' ⟨rfl, hw⟩
      have hw2 := hw.symm
      clear hw
      subst hw2
      rw [show Lib.hasPrefix (ByteArray.mk (low s).toArray).data.toList (ByteArray.mk mrk.toArray).data.toList = true from Hpre.out]
      generalize hX : low s = X at *
      have HX := Lib.hid hX
      clear hX
      go_wp2_with fail
      refine (decode_any (X.drop 4) _ (by unfold maxLen; simp; omega)).mono ?_
      intro e w2 h2
      rcases hd : Pu.dec (X.drop 4) with c | l
      · have HU := Lib.hid (toU_bad (s := s) (c := c) (by rw [HX.out]; exact HC.out) (by rw [HX.out]; exact hd))
        have hc := dec_inl hd
        obtain ⟨rfl, hb2⟩ : e = .returned (.tuple #[.slice none 0 0, .int .i64 c]) ∧ Below w1.heap.size w1 w2 := by
          rcases h2 with ⟨c', g1, g2, g3⟩ | ⟨l', v', g1, _⟩
          · rw [hd] at g1; injection g1 with g1; subst g1; exact ⟨g2, g3⟩
          · rw [hd] at g1; cases g1
        clear h2 hd
        go_wp2
        go_ret
        exact HPOST.out _ (bel_tr hb1 hb2) HU.out
      · obtain ⟨v2, rfl, hs2, hb2⟩ := dec_open h2 hd
        obtain ⟨d1, d2⟩ := dec_bd hd
        have Hd1 := Lib.hid (zs_bd d1)
        have hzl : (zs l).length ≤ 4096 := by rw [zs_len]; exact d2
        have hb02 := bel_tr hb1 hb2
        have Hd := Lib.hid hd
        clear h2 hd d1
        go_wp2_with fail
        refine (text_any _ _ _ hs2 Hd1.out (by omega)).mono ?_
        rintro e w3 ⟨rfl, hb3⟩
        have hb03 := bel_tr hb02 hb3
        rcases ht : txt (zs l) with _ | t
        · have HU := Lib.hid (toU_txt (s := s) (by rw [HX.out]; exact HC.out) (by rw [HX.out]; exact Hd.out) ht)
          clear ht
          unfold txtV
          go_wp2
          go_ret
          exact HPOST.out _ hb03 HU.out
        · have HU := Lib.hid (toU_back (s := s) (by rw [HX.out]; exact HC.out) (by rw [HX.out]; exact Hd.out) ht)
          have htl := txt_len ht
          clear ht
          unfold txtV
          go_wp2_with fail
          refine (toascii_any _ _ (by omega)).mono ?_
          rintro e w4 ⟨rfl, hb4⟩
          have hb04 := bel_tr hb03 hb4
          rcases hta : toA t with c | back
          · have hc := toA_inl hta
            have HU2 := Lib.hid (show toU s = s by rw [HU.out, hta, if_neg (by simp)])
            clear hta
            unfold encT
            go_wp2
            go_ret
            exact HPOST.out _ hb04 HU2.out
          · unfold encT
            by_cases hbk : back = X
            · have HU2 := Lib.hid (show toU s = t by rw [HU.out, hta, HX.out, hbk, if_pos rfl])
              subst hbk
              clear hta
              go_wp2
              go_ret
              exact HPOST2.out _ _ hb04 HU2.out
            · have HU2 := Lib.hid (show toU s = s by rw [HU.out, hta, HX.out, if_neg (by intro h; injection h with h; exact hbk h)])
              have k1 : (back == X) = false := by simpa using hbk
              have k2 : (back != X) = true := by simpa using hbk
              clear hta
              go_wp2
              go_ret
              exact HPOST.out _ hb04 HU2.out
    · have Hpre := Lib.hid (show Lib.hasPrefix (low s) mrk = false by rw [pre_iff]; simp [hp])
      have H := Lib.hid (toU_not (s := s) (fun h => hp h.2))
      clear hh hp
      go_enter Tryd.func113, Tryd.ntmps113
      go_wp2_with fail
      refine (lower_any _ _ (by omega)).mono ?_
      rintro e w1 ⟨rfl, hb1⟩
      go_wp2_with fail
      refine (lhost_any _ _ (by omega)).mono ?_
      rintro e w' ⟨rfl, rfl⟩
      rw [Hh.out]
      go_wp2_with fail
      refine (Tryd.strings_HasPrefix ⟨(low s).toArray⟩ ⟨mrk.toArray⟩ _).mono ?_
      rintro e w' ⟨rfl, hw⟩
      have hw2 := hw.symm
      clear hw
      subst hw2
      rw [show Lib.hasPrefix (ByteArray.mk (low s).toArray).data.toList (ByteArray.mk mrk.toArray).data.toList = false from Hpre.out]
      go_wp2
      go_ret
      exact str_ret H.out hb1
end Go.Proofs.YtbffkddlkfefoaaDoor

/- Hosts' names as people write them, in plain words: what is accepted is a fixed point. No walk here. -/
namespace Go.Proofs.YtbffkddlkfefoaaDoor
open Go.RowKit

def dotB (c : Int) : Bool := decide (c = 46 ∨ c = 12290 ∨ c = 65294 ∨ c = 65377)
/-- what stands between the dots of points, the first one behind 'cur'. -/
def spA (cur : List Int) : List Int → List (List Int)
  | [] => [cur]
  | c :: r => if dotB c = true then cur :: spA [] r else spA (cur ++ [c]) r
def encs1 (L : List Int) : List UInt8 := L.flatMap enc
def hostL (P : List Int) : List (List UInt8) := (spA [] P).map encs1
def hCut (l : List (List UInt8)) : List (List UInt8) × List UInt8 := if 1 < l.length ∧ l[l.length - 1]? = some [] then (l.take (l.length - 1), [46]) else (l, [])
def hGo : List (List UInt8) → Int ⊕ List (List UInt8)
  | [] => .inr []
  | t :: r => if t = [] then .inl 8 else match toA t with
    | .inl e => .inl e
    | .inr a => match hGo r with
      | .inl e => .inl e
      | .inr A => .inr (a :: A)
def hostR (s : List UInt8) : Int ⊕ List UInt8 := match rns s with
  | none => .inl 5
  | some P => match hGo (hCut (hostL P)).1 with
    | .inl e => .inl e
    | .inr A => if 255 < sz A then .inl 3 else .inr (joi [46] A ++ (hCut (hostL P)).2)

theorem spA_app (L : List Int) (h : ∀ c ∈ L, dotB c = false) : ∀ (cur R : List Int), spA cur (L ++ R) = spA (cur ++ L) R := by
  induction L with
  | nil => intro cur R; simp
  | cons c L ih =>
    intro cur R
    rw [List.cons_append, spA, if_neg (by rw [h c (by simp)]; simp), ih (fun x hx => h x (by simp [hx]))]
    simp
theorem spA_ne (P : List Int) : ∀ cur, spA cur P ≠ [] := by
  induction P with
  | nil => intro cur h; cases h
  | cons c P ih =>
    intro cur
    rw [spA]
    split
    · intro h; cases h
    · exact ih _
/-- behind the labels perhaps a dot. -/
def endP (b : Bool) : List Int := if b then [46] else []
theorem spA_join (Ls : List (List Int)) (h : ∀ L ∈ Ls, ∀ c ∈ L, dotB c = false) (hne : Ls ≠ []) (b : Bool) : spA [] (jB 46 Ls ++ endP b) = Ls ++ (if b then [[]] else []) := by
  induction Ls with
  | nil => exact absurd rfl hne
  | cons L r ih =>
    rcases r with _ | ⟨M, r⟩
    · rw [jB, spA_app _ (h L (by simp))]
      cases b
      · simp [endP, spA]
      · simp [endP, spA, show dotB 46 = true from rfl]
    · rw [jB, List.append_assoc, spA_app _ (h L (by simp)), List.cons_append, spA, if_pos (show dotB 46 = true from rfl), ih (fun X hX => h X (by simp [hX])) (by simp)]
      simp
theorem encs1_join (Ls : List (List Int)) : encs1 (jB 46 Ls) = jB 46 (Ls.map encs1) := by
  induction Ls with
  | nil => rfl
  | cons L r ih =>
    rcases r with _ | ⟨M, r⟩
    · rfl
    · rw [jB, List.map_cons, List.map_cons, jB, ← List.map_cons, ← ih]
      unfold encs1
      rw [List.flatMap_append, List.flatMap_cons]
      rfl
theorem encs1_end (b : Bool) : encs1 (endP b) = endB b := by cases b <;> rfl
/-- a label as it is written: its points, its bytes, what it is in ASCII. -/
def LabOK (L : List Int) (a : List UInt8) : Prop := L.all ptB = true ∧ (∀ c ∈ L, dotB c = false) ∧ toA (encs1 L) = .inr a
theorem toA_nil : toA [] = .inl 7 := by decide +kernel
theorem LabOK.ne {L : List Int} {a : List UInt8} (h : LabOK L a) : encs1 L ≠ [] := by
  intro e
  have := h.2.2
  rw [e, toA_nil] at this
  cases this
/-- two lists, member by member. -/
def F2 {α β : Type} (R : α → β → Prop) : List α → List β → Prop
  | [], [] => True
  | a :: l, b :: m => R a b ∧ F2 R l m
  | _, _ => False
theorem hGo_of {Ls : List (List Int)} : ∀ {A : List (List UInt8)}, F2 LabOK Ls A → hGo (Ls.map encs1) = .inr A := by
  induction Ls with
  | nil => intro A h; cases A with | nil => rfl | cons _ _ => exact h.elim
  | cons L r ih =>
    intro A h
    cases A with
    | nil => exact h.elim
    | cons a A =>
      rw [List.map_cons, hGo, if_neg h.1.ne, h.1.2.2]
      simp only
      rw [ih h.2]
theorem forall2_len {α β : Type} {R : α → β → Prop} {a : List α} : ∀ {b : List β}, F2 R a b → a.length = b.length := by
  induction a with
  | nil => intro b h; cases b with | nil => rfl | cons _ _ => exact h.elim
  | cons x a ih => intro b h; cases b with | nil => exact h.elim | cons y b => rw [List.length_cons, List.length_cons, ih h.2]
theorem forall2_mem {α β : Type} {R : α → β → Prop} {a : List α} : ∀ {b : List β}, F2 R a b → ∀ x ∈ a, ∃ y ∈ b, R x y := by
  induction a with
  | nil => intro b _ x hx; cases hx
  | cons z a ih =>
    intro b h x hx
    cases b with
    | nil => exact h.elim
    | cons y b =>
      rcases List.mem_cons.1 hx with rfl | hx
      · exact ⟨y, by simp, h.1⟩
      · obtain ⟨y', hy, hr⟩ := ih h.2 x hx
        exact ⟨y', by simp [hy], hr⟩
theorem forall2_mem' {α β : Type} {R : α → β → Prop} {a : List α} : ∀ {b : List β}, F2 R a b → ∀ y ∈ b, ∃ x ∈ a, R x y := by
  induction a with
  | nil => intro b h y hy; cases b with | nil => cases hy | cons _ _ => exact h.elim
  | cons z a ih =>
    intro b h y hy
    cases b with
    | nil => exact h.elim
    | cons y' b =>
      rcases List.mem_cons.1 hy with rfl | hy
      · exact ⟨z, by simp, h.1⟩
      · obtain ⟨x, hx, hr⟩ := ih h.2 y hy
        exact ⟨x, by simp [hx], hr⟩
theorem hCut_of (us : List (List UInt8)) (h : ∀ u ∈ us, u ≠ []) (hne : us ≠ []) (b : Bool) : hCut (us ++ (if b then [[]] else [])) = (us, endB b) := by
  unfold hCut
  cases b
  · have hl : 0 < us.length := List.length_pos_iff.2 hne
    rw [if_neg]
    · simp [endB]
    · rintro ⟨_, h2⟩
      simp only [Bool.false_eq_true, if_false, List.append_nil] at h2
      exact h [] (List.mem_of_getElem? h2) rfl
  · have hl : 0 < us.length := List.length_pos_iff.2 hne
    rw [if_pos]
    · simp [endB]
    · simp; omega
/-- labels that may be, joined: accepted as they are in ASCII. -/
theorem hostR_of {Ls : List (List Int)} {A : List (List UInt8)} (h : F2 LabOK Ls A) (hne : A ≠ []) (hs : sz A ≤ 255) (b : Bool) :
    hostR (joi [46] (Ls.map encs1) ++ endB b) = .inr (joi [46] A ++ endB b) := by
  have hlen := forall2_len h
  have hLne : Ls ≠ [] := by
    intro e; subst e
    exact hne (List.eq_nil_of_length_eq_zero (by simpa using hlen.symm))
  have hmem := forall2_mem h
  have ht : txt (jB 46 Ls ++ endP b) = some (joi [46] (Ls.map encs1) ++ endB b) := by
    unfold txt
    rw [if_pos, joi_jB, ← encs1_join, ← encs1_end]
    · unfold encs1; rw [List.flatMap_append]
    · rw [List.all_eq_true]
      intro c hc
      rw [List.mem_append] at hc
      have h46 : ptB 46 = true := by decide +kernel
      rcases hc with hc | hc
      · rcases jB_mem hc with rfl | ⟨L, hL, hc⟩
        · exact h46
        · obtain ⟨a, _, hr⟩ := hmem L hL
          exact List.all_eq_true.1 hr.1 c hc
      · cases b
        · cases hc
        · simp [endP] at hc
          subst hc
          exact h46
  have hr := rns_of_txt ht
  have hsp := spA_join Ls (fun L hL => by obtain ⟨a, _, hr⟩ := hmem L hL; exact hr.2.1) hLne b
  have hL : hostL (jB 46 Ls ++ endP b) = Ls.map encs1 ++ (if b then [[]] else []) := by
    unfold hostL
    rw [hsp, List.map_append]
    cases b <;> rfl
  unfold hostR
  rw [hr]
  simp only
  rw [hL, hCut_of _ (fun u hu => by
    rw [List.mem_map] at hu
    obtain ⟨L, hL, rfl⟩ := hu
    obtain ⟨a, _, hr⟩ := hmem L hL
    exact hr.ne) (by simpa using hLne), hGo_of h]
  simp only
  rw [if_neg (by omega)]

/-- what hGo gives: each is what its text is in ASCII. -/
theorem hGo_inr : ∀ {l A : List (List UInt8)}, hGo l = .inr A → F2 (fun t a => toA t = .inr a) l A := by
  intro l
  induction l with
  | nil => intro A h; injection h with h; subst h; trivial
  | cons t r ih =>
    intro A h
    rw [hGo] at h
    split at h
    · cases h
    · cases ht : toA t with
      | inl e => rw [ht] at h; cases h
      | inr a =>
        rw [ht] at h
        simp only at h
        cases hg : hGo r with
        | inl e => rw [hg] at h; cases h
        | inr B =>
          rw [hg] at h
          simp only at h
          injection h with h
          subst h
          exact ⟨ht, ih hg⟩
theorem hCut_end (l : List (List UInt8)) : ∃ b, (hCut l).2 = endB b := by
  unfold hCut
  split
  · exact ⟨true, rfl⟩
  · exact ⟨false, rfl⟩
theorem hCut_ne {l : List (List UInt8)} (h : l ≠ []) : (hCut l).1 ≠ [] := by
  unfold hCut
  split
  · next h1 => intro e; have := congrArg List.length e; simp at this; omega
  · exact h
theorem hostR_inr {s t : List UInt8} (h : hostR s = .inr t) : ∃ (A : List (List UInt8)) (b : Bool), t = joi [46] A ++ endB b ∧ A ≠ [] ∧ sz A ≤ 255 ∧ ∀ a ∈ A, ∃ u, toA u = .inr a := by
  unfold hostR at h
  split at h
  · cases h
  · next P hP =>
    split at h
    · cases h
    · next A hA =>
      split at h
      · cases h
      · next hs =>
        injection h with h
        obtain ⟨b, hb⟩ := hCut_end (hostL P)
        have hf := hGo_inr hA
        refine ⟨A, b, by rw [← h, hb], ?_, by omega, fun a ha => ?_⟩
        · intro e
          have hl := forall2_len hf
          rw [e] at hl
          refine hCut_ne (l := hostL P) ?_ (List.eq_nil_of_length_eq_zero (by simpa using hl))
          unfold hostL
          simpa using spA_ne P []
        · obtain ⟨x, _, hx⟩ := forall2_mem' hf a ha
          exact ⟨x, hx⟩

theorem pln_dot {n : Nat} (h : plnB n = true) : dotB (n : Int) = false := by
  unfold plnB at h
  have := of_decide_eq_true h
  unfold dotB
  exact decide_eq_false (by omega)
theorem enc_byte (c : UInt8) (h : c.toNat < 128) : enc (c.toNat : Int) = [c] := by
  unfold enc
  rw [if_pos (by omega)]
  simp
theorem encs1_bytes (a : List UInt8) (h : ∀ c ∈ a, c.toNat < 128) : encs1 (a.map (fun c => (c.toNat : Int))) = a := by
  induction a with
  | nil => rfl
  | cons c a ih =>
    unfold encs1 at ih ⊢
    rw [List.map_cons, List.flatMap_cons, enc_byte c (h c (by simp)), ih (fun x hx => h x (by simp [hx]))]
    rfl
theorem pt_byte {n : Nat} (h : n < 128) : ptB (n : Int) = true := by unfold ptB; exact decide_eq_true (by omega)
/-- what is accepted is a label of its own. -/
theorem labOK_self {u a : List UInt8} (h : toA u = .inr a) : ∃ L, encs1 L = a ∧ LabOK L a := by
  obtain ⟨h1, h2, h3, h4⟩ := toA_fixed h
  obtain ⟨_, _, hp⟩ := host_mem h3
  have he := encs1_bytes a (fun c hc => pln_near (hp c hc))
  refine ⟨a.map (fun c => (c.toNat : Int)), he, ?_, ?_, by rw [he]; exact h1⟩
  · rw [List.all_eq_true]
    intro c hc
    rw [List.mem_map] at hc
    obtain ⟨x, hx, rfl⟩ := hc
    exact pt_byte (pln_near (hp x hx))
  · intro c hc
    rw [List.mem_map] at hc
    obtain ⟨x, hx, rfl⟩ := hc
    exact pln_dot (hp x hx)

def smI (c : Int) : Int := if 65 ≤ c ∧ c ≤ 90 then c + 32 else c
theorem sm_big {c : UInt8} (h : 128 ≤ c.toNat) : sm c = c := sm_id (by omega)
theorem u8big {n : Nat} (h : 128 ≤ n) (h2 : n < 256) : sm (UInt8.ofNat n) = UInt8.ofNat n := sm_big (by rw [u8n h2]; exact h)
theorem low_enc {c : Int} (hp : ptB c = true) : low (enc c) = enc (smI c) := by
  have hb := ptB_bd hp
  by_cases h : c < 128
  · have e : c = ((UInt8.ofNat c.toNat).toNat : Int) := by rw [u8n (by omega)]; omega
    generalize UInt8.ofNat c.toNat = d at e
    subst e
    have hd : d.toNat < 128 := by omega
    rw [enc_byte d hd]
    have hs : smI (d.toNat : Int) = ((sm d).toNat : Int) := by
      unfold smI
      by_cases hu : 65 ≤ d.toNat ∧ d.toNat ≤ 90
      · rw [if_pos (by omega), sm_up hu]; omega
      · rw [if_neg (by omega), sm_id hu]
    rw [hs, enc_byte (sm d) (by have := sm_far d; omega)]
    rfl
  · have hs : smI c = c := by unfold smI; rw [if_neg (by omega)]
    rw [hs]
    unfold enc low
    rw [if_neg h]
    split
    · simp only [List.map_cons, List.map_nil]
      rw [u8big (by omega) (by omega), u8big (by omega) (by omega)]
    · split
      · simp only [List.map_cons, List.map_nil]
        rw [u8big (by omega) (by omega), u8big (by omega) (by omega), u8big (by omega) (by omega)]
      · simp only [List.map_cons, List.map_nil]
        rw [u8big (by omega) (by omega), u8big (by omega) (by omega), u8big (by omega) (by omega), u8big (by omega) (by omega)]
theorem ptB_smI {c : Int} (hp : ptB c = true) : ptB (smI c) = true := by
  have hb := ptB_bd hp
  unfold smI
  split
  · unfold ptB; exact decide_eq_true (by omega)
  · exact hp
theorem low_encs1 (L : List Int) (h : L.all ptB = true) : low (encs1 L) = encs1 (L.map smI) := by
  induction L with
  | nil => rfl
  | cons c L ih =>
    rw [List.all_cons, Bool.and_eq_true] at h
    have h2 := ih h.2
    unfold encs1 at h2 ⊢
    rw [List.map_cons, List.flatMap_cons, List.flatMap_cons, low_app, low_enc h.1, h2]
theorem rns_low {L : List Int} (h : L.all ptB = true) : rns (low (encs1 L)) = some (L.map smI) := by
  apply rns_of_txt
  unfold txt
  rw [if_pos, low_encs1 L h]
  · rfl
  · rw [List.all_eq_true] at h ⊢
    intro c hc
    rw [List.mem_map] at hc
    obtain ⟨x, hx, rfl⟩ := hc
    exact ptB_smI (h x hx)
theorem smI_dot {c : Int} (h : dotB c = true) : smI c = c ∧ mayc c = false := by
  unfold dotB at h
  have := of_decide_eq_true h
  refine ⟨by unfold smI; rw [if_neg (by omega)], ?_⟩
  rcases this with rfl | rfl | rfl | rfl <;> decide +kernel
/-- what is accepted has no dot. -/
theorem nodot {L : List Int} {a : List UInt8} (hp : L.all ptB = true) (h : toA (encs1 L) = .inr a) : ∀ c ∈ L, dotB c = false := by
  intro c hc
  cases hd : dotB c with
  | false => rfl
  | true =>
    exfalso
    obtain ⟨hs, hm⟩ := smI_dot hd
    cases hf : farB (encs1 L) with
    | true =>
      rw [toA_some hf (rns_low hp)] at h
      split at h
      · next hmay =>
        unfold mayB at hmay
        have := (of_decide_eq_true hmay).1
        rw [List.all_eq_true] at this
        have h2 := this (smI c) (List.mem_map.2 ⟨c, hc, rfl⟩)
        rw [hs, hm] at h2
        cases h2
      · cases h
    | false =>
      rw [toA_near hf] at h
      split at h
      · next hh =>
        obtain ⟨_, _, hpl⟩ := host_mem hh
        have hb := ptB_bd (List.all_eq_true.1 hp c hc)
        have hsub : ∀ x ∈ enc c, x ∈ encs1 L := fun x hx => List.mem_flatMap.2 ⟨c, hc, hx⟩
        have hl : ∃ x ∈ enc c, plnB x.toNat = false := by
          unfold dotB at hd
          rcases of_decide_eq_true hd with rfl | rfl | rfl | rfl
          · exact ⟨46, by decide +kernel, by decide +kernel⟩
          · exact ⟨227, by decide +kernel, by decide +kernel⟩
          · exact ⟨239, by decide +kernel, by decide +kernel⟩
          · exact ⟨239, by decide +kernel, by decide +kernel⟩
        obtain ⟨x, hx, hxp⟩ := hl
        have := hpl x (hsub x hx)
        rw [hxp] at this
        cases this
      · cases h
/-- how an accepted label is read is a label that is accepted as it was. -/
theorem labOK_toU {u a : List UInt8} (h : toA u = .inr a) : ∃ L, encs1 L = toU a ∧ LabOK L a := by
  by_cases e : toU a = a
  · rw [e]; exact labOK_self h
  · obtain ⟨h1, h2, h3, h4⟩ := toA_fixed h
    have hne := toU_ne e
    rw [h4] at hne
    have hL : ∃ L, txt L = some (toU a) := by
      unfold toU at e ⊢
      split at e
      · next hc =>
        rw [if_pos hc]
        cases hd : Pu.dec ((low a).drop 4) with
        | inl c => rw [hd] at e; exact absurd rfl e
        | inr l =>
          rw [hd] at e
          simp only at e ⊢
          cases ht : txt (zs l) with
          | none => rw [ht] at e; exact absurd rfl e
          | some t =>
            rw [ht] at e
            simp only at e ⊢
            by_cases hto : toA t = .inr (low a)
            · rw [if_pos hto]; exact ⟨_, ht⟩
            · rw [if_neg hto] at e; exact absurd rfl e
      · exact absurd rfl e
    obtain ⟨L, hL⟩ := hL
    unfold txt at hL
    split at hL
    · next hall =>
      have he : encs1 L = toU a := by injection hL
      exact ⟨L, he, hall, nodot hall (by rw [he]; exact hne), by rw [he]; exact hne⟩
    · cases hL
theorem forall2_pick {α β γ : Type} {R : α → β → Prop} {f : α → γ} {g : β → γ} : ∀ (B : List β), (∀ b ∈ B, ∃ a, f a = g b ∧ R a b) → ∃ A, F2 R A B ∧ A.map f = B.map g := by
  intro B
  induction B with
  | nil => intro _; exact ⟨[], trivial, rfl⟩
  | cons b B ih =>
    intro h
    obtain ⟨a, h1, h2⟩ := h b (by simp)
    obtain ⟨A, h3, h4⟩ := ih (fun x hx => h x (by simp [hx]))
    exact ⟨a :: A, ⟨h2, h3⟩, by rw [List.map_cons, List.map_cons, h1, h4]⟩

/-- what is accepted is accepted once more as it is. -/
theorem hostR_fixed {s t : List UInt8} (h : hostR s = .inr t) : hostR t = .inr t := by
  obtain ⟨A, b, rfl, hne, hs, hA⟩ := hostR_inr h
  obtain ⟨Ls, h1, h2⟩ := forall2_pick (R := LabOK) (f := encs1) (g := id) A (fun a ha => by obtain ⟨u, hu⟩ := hA a ha; exact labOK_self hu)
  have := hostR_of h1 hne hs b
  rw [h2, List.map_id] at this
  exact this

def uniR (s : List UInt8) : List UInt8 := joi [46] ((spB 46 [] s).map toU)
theorem toU_nil : toU [] = [] := by decide +kernel
theorem no46 {u a : List UInt8} (h : toA u = .inr a) : ∀ c ∈ a, c ≠ 46 := by
  intro c hc e
  obtain ⟨_, _, hp⟩ := host_mem (toA_fixed h).2.2.1
  have := hp c hc
  rw [e] at this
  revert this
  decide +kernel
theorem uniR_of {A : List (List UInt8)} (hne : A ≠ []) (hA : ∀ a ∈ A, ∃ u, toA u = .inr a) (b : Bool) : uniR (joi [46] A ++ endB b) = joi [46] (A.map toU) ++ endB b := by
  have hf : ∀ a ∈ A, ∀ c ∈ a, c ≠ 46 := fun a ha => by obtain ⟨u, hu⟩ := hA a ha; exact no46 hu
  unfold uniR
  rw [joi_jB, joi_jB, joi_jB]
  cases b
  · simp only [endB, Bool.false_eq_true, if_false, List.append_nil]
    rw [spB_join A hf hne]
  · simp only [endB, if_true]
    rw [← jB_end 46 A hne, spB_join (A ++ [[]]) (fun a ha => by
      rcases List.mem_append.1 ha with h | h
      · exact hf a h
      · simp at h; subst h; simp) (by simp), List.map_append, List.map_cons, List.map_nil, toU_nil, jB_end 46 _ (by simpa using hne)]
/-- how what is accepted is read is accepted as it was. -/
theorem hostR_uni {s t : List UInt8} (h : hostR s = .inr t) : hostR (uniR t) = .inr t := by
  obtain ⟨A, b, rfl, hne, hs, hA⟩ := hostR_inr h
  obtain ⟨Ls, h1, h2⟩ := forall2_pick (R := LabOK) (f := encs1) (g := toU) A (fun a ha => by obtain ⟨u, hu⟩ := hA a ha; exact labOK_toU hu)
  have := hostR_of h1 hne hs b
  rw [h2] at this
  rw [uniR_of hne hA]
  exact this
theorem escb_pln {c : UInt8} (h : plnB c.toNat = true) : escb c = [c] := by
  unfold plnB at h
  have := of_decide_eq_true h
  unfold escb
  rw [if_neg (by omega), if_neg (by omega)]
theorem escl_pln {l : List UInt8} (h : ∀ c ∈ l, plnB c.toNat = true) : escl l = l := by
  induction l with
  | nil => rfl
  | cons c l ih => rw [escl_cons, escb_pln (h c (by simp)), ih (fun x hx => h x (by simp [hx]))]; rfl
theorem dots_jB {A : List (List UInt8)} (h : ∀ a ∈ A, ∀ c ∈ a, plnB c.toNat = true) (hne : A ≠ []) : dots A = jB 46 A ++ [46] := by
  induction A with
  | nil => exact absurd rfl hne
  | cons a r ih =>
    rw [dots_cons, escl_pln (h a (by simp))]
    rcases r with _ | ⟨M, r⟩
    · rfl
    · rw [ih (fun x hx => h x (by simp [hx])) (by simp), jB]; simp
/-- what is accepted is read as a host's name. -/
theorem prs_host {s t : List UInt8} (h : hostR s = .inr t) : ∃ (A : List (List UInt8)) (d : Bool), prs t = .inr (A, d) ∧ A ≠ [] ∧ sz A ≤ 255 ∧ ∀ a ∈ A, hostB a = true := by
  obtain ⟨A, b, rfl, hne, hs, hA⟩ := hostR_inr h
  have hh : ∀ a ∈ A, hostB a = true := fun a ha => by obtain ⟨u, hu⟩ := hA a ha; exact (toA_fixed hu).2.2.1
  have hpl : ∀ a ∈ A, ∀ c ∈ a, plnB c.toNat = true := fun a ha => (host_mem (hh a ha)).2.2
  have hchk : chk A = 0 := chk_of (by
    rw [List.all_eq_true]
    intro a ha
    obtain ⟨h1, h2, _⟩ := host_mem (hh a ha)
    unfold lokB
    exact decide_eq_true ⟨h1, h2⟩) hs
  have hd : dtxt A = jB 46 A ++ [46] := by unfold dtxt; rw [if_neg hne]; exact dots_jB hpl hne
  rw [joi_jB]
  cases b
  · have := prs_dpln hchk
    unfold dpln at this
    rw [if_neg hne, hd, List.dropLast_concat] at this
    exact ⟨A, _, by simpa [endB] using this, hne, hs, hh⟩
  · have := prs_dtxt hchk
    rw [hd] at this
    exact ⟨A, _, by simpa [endB] using this, hne, hs, hh⟩
end Go.Proofs.YtbffkddlkfefoaaDoor

/- The contracts of idna.dot, idna.split, idna.Host. -/
namespace Go.Proofs.YtbffkddlkfefoaaDoor
open Go.RowKit
attribute [local go_sem] ba_get ext_take ext_drop ext_any ba_app

set_option maxHeartbeats 400000 in
theorem dot_any (c : Int) (w : World) : Calls Tryd.prog 152 #[.int .i32 c] w fun e w' => e = .returned (.bool (dotB c)) ∧ w = w' := by
  go_enter Tryd.func152, Tryd.ntmps152
  go_wp2
  all_goals
    go_ret
    refine ⟨retb ?_, rfl⟩
    unfold dotB
    rw [Bool.eq_iff_iff]
    simp_all

def SpRel (w : World) (l : List UInt8) (P : List Int) (b k : Nat) (v : Value) (wr : World) : Prop :=
  ∃ (cur rest : List Int) (done : List (List UInt8)), rns (l.drop k) = some rest ∧ (l.take k).drop b = encs1 cur ∧ hostL P = done ++ (spA cur rest).map encs1 ∧ done.length ≤ k ∧ b ≤ k ∧ k ≤ l.length ∧ wr.ownsRow w.heap.size 9 1 v done.length (done.map stv) ∧ Below w.heap.size w wr
theorem sp_next {l : List UInt8} {k : Nat} {rest : List Int} (hk : k < l.length) (hr : rns (l.drop k) = some rest) :
    ∃ (c : Int) (n : Nat) (rest' : List Int), nx (l.drop k) = some (c, (n : Int)) ∧ 1 ≤ n ∧ n ≤ 4 ∧ k + n ≤ l.length ∧ ptB c = true ∧ rest = c :: rest' ∧ rns (l.drop (k + n)) = some rest' ∧ ∀ b, b ≤ k → (l.take (k + n)).drop b = (l.take k).drop b ++ enc c := by
  have hne : l.drop k ≠ [] := by intro h; have := congrArg List.length h; rw [List.length_drop] at this; simp at this; omega
  cases hn : nx (l.drop k) with
  | none => rw [rns_none hne hn] at hr; cases hr
  | some p =>
    obtain ⟨c, n⟩ := p
    have hb := nx_bd hn
    have he := nx_enc hn
    have hl : (l.drop k).length = l.length - k := List.length_drop
    rw [rns_some hn] at hr
    cases h2 : rns ((l.drop k).drop n.toNat) with
    | none => rw [h2] at hr; cases hr
    | some r =>
      rw [h2] at hr
      injection hr with hr
      refine ⟨c, n.toNat, r, by rw [show ((n.toNat : Nat) : Int) = n by omega], by omega, by omega, by omega, hb.2.2.2, hr.symm, by rw [← List.drop_drop]; exact h2, fun b hbk => ?_⟩
      rw [he, List.take_add, List.drop_append_of_le_length (by rw [List.length_take]; omega)]
theorem encs1_snoc (L : List Int) (c : Int) : encs1 (L ++ [c]) = encs1 L ++ enc c := by unfold encs1; rw [List.flatMap_append, List.flatMap_singleton]
theorem spA_parts (P : List Int) : ∀ cur, (∀ X ∈ spA cur P, (encs1 X).length ≤ (encs1 cur).length + (encs1 P).length) ∧ (spA cur P).length ≤ P.length + 1 := by
  induction P with
  | nil => intro cur; simp [spA]
  | cons c P ih =>
    intro cur
    have hc : (encs1 (c :: P)).length = (enc c).length + (encs1 P).length := by unfold encs1; rw [List.flatMap_cons, List.length_append]
    rw [spA]
    split
    · obtain ⟨h1, h2⟩ := ih []
      refine ⟨fun X hX => ?_, by simp; omega⟩
      rcases List.mem_cons.1 hX with rfl | hX
      · omega
      · have := h1 X hX
        have e : (encs1 []).length = 0 := rfl
        omega
    · obtain ⟨h1, h2⟩ := ih (cur ++ [c])
      refine ⟨fun X hX => ?_, by simp; omega⟩
      have := h1 X hX
      rw [encs1_snoc, List.length_append] at this
      omega
theorem hostL_bd {l : List UInt8} {P : List Int} (h : rns l = some P) : (hostL P).length ≤ l.length + 1 ∧ ∀ x ∈ hostL P, x.length ≤ l.length := by
  have hP : encs1 P = l := by
    have := txt_of_rns h
    unfold txt at this
    split at this
    · injection this
    · cases this
  obtain ⟨h1, h2⟩ := spA_parts P []
  have := (rns_bd h).1
  refine ⟨by unfold hostL; rw [List.length_map]; omega, fun x hx => ?_⟩
  unfold hostL at hx
  rw [List.mem_map] at hx
  obtain ⟨X, hX, rfl⟩ := hx
  have := h1 X hX
  have e : (encs1 []).length = 0 := rfl
  rw [hP] at this
  omega

set_option maxRecDepth 100000 in
set_option maxHeartbeats 1000000 in
theorem split_any (l : List UInt8) (P : List Int) (w : World) (hl : l.length ≤ 1000000000) (hP : rns l = some P) : Calls Tryd.prog 109 #[.string ⟨l.toArray⟩] w (TextsPost w (hostL P)) := by
  have HP := Lib.hid hP
  clear hP
  go_enter Tryd.func109, Tryd.ntmps109
  go_wp2
  go_loopw [3, 4, 5] (fun v b i wr => ∃ bn k : Nat, b = .int .i64 bn ∧ i = .int .i64 k ∧ SpRel w l P bn k v wr) (fun _ _ i _ => l.length - (intOf i).toNat)
  case atStart => exact ⟨0, 0, rfl, rfl, [], P, [], by rw [List.drop_zero]; exact HP.out, rfl, rfl, Nat.le_refl _, Nat.le_refl _, Nat.zero_le _, World.ownsRow_nil _ _ _ _, Below.refl _ _⟩
  case round =>
    obtain ⟨bn, k, rfl, rfl, cur, rest, done, h1, h2, h3, h4, h5, h6, h7, h8⟩ := hrel
    have hsz := h8.size
    by_cases hk : k < l.length
    · obtain ⟨c, n, rest', hn, n1, n4, hkn, hpt, hre, hr', hcut⟩ := sp_next hk h1
      have Hn := Lib.hid hn
      have Hr' := Lib.hid hr'
      have H2 := Lib.hid h2
      have H3 := Lib.hid (hre ▸ h3)
      have Hcut := Lib.hid (hcut bn h5)
      clear h1 h2 h3 hn hr' hcut hre
      cases hd : dotB c with
      | true =>
        have Hd := Lib.hid hd
        clear hd
        go_wp2_with fail
        refine (next_any _ _ (by rw [List.length_drop]; omega)).mono ?_
        rintro e w' ⟨rfl, rfl⟩
        rw [Hn.out]
        unfold nextV
        go_wp2_with fail
        refine (dot_any _ _).mono ?_
        rintro e w' ⟨rfl, rfl⟩
        rw [Hd.out]
        go_wp2_with (at_builtin; refine wpList_appLit rfl _ _ _ rfl elt_strs rfl h7 [stv ((l.take k).drop bn)] (m := 1) rfl rfl (by simp [stv, Value.oneCell']) ?c1 ?c2 ?c3 ?_)
        case c1 => omega
        case c2 => omega
        case c3 => omega
        intro v1 w1 ho1 hb1 _
        have R : SpRel w l P (k + n) (k + n) v1 w1 := ⟨[], rest', done ++ [(l.take k).drop bn], Hr'.out, by simp [encs1], by
          rw [H3.out, spA, if_pos Hd.out, List.map_cons, H2.out]; simp, by simp; omega, Nat.le_refl _, hkn, by simpa using ho1, h8.trans hb1⟩
        clear ho1 hb1
        go_wp2
        go_roundw
        case rel => exact ⟨k + n, k + n, by go_num, by go_num, R⟩
        case measure => simp [intOf]; omega
      | false =>
        have Hd := Lib.hid hd
        clear hd
        go_wp2_with fail
        refine (next_any _ _ (by rw [List.length_drop]; omega)).mono ?_
        rintro e w' ⟨rfl, rfl⟩
        rw [Hn.out]
        unfold nextV
        go_wp2_with fail
        refine (dot_any _ _).mono ?_
        rintro e w' ⟨rfl, rfl⟩
        rw [Hd.out]
        go_wp2
        go_roundw
        case rel => exact ⟨bn, k + n, rfl, by go_num, cur ++ [c], rest', done, Hr'.out, by rw [Hcut.out, H2.out, encs1_snoc], by rw [H3.out, spA, if_neg (by rw [Hd.out]; simp)], by omega, by omega, hkn, h7, h8⟩
        case measure => simp [intOf]; omega
    · have hke : k = l.length := by omega
      subst hke
      have hrest : rest = [] := by
        rw [List.drop_length, rns_nil] at h1
        injection h1 with h1
        exact h1.symm
      subst hrest
      rw [List.take_length] at h2
      have H2 := Lib.hid h2
      have H3 := Lib.hid h3
      clear h1 h2 h3
      go_wp2_with (at_builtin; refine wpList_appLit rfl _ _ _ rfl elt_strs rfl h7 [stv (l.drop bn)] (m := 1) rfl rfl (by simp [stv, Value.oneCell']) ?c1 ?c2 ?c3 ?_)
      case c1 => omega
      case c2 => omega
      case c3 => omega
      intro v1 w1 ho1 hb1 _
      have hL : hostL P = done ++ [l.drop bn] := by rw [H3.out, spA, List.map_cons, List.map_nil, H2.out]
      have R : TextsPost w (hostL P) (.returned v1) w1 := ⟨v1, rfl, by rw [hL]; simpa using Sl.own ho1, h8.trans hb1⟩
      clear ho1 hb1 hL
      go_wp2
      go_ret
      exact R
end Go.Proofs.YtbffkddlkfefoaaDoor

/- The contract of idna.Host. -/
namespace Go.Proofs.YtbffkddlkfefoaaDoor
open Go.RowKit
attribute [local go_sem] ba_get ext_take ext_drop ext_any ba_app

def HoPost (w : World) (s : List UInt8) (e : Ending) (w' : World) : Prop := e = .returned (encT (hostR s)) ∧ Below w.heap.size w w'
def hTail (c : List (List UInt8) × List UInt8) : Int ⊕ List UInt8 := match hGo c.1 with
  | .inl e => .inl e
  | .inr A => if 255 < sz A then .inl 3 else .inr (joi [46] A ++ c.2)
theorem hostR_tail {s : List UInt8} {P : List Int} (h : rns s = some P) : hostR s = hTail (hCut (hostL P)) := by unfold hostR; rw [h]; rfl
def hPre (D : List (List UInt8)) (o : Int ⊕ List (List UInt8)) : Int ⊕ List (List UInt8) := match o with
  | .inl e => .inl e
  | .inr R => .inr (D ++ R)
def HgRel (w : World) (A : List (List UInt8)) (k : Nat) (v : Value) (wr : World) : Prop :=
  ∃ D : List (List UInt8), hGo A = hPre D (hGo (A.drop k)) ∧ D.length = k ∧ D.all lokB = true ∧ wr.ownsRow w.heap.size 9 1 v D.length (D.map stv) ∧ Below w.heap.size w wr
theorem jB_sz (D : List (List UInt8)) : ∀ n : Nat, (jB (46 : UInt8) D).length + n ≤ D.foldl (fun n l => n + l.length + 1) n := by
  induction D with
  | nil => intro n; simp [jB]
  | cons x r ih =>
    intro n
    rcases r with _ | ⟨y, r⟩
    · simp [jB]; omega
    · have := ih (n + x.length + 1)
      rw [jB, List.length_append, List.length_cons, List.foldl_cons]
      omega
theorem joi_sz (D : List (List UInt8)) (_ : D.all lokB = true) : (joi [46] D).length ≤ sz D := by
  have := jB_sz D 1
  rw [joi_jB]
  unfold sz
  omega
theorem Sl.take {w : World} {b off n c k : Nat} {xs : List Value} (h : Sl w 1 (.slice (some ⟨b, off, none⟩) n c) n xs) (hk : k ≤ n) : Sl w 1 (.slice (some ⟨b, off, none⟩) k c) k (xs.take k) := by
  obtain ⟨h0, A, c', hv, hc, hA, hcell⟩ := h
  injection hv with hv1 _ hv2
  subst hv1 hv2
  refine ⟨by rw [List.length_take]; omega, _, c, rfl, by omega, hA, fun ad had hpos => ?_⟩
  obtain ⟨h1, h2, h3⟩ := hcell ad had (by omega)
  refine ⟨h1, h2, fun j u hu => h3 j u ?_⟩
  rw [List.getElem?_take] at hu
  split at hu
  · exact hu
  · cases hu

set_option maxRecDepth 100000 in
set_option maxHeartbeats 2000000 in
theorem host_any (l : List UInt8) (w : World) (hl : l.length ≤ 10000000) : Calls Tryd.prog 55 #[.string ⟨l.toArray⟩] w (HoPost w l) := by
  cases hP : rns l with
  | none =>
    have HP := Lib.hid hP
    clear hP
    go_enter Tryd.func55, Tryd.ntmps55
    go_wp2_with fail
    refine (runes_any _ _ (by omega)).mono ?_
    intro e w1 hp1
    obtain ⟨vr, rfl, hb1⟩ := rns_no hp1 HP.out
    clear hp1
    go_wp2
    go_ret2
    exact ⟨by unfold hostR; rw [HP.out]; rfl, hb1⟩
  | some P =>
    obtain ⟨hbd1, hbd2⟩ := hostL_bd hP
    have HR := Lib.hid (hostR_tail hP)
    have HP := Lib.hid hP
    have Hll0 := Lib.hid hbd2
    have hLne : hostL P ≠ [] := by unfold hostL; simpa using spA_ne P []
    clear hP hbd2
    go_enter Tryd.func55, Tryd.ntmps55
    go_wp2_with fail
    refine (runes_any _ _ (by omega)).mono ?_
    intro e w1 hp1
    obtain ⟨vr, rfl, _, hb1⟩ := rns_sl hp1 HP.out
    clear hp1
    go_wp2_with fail
    refine (split_any l P _ (by omega) HP.out).mono ?_
    rintro e w2 ⟨v, rfl, hs, hb2⟩
    have hb02 := bel_tr hb1 hb2
    clear hb1 hb2
    generalize hostL P = L at *
    clear HP
    obtain ⟨m, hm⟩ : ∃ m, L.length = m + 1 := ⟨L.length - 1, by have := List.length_pos_iff.2 hLne; omega⟩
    rw [hm] at hs hbd1
    clear hLne
    have Hm := Lib.hid hm
    obtain ⟨b1, o1, c1, rfl, hc1, hb1', hcL⟩ := hs.pos (by omega)
    by_cases hcut : 1 ≤ m ∧ L[m]'(by omega) = []
    · have hC : hCut L = (L.take m, [46]) := by
        unfold hCut
        rw [hm, if_pos ⟨by omega, by rw [Nat.add_sub_cancel, List.getElem?_eq_getElem (by omega), hcut.2]⟩, Nat.add_sub_cancel]
      have q0 : w2.cell? ⟨b1, o1 + m, none⟩ = some (.string ⟨([] : List UInt8).toArray⟩) := by
        have := sl_at hcL (by omega : m < L.length)
        rw [hcut.2] at this
        exact this
      have hm1 := hcut.1
      have HsA := hs.take (k := m) (by omega)
      rw [← List.map_take] at HsA
      obtain ⟨_, _, _, hv', _, _, hcA⟩ := HsA.pos (by omega)
      injection hv' with hv1 _ hv2
      injection hv1 with hv1
      injection hv1 with hv3 hv4
      subst hv2 hv3 hv4
      have Hll := Lib.hid (fun x (hx : x ∈ L.take m) => Hll0.out x (List.mem_of_mem_take hx))
      have HA := Lib.hid (show (L.take m).length = m by rw [List.length_take]; omega)
      have HC := Lib.hid hC
      have HcA := Lib.hid hcA
      clear hcA hcL hs HsA hC hcut Hll0 hm Hm
      generalize L.take m = A at *
      have i0 : (0 : Int) < (m : Int) := by omega
      clear hm1
      go_wp2_with (first | (at_make; refine wpList_mk0 rfl _ _ _ rfl elt_name (base := w2.heap.size) (m) rfl rfl (by omega) (by omega) (by omega) (Nat.le_refl _) ?_; intro w3 ho3 hbw3))
      go_loopw [9, 43] (fun v i wr => ∃ k : Nat, k ≤ m ∧ i = .int .i64 k ∧ HgRel w2 A k v wr) (fun _ i _ => m - (intOf i).toNat)
      case atStart => exact ⟨0, Nat.zero_le _, rfl, [], by rw [List.drop_zero]; cases hGo A <;> rfl, rfl, rfl, ho3, hbw3⟩
      case round =>
        obtain ⟨k, hk, rfl, D, g1, g2, g3, g4, g5⟩ := hrel
        have G1 := Lib.hid g1
        have G2 := Lib.hid g2
        have G3 := Lib.hid g3
        have g2a : D.length ≤ k := by omega
        have g2b : k ≤ D.length := by omega
        have hsz := g5.size
        clear g1 g2 g3 ho3 hbw3
        by_cases hlt : k < m
        · have i1 : (k : Int) < (m : Int) := by omega
          have hkA : k < A.length := by rw [HA.out]; exact hlt
          have hmem : A[k] ∈ A := List.getElem_mem _
          have q1 : wr.cell? ⟨b1, o1 + k, none⟩ = some (.string ⟨A[k].toArray⟩) := (bel_cells g5 hb1' (o1 + k)).trans (sl_at HcA.out hkA)
          have hlk := Hll.out A[k] hmem
          have hdr : hGo (A.drop k) = if A[k] = [] then .inl 8 else match toA A[k] with | .inl e => .inl e | .inr a => match hGo (A.drop (k + 1)) with | .inl e => .inl e | .inr R => .inr (a :: R) := by rw [List.drop_eq_getElem_cons hkA]; rfl
          have Hdr := Lib.hid hdr
          clear hdr hmem
          generalize A[k] = t at *
          by_cases ht : t = []
          · have R : HoPost w l (.returned (.tuple #[.string ⟨#[]⟩, .int .i64 8])) wr := ⟨by rw [HR.out, HC.out]; simp only [hTail]; rw [G1.out, Hdr.out, if_pos ht]; rfl, bel_tr hb02 g5⟩
            subst ht
            go_wp2
            go_ret2
            exact R
          · have ht1 : t.isEmpty = false := by simpa using ht
            cases hta : toA t with
            | inl c =>
              have hc := toA_inl hta
              have Hc := Lib.hid hta
              have R : ∀ wz, Below wr.heap.size wr wz → HoPost w l (.returned (.tuple #[.string ⟨#[]⟩, .int .i64 c])) wz := fun wz hz => ⟨by rw [HR.out, HC.out]; simp only [hTail]; rw [G1.out, Hdr.out, if_neg ht, Hc.out]; rfl, bel_tr (bel_tr hb02 g5) hz⟩
              clear hta
              go_wp2_with fail
              refine (toascii_any _ _ (by omega)).mono ?_
              rintro e w4 ⟨rfl, hb4⟩
              rw [Hc.out]
              unfold encT
              go_wp2
              go_ret2
              exact R _ hb4
            | inr a =>
              have ha63 := (toA_fixed hta).2.1
              have hah := host_mem (toA_fixed hta).2.2.1
              have ha1 := hah.1
              have Hc := Lib.hid hta
              clear hta hah
              go_wp2_with fail
              refine (toascii_any _ _ (by omega)).mono ?_
              rintro e w4 ⟨rfl, hb4⟩
              rw [Hc.out]
              unfold encT
              have g4' := own_below g4 hb4
              have hsz4 := hb4.size
              go_wp2_with (at_builtin; refine wpList_appLit rfl _ _ _ rfl elt_name rfl g4' [stv a] (m := 1) rfl rfl (by simp [stv, Value.oneCell']) ?c1 ?c2 ?c3 ?_)
              case c1 => omega
              case c2 => omega
              case c3 => omega
              intro v1 w5 ho5 hb5 _
              have R : HgRel w2 A (k + 1) v1 w5 := ⟨D ++ [a], by rw [G1.out, Hdr.out, if_neg ht, Hc.out]; cases hGo (A.drop (k + 1)) <;> simp [hPre], by simp; omega, by rw [List.all_append, G3.out]; simp [lokB]; omega, by simpa using ho5, (bel_tr g5 hb4).trans hb5⟩
              clear ho5 hb5
              go_wp2
              go_roundw
              case rel => exact ⟨k + 1, by omega, by go_num, R⟩
              case measure => simp [intOf] <;> omega
        · have hd0 : A.drop k = [] := List.drop_of_length_le (by rw [HA.out]; omega)
          have hG : hGo A = .inr D := by rw [G1.out, hd0]; simp [hGo, hPre]
          have HG := Lib.hid hG
          have hsl := Sl.own g4
          have hzD := sz_ok G3.out
          have hjl := joi_sz D G3.out
          clear hG hd0
          obtain ⟨A9, c9, hv9, _⟩ := hsl.any
          subst hv9
          have Hs := Lib.hid hsl
          clear hsl
          have i1 : ¬ (k : Int) < (m : Int) := by omega
          by_cases h255 : 255 < sz D
          · have R : HoPost w l (.returned (.tuple #[.string ⟨#[]⟩, .int .i64 3])) wr := ⟨by rw [HR.out, HC.out]; simp only [hTail]; rw [HG.out]; simp only; rw [if_pos h255]; rfl, bel_tr hb02 g5⟩
            go_wp2_with fail
            refine (size_any D _ _ Hs.out (by omega) (by omega)).mono ?_
            rintro e w' ⟨rfl, rfl⟩
            go_wp2
            go_ret2
            exact R
          · have R : ∀ wz, Below wr.heap.size wr wz → HoPost w l (.returned (.tuple #[.string ⟨(joi [46] D ++ [46]).toArray⟩, .int .i64 0])) wz := fun wz hz => ⟨by rw [HR.out, HC.out]; simp only [hTail]; rw [HG.out]; simp only; rw [if_neg h255]; rfl, bel_tr (bel_tr hb02 g5) hz⟩
            have i2 : ¬ (255 : Int) < ((sz D : Nat) : Int) := by omega
            go_wp2_with fail
            refine (size_any D _ _ Hs.out (by omega) (by omega)).mono ?_
            rintro e w' ⟨rfl, rfl⟩
            go_wp2_with fail
            refine (join_any [46] D _ _ Hs.out (by omega) (by omega)).mono ?_
            rintro e w4 ⟨rfl, hb4⟩
            have R' := R w4 hb4
            generalize joi [46] D = J at *
            go_wp2
            go_ret2
            exact R'

    · have hC : hCut L = (L, []) := by
        unfold hCut
        rw [hm, if_neg]
        rintro ⟨h1, h2⟩
        rw [Nat.add_sub_cancel, List.getElem?_eq_getElem (by omega)] at h2
        injection h2 with h2
        exact hcut ⟨by omega, h2⟩
      have q0 : w2.cell? ⟨b1, o1 + m, none⟩ = some (.string ⟨(L[m]'(by omega)).toArray⟩) := sl_at hcL (by omega : m < L.length)
      have hor : m = 0 ∨ (1 ≤ m ∧ (L[m]'(by omega)).isEmpty = false) := by
        rcases Nat.eq_zero_or_pos m with h | h
        · exact .inl h
        · refine .inr ⟨h, ?_⟩
          have : L[m]'(by omega) ≠ [] := fun e => hcut ⟨h, e⟩
          simpa using this
      generalize L[m]'(by omega) = last at q0 hor
      have Hll := Hll0
      have HA := Hm
      have HC := Lib.hid hC
      have HcA := Lib.hid hcL
      clear hcL hs hC hcut Hll0 hm Hm
      generalize L = A at *
      rcases hor with hz | ⟨hz, hla⟩
      · subst hz
        clear q0
        go_wp2_with (first | (at_make; refine wpList_mk0 rfl _ _ _ rfl elt_name (base := w2.heap.size) (0 + 1) rfl rfl (by omega) (by omega) (by omega) (Nat.le_refl _) ?_; intro w3 ho3 hbw3))
        go_loopw [9, 43] (fun v i wr => ∃ k : Nat, k ≤ 0 + 1 ∧ i = .int .i64 k ∧ HgRel w2 A k v wr) (fun _ i _ => 0 + 1 - (intOf i).toNat)
        case atStart => exact ⟨0, Nat.zero_le _, rfl, [], by rw [List.drop_zero]; cases hGo A <;> rfl, rfl, rfl, ho3, hbw3⟩
        case round =>
          obtain ⟨k, hk, rfl, D, g1, g2, g3, g4, g5⟩ := hrel
          have G1 := Lib.hid g1
          have G2 := Lib.hid g2
          have G3 := Lib.hid g3
          have g2a : D.length ≤ k := by omega
          have g2b : k ≤ D.length := by omega
          have hsz := g5.size
          clear g1 g2 g3 ho3 hbw3
          by_cases hlt : k < 0 + 1
          · have i1 : (k : Int) < ((0 + 1 : Nat) : Int) := by omega
            have hkA : k < A.length := by rw [HA.out]; exact hlt
            have hmem : A[k] ∈ A := List.getElem_mem _
            have q1 : wr.cell? ⟨b1, o1 + k, none⟩ = some (.string ⟨A[k].toArray⟩) := (bel_cells g5 hb1' (o1 + k)).trans (sl_at HcA.out hkA)
            have hlk := Hll.out A[k] hmem
            have hdr : hGo (A.drop k) = if A[k] = [] then .inl 8 else match toA A[k] with | .inl e => .inl e | .inr a => match hGo (A.drop (k + 1)) with | .inl e => .inl e | .inr R => .inr (a :: R) := by rw [List.drop_eq_getElem_cons hkA]; rfl
            have Hdr := Lib.hid hdr
            clear hdr hmem
            generalize A[k] = t at *
            by_cases ht : t = []
            · have R : HoPost w l (.returned (.tuple #[.string ⟨#[]⟩, .int .i64 8])) wr := ⟨by rw [HR.out, HC.out]; simp only [hTail]; rw [G1.out, Hdr.out, if_pos ht]; rfl, bel_tr hb02 g5⟩
              subst ht
              go_wp2
              go_ret2
              exact R
            · have ht1 : t.isEmpty = false := by simpa using ht
              cases hta : toA t with
              | inl c =>
                have hc := toA_inl hta
                have Hc := Lib.hid hta
                have R : ∀ wz, Below wr.heap.size wr wz → HoPost w l (.returned (.tuple #[.string ⟨#[]⟩, .int .i64 c])) wz := fun wz hz => ⟨by rw [HR.out, HC.out]; simp only [hTail]; rw [G1.out, Hdr.out, if_neg ht, Hc.out]; rfl, bel_tr (bel_tr hb02 g5) hz⟩
                clear hta
                go_wp2_with fail
                refine (toascii_any _ _ (by omega)).mono ?_
                rintro e w4 ⟨rfl, hb4⟩
                rw [Hc.out]
                unfold encT
                go_wp2
                go_ret2
                exact R _ hb4
              | inr a =>
                have ha63 := (toA_fixed hta).2.1
                have hah := host_mem (toA_fixed hta).2.2.1
                have ha1 := hah.1
                have Hc := Lib.hid hta
                clear hta hah
                go_wp2_with fail
                refine (toascii_any _ _ (by omega)).mono ?_
                rintro e w4 ⟨rfl, hb4⟩
                rw [Hc.out]
                unfold encT
                have g4' := own_below g4 hb4
                have hsz4 := hb4.size
                go_wp2_with (at_builtin; refine wpList_appLit rfl _ _ _ rfl elt_name rfl g4' [stv a] (m := 1) rfl rfl (by simp [stv, Value.oneCell']) ?c1 ?c2 ?c3 ?_)
                case c1 => omega
                case c2 => omega
                case c3 => omega
                intro v1 w5 ho5 hb5 _
                have R : HgRel w2 A (k + 1) v1 w5 := ⟨D ++ [a], by rw [G1.out, Hdr.out, if_neg ht, Hc.out]; cases hGo (A.drop (k + 1)) <;> simp [hPre], by simp; omega, by rw [List.all_append, G3.out]; simp [lokB]; omega, by simpa using ho5, (bel_tr g5 hb4).trans hb5⟩
                clear ho5 hb5
                go_wp2
                go_roundw
                case rel => exact ⟨k + 1, by omega, by go_num, R⟩
                case measure => simp [intOf] <;> omega
          · have hd0 : A.drop k = [] := List.drop_of_length_le (by rw [HA.out]; omega)
            have hG : hGo A = .inr D := by rw [G1.out, hd0]; simp [hGo, hPre]
            have HG := Lib.hid hG
            have hsl := Sl.own g4
            have hzD := sz_ok G3.out
            have hjl := joi_sz D G3.out
            clear hG hd0
            obtain ⟨A9, c9, hv9, _⟩ := hsl.any
            subst hv9
            have Hs := Lib.hid hsl
            clear hsl
            have i1 : ¬ (k : Int) < ((0 + 1 : Nat) : Int) := by omega
            by_cases h255 : 255 < sz D
            · exact absurd h255 (by omega)
            · have R : ∀ wz, Below wr.heap.size wr wz → HoPost w l (.returned (.tuple #[.string ⟨(joi [46] D).toArray⟩, .int .i64 0])) wz := fun wz hz => ⟨by rw [HR.out, HC.out]; simp only [hTail]; rw [HG.out]; simp only; rw [if_neg h255, List.append_nil]; rfl, bel_tr (bel_tr hb02 g5) hz⟩
              have i2 : ¬ (255 : Int) < ((sz D : Nat) : Int) := by omega
              go_wp2_with fail
              refine (size_any D _ _ Hs.out (by omega) (by omega)).mono ?_
              rintro e w' ⟨rfl, rfl⟩
              go_wp2_with fail
              refine (join_any [46] D _ _ Hs.out (by omega) (by omega)).mono ?_
              rintro e w4 ⟨rfl, hb4⟩
              have R' := R w4 hb4
              generalize joi [46] D = J at *
              go_wp2
              go_ret2
              exact R'

      · have i0 : (0 : Int) < (m : Int) := by omega
        go_wp2_with (first | (at_make; refine wpList_mk0 rfl _ _ _ rfl elt_name (base := w2.heap.size) (m + 1) rfl rfl (by omega) (by omega) (by omega) (Nat.le_refl _) ?_; intro w3 ho3 hbw3))
        go_loopw [9, 43] (fun v i wr => ∃ k : Nat, k ≤ m + 1 ∧ i = .int .i64 k ∧ HgRel w2 A k v wr) (fun _ i _ => m + 1 - (intOf i).toNat)
        case atStart => exact ⟨0, Nat.zero_le _, rfl, [], by rw [List.drop_zero]; cases hGo A <;> rfl, rfl, rfl, ho3, hbw3⟩
        case round =>
          obtain ⟨k, hk, rfl, D, g1, g2, g3, g4, g5⟩ := hrel
          have G1 := Lib.hid g1
          have G2 := Lib.hid g2
          have G3 := Lib.hid g3
          have g2a : D.length ≤ k := by omega
          have g2b : k ≤ D.length := by omega
          have hsz := g5.size
          clear g1 g2 g3 ho3 hbw3
          by_cases hlt : k < m + 1
          · have i1 : (k : Int) < ((m + 1 : Nat) : Int) := by omega
            have hkA : k < A.length := by rw [HA.out]; exact hlt
            have hmem : A[k] ∈ A := List.getElem_mem _
            have q1 : wr.cell? ⟨b1, o1 + k, none⟩ = some (.string ⟨A[k].toArray⟩) := (bel_cells g5 hb1' (o1 + k)).trans (sl_at HcA.out hkA)
            have hlk := Hll.out A[k] hmem
            have hdr : hGo (A.drop k) = if A[k] = [] then .inl 8 else match toA A[k] with | .inl e => .inl e | .inr a => match hGo (A.drop (k + 1)) with | .inl e => .inl e | .inr R => .inr (a :: R) := by rw [List.drop_eq_getElem_cons hkA]; rfl
            have Hdr := Lib.hid hdr
            clear hdr hmem
            generalize A[k] = t at *
            by_cases ht : t = []
            · have R : HoPost w l (.returned (.tuple #[.string ⟨#[]⟩, .int .i64 8])) wr := ⟨by rw [HR.out, HC.out]; simp only [hTail]; rw [G1.out, Hdr.out, if_pos ht]; rfl, bel_tr hb02 g5⟩
              subst ht
              go_wp2
              go_ret2
              exact R
            · have ht1 : t.isEmpty = false := by simpa using ht
              cases hta : toA t with
              | inl c =>
                have hc := toA_inl hta
                have Hc := Lib.hid hta
                have R : ∀ wz, Below wr.heap.size wr wz → HoPost w l (.returned (.tuple #[.string ⟨#[]⟩, .int .i64 c])) wz := fun wz hz => ⟨by rw [HR.out, HC.out]; simp only [hTail]; rw [G1.out, Hdr.out, if_neg ht, Hc.out]; rfl, bel_tr (bel_tr hb02 g5) hz⟩
                clear hta
                go_wp2_with fail
                refine (toascii_any _ _ (by omega)).mono ?_
                rintro e w4 ⟨rfl, hb4⟩
                rw [Hc.out]
                unfold encT
                go_wp2
                go_ret2
                exact R _ hb4
              | inr a =>
                have ha63 := (toA_fixed hta).2.1
                have hah := host_mem (toA_fixed hta).2.2.1
                have ha1 := hah.1
                have Hc := Lib.hid hta
                clear hta hah
                go_wp2_with fail
                refine (toascii_any _ _ (by omega)).mono ?_
                rintro e w4 ⟨rfl, hb4⟩
                rw [Hc.out]
                unfold encT
                have g4' := own_below g4 hb4
                have hsz4 := hb4.size
                go_wp2_with (at_builtin; refine wpList_appLit rfl _ _ _ rfl elt_name rfl g4' [stv a] (m := 1) rfl rfl (by simp [stv, Value.oneCell']) ?c1 ?c2 ?c3 ?_)
                case c1 => omega
                case c2 => omega
                case c3 => omega
                intro v1 w5 ho5 hb5 _
                have R : HgRel w2 A (k + 1) v1 w5 := ⟨D ++ [a], by rw [G1.out, Hdr.out, if_neg ht, Hc.out]; cases hGo (A.drop (k + 1)) <;> simp [hPre], by simp; omega, by rw [List.all_append, G3.out]; simp [lokB]; omega, by simpa using ho5, (bel_tr g5 hb4).trans hb5⟩
                clear ho5 hb5
                go_wp2
                go_roundw
                case rel => exact ⟨k + 1, by omega, by go_num, R⟩
                case measure => simp [intOf] <;> omega
          · have hd0 : A.drop k = [] := List.drop_of_length_le (by rw [HA.out]; omega)
            have hG : hGo A = .inr D := by rw [G1.out, hd0]; simp [hGo, hPre]
            have HG := Lib.hid hG
            have hsl := Sl.own g4
            have hzD := sz_ok G3.out
            have hjl := joi_sz D G3.out
            clear hG hd0
            obtain ⟨A9, c9, hv9, _⟩ := hsl.any
            subst hv9
            have Hs := Lib.hid hsl
            clear hsl
            have i1 : ¬ (k : Int) < ((m + 1 : Nat) : Int) := by omega
            by_cases h255 : 255 < sz D
            · have R : HoPost w l (.returned (.tuple #[.string ⟨#[]⟩, .int .i64 3])) wr := ⟨by rw [HR.out, HC.out]; simp only [hTail]; rw [HG.out]; simp only; rw [if_pos h255]; rfl, bel_tr hb02 g5⟩
              go_wp2_with fail
              refine (size_any D _ _ Hs.out (by omega) (by omega)).mono ?_
              rintro e w' ⟨rfl, rfl⟩
              go_wp2
              go_ret2
              exact R
            · have R : ∀ wz, Below wr.heap.size wr wz → HoPost w l (.returned (.tuple #[.string ⟨(joi [46] D).toArray⟩, .int .i64 0])) wz := fun wz hz => ⟨by rw [HR.out, HC.out]; simp only [hTail]; rw [HG.out]; simp only; rw [if_neg h255, List.append_nil]; rfl, bel_tr (bel_tr hb02 g5) hz⟩
              have i2 : ¬ (255 : Int) < ((sz D : Nat) : Int) := by omega
              go_wp2_with fail
              refine (size_any D _ _ Hs.out (by omega) (by omega)).mono ?_
              rintro e w' ⟨rfl, rfl⟩
              go_wp2_with fail
              refine (join_any [46] D _ _ Hs.out (by omega) (by omega)).mono ?_
              rintro e w4 ⟨rfl, hb4⟩
              have R' := R w4 hb4
              generalize joi [46] D = J at *
              go_wp2
              go_ret2
              exact R'

end Go.Proofs.YtbffkddlkfefoaaDoor

/- works of layer 4; the walks of LabelFixed and LabelBack. -/
namespace Go.Proofs.YtbffkddlkfefoaaDoor
open Go.RowKit
attribute [local go_sem] ba_get ext_drop ext_take ba_app

theorem toU_len (s : List UInt8) (h : s.length ≤ 16384) : (toU s).length ≤ 16384 := by
  unfold toU
  split
  · split
    · exact h
    · next l hd =>
      split
      · exact h
      · next t ht =>
        split
        · have h1 := txt_len ht
          have h2 := (dec_bd hd).2
          rw [zs_len] at h1
          omega
        · exact h
  · exact h

end Go.Proofs.YtbffkddlkfefoaaDoor
