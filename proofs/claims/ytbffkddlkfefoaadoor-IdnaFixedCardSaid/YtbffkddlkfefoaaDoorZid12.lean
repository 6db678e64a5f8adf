/- Contracts and plain lemmas of our own, merged. -/
import Derived.Test.YtbffkddlkfefoaaDoorZid6
import Derived.OpenShut
/- The walks of the three laws of layer 2. -/
namespace Go.Proofs.YtbffkddlkfefoaaDoor
open Go.RowKit
attribute [local go_sem] ba_get

theorem rnsF_bd (k : Nat) : ∀ (l : List UInt8) (A : List Int), rnsF k l = some A → A.length ≤ l.length ∧ ∀ x ∈ A, ptB x = true := by
  induction k with
  | zero =>
    intro l A h
    simp only [rnsF] at h
    split at h
    · cases h; exact ⟨by simp, fun _ h => by cases h⟩
    · cases h
  | succ k ih =>
    intro l A h
    simp only [rnsF] at h
    split at h
    · cases h; exact ⟨by simp, fun _ h => by cases h⟩
    · rcases hn : nx l with _ | ⟨c, n⟩
      · rw [hn] at h; cases h
      · rw [hn] at h
        dsimp only at h
        obtain ⟨B, hB, rfl⟩ := Option.map_eq_some_iff.1 h
        have hb := nx_bd hn
        obtain ⟨h1, h2⟩ := ih _ _ hB
        rw [List.length_drop] at h1
        refine ⟨by simp; omega, fun x hx => ?_⟩
        rcases List.mem_cons.1 hx with rfl | hx
        · exact hb.2.2.2
        · exact h2 x hx
theorem rns_bd {l : List UInt8} {A : List Int} (h : rns l = some A) : A.length ≤ l.length ∧ ∀ x ∈ A, ptB x = true := rnsF_bd _ _ _ h
/-! the plain law: reading and writing undo each other -/
theorem tail_some {c c' : Int} {n : Nat} {n' : Int} {l : List UInt8} (h : tailOk c n l = some (c', n')) : c' = c ∧ n' = n ∧ enc c = l.take n := by
  unfold tailOk at h
  split at h
  · next hh => cases h; exact ⟨rfl, rfl, hh.2⟩
  · cases h
theorem nx_enc {l : List UInt8} {c n : Int} (h : nx l = some (c, n)) : enc c = l.take n.toNat := by
  rcases l with _ | ⟨a, r⟩
  · simp [nx] at h
  · rcases (show ((a.toNat : Int) < 128 ∨ ((128 ≤ (a.toNat : Int) ∧ (a.toNat : Int) < 192) ∨ 248 ≤ (a.toNat : Int)) ∨ (192 ≤ (a.toNat : Int) ∧ (a.toNat : Int) < 224) ∨ (224 ≤ (a.toNat : Int) ∧ (a.toNat : Int) < 240) ∨ (240 ≤ (a.toNat : Int) ∧ (a.toNat : Int) < 248)) by omega) with h' | h' | ⟨h1, h2⟩ | ⟨h1, h2⟩ | ⟨h1, h2⟩
    · rw [← nx_tail1 a r h'] at h
      obtain ⟨e1, e2, h⟩ := tail_some h
      rw [e1, e2, Int.toNat_natCast]
      exact h
    · rw [nx_cons, nx1_0 _ _ h'] at h; cases h
    · rcases r with _ | ⟨b, r⟩
      · rw [nx_cons, nx1_2 _ _ h1 h2] at h; cases h
      · rw [← nx_tail2 a b r h1 h2] at h
        obtain ⟨e1, e2, h⟩ := tail_some h
        rw [e1, e2, Int.toNat_natCast]
        exact h
    · rcases r with _ | ⟨b, _ | ⟨d, r⟩⟩
      · rw [nx_cons, nx1_3 _ _ h1 h2] at h; cases h
      · rw [nx_cons, nx1_3 _ _ h1 h2] at h; cases h
      · rw [← nx_tail3 a b d r h1 h2] at h
        obtain ⟨e1, e2, h⟩ := tail_some h
        rw [e1, e2, Int.toNat_natCast]
        exact h
    · rcases r with _ | ⟨b, _ | ⟨d, _ | ⟨f, r⟩⟩⟩
      · rw [nx_cons, nx1_4 _ _ h1 h2] at h; cases h
      · rw [nx_cons, nx1_4 _ _ h1 h2] at h; cases h
      · rw [nx_cons, nx1_4 _ _ h1 h2] at h; cases h
      · rw [← nx_tail4 a b d f r h1 h2] at h
        obtain ⟨e1, e2, h⟩ := tail_some h
        rw [e1, e2, Int.toNat_natCast]
        exact h
theorem u8n {n : Nat} (h : n < 256) : (UInt8.ofNat n).toNat = n := UInt8.toNat_ofNat_of_lt' h
theorem nx_of_enc {c : Int} (hp : ptB c = true) (r : List UInt8) : nx (enc c ++ r) = some (c, ((enc c).length : Int)) := by
  have hb := ptB_bd hp
  rcases (show c < 128 ∨ (128 ≤ c ∧ c < 2048) ∨ (2048 ≤ c ∧ c < 65536) ∨ 65536 ≤ c by omega) with h | ⟨h, h'⟩ | ⟨h, h'⟩ | h
  · have e : enc c = [UInt8.ofNat c.toNat] := by unfold enc; rw [if_pos h]
    rw [e]
    simp only [List.cons_append, List.nil_append]
    rw [nx_cons, u8n (by omega), nx1_1 _ _ (by omega)]
    simp only [List.length_cons, List.length_nil]
    congr 2
    omega
  · rw [enc_of2 h h']
    simp only [List.cons_append, List.nil_append]
    rw [nx_cons, u8n (by omega), nx1_2 _ _ (by omega) (by omega)]
    simp only [nx2]
    rw [u8n (by omega), if_pos (by omega), show (((192 + c.toNat / 64 : Nat) : Int) % 32 * 64 + ((128 + c.toNat % 64 : Nat) : Int) % 64) = c by omega, ck_ok h hp]
    rfl
  · rw [enc_of3 h h']
    simp only [List.cons_append, List.nil_append]
    rw [nx_cons, u8n (by omega), nx1_3 _ _ (by omega) (by omega)]
    simp only [nx3]
    rw [u8n (by omega), u8n (by omega), if_pos (by omega), if_pos (by omega), show ((((224 + c.toNat / 4096 : Nat) : Int) % 16 * 64 + ((128 + c.toNat / 64 % 64 : Nat) : Int) % 64) * 64 + ((128 + c.toNat % 64 : Nat) : Int) % 64) = c by omega, ck_ok h hp]
    rfl
  · rw [enc_of4 h]
    simp only [List.cons_append, List.nil_append]
    rw [nx_cons, u8n (by omega), nx1_4 _ _ (by omega) (by omega)]
    simp only [nx4]
    rw [u8n (by omega), u8n (by omega), u8n (by omega), if_pos (by omega), if_pos (by omega), if_pos (by omega), show (((((240 + c.toNat / 262144 : Nat) : Int) % 8 * 64 + ((128 + c.toNat / 4096 % 64 : Nat) : Int) % 64) * 64 + ((128 + c.toNat / 64 % 64 : Nat) : Int) % 64) * 64 + ((128 + c.toNat % 64 : Nat) : Int) % 64) = c by omega, ck_ok h hp]
    rfl
theorem rns_of_txt {A : List Int} {t : List UInt8} (h : txt A = some t) : rns t = some A := by
  unfold txt at h
  split at h
  · next hp =>
    cases h
    induction A with
    | nil => rfl
    | cons c A ih =>
      rw [List.all_cons, Bool.and_eq_true] at hp
      rw [List.flatMap_cons, rns_some (nx_of_enc hp.1 _), Int.toNat_natCast, List.drop_left, ih hp.2]
      rfl
  · cases h
theorem txt_of_rnsF (k : Nat) : ∀ (l : List UInt8) (A : List Int), rnsF k l = some A → A.all ptB = true ∧ A.flatMap enc = l := by
  induction k with
  | zero =>
    intro l A h
    simp only [rnsF] at h
    split at h
    · next hl => cases h; exact ⟨rfl, by rw [hl]; rfl⟩
    · cases h
  | succ k ih =>
    intro l A h
    simp only [rnsF] at h
    split at h
    · next hl => cases h; exact ⟨rfl, by rw [hl]; rfl⟩
    · rcases hn : nx l with _ | ⟨c, n⟩
      · rw [hn] at h; cases h
      · rw [hn] at h
        dsimp only at h
        obtain ⟨B, hB, rfl⟩ := Option.map_eq_some_iff.1 h
        obtain ⟨h1, h2⟩ := ih _ _ hB
        refine ⟨by rw [List.all_cons, (nx_bd hn).2.2.2, h1]; rfl, ?_⟩
        rw [List.flatMap_cons, h2, nx_enc hn, List.take_append_drop]
theorem txt_of_rns {l : List UInt8} {A : List Int} (h : rns l = some A) : txt A = some l := by
  obtain ⟨h1, h2⟩ := txt_of_rnsF _ _ _ h
  unfold txt
  rw [if_pos h1, h2]
theorem encs_len (A : List Int) : (A.flatMap enc).length ≤ 4 * A.length := by
  induction A with
  | nil => simp
  | cons c A ih =>
    have := enc_len c
    rw [List.flatMap_cons, List.length_append, List.length_cons]
    omega
theorem txt_len {A : List Int} {t : List UInt8} (h : txt A = some t) : t.length ≤ 4 * A.length := by
  unfold txt at h
  split at h
  · cases h
    exact encs_len A
  · cases h

end Go.Proofs.YtbffkddlkfefoaaDoor
