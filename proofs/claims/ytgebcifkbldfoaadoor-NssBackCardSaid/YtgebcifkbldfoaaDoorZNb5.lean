/- Contracts and plain lemmas of our own, merged. -/
import Derived.Test.YtgebcifkbldfoaaDoorZNb1
import Derived.Test.YtgebcifkbldfoaaDoorZNb4
import Derived.Test.YtgebcifkbldfoaaDoorProg
import Derived.Lib.BufferRead
import Derived.Laws.IdiomStrings
/- Words of our own for rows of bytes and of texts. -/
namespace Go.Proofs.YtgebcifkbldfoaaDoor
open Go.RowKit

theorem ba_app (a b : List UInt8) : ByteArray.mk a.toArray ++ ByteArray.mk b.toArray = ⟨(a ++ b).toArray⟩ := by
  apply ByteArray.ext
  simp [ByteArray.data_append]
/-- a byte as a value. -/
def byv (b : UInt8) : Value := .int .u8 (b.toNat : Int)
theorem str_of_sl {P : Program} {w : World} {v : Value} {l : List UInt8} {src dst e : TypeId} (hs : P.underlying src = some (.slice e)) (he : P.underlying e = some (.int .u8)) (hd : P.underlying dst = some .string)
    (h : Sl w 1 v l.length (l.map byv)) : (convert src dst v).run P w = .ok (.string ⟨l.toArray⟩) w := by
  obtain ⟨_, A, c, rfl, hc, hA, hcell⟩ := h
  match A, hA, hcell with
  | none, hA, _ =>
    have : l = [] := List.eq_nil_of_length_eq_zero (by have := hA rfl; omega)
    subst this
    exact Lib.run_convert_nil_bytes w src dst e c hs he hd
  | some ad, _, hcell =>
    refine run_convert_bytes_back w src dst e ad c l hs he hd fun j hj => ?_
    obtain ⟨_, hsp, hh⟩ := hcell ad rfl (by omega)
    obtain ⟨b, off, sp⟩ := ad
    dsimp only at hsp hh
    subst hsp
    rw [add_none]
    refine hh j _ ?_
    simp [byv, hj]

/-- a text as a value. -/
def stv (l : List UInt8) : Value := .string ⟨l.toArray⟩
theorem str_run {w : World} {v : Value} {l : List UInt8} (h : Sl w 1 v l.length (l.map byv)) : (convert 136 9 v).run Tryd.prog w = .ok (.string ⟨l.toArray⟩) w :=
  str_of_sl Tryd.underlying136 Tryd.underlying5 Tryd.underlying9 h
theorem elt_strs : Elt Tryd.prog 48 9 1 16 := Elt.mk' (z := .string ⟨#[]⟩) Tryd.underlying48 (by kernel_rfl) rfl (by decide)
def Good (w : World) (e : Ending) (w' : World) : Prop := e = .returned (.bool true) ∧ Below w.heap.size w w'
theorem bel_tr {a b c : World} (h : Below a.heap.size a b) (k : Below b.heap.size b c) : Below a.heap.size a c := h.trans (k.mono h.size)
end Go.Proofs.YtgebcifkbldfoaaDoor

/- The contracts of small, blank, Hex and the reference's Hex. -/
namespace Go.Proofs.YtgebcifkbldfoaaDoor
open Go.RowKit
attribute [local go_sem] ba_get

/-- a byte, a great letter made small. -/
def sm (b : UInt8) : UInt8 := if 65 ≤ b.toNat ∧ b.toNat ≤ 90 then UInt8.ofNat (b.toNat + 32) else b
theorem sm_up {b : UInt8} (h : 65 ≤ b.toNat ∧ b.toNat ≤ 90) : (sm b).toNat = b.toNat + 32 := by
  unfold sm; rw [if_pos h, UInt8.toNat_ofNat_of_lt' (show _ < 256 by omega)]
theorem sm_id {b : UInt8} (h : ¬ (65 ≤ b.toNat ∧ b.toNat ≤ 90)) : sm b = b := by unfold sm; rw [if_neg h]
def blB (b : UInt8) : Bool := decide (b.toNat = 32 ∨ b.toNat = 9)

set_option maxHeartbeats 400000 in
theorem small_any (b : UInt8) (w : World) : Calls Tryd.prog 152 #[.int .u8 (b.toNat : Int)] w fun e w' => e = .returned (.int .u8 ((sm b).toNat : Int)) ∧ w = w' := by
  have hb := b.toNat_lt
  by_cases h : 65 ≤ b.toNat ∧ b.toNat ≤ 90
  · have h1 : (65 : Int) ≤ (b.toNat : Int) := by omega
    have h2 : (b.toNat : Int) ≤ 90 := by omega
    have hs := sm_up h
    have Hs := Lib.hid hs
    clear h hs
    go_enter Tryd.func152, Tryd.ntmps152
    go_wp2
    go_ret
    exact ⟨reti (by rw [Hs.out]; omega), rfl⟩
  · have hs := sm_id h
    have Hs := Lib.hid hs
    clear hs
    by_cases h1 : 65 ≤ b.toNat
    · have i1 : (65 : Int) ≤ (b.toNat : Int) := by omega
      have i2 : ¬ (b.toNat : Int) ≤ 90 := by omega
      clear h
      go_enter Tryd.func152, Tryd.ntmps152
      go_wp2
      go_ret
      exact ⟨reti (by rw [Hs.out]), rfl⟩
    · have i1 : ¬ (65 : Int) ≤ (b.toNat : Int) := by omega
      clear h
      go_enter Tryd.func152, Tryd.ntmps152
      go_wp2
      go_ret
      exact ⟨reti (by rw [Hs.out]), rfl⟩

set_option maxHeartbeats 400000 in
theorem blank_any (b : UInt8) (w : World) : Calls Tryd.prog 85 #[.int .u8 (b.toNat : Int)] w fun e w' => e = .returned (.bool (blB b)) ∧ w = w' := by
  by_cases h1 : b.toNat = 32
  · have i1 : ((b.toNat : Int) == 32) = true := by simp; omega
    have hf : blB b = true := by simp [blB, h1]
    have Hf := Lib.hid hf
    clear h1 hf
    go_enter Tryd.func85, Tryd.ntmps85
    go_wp2
    go_ret
    exact ⟨retb Hf.out.symm, rfl⟩
  · have i1 : ((b.toNat : Int) == 32) = false := by simp; omega
    by_cases h2 : b.toNat = 9
    · have i2 : ((b.toNat : Int) == 9) = true := by simp; omega
      have hf : blB b = true := by simp [blB, h2]
      have Hf := Lib.hid hf
      clear h1 h2 hf
      go_enter Tryd.func85, Tryd.ntmps85
      go_wp2
      go_ret
      exact ⟨retb Hf.out.symm, rfl⟩
    · have i2 : ((b.toNat : Int) == 9) = false := by simp; omega
      have hf : blB b = false := by simp [blB, h1, h2]
      have Hf := Lib.hid hf
      clear h1 h2 hf
      go_enter Tryd.func85, Tryd.ntmps85
      go_wp2
      go_ret
      exact ⟨retb Hf.out.symm, rfl⟩

/-- the number of a digit of the base 16. -/
def hex (c : Int) : Option Int := if 48 ≤ c ∧ c ≤ 57 then some (c - 48) else if 97 ≤ c ∧ c ≤ 102 then some (c - 87) else if 65 ≤ c ∧ c ≤ 70 then some (c - 55) else none
end Go.Proofs.YtgebcifkbldfoaaDoor

/- The contracts of Size, Check, Few, SameTexts and Exact. -/
namespace Go.Proofs.YtgebcifkbldfoaaDoor
open Go.RowKit
attribute [local go_sem] ba_get

/-- how many octets a name has. -/
def sz (A : List (List UInt8)) : Nat := A.foldl (fun n l => n + l.length + 1) 1
def lokB (l : List UInt8) : Bool := decide (1 ≤ l.length ∧ l.length ≤ 63)
/-- what is wrong with a name. -/
def chk (A : List (List UInt8)) : Int := if A.all lokB = true then if 255 < sz A then 3 else 0 else 7
end Go.Proofs.YtgebcifkbldfoaaDoor

/- The contracts of ascii.Same, ascii.Fields and the reference's Lower, Same and Fields. -/
namespace Go.Proofs.YtgebcifkbldfoaaDoor
open Go.RowKit
attribute [local go_sem] ba_get ext_take ext_drop ext_any

def low (l : List UInt8) : List UInt8 := l.map sm
/-- what stands between blanks, behind a word that has begun. -/
def fldR (word : List UInt8) : List UInt8 → List (List UInt8)
  | [] => if word = [] then [] else [word]
  | b :: r => if blB b = true then (if word = [] then fldR [] r else word :: fldR [] r) else fldR (word ++ [b]) r
def flds (l : List UInt8) : List (List UInt8) := fldR [] l
theorem fldR_blank {l : List UInt8} {k : Nat} (h : k < l.length) (hb : blB l[k] = true) : fldR [] (l.drop k) = fldR [] (l.drop (k + 1)) := by
  rw [List.drop_eq_getElem_cons h, fldR, if_pos hb, if_pos rfl]
theorem fldR_step {l word : List UInt8} {k : Nat} (h : k < l.length) (hb : blB l[k] = false) : fldR word (l.drop k) = fldR (word ++ [l[k]]) (l.drop (k + 1)) := by
  rw [List.drop_eq_getElem_cons h, fldR, if_neg (by simp [hb])]
theorem fldR_word {l word : List UInt8} {k : Nat} (hk : k ≤ l.length) (hw : word ≠ []) (hb : ∀ h : k < l.length, blB l[k] = true) : fldR word (l.drop k) = word :: fldR [] (l.drop k) := by
  by_cases h : k < l.length
  · rw [List.drop_eq_getElem_cons h, fldR, if_pos (hb h), if_neg hw, fldR, if_pos (hb h), if_pos rfl]
  · have : l.drop k = [] := List.drop_eq_nil_of_le (by omega)
    rw [this, fldR, if_neg hw]
    rfl
theorem fldR_len (word l : List UInt8) : (fldR word l).length ≤ l.length + 1 ∧ (word = [] → (fldR word l).length ≤ l.length) := by
  induction l generalizing word with
  | nil => unfold fldR; by_cases h : word = [] <;> simp [h]
  | cons b r ih =>
    unfold fldR
    by_cases hb : blB b = true
    · rw [if_pos hb]
      have h1 := (ih []).2 rfl
      by_cases h : word = []
      · rw [if_pos h]; simp; omega
      · rw [if_neg h]; simp [h]; omega
    · rw [if_neg hb]
      have h1 := (ih (word ++ [b])).1
      simp; omega
theorem flds_len (l : List UInt8) : (flds l).length ≤ l.length := (fldR_len [] l).2 rfl
def TextsPost (w : World) (A : List (List UInt8)) (e : Ending) (w' : World) : Prop := ∃ v, e = .returned v ∧ Sl w' 1 v A.length (A.map stv) ∧ Below w.heap.size w w'
def FldRel (w : World) (l : List UInt8) (k : Nat) (v : Value) (wr : World) : Prop :=
  ∃ done : List (List UInt8), flds l = done ++ fldR [] (l.drop k) ∧ done.length ≤ k ∧ wr.ownsRow w.heap.size 9 1 v done.length (done.map stv) ∧ Below w.heap.size w wr

set_option maxRecDepth 100000 in
set_option maxHeartbeats 1000000 in
theorem fields_any (l : List UInt8) (w : World) (hl : l.length ≤ 1000000000) : Calls Tryd.prog 49 #[.string ⟨l.toArray⟩] w (TextsPost w (flds l)) := by
  go_enter Tryd.func49, Tryd.ntmps49
  go_wp2
  go_loopw [3, 4] (fun v i wr => ∃ k : Nat, k ≤ l.length ∧ i = .int .i64 k ∧ FldRel w l k v wr) (fun _ i _ => l.length - (intOf i).toNat)
  case atStart => exact ⟨0, Nat.zero_le _, rfl, [], rfl, Nat.le_refl _, World.ownsRow_nil _ _ _ _, Below.refl _ _⟩
  case round =>
    obtain ⟨k, hk, rfl, done, h1, h2, h3, h4⟩ := hrel
    have H1 := Lib.hid h1
    clear h1
    have hsz := h4.size
    by_cases hlt : k < l.length
    · have i1 : (k : Int) < (l.length : Int) := by omega
      rcases hb : blB l[k]
      · have Hb := Lib.hid hb
        clear hb
        go_wp2_with fail
        refine (blank_any _ _).mono ?_
        rintro e w' ⟨rfl, rfl⟩
        rw [Hb.out]
        go_wp2_with fail
        go_loop [5] (fun i => ∃ j : Nat, k ≤ j ∧ j ≤ l.length ∧ i = .int .i64 j ∧ fldR [] (l.drop k) = fldR ((l.take j).drop k) (l.drop j) ∧ (j = k ∨ k < j)) (fun i => l.length - (intOf i).toNat)
        case atStart => exact ⟨k, Nat.le_refl _, hk, rfl, by rw [List.drop_take, Nat.sub_self, List.take_zero], .inl rfl⟩
        case round =>
          obtain ⟨j, hkj, hj, rfl, hf, hjk⟩ := hrel
          have Hf := Lib.hid hf
          clear hf
          by_cases hgo : ∃ h : j < l.length, blB l[j] = false
          · obtain ⟨hjl, hbj⟩ := hgo
            have i2 : (j : Int) < (l.length : Int) := by omega
            have hst := fldR_step (word := (l.take j).drop k) hjl hbj
            have hnx : fldR [] (l.drop k) = fldR ((l.take (j + 1)).drop k) (l.drop (j + 1)) := by
              rw [Hf.out, hst, List.take_succ_eq_append_getElem hjl, List.drop_append_of_le_length (by rw [List.length_take]; omega)]
            have Hnx := Lib.hid hnx
            have Hbj := Lib.hid hbj
            clear hst hnx hbj
            go_wp2_with fail
            refine (blank_any _ _).mono ?_
            rintro e w' ⟨rfl, rfl⟩
            rw [Hbj.out]
            go_wp2_with fail
            go_round
            case rel => exact ⟨j + 1, by omega, by omega, by go_num, Hnx.out, .inr (by omega)⟩
            case measure => simp [intOf]; omega
          · have hjk2 : k < j := by
              rcases hjk with h | h
              · subst h; exact absurd ⟨hlt, Hb.out⟩ hgo
              · exact h
            have hword : (l.take j).drop k ≠ [] := by
              intro h
              have := congrArg List.length h
              rw [List.length_drop, List.length_take] at this
              simp at this
              omega
            have hbl : ∀ h : j < l.length, blB l[j] = true := by
              intro h
              cases hh : blB l[j]
              · exact absurd ⟨h, hh⟩ hgo
              · rfl
            have hfin : flds l = (done ++ [(l.take j).drop k]) ++ fldR [] (l.drop j) := by
              rw [H1.out, Hf.out, fldR_word hj hword hbl]; simp
            have Hfin := Lib.hid hfin
            clear hfin
            by_cases hjl : j < l.length
            · have i2 : (j : Int) < (l.length : Int) := by omega
              have Hbj := Lib.hid (hbl hjl)
              clear hbl hgo
              go_wp2_with fail
              refine (blank_any _ _).mono ?_
              rintro e w' ⟨rfl, rfl⟩
              rw [Hbj.out]
              go_wp2_with (at_builtin; refine wpList_appLit rfl _ _ _ rfl elt_strs (n := done.length) rfl h3 [stv ((l.take j).drop k)] (m := 1) rfl rfl (by simp [Value.oneCell', stv]) hsz (by omega) (by omega) ?_; intro v1 w1 ho1 hb1 hg1)
              go_roundw
              case rel => exact ⟨j, hj, rfl, done ++ [(l.take j).drop k], Hfin.out, by simp; omega, by simpa using ho1, h4.trans hb1⟩
              case measure => simp [intOf]; omega
            · have i2 : ¬ (j : Int) < (l.length : Int) := by omega
              clear hbl hgo
              go_wp2_with (at_builtin; refine wpList_appLit rfl _ _ _ rfl elt_strs (n := done.length) rfl h3 [stv ((l.take j).drop k)] (m := 1) rfl rfl (by simp [Value.oneCell', stv]) hsz (by omega) (by omega) ?_; intro v1 w1 ho1 hb1 hg1)
              go_roundw
              case rel => exact ⟨j, hj, rfl, done ++ [(l.take j).drop k], Hfin.out, by simp; omega, by simpa using ho1, h4.trans hb1⟩
              case measure => simp [intOf]; omega
      · have hnx := fldR_blank hlt hb
        have hfin : flds l = done ++ fldR [] (l.drop (k + 1)) := by rw [H1.out, hnx]
        have Hfin := Lib.hid hfin
        have Hb := Lib.hid hb
        clear hb hnx hfin
        go_wp2_with fail
        refine (blank_any _ _).mono ?_
        rintro e w' ⟨rfl, rfl⟩
        rw [Hb.out]
        go_wp2_with fail
        go_roundw
        case rel => exact ⟨k + 1, by omega, by go_num, done, Hfin.out, by omega, h3, h4⟩
        case measure => simp [intOf]; omega
    · have i1 : ¬ (k : Int) < (l.length : Int) := by omega
      have hfin : flds l = done := by
        rw [H1.out, List.drop_eq_nil_of_le (by omega)]; simp [fldR]
      have Hfin := Lib.hid hfin
      clear hfin
      go_wp2
      go_ret
      rw [Hfin.out]
      exact ⟨_, rfl, Sl.own h3, h4⟩
end Go.Proofs.YtgebcifkbldfoaaDoor

/- The contract of domain.one: the label that a text begins with. -/
namespace Go.Proofs.YtgebcifkbldfoaaDoor
open Go.RowKit
attribute [local go_sem] ba_get ext_take ext_drop

/-- one byte of a label, and in how many bytes it is written. -/
def stp : List UInt8 → Option (UInt8 × Nat)
  | [] => none
  | a :: r => if a = 92 then (esc r).map (fun p => (p.1, p.2 + 1)) else some (a, 1)
/-- at the end, or at a dot. -/
def ends (l : List UInt8) : Bool := l.isEmpty || l.head? == some 46
def oneF : Nat → List UInt8 → Option (List UInt8 × Nat)
  | 0, _ => some ([], 0)
  | k + 1, l => if ends l = true then some ([], 0) else match stp l with
    | none => none
    | some (c, n) => (oneF k (l.drop n)).map (fun p => (c :: p.1, n + p.2))
def one (l : List UInt8) : Option (List UInt8 × Nat) := oneF l.length l

theorem esc3_bd {a : UInt8} {r : List UInt8} {c : UInt8} {n : Nat} (h : esc3 a r = some (c, n)) : n = 3 ∧ 2 ≤ r.length := by
  rcases r with _ | ⟨b, _ | ⟨d, r⟩⟩
  · cases h
  · cases h
  · simp only [esc3] at h
    split at h
    · split at h
      · cases h; exact ⟨rfl, by simp⟩
      · cases h
    · cases h
theorem esc_bd {l : List UInt8} {c : UInt8} {n : Nat} (h : esc l = some (c, n)) : 1 ≤ n ∧ n ≤ 3 ∧ n ≤ l.length := by
  rcases l with _ | ⟨a, r⟩
  · cases h
  · simp only [esc] at h
    split at h
    · have := esc3_bd h; simp; omega
    · cases h; simp
theorem stp_bd {l : List UInt8} {c : UInt8} {n : Nat} (h : stp l = some (c, n)) : 1 ≤ n ∧ n ≤ 4 ∧ n ≤ l.length := by
  rcases l with _ | ⟨a, r⟩
  · cases h
  · simp only [stp] at h
    split at h
    · obtain ⟨⟨c', m⟩, hp, he⟩ := Option.map_eq_some_iff.1 h
      have := esc_bd hp
      cases he
      simp; omega
    · cases h; simp
theorem oneF_nil (k : Nat) : oneF k [] = some ([], 0) := by cases k <;> rfl
theorem oneF_enough (k : Nat) : ∀ (j : Nat) (l : List UInt8), l.length ≤ k → l.length ≤ j → oneF k l = oneF j l := by
  induction k with
  | zero =>
    intro j l h _
    have : l = [] := List.eq_nil_of_length_eq_zero (by omega)
    subst this
    rw [oneF_nil, oneF_nil]
  | succ k ih =>
    intro j l h hj
    rcases j with _ | j
    · have : l = [] := List.eq_nil_of_length_eq_zero (by omega)
      subst this
      rw [oneF_nil, oneF_nil]
    · simp only [oneF]
      by_cases he : ends l = true
      · rw [if_pos he, if_pos he]
      · rw [if_neg he, if_neg he]
        rcases hn : stp l with _ | ⟨c, n⟩
        · rfl
        · have hb := stp_bd hn
          have hd : (l.drop n).length ≤ l.length - 1 := by rw [List.length_drop]; omega
          dsimp only
          rw [ih j (l.drop n) (by omega) (by omega)]
theorem one_end {l : List UInt8} (h : ends l = true) : one l = some ([], 0) := by
  unfold one
  rcases l with _ | ⟨a, r⟩
  · rfl
  · simp only [List.length_cons, oneF]; rw [if_pos h]
theorem one_some {l : List UInt8} {c : UInt8} {n : Nat} (h : ends l = false) (hs : stp l = some (c, n)) : one l = (one (l.drop n)).map (fun p => (c :: p.1, n + p.2)) := by
  have hb := stp_bd hs
  unfold one
  rcases l with _ | ⟨a, r⟩
  · cases h
  · simp only [List.length_cons, oneF]; rw [if_neg (by simp [h]), hs]
    dsimp only
    rw [oneF_enough r.length ((a :: r).drop n).length _ (by rw [List.length_drop]; simp at hb ⊢; omega) (Nat.le_refl _)]
theorem oneF_bd (k : Nat) : ∀ (l b : List UInt8) (m : Nat), oneF k l = some (b, m) → m ≤ l.length ∧ b.length ≤ m ∧ m ≤ 4 * b.length := by
  induction k with
  | zero => intro l b m h; cases h; exact ⟨Nat.zero_le _, Nat.le_refl _, Nat.zero_le _⟩
  | succ k ih =>
    intro l b m h
    simp only [oneF] at h
    split at h
    · cases h; exact ⟨Nat.zero_le _, Nat.le_refl _, Nat.zero_le _⟩
    · rcases hn : stp l with _ | ⟨c, n⟩
      · rw [hn] at h; cases h
      · rw [hn] at h
        dsimp only at h
        obtain ⟨⟨b', m'⟩, hp, he⟩ := Option.map_eq_some_iff.1 h
        cases he
        have hb := stp_bd hn
        obtain ⟨h1, h2, h3⟩ := ih _ _ _ hp
        rw [List.length_drop] at h1
        simp
        omega
theorem one_bd {l b : List UInt8} {m : Nat} (h : one l = some (b, m)) : m ≤ l.length ∧ b.length ≤ m ∧ m ≤ 4 * b.length := oneF_bd _ _ _ _ h
theorem one_pos {l b : List UInt8} {m : Nat} (h : one l = some (b, m)) (hb : b ≠ []) : 1 ≤ m := by
  have := one_bd h
  have : 0 < b.length := List.length_pos_iff.2 hb
  omega

/-- what domain.one answers: the label, how many bytes, the error. -/
def oneE (l : List UInt8) : Int × List UInt8 × Nat := match one l with
  | none => (5, [], 0)
  | some (b, m) => if b = [] then (8, [], 0) else if 63 < b.length then (7, [], 0) else (0, b, m)
def OneRel (w : World) (l : List UInt8) (k : Nat) (v : Value) (wr : World) : Prop :=
  ∃ done : List UInt8, one l = (one (l.drop k)).map (fun p => (done ++ p.1, k + p.2)) ∧ done.length ≤ k ∧ wr.ownsRow w.heap.size 5 1 v done.length (done.map byv) ∧ Below w.heap.size w wr
theorem OneRel.start (w : World) (l : List UInt8) : OneRel w l 0 (.slice none 0 0) w :=
  ⟨[], by rw [List.drop_zero]; cases one l <;> simp, Nat.le_refl _, World.ownsRow_nil _ _ _ _, Below.refl _ _⟩
theorem OneRel.step {w w0 w1 : World} {l : List UInt8} {k n : Nat} {c : UInt8} {v1 : Value} {done : List UInt8} (h : one l = (one (l.drop k)).map (fun p => (done ++ p.1, k + p.2))) (hk : done.length ≤ k) (he : ends (l.drop k) = false) (hs : stp (l.drop k) = some (c, n))
    (h3 : w1.ownsRow w.heap.size 5 1 v1 (done.length + 1) (done.map byv ++ [byv c])) (h4 : Below w.heap.size w w0) (h5 : Below w.heap.size w0 w1) : OneRel w l (k + n) v1 w1 := by
  have hb := stp_bd hs
  refine ⟨done ++ [c], ?_, by simp; omega, by simpa using h3, h4.trans h5⟩
  rw [h, one_some he hs, List.drop_drop]
  cases one (l.drop (k + n)) <;> simp [Nat.add_assoc]
theorem ends_end {l : List UInt8} : ends (l.drop l.length) = true := by simp [ends]
end Go.Proofs.YtgebcifkbldfoaaDoor

/- The contract of domain.Parse. -/
namespace Go.Proofs.YtgebcifkbldfoaaDoor
open Go.RowKit
attribute [local go_sem] ba_get ext_take ext_drop

/-- what a reading of names comes to: an error; or the labels, and whether a dot stood last. -/
def prsF : Nat → List (List UInt8) → Bool → List UInt8 → Int ⊕ (List (List UInt8) × Bool)
  | 0, n, dot, _ => if 255 < sz n then .inl 3 else .inr (n, dot)
  | k + 1, n, dot, r => if r = [] then (if 255 < sz n then .inl 3 else .inr (n, dot)) else
    if (oneE r).1 = 0 then prsF k (n ++ [(oneE r).2.1]) (decide ((oneE r).2.2 < r.length)) (r.drop ((oneE r).2.2 + if (oneE r).2.2 < r.length then 1 else 0)) else .inl (oneE r).1
def prs (l : List UInt8) : Int ⊕ (List (List UInt8) × Bool) := if l = [46] then .inr ([], true) else if l = [] then .inl 8 else prsF l.length [] false l
theorem oneE_bd (r : List UInt8) : (oneE r).2.2 ≤ r.length ∧ ((oneE r).1 = 0 → 1 ≤ (oneE r).2.2 ∧ lokB (oneE r).2.1 = true) ∧ ((oneE r).1 = 0 ∨ (oneE r).1 = 5 ∨ (oneE r).1 = 7 ∨ (oneE r).1 = 8) := by
  unfold oneE
  rcases h : one r with _ | ⟨b, m⟩
  · exact ⟨Nat.zero_le _, (fun h => by cases h), .inr (.inl rfl)⟩
  · have hb := one_bd h
    dsimp only
    by_cases h0 : b = []
    · rw [if_pos h0]; exact ⟨Nat.zero_le _, (fun h => by cases h), .inr (.inr (.inr rfl))⟩
    · rw [if_neg h0]
      by_cases h1 : 63 < b.length
      · rw [if_pos h1]; exact ⟨Nat.zero_le _, (fun h => by cases h), .inr (.inr (.inl rfl))⟩
      · rw [if_neg h1]
        have : 0 < b.length := List.length_pos_iff.2 h0
        refine ⟨hb.1, fun _ => ⟨one_pos h h0, ?_⟩, .inl rfl⟩
        simp [lokB]; omega
theorem prsF_enough (k : Nat) : ∀ (j : Nat) (n : List (List UInt8)) (dot : Bool) (r : List UInt8), r.length ≤ k → r.length ≤ j → prsF k n dot r = prsF j n dot r := by
  induction k with
  | zero =>
    intro j n dot r h _
    have : r = [] := List.eq_nil_of_length_eq_zero (by omega)
    subst this
    rcases j with _ | j
    · rfl
    · simp [prsF]
  | succ k ih =>
    intro j n dot r h hj
    rcases j with _ | j
    · have : r = [] := List.eq_nil_of_length_eq_zero (by omega)
      subst this
      simp [prsF]
    · simp only [prsF]
      by_cases hr : r = []
      · rw [if_pos hr, if_pos hr]
      · rw [if_neg hr, if_neg hr]
        by_cases he : (oneE r).1 = 0
        · rw [if_pos he, if_pos he]
          have hb := (oneE_bd r).2.1 he
          refine ih j _ _ _ ?_ ?_ <;> rw [List.length_drop] <;> omega
        · rw [if_neg he, if_neg he]
/-- from a rest on, with labels that were read. -/
def prsR (n : List (List UInt8)) (dot : Bool) (r : List UInt8) : Int ⊕ (List (List UInt8) × Bool) := prsF r.length n dot r
theorem prsR_nil (n : List (List UInt8)) (dot : Bool) : prsR n dot [] = if 255 < sz n then .inl 3 else .inr (n, dot) := rfl
theorem prsR_ok {n : List (List UInt8)} {dot : Bool} {r : List UInt8} (hr : r ≠ []) (he : (oneE r).1 = 0) :
    prsR n dot r = prsR (n ++ [(oneE r).2.1]) (decide ((oneE r).2.2 < r.length)) (r.drop ((oneE r).2.2 + if (oneE r).2.2 < r.length then 1 else 0)) := by
  unfold prsR
  have hb := (oneE_bd r).2.1 he
  rcases r with _ | ⟨a, r⟩
  · exact absurd rfl hr
  · simp only [List.length_cons, prsF]; rw [if_neg hr, if_pos he]
    refine prsF_enough _ _ _ _ _ ?_ (Nat.le_refl _)
    rw [List.length_drop]
    have e : (a :: r).length = r.length + 1 := rfl
    generalize (if (oneE (a :: r)).2.2 < (a :: r).length then 1 else 0) = x
    omega

/-- the labels that a reading came to (none, of an error), whether a dot stood last, and the error. -/
def pA (o : Int ⊕ (List (List UInt8) × Bool)) : List (List UInt8) := match o with | .inl _ => [] | .inr p => p.1
def pD (o : Int ⊕ (List (List UInt8) × Bool)) : Bool := match o with | .inl _ => false | .inr p => p.2
def pE (o : Int ⊕ (List (List UInt8) × Bool)) : Int := match o with | .inl e => e | .inr _ => 0
def PrsPost (w : World) (o : Int ⊕ (List (List UInt8) × Bool)) (e : Ending) (w' : World) : Prop :=
  ∃ v, e = .returned (.tuple #[v, .bool (pD o), .int .i64 (pE o)]) ∧ Sl w' 1 v (pA o).length ((pA o).map stv) ∧ Below w.heap.size w w'

theorem PrsPost.ok {w w' : World} {o : Int ⊕ (List (List UInt8) × Bool)} {n : List (List UInt8)} {d : Bool} {v : Value} (h : o = .inr (n, d)) (hs : Sl w' 1 v n.length (n.map stv)) (hb : Below w.heap.size w w') : PrsPost w o (.returned (.tuple #[v, .bool d, .int .i64 0])) w' := by
  rw [h]; exact ⟨_, rfl, hs, hb⟩

def PrsRel (w : World) (l r : List UInt8) (v : Value) (dot : Bool) (wr : World) : Prop :=
  ∃ n : List (List UInt8), prsF l.length [] false l = prsR n dot r ∧ n.length + r.length ≤ l.length ∧ n.all lokB = true ∧ wr.ownsRow w.heap.size 9 1 v n.length (n.map stv) ∧ Below w.heap.size w wr
theorem PrsRel.step {w w0 w1 : World} {l r : List UInt8} {dot : Bool} {v1 : Value} {n : List (List UInt8)} (hr : r ≠ []) (he : (oneE r).1 = 0) (h1 : prsF l.length [] false l = prsR n dot r) (h2 : n.length + r.length ≤ l.length) (ha : n.all lokB = true)
    (h3 : w1.ownsRow w.heap.size 9 1 v1 (n.length + 1) (n.map stv ++ [stv (oneE r).2.1])) (h4 : Below w.heap.size w w0) (h5 : Below w.heap.size w0 w1) {d : Bool} {m : Nat} (hd : d = decide ((oneE r).2.2 < r.length)) (hm : m = (oneE r).2.2 + if (oneE r).2.2 < r.length then 1 else 0) : PrsRel w l (r.drop m) v1 d w1 := by
  have hb := (oneE_bd r).2.1 he
  subst hd hm
  refine ⟨n ++ [(oneE r).2.1], by rw [h1, prsR_ok hr he], ?_, by rw [List.all_append, ha]; simp [hb.2], by simpa using h3, h4.trans h5⟩
  rw [List.length_append, List.length_drop]
  simp
  have : 0 < r.length := List.length_pos_iff.2 hr
  omega

end Go.Proofs.YtgebcifkbldfoaaDoor

/- The contract of the reference's Parse: it answers what domain.Parse does. -/
namespace Go.Proofs.YtgebcifkbldfoaaDoor
open Go.RowKit
attribute [local go_sem] ba_get ext_take ext_drop

/-- what is to come within a label of which b has been read. -/
def mid (n : List (List UInt8)) (b r : List UInt8) : Int ⊕ (List (List UInt8) × Bool) := match one r with
  | none => .inl 5
  | some (b', m) => if b ++ b' = [] then .inl 8 else if 63 < (b ++ b').length then .inl 7 else prsR (n ++ [b ++ b']) (decide (m < r.length)) (r.drop (m + if m < r.length then 1 else 0))
def fin (n : List (List UInt8)) (dot : Bool) : Int ⊕ (List (List UInt8) × Bool) := if 255 < sz n then .inl 3 else .inr (n, dot)
/-- what is to come, whatever was read. -/
def St (n : List (List UInt8)) (b : List UInt8) (dot : Bool) (r : List UInt8) : Int ⊕ (List (List UInt8) × Bool) := if dot = true ∧ r = [] then fin n true else mid n b r
theorem mid_end {n : List (List UInt8)} {b r : List UInt8} (he : ends r = true) : mid n b r = if b = [] then .inl 8 else if 63 < b.length then .inl 7 else prsR (n ++ [b]) (decide (0 < r.length)) (r.drop (if 0 < r.length then 1 else 0)) := by
  unfold mid; rw [one_end he]; simp
theorem St_mid {n : List (List UInt8)} {b : List UInt8} {dot : Bool} {r : List UInt8} (h : dot = false ∨ r ≠ []) : St n b dot r = mid n b r := by
  unfold St; rw [if_neg]; rintro ⟨h1, h2⟩; rcases h with h | h
  · rw [h] at h1; cases h1
  · exact h h2
/-- what holds at each round's head. -/
def RpRel (w : World) (l : List UInt8) (i : Nat) (nv bv : Value) (dot : Bool) (wr : World) : Prop :=
  ∃ (n : List (List UInt8)) (b : List UInt8), ((i ≤ l.length ∧ prs l = St n b dot (l.drop i)) ∨ (i = l.length + 1 ∧ prs l = fin n dot)) ∧ (i ≤ l.length + 1) ∧ n.length + b.length ≤ i ∧ n.all lokB = true ∧
    wr.ownsRow w.heap.size 9 1 nv n.length (n.map stv) ∧ wr.ownsRow w.heap.size 5 1 bv b.length (b.map byv) ∧ Below w.heap.size w wr
theorem RpRel.last {w w1 : World} {l : List UInt8} {v1 : Value} {n : List (List UInt8)} {b : List UInt8} (h1 : prs l = St n b false (l.drop l.length)) (h2 : n.length + b.length ≤ l.length) (ha : n.all lokB = true)
    (hb0 : b ≠ []) (hb1 : ¬ 63 < b.length) (h5 : w1.ownsRow w.heap.size 9 1 v1 (n.length + 1) (n.map stv ++ [stv b])) (h4 : Below w.heap.size w w1) : RpRel w l (l.length + 1) v1 (.slice none 0 0) false w1 := by
  have hbl : 0 < b.length := List.length_pos_iff.2 hb0
  refine ⟨n ++ [b], [], .inr ⟨rfl, ?_⟩, by omega, by simp; omega, ?_, by simpa using h5, World.ownsRow_nil _ _ _ _, h4⟩
  · rw [h1, St_mid (.inl rfl), mid_end ends_end, if_neg hb0, if_neg hb1]
    simp [fin, prsR_nil]
  · rw [List.all_append, ha]; simp [lokB]; omega
end Go.Proofs.YtgebcifkbldfoaaDoor

/- The contracts of domain.add, domain.Text, domain.Plain and works. -/
namespace Go.Proofs.YtgebcifkbldfoaaDoor
open Go.RowKit
attribute [local go_sem] ba_get ext_take ext_drop

/-- a byte of a label, written. -/
def escb (c : UInt8) : List UInt8 :=
  if c.toNat = 46 ∨ c.toNat = 92 then [92, c] else if c.toNat < 33 ∨ 126 < c.toNat then [92, UInt8.ofNat (48 + c.toNat / 100), UInt8.ofNat (48 + c.toNat / 10 % 10), UInt8.ofNat (48 + c.toNat % 10)] else [c]
def escl (l : List UInt8) : List UInt8 := l.flatMap escb
def escp (l : List UInt8) (k : Nat) : List UInt8 := (l.take k).flatMap escb
theorem escp_succ {l : List UInt8} {k : Nat} (h : k < l.length) : escp l (k + 1) = escp l k ++ escb l[k] := by
  unfold escp
  rw [List.take_succ_eq_append_getElem h, List.flatMap_append, List.flatMap_singleton]
def DaddRel (base : Nat) (w : World) (n : Nat) (xs : List Value) (l : List UInt8) (k : Nat) (v : Value) (wr : World) : Prop :=
  wr.ownsRow base 5 1 v (n + (escp l k).length) (xs ++ (escp l k).map byv) ∧ Below base w wr
theorem DaddRel.next {base : Nat} {w w0 w1 : World} {n : Nat} {xs : List Value} {l : List UInt8} {k m : Nat} {v1 : Value} {us : List Value} (hk : k < l.length) (hu : (escb l[k]).map byv = us) (hm : us.length = m) (h : w1.ownsRow base 5 1 v1 (n + (escp l k).length + m) (xs ++ (escp l k).map byv ++ us)) (h0 : Below base w w0) (h1 : Below base w0 w1) : DaddRel base w n xs l (k + 1) v1 w1 := by
  refine ⟨?_, h0.trans h1⟩
  have hl : (escb l[k]).length = m := by rw [← hm, ← hu]; simp
  rw [escp_succ hk, List.length_append, hl, List.map_append, hu, ← Nat.add_assoc, ← List.append_assoc]
  exact h

def dtxs (A : List (List UInt8)) (k : Nat) : List UInt8 := (A.take k).flatMap (fun l => escl l ++ [46])
theorem dtxs_succ {A : List (List UInt8)} {k : Nat} (h : k < A.length) : dtxs A (k + 1) = dtxs A k ++ (escl A[k] ++ [46]) := by
  unfold dtxs
  rw [List.take_succ_eq_append_getElem h, List.flatMap_append, List.flatMap_singleton]
def DtRel (w : World) (A : List (List UInt8)) (k : Nat) (v : Value) (wr : World) : Prop :=
  wr.ownsRow w.heap.size 5 1 v (dtxs A k).length ((dtxs A k).map byv) ∧ Below w.heap.size w wr
theorem DtRel.next {w w0 w1 : World} {A : List (List UInt8)} {k : Nat} {v1 : Value} (hk : k < A.length) (h : w1.ownsRow w.heap.size 5 1 v1 ((dtxs A k).length + (escl A[k]).length + 1) ((dtxs A k).map byv ++ ((escl A[k]).map byv ++ [.int .u8 46]))) (h0 : Below w.heap.size w w0) (h1 : Below w.heap.size w0 w1) : DtRel w A (k + 1) v1 w1 := by
  refine ⟨?_, h0.trans h1⟩
  rw [dtxs_succ hk]
  simp only [List.length_append, List.map_append, List.length_cons, List.length_nil, Nat.add_assoc] at h ⊢
  exact h
def StrPost (w : World) (l : List UInt8) (e : Ending) (w' : World) : Prop := e = .returned (.string ⟨l.toArray⟩) ∧ Below w.heap.size w w'

end Go.Proofs.YtgebcifkbldfoaaDoor

/- The contracts of the reference's Lower and Same, of names' Same, Lower, Under and Cat. -/
namespace Go.Proofs.YtgebcifkbldfoaaDoor
open Go.RowKit
attribute [local go_sem] ba_get ext_take ext_drop

theorem low_len (l : List UInt8) : (low l).length = l.length := by simp [low]
theorem low_next {l : List UInt8} {k : Nat} (h : k < l.length) : low (l.take (k + 1)) = low (l.take k) ++ [sm l[k]] := by
  unfold low; rw [List.take_succ_eq_append_getElem h, List.map_append]; rfl
def RlRel (w : World) (l : List UInt8) (k : Nat) (v : Value) (wr : World) : Prop :=
  wr.ownsRow w.heap.size 5 1 v k ((low (l.take k)).map byv) ∧ Below w.heap.size w wr
theorem RlRel.next {w w0 w1 : World} {l : List UInt8} {k : Nat} {v1 : Value} {u : Value} (hk : k < l.length) (hu : u = byv (sm l[k])) (h : w1.ownsRow w.heap.size 5 1 v1 (k + 1) ((low (l.take k)).map byv ++ [u])) (h0 : Below w.heap.size w w0) (h1 : Below w.heap.size w0 w1) : RlRel w l (k + 1) v1 w1 := by
  subst hu
  refine ⟨?_, h0.trans h1⟩
  rw [low_next hk, List.map_append]
  exact h
def lows (A : List (List UInt8)) : List (List UInt8) := A.map low
def RdRel (w : World) (A : List (List UInt8)) (k : Nat) (v : Value) (wr : World) : Prop :=
  wr.ownsRow w.heap.size 9 1 v k ((lows (A.take k)).map stv) ∧ Below w.heap.size w wr
theorem RdRel.next {w w0 w1 : World} {A : List (List UInt8)} {k : Nat} {v1 : Value} (hk : k < A.length) (h : w1.ownsRow w.heap.size 9 1 v1 (k + 1) ((lows (A.take k)).map stv ++ [stv (low A[k])])) (h0 : Below w.heap.size w w0) (h1 : Below w.heap.size w0 w1) : RdRel w A (k + 1) v1 w1 := by
  refine ⟨?_, h0.trans h1⟩
  unfold lows at h ⊢
  rw [List.take_succ_eq_append_getElem hk, List.map_append, List.map_append]
  exact h
end Go.Proofs.YtgebcifkbldfoaaDoor

/- The contract of ascii.Lower. -/
namespace Go.Proofs.YtgebcifkbldfoaaDoor
open Go.RowKit
attribute [local go_sem] ba_get ext_take ext_drop

/-- block g holds l's bytes, the first k of them folded. -/
def LowBlk (W : World) (g c : Nat) (l : List UInt8) (k : Nat) : Prop :=
  ∃ cur : Array Value, W.heap[g]? = some (.cells cur 5 (c, c + 1)) ∧ l.length ≤ c ∧ ∀ (j : Nat) (hj : j < l.length), cur[j]? = some (byv (if j < k then sm l[j] else l[j]))
theorem LowBlk.cell {W : World} {g c k j : Nat} {l : List UInt8} (h : LowBlk W g c l k) (hj : j < l.length) : W.cell? ⟨g, j, none⟩ = some (byv (if j < k then sm l[j] else l[j])) := by
  obtain ⟨cur, h1, _, h3⟩ := h
  rw [cell_of_row W g j cur 5 (c, c + 1) h1]
  exact h3 j hj
theorem LowBlk.free {W : World} {g c k j : Nat} {l : List UInt8} (h : LowBlk W g c l k) (hj : j < l.length) : W.frozen? ⟨g, j, none⟩ = false := by
  obtain ⟨cur, h1, h2, _⟩ := h
  simp [World.frozen?, h1]
  omega
theorem LowBlk.store {W : World} {g c k : Nat} {l : List UInt8} (h : LowBlk W g c l k) (hk : k < l.length) : LowBlk (W.setCell ⟨g, k, none⟩ (byv (sm l[k]))) g c l (k + 1) := by
  obtain ⟨cur, h1, h2, h3⟩ := h
  refine ⟨cur.setIfInBounds k (byv (sm l[k])), by simp [World.setCell, Array.getElem?_modify, h1], h2, fun j hj => ?_⟩
  have hs : k < cur.size := (Array.getElem?_eq_some_iff.1 (h3 k hk)).1
  rw [Array.getElem?_setIfInBounds]
  by_cases e : k = j
  · subst e
    rw [if_pos rfl, if_pos hs, if_pos (by omega)]
  · rw [if_neg e, h3 j hj]
    by_cases hjk : j < k
    · rw [if_pos hjk, if_pos (by omega)]
    · rw [if_neg hjk, if_neg (by omega)]
theorem LowBlk.lt {W : World} {g c k : Nat} {l : List UInt8} (h : LowBlk W g c l k) : g < W.heap.size := by
  obtain ⟨cur, h1, _, _⟩ := h
  rcases Nat.lt_or_ge g W.heap.size with hlt | hge
  · exact hlt
  · rw [Array.getElem?_eq_none hge] at h1; cases h1
theorem LowBlk.str {W : World} {g c : Nat} {l : List UInt8} (h : LowBlk W g c l l.length) (cap : Nat) (hc : l.length ≤ cap) : (convert 136 9 (.slice (some ⟨g, 0, none⟩) l.length cap)).run Tryd.prog W = .ok (.string ⟨(low l).toArray⟩) W := by
  have hs : Sl W 1 (.slice (some ⟨g, 0, none⟩) (low l).length cap) (low l).length ((low l).map byv) := by
    refine ⟨by simp, _, cap, rfl, by rw [low_len]; exact hc, fun h => (by cases h), fun ad had _ => ?_⟩
    injection had with had
    subst had
    refine ⟨h.lt, rfl, fun j u hu => ?_⟩
    unfold low at hu
    rw [List.map_map, List.getElem?_map, Option.map_eq_some_iff] at hu
    obtain ⟨x, hx, rfl⟩ := hu
    obtain ⟨hj, rfl⟩ := List.getElem?_eq_some_iff.1 hx
    have := h.cell hj
    rw [if_pos hj] at this
    simpa using this
  have := str_run hs
  rwa [low_len] at this
theorem bytes_size (l : List UInt8) (cap : Nat) : l.length ≤ (bytesRow ⟨l.toArray⟩ cap).size := by
  rcases Nat.eq_zero_or_pos l.length with h | h
  · omega
  · have := bytesRow_at ⟨l.toArray⟩ cap (l.length - 1) (by simp; omega)
    have := (Array.getElem?_eq_some_iff.1 this).1
    omega
theorem LowBlk.start (W : World) (l : List UInt8) (cap k : Nat) (hm : ∀ (j : Nat) (hj : j < l.length), j < k → sm l[j] = l[j]) :
    LowBlk (W.alloc (.cells (bytesRow ⟨l.toArray⟩ cap) 5 ((bytesRow ⟨l.toArray⟩ cap).size, (bytesRow ⟨l.toArray⟩ cap).size + 1))) W.heap.size (bytesRow ⟨l.toArray⟩ cap).size l k := by
  refine ⟨_, heap_alloc_new W _, bytes_size l cap, fun j hj => ?_⟩
  have := bytesRow_at ⟨l.toArray⟩ cap j (by simpa using hj)
  rw [this]
  by_cases h : j < k
  · rw [if_pos h, hm j hj h]; rfl
  · rw [if_neg h]; rfl
theorem low_self {l : List UInt8} (h : ∀ (j : Nat) (hj : j < l.length), sm l[j] = l[j]) : low l = l := by
  unfold low
  apply List.ext_getElem
  · simp
  · intro i h1 h2
    simp [h i h2]

set_option maxRecDepth 100000 in
set_option maxHeartbeats 1000000 in
theorem lower_any (l : List UInt8) (w : World) (hl : l.length ≤ 1000000000) : Calls Tryd.prog 140 #[.string ⟨l.toArray⟩] w (StrPost w (low l)) := by
  have hcv := fun W : World => run_bytes_of_string (P := Tryd.prog) W 9 136 5 ⟨l.toArray⟩ Tryd.underlying9 Tryd.underlying136 Tryd.underlying5
  have Hcv := Lib.hid hcv
  clear hcv
  go_enter Tryd.func140, Tryd.ntmps140
  go_wp2
  go_loopw [3] (fun i wr => ∃ k : Nat, k ≤ l.length ∧ i = .int .i64 k ∧ (∀ (j : Nat) (hj : j < l.length), j < k → sm l[j] = l[j]) ∧ Below w.heap.size w wr) (fun i _ => l.length - (intOf i).toNat)
  case atStart => exact ⟨0, Nat.zero_le _, rfl, (fun j _ h => absurd h (by omega)), Below.refl _ _⟩
  case round =>
    obtain ⟨k, hk, rfl, hm, hbw⟩ := hrel
    have Hm := Lib.hid hm
    clear hm
    by_cases hlt : k < l.length
    · have i1 : (k : Int) < (l.length : Int) := by omega
      have i0 : (0 : Int) ≤ (k : Int) := by omega
      by_cases he : sm l[k] = l[k]
      · have i2 : (((sm l[k]).toNat : Int) == ((l[k].toNat : Nat) : Int)) = true := by simp [he]
        have He := Lib.hid he
        clear he
        go_wp2
        go_quiet ((go_at_call 152; exact quiet_l (small_any _ _)))
        go_wp2
        go_roundw
        case rel =>
          refine ⟨k + 1, by omega, by go_num, (fun j hj hjk => ?_), below_drewN hbw _⟩
          by_cases hjk2 : j < k
          · exact Hm.out j hj hjk2
          · obtain rfl : j = k := by omega
            exact He.out
        case measure => simp [intOf]; omega
      · have i2 : (((sm l[k]).toNat : Int) == ((l[k].toNat : Nat) : Int)) = false := by
          rw [beq_eq_false_iff_ne]
          intro h
          exact he (UInt8.toNat.inj (by omega))
        have i3 : (((k : Nat) : Int) == ((l.length : Nat) : Int)) = false := by rw [beq_eq_false_iff_ne]; omega
        clear he
        have hcv := Hcv.out
        go_wp2
        go_quiet ((go_at_call 152; exact quiet_l (small_any _ _)))
        go_wp2
        have hcap := grownCap_ge (wr.drewN nq) l.length 0 5
        generalize grownCap (wr.drewN nq) l.length 0 5 = cap at *
        have hst := LowBlk.start (wr.drewN (nq + 1)) l cap k Hm.out
        have hbw0 : Below w.heap.size w ((wr.drewN (nq + 1)).alloc (.cells (bytesRow ⟨l.toArray⟩ cap) 5 ((bytesRow ⟨l.toArray⟩ cap).size, (bytesRow ⟨l.toArray⟩ cap).size + 1))) := (below_drewN hbw (nq + 1)).alloc hbw.size _
        have hg : w.heap.size ≤ wr.heap.size := hbw.size
        generalize (bytesRow ⟨l.toArray⟩ cap).size = c at *
        generalize (wr.drewN (nq + 1)).alloc (.cells (bytesRow ⟨l.toArray⟩ cap) 5 (c, c + 1)) = W0 at *
        have hst' : LowBlk W0 wr.heap.size c l k := hst
        clear hcv hst Hcv
        generalize wr.heap.size = g at *
        go_loopw [3] (fun i W => ∃ j : Nat, j ≤ l.length ∧ i = .int .i64 j ∧ LowBlk W g c l j ∧ Below w.heap.size w W) (fun i _ => l.length - (intOf i).toNat)
        case atStart => exact ⟨k, hk, rfl, hst', hbw0⟩
        case round =>
          obtain ⟨j, hj, rfl, hL, hbj⟩ := hrel
          by_cases hjl : j < l.length
          · have i4 : (j : Int) < (l.length : Int) := by omega
            have q0 := hL.cell hjl
            rw [if_neg (by omega)] at q0
            have q1 : wr.cell? ⟨g, j, none⟩ = some (.int .u8 ((l[j].toNat : Nat) : Int)) := q0
            have q2 := hL.free hjl
            have hS := hL.store hjl
            clear q0
            go_wp2_with fail
            refine (small_any _ _).mono ?_
            rintro e w' ⟨rfl, rfl⟩
            go_wp2_with fail
            go_roundw
            case rel => exact ⟨j + 1, by omega, by go_num, hS, hbj.setCell (by exact hg) _⟩
            case measure => simp [intOf]; omega
          · have i4 : ¬ (j : Int) < (l.length : Int) := by omega
            obtain rfl : j = l.length := by omega
            have hcs := hL.str cap hcap
            go_wp2
            go_ret
            exact ⟨rfl, hbj⟩
    · obtain rfl : k = l.length := by omega
      have i1 : decide (((l.length : Nat) : Int) < (l.length : Int)) = false := by simp
      have i3 : (((l.length : Nat) : Int) == ((l.length : Nat) : Int)) = true := by simp
      have hfin : low l = l := low_self (fun j hj => Hm.out j hj hj)
      have Hfin := Lib.hid hfin
      clear hfin
      go_wp2
      go_quiet (fail)
      go_wp2
      go_ret
      exact ⟨congrArg Ending.returned (vstr Hfin.out.symm), below_drewN hbw _⟩
end Go.Proofs.YtgebcifkbldfoaaDoor

/- The contracts of Under and Cat, and the walk of DomainHolds. -/
namespace Go.Proofs.YtgebcifkbldfoaaDoor
open Go.RowKit
attribute [local go_sem] ba_get ext_take ext_drop

theorem Sl.cut {w : World} {a : Option Addr} {n c k : Nat} {xs : List Value} (h : Sl w 1 (.slice a n c) n xs) (hk : k ≤ n) : Sl w 1 (.slice (if c = k then a else a.map (·.add k)) (n - k) (c - k)) (n - k) (xs.drop k) := by
  obtain ⟨h0, A, c', hv, hc, hA, hcell⟩ := h
  injection hv with e1 _ e2
  subst e1 e2
  refine ⟨by rw [List.length_drop, h0]; omega, _, _, rfl, by omega, ?_, ?_⟩
  · intro hn
    by_cases hck : c = k
    · omega
    · rw [if_neg hck, Option.map_eq_none_iff] at hn
      have := hA hn
      omega
  · intro ad had hpos
    have hck : ¬ c = k := by omega
    rw [if_neg hck] at had
    obtain ⟨a0, ha0, rfl⟩ := Option.map_eq_some_iff.1 had
    obtain ⟨g1, g2, g3⟩ := hcell a0 ha0 (by omega)
    obtain ⟨b, off, sp⟩ := a0
    dsimp only at g1 g2 g3
    subst g2
    rw [add_none]
    refine ⟨g1, rfl, fun j u hu => ?_⟩
    rw [List.getElem?_drop] at hu
    have := g3 _ _ hu
    dsimp only
    rwa [Nat.add_assoc]

/-- both together: the labels, of an error none; and the error. -/
def CatPost (w : World) (A B : List (List UInt8)) (e : Ending) (w' : World) : Prop :=
  ∃ v, e = .returned (.tuple #[v, .int .i64 (chk (A ++ B))]) ∧ (∃ C : List (List UInt8), C = (if chk (A ++ B) = 0 then A ++ B else []) ∧ Sl w' 1 v C.length (C.map stv)) ∧ Below w.heap.size w w'
theorem CatPost.ok {w w' : World} {A B : List (List UInt8)} {v : Value} (h : chk (A ++ B) = 0) (hs : Sl w' 1 v (A ++ B).length ((A ++ B).map stv)) (hb : Below w.heap.size w w') : CatPost w A B (.returned (.tuple #[v, .int .i64 0])) w' :=
  ⟨v, by rw [h], ⟨_, rfl, by rw [if_pos h]; exact hs⟩, hb⟩
theorem CatPost.no {w w' : World} {A B : List (List UInt8)} (h : chk (A ++ B) ≠ 0) (hb : Below w.heap.size w w') : CatPost w A B (.returned (.tuple #[.slice none 0 0, .int .i64 (chk (A ++ B))])) w' :=
  ⟨_, rfl, ⟨_, rfl, by rw [if_neg h]; exact Sl.nil _ _⟩, hb⟩

end Go.Proofs.YtgebcifkbldfoaaDoor

/- domain.Parse: the name that is read is the call's own. -/
namespace Go.Proofs.YtgebcifkbldfoaaDoor
open Go.RowKit
attribute [local go_sem] ba_get ext_take ext_drop
def PrsOwn (w : World) (o : Int ⊕ (List (List UInt8) × Bool)) (e : Ending) (w' : World) : Prop :=
  ∃ v, e = .returned (.tuple #[v, .bool (pD o), .int .i64 (pE o)]) ∧ w'.ownsRow w.heap.size 9 1 v (pA o).length ((pA o).map stv) ∧ Below w.heap.size w w'
theorem PrsOwn.ok {w w' : World} {o : Int ⊕ (List (List UInt8) × Bool)} {n : List (List UInt8)} {d : Bool} {v : Value} (h : o = .inr (n, d)) (hs : w'.ownsRow w.heap.size 9 1 v n.length (n.map stv)) (hb : Below w.heap.size w w') : PrsOwn w o (.returned (.tuple #[v, .bool d, .int .i64 0])) w' := by
  rw [h]; exact ⟨_, rfl, hs, hb⟩
end Go.Proofs.YtgebcifkbldfoaaDoor
