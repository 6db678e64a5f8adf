/- Contracts and plain lemmas of our own, merged. -/
import Derived.Test.YtgebcifkbldfoaaGreatDoorZSB1
import Derived.Test.YtgebcifkbldfoaaGreatDoorZSB4
import Derived.Test.YtgebcifkbldfoaaGreatDoorProg
import Derived.Lib.BufferRead
import Derived.Laws.IdiomStrings
/- Words of our own for rows of bytes and of texts. -/
namespace Go.Proofs.YtgebcifkbldfoaaGreatDoor
open Go.RowKit

theorem ba_app (a b : List UInt8) : ByteArray.mk a.toArray ++ ByteArray.mk b.toArray = ⟨(a ++ b).toArray⟩ := by
  apply ByteArray.ext
  simp [ByteArray.data_append]
/-- a byte as a value. -/
def byv (b : UInt8) : Value := .int .u8 (b.toNat : Int)
theorem byv_one (l : List UInt8) : ∀ u ∈ l.map byv, u.oneCell' = true := by
  intro u hu
  simp at hu
  obtain ⟨b, _, rfl⟩ := hu
  rfl
theorem str_of_sl {P : Program} {w : World} {v : Value} {l : List UInt8} {src dst e : TypeId} (hs : P.underlying src = some (.slice e)) (he : P.underlying e = some (.int .u8)) (hd : P.underlying dst = some .string)
    (h : Sl w 1 v l.length (l.map byv)) : (convert src dst v).run P w = .ok (.string ⟨l.toArray⟩) w := by
  obtain ⟨_, A, c, rfl, hc, hA, hcell⟩ := h
  match A, hA, hcell with
  | none, hA, _ =>
    have : l = [] := List.eq_nil_of_length_eq_zero (by have := hA rfl; omega)
    subst this
    exact Lib.run_convert_nil_bytes w src dst e c hs he hd
  | some ad, _, hcell =>
    refine run_convert_bytes_back w src dst e ad c l hs he hd fun j hj => ?_
    obtain ⟨_, hsp, hh⟩ := hcell ad rfl (by omega)
    obtain ⟨b, off, sp⟩ := ad
    dsimp only at hsp hh
    subst hsp
    rw [add_none]
    refine hh j _ ?_
    simp [byv, hj]

theorem byv_mk {n : Nat} (h : n < 256) {z : Int} (hz : z = n) : Value.int .u8 z = byv (UInt8.ofNat n) := by
  subst hz
  unfold byv
  rw [UInt8.toNat_ofNat_of_lt' h]

theorem elt_bytes : Elt Tryz.prog 44 5 1 1 := Elt.mk' (z := .int .u8 0) Tryz.underlying44 (by kernel_rfl) rfl (by decide)

/-- a text as a value. -/
def stv (l : List UInt8) : Value := .string ⟨l.toArray⟩
theorem str_run {w : World} {v : Value} {l : List UInt8} (h : Sl w 1 v l.length (l.map byv)) : (convert 44 9 v).run Tryz.prog w = .ok (.string ⟨l.toArray⟩) w :=
  str_of_sl Tryz.underlying44 Tryz.underlying5 Tryz.underlying9 h
theorem elt_strs : Elt Tryz.prog 60 9 1 16 := Elt.mk' (z := .string ⟨#[]⟩) Tryz.underlying60 (by kernel_rfl) rfl (by decide)
def Good (w : World) (e : Ending) (w' : World) : Prop := e = .returned (.bool true) ∧ Below w.heap.size w w'
theorem bel_tr {a b c : World} (h : Below a.heap.size a b) (k : Below b.heap.size b c) : Below a.heap.size a c := h.trans (k.mono h.size)
end Go.Proofs.YtgebcifkbldfoaaGreatDoor

/- The contracts of small, blank, Hex and the reference's Hex. -/
namespace Go.Proofs.YtgebcifkbldfoaaGreatDoor
open Go.RowKit
attribute [local go_sem] ba_get

/-- a byte, a great letter made small. -/
def sm (b : UInt8) : UInt8 := if 65 ≤ b.toNat ∧ b.toNat ≤ 90 then UInt8.ofNat (b.toNat + 32) else b
def blB (b : UInt8) : Bool := decide (b.toNat = 32 ∨ b.toNat = 9)

set_option maxHeartbeats 400000 in
theorem blank_any (b : UInt8) (w : World) : Calls Tryz.prog 46 #[.int .u8 (b.toNat : Int)] w fun e w' => e = .returned (.bool (blB b)) ∧ w = w' := by
  by_cases h1 : b.toNat = 32
  · have i1 : ((b.toNat : Int) == 32) = true := by simp; omega
    have hf : blB b = true := by simp [blB, h1]
    have Hf := Lib.hid hf
    clear h1 hf
    go_enter Tryz.func46, Tryz.ntmps46
    go_wp2
    go_ret
    exact ⟨retb Hf.out.symm, rfl⟩
  · have i1 : ((b.toNat : Int) == 32) = false := by simp; omega
    by_cases h2 : b.toNat = 9
    · have i2 : ((b.toNat : Int) == 9) = true := by simp; omega
      have hf : blB b = true := by simp [blB, h2]
      have Hf := Lib.hid hf
      clear h1 h2 hf
      go_enter Tryz.func46, Tryz.ntmps46
      go_wp2
      go_ret
      exact ⟨retb Hf.out.symm, rfl⟩
    · have i2 : ((b.toNat : Int) == 9) = false := by simp; omega
      have hf : blB b = false := by simp [blB, h1, h2]
      have Hf := Lib.hid hf
      clear h1 h2 hf
      go_enter Tryz.func46, Tryz.ntmps46
      go_wp2
      go_ret
      exact ⟨retb Hf.out.symm, rfl⟩

/-- the number of a digit of the base 16. -/
def hex (c : Int) : Option Int := if 48 ≤ c ∧ c ≤ 57 then some (c - 48) else if 97 ≤ c ∧ c ≤ 102 then some (c - 87) else if 65 ≤ c ∧ c ≤ 70 then some (c - 55) else none
def hexV : Option Int → Value
  | none => .tuple #[.int .i64 0, .bool false]
  | some n => .tuple #[.int .i64 n, .bool true]
theorem hexn {o : Option Int} (h : o = none) : Ending.returned (.tuple #[.int .i64 0, .bool false]) = .returned (hexV o) := by rw [h]; rfl
theorem hexs {o : Option Int} {n m : Int} (h : o = some n) (hm : m = n) : Ending.returned (.tuple #[.int .i64 m, .bool true]) = .returned (hexV o) := by rw [h, hm]; rfl
set_option maxHeartbeats 800000 in
theorem hex_any (c : Int) (w : World) (h0 : 0 ≤ c) (h1 : c ≤ 255) : Calls Tryz.prog 64 #[.int .u8 c] w fun e w' => e = .returned (hexV (hex c)) ∧ w = w' := by
  rcases (show c < 48 ∨ (48 ≤ c ∧ c ≤ 57) ∨ (57 < c ∧ c < 65) ∨ (65 ≤ c ∧ c ≤ 70) ∨ (70 < c ∧ c < 97) ∨ (97 ≤ c ∧ c ≤ 102) ∨ 102 < c by omega) with h | ⟨h, h'⟩ | ⟨h, h'⟩ | ⟨h, h'⟩ | ⟨h, h'⟩ | ⟨h, h'⟩ | h
  all_goals
    go_enter Tryz.func64, Tryz.ntmps64
    go_wp2
    go_ret2
  · exact ⟨hexn (by unfold hex; rw [if_neg (by omega), if_neg (by omega), if_neg (by omega)]), rfl⟩
  · exact ⟨hexs (by unfold hex; rw [if_pos (by omega)]) (by omega), rfl⟩
  · exact ⟨hexn (by unfold hex; rw [if_neg (by omega), if_neg (by omega), if_neg (by omega)]), rfl⟩
  · exact ⟨hexs (by unfold hex; rw [if_neg (by omega), if_neg (by omega), if_pos (by omega)]) (by omega), rfl⟩
  · exact ⟨hexn (by unfold hex; rw [if_neg (by omega), if_neg (by omega), if_neg (by omega)]), rfl⟩
  · exact ⟨hexs (by unfold hex; rw [if_neg (by omega), if_pos (by omega)]) (by omega), rfl⟩
  · exact ⟨hexn (by unfold hex; rw [if_neg (by omega), if_neg (by omega), if_neg (by omega)]), rfl⟩

end Go.Proofs.YtgebcifkbldfoaaGreatDoor

/- The contracts of Size, Check, Few, SameTexts and Exact. -/
namespace Go.Proofs.YtgebcifkbldfoaaGreatDoor
open Go.RowKit
attribute [local go_sem] ba_get

/-- how many octets a name has. -/
def sz (A : List (List UInt8)) : Nat := A.foldl (fun n l => n + l.length + 1) 1
def lokB (l : List UInt8) : Bool := decide (1 ≤ l.length ∧ l.length ≤ 63)
/-- what is wrong with a name. -/
def chk (A : List (List UInt8)) : Int := if A.all lokB = true then if 255 < sz A then 3 else 0 else 7
end Go.Proofs.YtgebcifkbldfoaaGreatDoor

/- The contracts of ascii.Same, ascii.Fields and the reference's Lower, Same and Fields. -/
namespace Go.Proofs.YtgebcifkbldfoaaGreatDoor
open Go.RowKit
attribute [local go_sem] ba_get ext_take ext_drop ext_any

def low (l : List UInt8) : List UInt8 := l.map sm
/-- what stands between blanks, behind a word that has begun. -/
def fldR (word : List UInt8) : List UInt8 → List (List UInt8)
  | [] => if word = [] then [] else [word]
  | b :: r => if blB b = true then (if word = [] then fldR [] r else word :: fldR [] r) else fldR (word ++ [b]) r
def flds (l : List UInt8) : List (List UInt8) := fldR [] l
theorem fldR_blank {l : List UInt8} {k : Nat} (h : k < l.length) (hb : blB l[k] = true) : fldR [] (l.drop k) = fldR [] (l.drop (k + 1)) := by
  rw [List.drop_eq_getElem_cons h, fldR, if_pos hb, if_pos rfl]
theorem fldR_step {l word : List UInt8} {k : Nat} (h : k < l.length) (hb : blB l[k] = false) : fldR word (l.drop k) = fldR (word ++ [l[k]]) (l.drop (k + 1)) := by
  rw [List.drop_eq_getElem_cons h, fldR, if_neg (by simp [hb])]
theorem fldR_word {l word : List UInt8} {k : Nat} (hk : k ≤ l.length) (hw : word ≠ []) (hb : ∀ h : k < l.length, blB l[k] = true) : fldR word (l.drop k) = word :: fldR [] (l.drop k) := by
  by_cases h : k < l.length
  · rw [List.drop_eq_getElem_cons h, fldR, if_pos (hb h), if_neg hw, fldR, if_pos (hb h), if_pos rfl]
  · have : l.drop k = [] := List.drop_eq_nil_of_le (by omega)
    rw [this, fldR, if_neg hw]
    rfl
theorem fldR_len (word l : List UInt8) : (fldR word l).length ≤ l.length + 1 ∧ (word = [] → (fldR word l).length ≤ l.length) := by
  induction l generalizing word with
  | nil => unfold fldR; by_cases h : word = [] <;> simp [h]
  | cons b r ih =>
    unfold fldR
    by_cases hb : blB b = true
    · rw [if_pos hb]
      have h1 := (ih []).2 rfl
      by_cases h : word = []
      · rw [if_pos h]; simp; omega
      · rw [if_neg h]; simp [h]; omega
    · rw [if_neg hb]
      have h1 := (ih (word ++ [b])).1
      simp; omega
theorem flds_len (l : List UInt8) : (flds l).length ≤ l.length := (fldR_len [] l).2 rfl
def TextsPost (w : World) (A : List (List UInt8)) (e : Ending) (w' : World) : Prop := ∃ v, e = .returned v ∧ Sl w' 1 v A.length (A.map stv) ∧ Below w.heap.size w w'
def FldRel (w : World) (l : List UInt8) (k : Nat) (v : Value) (wr : World) : Prop :=
  ∃ done : List (List UInt8), flds l = done ++ fldR [] (l.drop k) ∧ done.length ≤ k ∧ wr.ownsRow w.heap.size 9 1 v done.length (done.map stv) ∧ Below w.heap.size w wr

set_option maxRecDepth 100000 in
set_option maxHeartbeats 1000000 in
theorem fields_any (l : List UInt8) (w : World) (hl : l.length ≤ 1000000000) : Calls Tryz.prog 30 #[.string ⟨l.toArray⟩] w (TextsPost w (flds l)) := by
  go_enter Tryz.func30, Tryz.ntmps30
  go_wp2
  go_loopw [3, 4] (fun v i wr => ∃ k : Nat, k ≤ l.length ∧ i = .int .i64 k ∧ FldRel w l k v wr) (fun _ i _ => l.length - (intOf i).toNat)
  case atStart => exact ⟨0, Nat.zero_le _, rfl, [], rfl, Nat.le_refl _, World.ownsRow_nil _ _ _ _, Below.refl _ _⟩
  case round =>
    obtain ⟨k, hk, rfl, done, h1, h2, h3, h4⟩ := hrel
    have H1 := Lib.hid h1
    clear h1
    have hsz := h4.size
    by_cases hlt : k < l.length
    · have i1 : (k : Int) < (l.length : Int) := by omega
      rcases hb : blB l[k]
      · have Hb := Lib.hid hb
        clear hb
        go_wp2_with fail
        refine (blank_any _ _).mono ?_
        rintro e w' ⟨rfl, rfl⟩
        rw [Hb.out]
        go_wp2_with fail
        go_loop [5] (fun i => ∃ j : Nat, k ≤ j ∧ j ≤ l.length ∧ i = .int .i64 j ∧ fldR [] (l.drop k) = fldR ((l.take j).drop k) (l.drop j) ∧ (j = k ∨ k < j)) (fun i => l.length - (intOf i).toNat)
        case atStart => exact ⟨k, Nat.le_refl _, hk, rfl, by rw [List.drop_take, Nat.sub_self, List.take_zero], .inl rfl⟩
        case round =>
          obtain ⟨j, hkj, hj, rfl, hf, hjk⟩ := hrel
          have Hf := Lib.hid hf
          clear hf
          by_cases hgo : ∃ h : j < l.length, blB l[j] = false
          · obtain ⟨hjl, hbj⟩ := hgo
            have i2 : (j : Int) < (l.length : Int) := by omega
            have hst := fldR_step (word := (l.take j).drop k) hjl hbj
            have hnx : fldR [] (l.drop k) = fldR ((l.take (j + 1)).drop k) (l.drop (j + 1)) := by
              rw [Hf.out, hst, List.take_succ_eq_append_getElem hjl, List.drop_append_of_le_length (by rw [List.length_take]; omega)]
            have Hnx := Lib.hid hnx
            have Hbj := Lib.hid hbj
            clear hst hnx hbj
            go_wp2_with fail
            refine (blank_any _ _).mono ?_
            rintro e w' ⟨rfl, rfl⟩
            rw [Hbj.out]
            go_wp2_with fail
            go_round
            case rel => exact ⟨j + 1, by omega, by omega, by go_num, Hnx.out, .inr (by omega)⟩
            case measure => simp [intOf]; omega
          · have hjk2 : k < j := by
              rcases hjk with h | h
              · subst h; exact absurd ⟨hlt, Hb.out⟩ hgo
              · exact h
            have hword : (l.take j).drop k ≠ [] := by
              intro h
              have := congrArg List.length h
              rw [List.length_drop, List.length_take] at this
              simp at this
              omega
            have hbl : ∀ h : j < l.length, blB l[j] = true := by
              intro h
              cases hh : blB l[j]
              · exact absurd ⟨h, hh⟩ hgo
              · rfl
            have hfin : flds l = (done ++ [(l.take j).drop k]) ++ fldR [] (l.drop j) := by
              rw [H1.out, Hf.out, fldR_word hj hword hbl]; simp
            have Hfin := Lib.hid hfin
            clear hfin
            by_cases hjl : j < l.length
            · have i2 : (j : Int) < (l.length : Int) := by omega
              have Hbj := Lib.hid (hbl hjl)
              clear hbl hgo
              go_wp2_with fail
              refine (blank_any _ _).mono ?_
              rintro e w' ⟨rfl, rfl⟩
              rw [Hbj.out]
              go_wp2_with (at_builtin; refine wpList_appLit rfl _ _ _ rfl elt_strs (n := done.length) rfl h3 [stv ((l.take j).drop k)] (m := 1) rfl rfl (by simp [Value.oneCell', stv]) hsz (by omega) (by omega) ?_; intro v1 w1 ho1 hb1 hg1)
              go_roundw
              case rel => exact ⟨j, hj, rfl, done ++ [(l.take j).drop k], Hfin.out, by simp; omega, by simpa using ho1, h4.trans hb1⟩
              case measure => simp [intOf]; omega
            · have i2 : ¬ (j : Int) < (l.length : Int) := by omega
              clear hbl hgo
              go_wp2_with (at_builtin; refine wpList_appLit rfl _ _ _ rfl elt_strs (n := done.length) rfl h3 [stv ((l.take j).drop k)] (m := 1) rfl rfl (by simp [Value.oneCell', stv]) hsz (by omega) (by omega) ?_; intro v1 w1 ho1 hb1 hg1)
              go_roundw
              case rel => exact ⟨j, hj, rfl, done ++ [(l.take j).drop k], Hfin.out, by simp; omega, by simpa using ho1, h4.trans hb1⟩
              case measure => simp [intOf]; omega
      · have hnx := fldR_blank hlt hb
        have hfin : flds l = done ++ fldR [] (l.drop (k + 1)) := by rw [H1.out, hnx]
        have Hfin := Lib.hid hfin
        have Hb := Lib.hid hb
        clear hb hnx hfin
        go_wp2_with fail
        refine (blank_any _ _).mono ?_
        rintro e w' ⟨rfl, rfl⟩
        rw [Hb.out]
        go_wp2_with fail
        go_roundw
        case rel => exact ⟨k + 1, by omega, by go_num, done, Hfin.out, by omega, h3, h4⟩
        case measure => simp [intOf]; omega
    · have i1 : ¬ (k : Int) < (l.length : Int) := by omega
      have hfin : flds l = done := by
        rw [H1.out, List.drop_eq_nil_of_le (by omega)]; simp [fldR]
      have Hfin := Lib.hid hfin
      clear hfin
      go_wp2
      go_ret
      rw [Hfin.out]
      exact ⟨_, rfl, Sl.own h3, h4⟩
end Go.Proofs.YtgebcifkbldfoaaGreatDoor

/- The contract of domain.one: the label that a text begins with. -/
namespace Go.Proofs.YtgebcifkbldfoaaGreatDoor
open Go.RowKit
attribute [local go_sem] ba_get ext_take ext_drop

/-- one byte of a label, and in how many bytes it is written. -/
def stp : List UInt8 → Option (UInt8 × Nat)
  | [] => none
  | a :: r => if a = 92 then (esc r).map (fun p => (p.1, p.2 + 1)) else some (a, 1)
/-- at the end, or at a dot. -/
def ends (l : List UInt8) : Bool := l.isEmpty || l.head? == some 46
def oneF : Nat → List UInt8 → Option (List UInt8 × Nat)
  | 0, _ => some ([], 0)
  | k + 1, l => if ends l = true then some ([], 0) else match stp l with
    | none => none
    | some (c, n) => (oneF k (l.drop n)).map (fun p => (c :: p.1, n + p.2))
def one (l : List UInt8) : Option (List UInt8 × Nat) := oneF l.length l

theorem one_end {l : List UInt8} (h : ends l = true) : one l = some ([], 0) := by
  unfold one
  rcases l with _ | ⟨a, r⟩
  · rfl
  · simp only [List.length_cons, oneF]; rw [if_pos h]
/-- what domain.one answers: the label, how many bytes, the error. -/
def oneE (l : List UInt8) : Int × List UInt8 × Nat := match one l with
  | none => (5, [], 0)
  | some (b, m) => if b = [] then (8, [], 0) else if 63 < b.length then (7, [], 0) else (0, b, m)
def OneRel (w : World) (l : List UInt8) (k : Nat) (v : Value) (wr : World) : Prop :=
  ∃ done : List UInt8, one l = (one (l.drop k)).map (fun p => (done ++ p.1, k + p.2)) ∧ done.length ≤ k ∧ wr.ownsRow w.heap.size 5 1 v done.length (done.map byv) ∧ Below w.heap.size w wr
theorem OneRel.start (w : World) (l : List UInt8) : OneRel w l 0 (.slice none 0 0) w :=
  ⟨[], by rw [List.drop_zero]; cases one l <;> simp, Nat.le_refl _, World.ownsRow_nil _ _ _ _, Below.refl _ _⟩
theorem ends_end {l : List UInt8} : ends (l.drop l.length) = true := by simp [ends]
end Go.Proofs.YtgebcifkbldfoaaGreatDoor

/- The contract of domain.Parse. -/
namespace Go.Proofs.YtgebcifkbldfoaaGreatDoor
open Go.RowKit
attribute [local go_sem] ba_get ext_take ext_drop

/-- what a reading of names comes to: an error; or the labels, and whether a dot stood last. -/
def prsF : Nat → List (List UInt8) → Bool → List UInt8 → Int ⊕ (List (List UInt8) × Bool)
  | 0, n, dot, _ => if 255 < sz n then .inl 3 else .inr (n, dot)
  | k + 1, n, dot, r => if r = [] then (if 255 < sz n then .inl 3 else .inr (n, dot)) else
    if (oneE r).1 = 0 then prsF k (n ++ [(oneE r).2.1]) (decide ((oneE r).2.2 < r.length)) (r.drop ((oneE r).2.2 + if (oneE r).2.2 < r.length then 1 else 0)) else .inl (oneE r).1
def prs (l : List UInt8) : Int ⊕ (List (List UInt8) × Bool) := if l = [46] then .inr ([], true) else if l = [] then .inl 8 else prsF l.length [] false l
/-- from a rest on, with labels that were read. -/
def prsR (n : List (List UInt8)) (dot : Bool) (r : List UInt8) : Int ⊕ (List (List UInt8) × Bool) := prsF r.length n dot r
theorem prsR_nil (n : List (List UInt8)) (dot : Bool) : prsR n dot [] = if 255 < sz n then .inl 3 else .inr (n, dot) := rfl
/-- the labels that a reading came to (none, of an error), whether a dot stood last, and the error. -/
def pA (o : Int ⊕ (List (List UInt8) × Bool)) : List (List UInt8) := match o with | .inl _ => [] | .inr p => p.1
def pD (o : Int ⊕ (List (List UInt8) × Bool)) : Bool := match o with | .inl _ => false | .inr p => p.2
def pE (o : Int ⊕ (List (List UInt8) × Bool)) : Int := match o with | .inl e => e | .inr _ => 0
def PrsPost (w : World) (o : Int ⊕ (List (List UInt8) × Bool)) (e : Ending) (w' : World) : Prop :=
  ∃ v, e = .returned (.tuple #[v, .bool (pD o), .int .i64 (pE o)]) ∧ Sl w' 1 v (pA o).length ((pA o).map stv) ∧ Below w.heap.size w w'

theorem PrsPost.ok {w w' : World} {o : Int ⊕ (List (List UInt8) × Bool)} {n : List (List UInt8)} {d : Bool} {v : Value} (h : o = .inr (n, d)) (hs : Sl w' 1 v n.length (n.map stv)) (hb : Below w.heap.size w w') : PrsPost w o (.returned (.tuple #[v, .bool d, .int .i64 0])) w' := by
  rw [h]; exact ⟨_, rfl, hs, hb⟩

end Go.Proofs.YtgebcifkbldfoaaGreatDoor

/- The contract of the reference's Parse: it answers what domain.Parse does. -/
namespace Go.Proofs.YtgebcifkbldfoaaGreatDoor
open Go.RowKit
attribute [local go_sem] ba_get ext_take ext_drop

/-- what is to come within a label of which b has been read. -/
def mid (n : List (List UInt8)) (b r : List UInt8) : Int ⊕ (List (List UInt8) × Bool) := match one r with
  | none => .inl 5
  | some (b', m) => if b ++ b' = [] then .inl 8 else if 63 < (b ++ b').length then .inl 7 else prsR (n ++ [b ++ b']) (decide (m < r.length)) (r.drop (m + if m < r.length then 1 else 0))
def fin (n : List (List UInt8)) (dot : Bool) : Int ⊕ (List (List UInt8) × Bool) := if 255 < sz n then .inl 3 else .inr (n, dot)
/-- what is to come, whatever was read. -/
def St (n : List (List UInt8)) (b : List UInt8) (dot : Bool) (r : List UInt8) : Int ⊕ (List (List UInt8) × Bool) := if dot = true ∧ r = [] then fin n true else mid n b r
theorem mid_end {n : List (List UInt8)} {b r : List UInt8} (he : ends r = true) : mid n b r = if b = [] then .inl 8 else if 63 < b.length then .inl 7 else prsR (n ++ [b]) (decide (0 < r.length)) (r.drop (if 0 < r.length then 1 else 0)) := by
  unfold mid; rw [one_end he]; simp
theorem St_mid {n : List (List UInt8)} {b : List UInt8} {dot : Bool} {r : List UInt8} (h : dot = false ∨ r ≠ []) : St n b dot r = mid n b r := by
  unfold St; rw [if_neg]; rintro ⟨h1, h2⟩; rcases h with h | h
  · rw [h] at h1; cases h1
  · exact h h2
/-- what holds at each round's head. -/
def RpRel (w : World) (l : List UInt8) (i : Nat) (nv bv : Value) (dot : Bool) (wr : World) : Prop :=
  ∃ (n : List (List UInt8)) (b : List UInt8), ((i ≤ l.length ∧ prs l = St n b dot (l.drop i)) ∨ (i = l.length + 1 ∧ prs l = fin n dot)) ∧ (i ≤ l.length + 1) ∧ n.length + b.length ≤ i ∧ n.all lokB = true ∧
    wr.ownsRow w.heap.size 9 1 nv n.length (n.map stv) ∧ wr.ownsRow w.heap.size 5 1 bv b.length (b.map byv) ∧ Below w.heap.size w wr
theorem RpRel.last {w w1 : World} {l : List UInt8} {v1 : Value} {n : List (List UInt8)} {b : List UInt8} (h1 : prs l = St n b false (l.drop l.length)) (h2 : n.length + b.length ≤ l.length) (ha : n.all lokB = true)
    (hb0 : b ≠ []) (hb1 : ¬ 63 < b.length) (h5 : w1.ownsRow w.heap.size 9 1 v1 (n.length + 1) (n.map stv ++ [stv b])) (h4 : Below w.heap.size w w1) : RpRel w l (l.length + 1) v1 (.slice none 0 0) false w1 := by
  have hbl : 0 < b.length := List.length_pos_iff.2 hb0
  refine ⟨n ++ [b], [], .inr ⟨rfl, ?_⟩, by omega, by simp; omega, ?_, by simpa using h5, World.ownsRow_nil _ _ _ _, h4⟩
  · rw [h1, St_mid (.inl rfl), mid_end ends_end, if_neg hb0, if_neg hb1]
    simp [fin, prsR_nil]
  · rw [List.all_append, ha]; simp [lokB]; omega
end Go.Proofs.YtgebcifkbldfoaaGreatDoor

/- The contracts of domain.add, domain.Text, domain.Plain and works. -/
namespace Go.Proofs.YtgebcifkbldfoaaGreatDoor
open Go.RowKit
attribute [local go_sem] ba_get ext_take ext_drop

/-- a byte of a label, written. -/
def escb (c : UInt8) : List UInt8 :=
  if c.toNat = 46 ∨ c.toNat = 92 then [92, c] else if c.toNat < 33 ∨ 126 < c.toNat then [92, UInt8.ofNat (48 + c.toNat / 100), UInt8.ofNat (48 + c.toNat / 10 % 10), UInt8.ofNat (48 + c.toNat % 10)] else [c]
def escl (l : List UInt8) : List UInt8 := l.flatMap escb
def escp (l : List UInt8) (k : Nat) : List UInt8 := (l.take k).flatMap escb
theorem escp_succ {l : List UInt8} {k : Nat} (h : k < l.length) : escp l (k + 1) = escp l k ++ escb l[k] := by
  unfold escp
  rw [List.take_succ_eq_append_getElem h, List.flatMap_append, List.flatMap_singleton]
def DaddRel (base : Nat) (w : World) (n : Nat) (xs : List Value) (l : List UInt8) (k : Nat) (v : Value) (wr : World) : Prop :=
  wr.ownsRow base 5 1 v (n + (escp l k).length) (xs ++ (escp l k).map byv) ∧ Below base w wr
theorem DaddRel.next {base : Nat} {w w0 w1 : World} {n : Nat} {xs : List Value} {l : List UInt8} {k m : Nat} {v1 : Value} {us : List Value} (hk : k < l.length) (hu : (escb l[k]).map byv = us) (hm : us.length = m) (h : w1.ownsRow base 5 1 v1 (n + (escp l k).length + m) (xs ++ (escp l k).map byv ++ us)) (h0 : Below base w w0) (h1 : Below base w0 w1) : DaddRel base w n xs l (k + 1) v1 w1 := by
  refine ⟨?_, h0.trans h1⟩
  have hl : (escb l[k]).length = m := by rw [← hm, ← hu]; simp
  rw [escp_succ hk, List.length_append, hl, List.map_append, hu, ← Nat.add_assoc, ← List.append_assoc]
  exact h

def dtxs (A : List (List UInt8)) (k : Nat) : List UInt8 := (A.take k).flatMap (fun l => escl l ++ [46])
theorem dtxs_succ {A : List (List UInt8)} {k : Nat} (h : k < A.length) : dtxs A (k + 1) = dtxs A k ++ (escl A[k] ++ [46]) := by
  unfold dtxs
  rw [List.take_succ_eq_append_getElem h, List.flatMap_append, List.flatMap_singleton]
def DtRel (w : World) (A : List (List UInt8)) (k : Nat) (v : Value) (wr : World) : Prop :=
  wr.ownsRow w.heap.size 5 1 v (dtxs A k).length ((dtxs A k).map byv) ∧ Below w.heap.size w wr
theorem DtRel.next {w w0 w1 : World} {A : List (List UInt8)} {k : Nat} {v1 : Value} (hk : k < A.length) (h : w1.ownsRow w.heap.size 5 1 v1 ((dtxs A k).length + (escl A[k]).length + 1) ((dtxs A k).map byv ++ ((escl A[k]).map byv ++ [.int .u8 46]))) (h0 : Below w.heap.size w w0) (h1 : Below w.heap.size w0 w1) : DtRel w A (k + 1) v1 w1 := by
  refine ⟨?_, h0.trans h1⟩
  rw [dtxs_succ hk]
  simp only [List.length_append, List.map_append, List.length_cons, List.length_nil, Nat.add_assoc] at h ⊢
  exact h
def StrPost (w : World) (l : List UInt8) (e : Ending) (w' : World) : Prop := e = .returned (.string ⟨l.toArray⟩) ∧ Below w.heap.size w w'

end Go.Proofs.YtgebcifkbldfoaaGreatDoor

/- The contracts of the reference's Lower and Same, of names' Same, Lower, Under and Cat. -/
namespace Go.Proofs.YtgebcifkbldfoaaGreatDoor
open Go.RowKit
attribute [local go_sem] ba_get ext_take ext_drop

theorem low_len (l : List UInt8) : (low l).length = l.length := by simp [low]
theorem low_next {l : List UInt8} {k : Nat} (h : k < l.length) : low (l.take (k + 1)) = low (l.take k) ++ [sm l[k]] := by
  unfold low; rw [List.take_succ_eq_append_getElem h, List.map_append]; rfl
def RlRel (w : World) (l : List UInt8) (k : Nat) (v : Value) (wr : World) : Prop :=
  wr.ownsRow w.heap.size 5 1 v k ((low (l.take k)).map byv) ∧ Below w.heap.size w wr
theorem RlRel.next {w w0 w1 : World} {l : List UInt8} {k : Nat} {v1 : Value} {u : Value} (hk : k < l.length) (hu : u = byv (sm l[k])) (h : w1.ownsRow w.heap.size 5 1 v1 (k + 1) ((low (l.take k)).map byv ++ [u])) (h0 : Below w.heap.size w w0) (h1 : Below w.heap.size w0 w1) : RlRel w l (k + 1) v1 w1 := by
  subst hu
  refine ⟨?_, h0.trans h1⟩
  rw [low_next hk, List.map_append]
  exact h
def lows (A : List (List UInt8)) : List (List UInt8) := A.map low
def RdRel (w : World) (A : List (List UInt8)) (k : Nat) (v : Value) (wr : World) : Prop :=
  wr.ownsRow w.heap.size 9 1 v k ((lows (A.take k)).map stv) ∧ Below w.heap.size w wr
theorem RdRel.next {w w0 w1 : World} {A : List (List UInt8)} {k : Nat} {v1 : Value} (hk : k < A.length) (h : w1.ownsRow w.heap.size 9 1 v1 (k + 1) ((lows (A.take k)).map stv ++ [stv (low A[k])])) (h0 : Below w.heap.size w w0) (h1 : Below w.heap.size w0 w1) : RdRel w A (k + 1) v1 w1 := by
  refine ⟨?_, h0.trans h1⟩
  unfold lows at h ⊢
  rw [List.take_succ_eq_append_getElem hk, List.map_append, List.map_append]
  exact h
end Go.Proofs.YtgebcifkbldfoaaGreatDoor

/- The contracts of Under and Cat, and the walk of DomainHolds. -/
namespace Go.Proofs.YtgebcifkbldfoaaGreatDoor
open Go.RowKit
attribute [local go_sem] ba_get ext_take ext_drop

/-- both together: the labels, of an error none; and the error. -/
def CatPost (w : World) (A B : List (List UInt8)) (e : Ending) (w' : World) : Prop :=
  ∃ v, e = .returned (.tuple #[v, .int .i64 (chk (A ++ B))]) ∧ (∃ C : List (List UInt8), C = (if chk (A ++ B) = 0 then A ++ B else []) ∧ Sl w' 1 v C.length (C.map stv)) ∧ Below w.heap.size w w'
theorem CatPost.ok {w w' : World} {A B : List (List UInt8)} {v : Value} (h : chk (A ++ B) = 0) (hs : Sl w' 1 v (A ++ B).length ((A ++ B).map stv)) (hb : Below w.heap.size w w') : CatPost w A B (.returned (.tuple #[v, .int .i64 0])) w' :=
  ⟨v, by rw [h], ⟨_, rfl, by rw [if_pos h]; exact hs⟩, hb⟩
theorem CatPost.no {w w' : World} {A B : List (List UInt8)} (h : chk (A ++ B) ≠ 0) (hb : Below w.heap.size w w') : CatPost w A B (.returned (.tuple #[.slice none 0 0, .int .i64 (chk (A ++ B))])) w' :=
  ⟨_, rfl, ⟨_, rfl, by rw [if_neg h]; exact Sl.nil _ _⟩, hb⟩

end Go.Proofs.YtgebcifkbldfoaaGreatDoor

/- domain.Parse: the name that is read is the call's own. -/
namespace Go.Proofs.YtgebcifkbldfoaaGreatDoor
open Go.RowKit
attribute [local go_sem] ba_get ext_take ext_drop
def PrsOwn (w : World) (o : Int ⊕ (List (List UInt8) × Bool)) (e : Ending) (w' : World) : Prop :=
  ∃ v, e = .returned (.tuple #[v, .bool (pD o), .int .i64 (pE o)]) ∧ w'.ownsRow w.heap.size 9 1 v (pA o).length ((pA o).map stv) ∧ Below w.heap.size w w'
theorem PrsOwn.ok {w w' : World} {o : Int ⊕ (List (List UInt8) × Bool)} {n : List (List UInt8)} {d : Bool} {v : Value} (h : o = .inr (n, d)) (hs : w'.ownsRow w.heap.size 9 1 v n.length (n.map stv)) (hb : Below w.heap.size w w') : PrsOwn w o (.returned (.tuple #[v, .bool d, .int .i64 0])) w' := by
  rw [h]; exact ⟨_, rfl, hs, hb⟩
end Go.Proofs.YtgebcifkbldfoaaGreatDoor

/- The contract of ascii.Lower. -/
namespace Go.Proofs.YtgebcifkbldfoaaGreatDoor
open Go.RowKit
attribute [local go_sem] ba_get ext_take ext_drop

/-- block g holds l's bytes, the first k of them folded. -/
def LowBlk (W : World) (g c : Nat) (l : List UInt8) (k : Nat) : Prop :=
  ∃ cur : Array Value, W.heap[g]? = some (.cells cur 5 (c, c + 1)) ∧ l.length ≤ c ∧ ∀ (j : Nat) (hj : j < l.length), cur[j]? = some (byv (if j < k then sm l[j] else l[j]))
theorem LowBlk.cell {W : World} {g c k j : Nat} {l : List UInt8} (h : LowBlk W g c l k) (hj : j < l.length) : W.cell? ⟨g, j, none⟩ = some (byv (if j < k then sm l[j] else l[j])) := by
  obtain ⟨cur, h1, _, h3⟩ := h
  rw [cell_of_row W g j cur 5 (c, c + 1) h1]
  exact h3 j hj
theorem LowBlk.free {W : World} {g c k j : Nat} {l : List UInt8} (h : LowBlk W g c l k) (hj : j < l.length) : W.frozen? ⟨g, j, none⟩ = false := by
  obtain ⟨cur, h1, h2, _⟩ := h
  simp [World.frozen?, h1]
  omega
theorem LowBlk.store {W : World} {g c k : Nat} {l : List UInt8} (h : LowBlk W g c l k) (hk : k < l.length) : LowBlk (W.setCell ⟨g, k, none⟩ (byv (sm l[k]))) g c l (k + 1) := by
  obtain ⟨cur, h1, h2, h3⟩ := h
  refine ⟨cur.setIfInBounds k (byv (sm l[k])), by simp [World.setCell, Array.getElem?_modify, h1], h2, fun j hj => ?_⟩
  have hs : k < cur.size := (Array.getElem?_eq_some_iff.1 (h3 k hk)).1
  rw [Array.getElem?_setIfInBounds]
  by_cases e : k = j
  · subst e
    rw [if_pos rfl, if_pos hs, if_pos (by omega)]
  · rw [if_neg e, h3 j hj]
    by_cases hjk : j < k
    · rw [if_pos hjk, if_pos (by omega)]
    · rw [if_neg hjk, if_neg (by omega)]
theorem LowBlk.lt {W : World} {g c k : Nat} {l : List UInt8} (h : LowBlk W g c l k) : g < W.heap.size := by
  obtain ⟨cur, h1, _, _⟩ := h
  rcases Nat.lt_or_ge g W.heap.size with hlt | hge
  · exact hlt
  · rw [Array.getElem?_eq_none hge] at h1; cases h1
theorem LowBlk.str {W : World} {g c : Nat} {l : List UInt8} (h : LowBlk W g c l l.length) (cap : Nat) (hc : l.length ≤ cap) : (convert 44 9 (.slice (some ⟨g, 0, none⟩) l.length cap)).run Tryz.prog W = .ok (.string ⟨(low l).toArray⟩) W := by
  have hs : Sl W 1 (.slice (some ⟨g, 0, none⟩) (low l).length cap) (low l).length ((low l).map byv) := by
    refine ⟨by simp, _, cap, rfl, by rw [low_len]; exact hc, fun h => (by cases h), fun ad had _ => ?_⟩
    injection had with had
    subst had
    refine ⟨h.lt, rfl, fun j u hu => ?_⟩
    unfold low at hu
    rw [List.map_map, List.getElem?_map, Option.map_eq_some_iff] at hu
    obtain ⟨x, hx, rfl⟩ := hu
    obtain ⟨hj, rfl⟩ := List.getElem?_eq_some_iff.1 hx
    have := h.cell hj
    rw [if_pos hj] at this
    simpa using this
  have := str_run hs
  rwa [low_len] at this
theorem bytes_size (l : List UInt8) (cap : Nat) : l.length ≤ (bytesRow ⟨l.toArray⟩ cap).size := by
  rcases Nat.eq_zero_or_pos l.length with h | h
  · omega
  · have := bytesRow_at ⟨l.toArray⟩ cap (l.length - 1) (by simp; omega)
    have := (Array.getElem?_eq_some_iff.1 this).1
    omega
theorem LowBlk.start (W : World) (l : List UInt8) (cap k : Nat) (hm : ∀ (j : Nat) (hj : j < l.length), j < k → sm l[j] = l[j]) :
    LowBlk (W.alloc (.cells (bytesRow ⟨l.toArray⟩ cap) 5 ((bytesRow ⟨l.toArray⟩ cap).size, (bytesRow ⟨l.toArray⟩ cap).size + 1))) W.heap.size (bytesRow ⟨l.toArray⟩ cap).size l k := by
  refine ⟨_, heap_alloc_new W _, bytes_size l cap, fun j hj => ?_⟩
  have := bytesRow_at ⟨l.toArray⟩ cap j (by simpa using hj)
  rw [this]
  by_cases h : j < k
  · rw [if_pos h, hm j hj h]; rfl
  · rw [if_neg h]; rfl
end Go.Proofs.YtgebcifkbldfoaaGreatDoor
