/- Contracts and plain lemmas of our own, merged. -/
import Derived.Test.YtgebcifkbldfoaaDoorZRj1
import Derived.Test.YtgebcifkbldfoaaDoorZRj4
import Derived.Test.YtgebcifkbldfoaaDoorProg
import Derived.Lib.BufferRead
import Derived.Laws.IdiomStrings
/- Words of our own for rows of bytes and of texts. -/
namespace Go.Proofs.YtgebcifkbldfoaaDoor
open Go.RowKit

theorem ba_app (a b : List UInt8) : ByteArray.mk a.toArray ++ ByteArray.mk b.toArray = ⟨(a ++ b).toArray⟩ := by
  apply ByteArray.ext
  simp [ByteArray.data_append]
/-- a byte as a value. -/
def byv (b : UInt8) : Value := .int .u8 (b.toNat : Int)
theorem byv_one (l : List UInt8) : ∀ u ∈ l.map byv, u.oneCell' = true := by
  intro u hu
  simp at hu
  obtain ⟨b, _, rfl⟩ := hu
  rfl
theorem str_of_sl {P : Program} {w : World} {v : Value} {l : List UInt8} {src dst e : TypeId} (hs : P.underlying src = some (.slice e)) (he : P.underlying e = some (.int .u8)) (hd : P.underlying dst = some .string)
    (h : Sl w 1 v l.length (l.map byv)) : (convert src dst v).run P w = .ok (.string ⟨l.toArray⟩) w := by
  obtain ⟨_, A, c, rfl, hc, hA, hcell⟩ := h
  match A, hA, hcell with
  | none, hA, _ =>
    have : l = [] := List.eq_nil_of_length_eq_zero (by have := hA rfl; omega)
    subst this
    exact Lib.run_convert_nil_bytes w src dst e c hs he hd
  | some ad, _, hcell =>
    refine run_convert_bytes_back w src dst e ad c l hs he hd fun j hj => ?_
    obtain ⟨_, hsp, hh⟩ := hcell ad rfl (by omega)
    obtain ⟨b, off, sp⟩ := ad
    dsimp only at hsp hh
    subst hsp
    rw [add_none]
    refine hh j _ ?_
    simp [byv, hj]

theorem elt_bytes : Elt Tryd.prog 136 5 1 1 := Elt.mk' (z := .int .u8 0) Tryd.underlying136 (by kernel_rfl) rfl (by decide)

/-- a text as a value. -/
def stv (l : List UInt8) : Value := .string ⟨l.toArray⟩
theorem sl_at {w : World} {α : Type} {f : α → Value} {A : List α} {b off j : Nat} (hc : ∀ j u, (A.map f)[j]? = some u → w.cell? ⟨b, off + j, none⟩ = some u) (hj : j < A.length) : w.cell? ⟨b, off + j, none⟩ = some (f A[j]) :=
  hc j _ (by simp [hj])
theorem str_run {w : World} {v : Value} {l : List UInt8} (h : Sl w 1 v l.length (l.map byv)) : (convert 136 9 v).run Tryd.prog w = .ok (.string ⟨l.toArray⟩) w :=
  str_of_sl Tryd.underlying136 Tryd.underlying5 Tryd.underlying9 h
theorem elt_strs : Elt Tryd.prog 48 9 1 16 := Elt.mk' (z := .string ⟨#[]⟩) Tryd.underlying48 (by kernel_rfl) rfl (by decide)
theorem elt_name : Elt Tryd.prog 51 9 1 16 := Elt.mk' (z := .string ⟨#[]⟩) Tryd.underlying51 (by kernel_rfl) rfl (by decide)
def Good (w : World) (e : Ending) (w' : World) : Prop := e = .returned (.bool true) ∧ Below w.heap.size w w'
theorem bel_tr {a b c : World} (h : Below a.heap.size a b) (k : Below b.heap.size b c) : Below a.heap.size a c := h.trans (k.mono h.size)
end Go.Proofs.YtgebcifkbldfoaaDoor

/- The contracts of small, blank, Hex and the reference's Hex. -/
namespace Go.Proofs.YtgebcifkbldfoaaDoor
open Go.RowKit
attribute [local go_sem] ba_get

/-- a byte, a great letter made small. -/
def sm (b : UInt8) : UInt8 := if 65 ≤ b.toNat ∧ b.toNat ≤ 90 then UInt8.ofNat (b.toNat + 32) else b
def blB (b : UInt8) : Bool := decide (b.toNat = 32 ∨ b.toNat = 9)

set_option maxHeartbeats 400000 in
theorem blank_any (b : UInt8) (w : World) : Calls Tryd.prog 85 #[.int .u8 (b.toNat : Int)] w fun e w' => e = .returned (.bool (blB b)) ∧ w = w' := by
  by_cases h1 : b.toNat = 32
  · have i1 : ((b.toNat : Int) == 32) = true := by simp; omega
    have hf : blB b = true := by simp [blB, h1]
    have Hf := Lib.hid hf
    clear h1 hf
    go_enter Tryd.func85, Tryd.ntmps85
    go_wp2
    go_ret
    exact ⟨retb Hf.out.symm, rfl⟩
  · have i1 : ((b.toNat : Int) == 32) = false := by simp; omega
    by_cases h2 : b.toNat = 9
    · have i2 : ((b.toNat : Int) == 9) = true := by simp; omega
      have hf : blB b = true := by simp [blB, h2]
      have Hf := Lib.hid hf
      clear h1 h2 hf
      go_enter Tryd.func85, Tryd.ntmps85
      go_wp2
      go_ret
      exact ⟨retb Hf.out.symm, rfl⟩
    · have i2 : ((b.toNat : Int) == 9) = false := by simp; omega
      have hf : blB b = false := by simp [blB, h1, h2]
      have Hf := Lib.hid hf
      clear h1 h2 hf
      go_enter Tryd.func85, Tryd.ntmps85
      go_wp2
      go_ret
      exact ⟨retb Hf.out.symm, rfl⟩

/-- the number of a digit of the base 16. -/
def hex (c : Int) : Option Int := if 48 ≤ c ∧ c ≤ 57 then some (c - 48) else if 97 ≤ c ∧ c ≤ 102 then some (c - 87) else if 65 ≤ c ∧ c ≤ 70 then some (c - 55) else none
def hexV : Option Int → Value
  | none => .tuple #[.int .i64 0, .bool false]
  | some n => .tuple #[.int .i64 n, .bool true]
theorem hexn {o : Option Int} (h : o = none) : Ending.returned (.tuple #[.int .i64 0, .bool false]) = .returned (hexV o) := by rw [h]; rfl
theorem hexs {o : Option Int} {n m : Int} (h : o = some n) (hm : m = n) : Ending.returned (.tuple #[.int .i64 m, .bool true]) = .returned (hexV o) := by rw [h, hm]; rfl
set_option maxHeartbeats 800000 in
theorem hex_any (c : Int) (w : World) (h0 : 0 ≤ c) (h1 : c ≤ 255) : Calls Tryd.prog 116 #[.int .u8 c] w fun e w' => e = .returned (hexV (hex c)) ∧ w = w' := by
  rcases (show c < 48 ∨ (48 ≤ c ∧ c ≤ 57) ∨ (57 < c ∧ c < 65) ∨ (65 ≤ c ∧ c ≤ 70) ∨ (70 < c ∧ c < 97) ∨ (97 ≤ c ∧ c ≤ 102) ∨ 102 < c by omega) with h | ⟨h, h'⟩ | ⟨h, h'⟩ | ⟨h, h'⟩ | ⟨h, h'⟩ | ⟨h, h'⟩ | h
  all_goals
    go_enter Tryd.func116, Tryd.ntmps116
    go_wp2
    go_ret2
  · exact ⟨hexn (by unfold hex; rw [if_neg (by omega), if_neg (by omega), if_neg (by omega)]), rfl⟩
  · exact ⟨hexs (by unfold hex; rw [if_pos (by omega)]) (by omega), rfl⟩
  · exact ⟨hexn (by unfold hex; rw [if_neg (by omega), if_neg (by omega), if_neg (by omega)]), rfl⟩
  · exact ⟨hexs (by unfold hex; rw [if_neg (by omega), if_neg (by omega), if_pos (by omega)]) (by omega), rfl⟩
  · exact ⟨hexn (by unfold hex; rw [if_neg (by omega), if_neg (by omega), if_neg (by omega)]), rfl⟩
  · exact ⟨hexs (by unfold hex; rw [if_neg (by omega), if_pos (by omega)]) (by omega), rfl⟩
  · exact ⟨hexn (by unfold hex; rw [if_neg (by omega), if_neg (by omega), if_neg (by omega)]), rfl⟩

end Go.Proofs.YtgebcifkbldfoaaDoor

/- The contracts of Size, Check, Few, SameTexts and Exact. -/
namespace Go.Proofs.YtgebcifkbldfoaaDoor
open Go.RowKit
attribute [local go_sem] ba_get

/-- how many octets a name has. -/
def sz (A : List (List UInt8)) : Nat := A.foldl (fun n l => n + l.length + 1) 1
theorem sz_from (n : Nat) (A : List (List UInt8)) : n ≤ A.foldl (fun n l => n + l.length + 1) n := by
  induction A generalizing n with
  | nil => exact Nat.le_refl _
  | cons b r ih => exact Nat.le_trans (show n ≤ n + b.length + 1 by omega) (ih _)
theorem sz_app (A B : List (List UInt8)) : sz (A ++ B) = B.foldl (fun n l => n + l.length + 1) (sz A) := by unfold sz; rw [List.foldl_append]
theorem sz_next {A : List (List UInt8)} {k : Nat} (h : k < A.length) : sz (A.take (k + 1)) = sz (A.take k) + A[k].length + 1 := by
  rw [List.take_succ_eq_append_getElem h, sz_app]; rfl
theorem sz_take (A : List (List UInt8)) (k : Nat) : sz (A.take k) ≤ sz A := by
  conv => rhs; rw [← List.take_append_drop k A]
  rw [sz_app]
  exact sz_from _ _
theorem sz_all (A : List (List UInt8)) : sz (A.take A.length) = sz A := by rw [List.take_length]
def lokB (l : List UInt8) : Bool := decide (1 ≤ l.length ∧ l.length ≤ 63)
theorem lokB_t {l : List UInt8} (h : lokB l = true) : 1 ≤ l.length ∧ l.length ≤ 63 := by simpa [lokB] using h
/-- what is wrong with a name. -/
def chk (A : List (List UInt8)) : Int := if A.all lokB = true then if 255 < sz A then 3 else 0 else 7
theorem fold_ok (A : List (List UInt8)) (n : Nat) (h : A.all lokB = true) : A.foldl (fun n l => n + l.length + 1) n ≤ n + 64 * A.length := by
  induction A generalizing n with
  | nil => simp
  | cons l A ih =>
    rw [List.all_cons, Bool.and_eq_true] at h
    have h1 := lokB_t h.1
    have h2 := ih (n + l.length + 1) h.2
    rw [List.foldl_cons, List.length_cons]
    omega
theorem sz_ok {A : List (List UInt8)} (h : A.all lokB = true) : sz A ≤ 1 + 64 * A.length := fold_ok A 1 h
theorem takes_eq {A B : List (List UInt8)} {k : Nat} (ha : k < A.length) (hb : k < B.length) (h : A.take k = B.take k) (he : A[k] = B[k]) : A.take (k + 1) = B.take (k + 1) := by
  rw [List.take_succ_eq_append_getElem ha, List.take_succ_eq_append_getElem hb, h, he]

set_option maxRecDepth 100000 in
set_option maxHeartbeats 800000 in
theorem size_any (A : List (List UInt8)) (v : Value) (w : World) (ha : Sl w 1 v A.length (A.map stv)) (hn : A.length ≤ 1000000000) (hs : sz A ≤ 1000000000000000) :
    Calls Tryd.prog 130 #[v] w fun e w' => e = .returned (.int .i64 (sz A)) ∧ w = w' := by
  rcases Nat.eq_zero_or_pos A.length with h0 | hpos
  · have hA : A = [] := List.eq_nil_of_length_eq_zero h0
    subst hA
    obtain ⟨a1, c1, rfl, _⟩ := ha.zero
    clear ha
    go_enter Tryd.func130, Tryd.ntmps130
    go_wp2
    refine wp_loop_rounds 1 ?_
    rw [rounds_succ]; go_wp2
    go_ret
    exact ⟨rfl, rfl⟩
  · obtain ⟨b1, o1, c1, rfl, hc1, hb1, hcA⟩ := ha.pos hpos
    have HcA := Lib.hid hcA
    clear hcA ha
    go_enter Tryd.func130, Tryd.ntmps130
    go_wp2
    go_loop [3, 8] (fun n i => ∃ k m : Nat, k ≤ A.length ∧ i = .int .i64 k ∧ n = .int .i64 m ∧ m = sz (A.take k)) (fun _ i => A.length - (intOf i).toNat)
    case atStart => exact ⟨0, 1, Nat.zero_le _, rfl, rfl, rfl⟩
    case round =>
      obtain ⟨k, m, hk, rfl, rfl, hm⟩ := hrel
      have Hm := Lib.hid hm
      clear hm
      by_cases hlt : k < A.length
      · have i1 : (k : Int) < (A.length : Int) := by omega
        have q1 : w.cell? ⟨b1, o1 + k, none⟩ = some (.string ⟨A[k].toArray⟩) := sl_at HcA.out hlt
        have hnx := sz_next hlt
        rw [← Hm.out] at hnx
        have hle := sz_take A (k + 1)
        rw [hnx] at hle
        have Hnx := Lib.hid hnx
        clear hnx
        go_wp2
        go_round
        case rel => exact ⟨k + 1, m + A[k].length + 1, by omega, by go_num, vint (by omega), Hnx.out.symm⟩
        case measure => simp [intOf]; omega
      · have i1 : ¬ (k : Int) < (A.length : Int) := by omega
        obtain rfl : k = A.length := by omega
        have hm := Hm.out
        rw [sz_all] at hm
        have Hm2 := Lib.hid hm
        clear hm
        go_wp2
        go_ret
        exact ⟨reti (by rw [Hm2.out]), rfl⟩

set_option maxRecDepth 100000 in
set_option maxHeartbeats 800000 in
theorem sametexts_any (A B : List (List UInt8)) (va vb : Value) (w : World) (ha : Sl w 1 va A.length (A.map stv)) (hb : Sl w 1 vb B.length (B.map stv)) (hl : A.length ≤ 1000000000) :
    Calls Tryd.prog 68 #[va, vb] w fun e w' => e = .returned (.bool (decide (A = B))) ∧ Below w.heap.size w w' := by
  by_cases hn : A.length = B.length
  · rcases Nat.eq_zero_or_pos A.length with h0 | hpos
    · have hA : A = [] := List.eq_nil_of_length_eq_zero h0
      have hB : B = [] := List.eq_nil_of_length_eq_zero (by omega)
      subst hA hB
      obtain ⟨a1, c1, rfl, _⟩ := ha.zero
      obtain ⟨a2, c2, rfl, _⟩ := hb.zero
      go_enter Tryd.func68, Tryd.ntmps68
      go_wp2
      refine wp_loop_rounds 1 ?_
      rw [rounds_succ]; go_wp2
      go_ret
      exact ⟨rfl, Below.refl _ _⟩
    · obtain ⟨b1, o1, c1, rfl, hc1, _, hcA⟩ := ha.pos hpos
      obtain ⟨b2, o2, c2, rfl, hc2, _, hcB⟩ := hb.pos (by omega)
      have hne : ((A.length : Int) != (B.length : Int)) = false := by simp; omega
      have HcA := Lib.hid hcA
      have HcB := Lib.hid hcB
      clear hcA hcB ha hb
      have Hn := Lib.hid hn
      have hn1 : A.length ≤ B.length := by omega
      have hn2 : B.length ≤ A.length := by omega
      clear hn
      go_enter Tryd.func68, Tryd.ntmps68
      go_wp2
      go_loopw [5] (fun i wr => ∃ k m : Nat, k ≤ A.length ∧ i = .int .i64 k ∧ A.take k = B.take k ∧ wr = w.drewN m) (fun i _ => A.length - (intOf i).toNat)
      case atStart => exact ⟨0, 0, Nat.zero_le _, rfl, rfl, rfl⟩
      case round =>
        obtain ⟨k, m, hk, rfl, ht, rfl⟩ := hrel
        have Ht := Lib.hid ht
        clear ht
        by_cases hlt : k < A.length
        · have q1 : w.cell? ⟨b1, o1 + k, none⟩ = some (.string ⟨A[k].toArray⟩) := sl_at HcA.out hlt
          have q2 : w.cell? ⟨b2, o2 + k, none⟩ = some (.string ⟨B[k].toArray⟩) := sl_at HcB.out (show k < B.length by omega)
          have i1 : (k : Int) < (A.length : Int) := by omega
          have i2 : (k : Int) < (B.length : Int) := by omega
          have i3 : (0 : Int) ≤ (k : Int) := by omega
          by_cases he : A[k] = B[k]
          · have he1 : (A[k] == B[k]) = true := by simp [he]
            have He := Lib.hid he
            clear he
            go_wp2
            go_quiet (fail)
            go_wp2
            go_roundw
            case rel => exact ⟨k + 1, _, by omega, by go_num, takes_eq hlt (by omega) Ht.out He.out, rfl⟩
            case measure => simp [intOf]; omega
          · have he1 : (A[k] == B[k]) = false := by simp [he]
            have He := Lib.hid he
            clear he
            go_wp2
            go_quiet (fail)
            go_wp2
            go_ret
            refine ⟨retb ?_, below_drewN (below_drewN (Below.refl _ _) _) _⟩
            simp only [Bool.false_eq, decide_eq_false_iff_not]
            intro h
            subst h
            exact He.out rfl
        · obtain rfl : k = A.length := by omega
          go_wp2
          go_ret
          refine ⟨retb ?_, below_drewN (Below.refl _ _) _⟩
          simp only [Bool.true_eq, decide_eq_true_eq]
          have := Ht.out
          rwa [List.take_of_length_le (Nat.le_refl _), List.take_of_length_le (by omega)] at this
  · obtain ⟨a1, c1, rfl, _⟩ := ha.any
    obtain ⟨a2, c2, rfl, _⟩ := hb.any
    have hne : ((A.length : Int) != (B.length : Int)) = true := by simp; omega
    clear ha hb
    go_enter Tryd.func68, Tryd.ntmps68
    go_wp2
    go_ret
    refine ⟨retb ?_, Below.refl _ _⟩
    simp only [Bool.false_eq, decide_eq_false_iff_not]
    intro h
    exact hn (by rw [h])

set_option maxHeartbeats 400000 in
theorem exact_any (A B : List (List UInt8)) (va vb : Value) (w : World) (ha : Sl w 1 va A.length (A.map stv)) (hb : Sl w 1 vb B.length (B.map stv)) (hl : A.length ≤ 1000000000) :
    Calls Tryd.prog 33 #[va, vb] w fun e w' => e = .returned (.bool (decide (A = B))) ∧ Below w.heap.size w w' := by
  go_enter Tryd.func33, Tryd.ntmps33
  go_wp2_with fail
  refine (sametexts_any _ _ _ _ _ ha hb hl).mono ?_
  rintro e w' ⟨rfl, hb1⟩
  go_wp2_with fail
  go_ret
  exact ⟨rfl, hb1⟩
end Go.Proofs.YtgebcifkbldfoaaDoor

/- The contracts of ascii.Same, ascii.Fields and the reference's Lower, Same and Fields. -/
namespace Go.Proofs.YtgebcifkbldfoaaDoor
open Go.RowKit
attribute [local go_sem] ba_get ext_take ext_drop ext_any

def low (l : List UInt8) : List UInt8 := l.map sm
/-- what stands between blanks, behind a word that has begun. -/
def fldR (word : List UInt8) : List UInt8 → List (List UInt8)
  | [] => if word = [] then [] else [word]
  | b :: r => if blB b = true then (if word = [] then fldR [] r else word :: fldR [] r) else fldR (word ++ [b]) r
def flds (l : List UInt8) : List (List UInt8) := fldR [] l
theorem fldR_blank {l : List UInt8} {k : Nat} (h : k < l.length) (hb : blB l[k] = true) : fldR [] (l.drop k) = fldR [] (l.drop (k + 1)) := by
  rw [List.drop_eq_getElem_cons h, fldR, if_pos hb, if_pos rfl]
theorem fldR_step {l word : List UInt8} {k : Nat} (h : k < l.length) (hb : blB l[k] = false) : fldR word (l.drop k) = fldR (word ++ [l[k]]) (l.drop (k + 1)) := by
  rw [List.drop_eq_getElem_cons h, fldR, if_neg (by simp [hb])]
theorem fldR_word {l word : List UInt8} {k : Nat} (hk : k ≤ l.length) (hw : word ≠ []) (hb : ∀ h : k < l.length, blB l[k] = true) : fldR word (l.drop k) = word :: fldR [] (l.drop k) := by
  by_cases h : k < l.length
  · rw [List.drop_eq_getElem_cons h, fldR, if_pos (hb h), if_neg hw, fldR, if_pos (hb h), if_pos rfl]
  · have : l.drop k = [] := List.drop_eq_nil_of_le (by omega)
    rw [this, fldR, if_neg hw]
    rfl
theorem fldR_len (word l : List UInt8) : (fldR word l).length ≤ l.length + 1 ∧ (word = [] → (fldR word l).length ≤ l.length) := by
  induction l generalizing word with
  | nil => unfold fldR; by_cases h : word = [] <;> simp [h]
  | cons b r ih =>
    unfold fldR
    by_cases hb : blB b = true
    · rw [if_pos hb]
      have h1 := (ih []).2 rfl
      by_cases h : word = []
      · rw [if_pos h]; simp; omega
      · rw [if_neg h]; simp [h]; omega
    · rw [if_neg hb]
      have h1 := (ih (word ++ [b])).1
      simp; omega
theorem flds_len (l : List UInt8) : (flds l).length ≤ l.length := (fldR_len [] l).2 rfl
def TextsPost (w : World) (A : List (List UInt8)) (e : Ending) (w' : World) : Prop := ∃ v, e = .returned v ∧ Sl w' 1 v A.length (A.map stv) ∧ Below w.heap.size w w'
def FldRel (w : World) (l : List UInt8) (k : Nat) (v : Value) (wr : World) : Prop :=
  ∃ done : List (List UInt8), flds l = done ++ fldR [] (l.drop k) ∧ done.length ≤ k ∧ wr.ownsRow w.heap.size 9 1 v done.length (done.map stv) ∧ Below w.heap.size w wr

set_option maxRecDepth 100000 in
set_option maxHeartbeats 1000000 in
theorem fields_any (l : List UInt8) (w : World) (hl : l.length ≤ 1000000000) : Calls Tryd.prog 49 #[.string ⟨l.toArray⟩] w (TextsPost w (flds l)) := by
  go_enter Tryd.func49, Tryd.ntmps49
  go_wp2
  go_loopw [3, 4] (fun v i wr => ∃ k : Nat, k ≤ l.length ∧ i = .int .i64 k ∧ FldRel w l k v wr) (fun _ i _ => l.length - (intOf i).toNat)
  case atStart => exact ⟨0, Nat.zero_le _, rfl, [], rfl, Nat.le_refl _, World.ownsRow_nil _ _ _ _, Below.refl _ _⟩
  case round =>
    obtain ⟨k, hk, rfl, done, h1, h2, h3, h4⟩ := hrel
    have H1 := Lib.hid h1
    clear h1
    have hsz := h4.size
    by_cases hlt : k < l.length
    · have i1 : (k : Int) < (l.length : Int) := by omega
      rcases hb : blB l[k]
      · have Hb := Lib.hid hb
        clear hb
        go_wp2_with fail
        refine (blank_any _ _).mono ?_
        rintro e w' ⟨rfl, rfl⟩
        rw [Hb.out]
        go_wp2_with fail
        go_loop [5] (fun i => ∃ j : Nat, k ≤ j ∧ j ≤ l.length ∧ i = .int .i64 j ∧ fldR [] (l.drop k) = fldR ((l.take j).drop k) (l.drop j) ∧ (j = k ∨ k < j)) (fun i => l.length - (intOf i).toNat)
        case atStart => exact ⟨k, Nat.le_refl _, hk, rfl, by rw [List.drop_take, Nat.sub_self, List.take_zero], .inl rfl⟩
        case round =>
          obtain ⟨j, hkj, hj, rfl, hf, hjk⟩ := hrel
          have Hf := Lib.hid hf
          clear hf
          by_cases hgo : ∃ h : j < l.length, blB l[j] = false
          · obtain ⟨hjl, hbj⟩ := hgo
            have i2 : (j : Int) < (l.length : Int) := by omega
            have hst := fldR_step (word := (l.take j).drop k) hjl hbj
            have hnx : fldR [] (l.drop k) = fldR ((l.take (j + 1)).drop k) (l.drop (j + 1)) := by
              rw [Hf.out, hst, List.take_succ_eq_append_getElem hjl, List.drop_append_of_le_length (by rw [List.length_take]; omega)]
            have Hnx := Lib.hid hnx
            have Hbj := Lib.hid hbj
            clear hst hnx hbj
            go_wp2_with fail
            refine (blank_any _ _).mono ?_
            rintro e w' ⟨rfl, rfl⟩
            rw [Hbj.out]
            go_wp2_with fail
            go_round
            case rel => exact ⟨j + 1, by omega, by omega, by go_num, Hnx.out, .inr (by omega)⟩
            case measure => simp [intOf]; omega
          · have hjk2 : k < j := by
              rcases hjk with h | h
              · subst h; exact absurd ⟨hlt, Hb.out⟩ hgo
              · exact h
            have hword : (l.take j).drop k ≠ [] := by
              intro h
              have := congrArg List.length h
              rw [List.length_drop, List.length_take] at this
              simp at this
              omega
            have hbl : ∀ h : j < l.length, blB l[j] = true := by
              intro h
              cases hh : blB l[j]
              · exact absurd ⟨h, hh⟩ hgo
              · rfl
            have hfin : flds l = (done ++ [(l.take j).drop k]) ++ fldR [] (l.drop j) := by
              rw [H1.out, Hf.out, fldR_word hj hword hbl]; simp
            have Hfin := Lib.hid hfin
            clear hfin
            by_cases hjl : j < l.length
            · have i2 : (j : Int) < (l.length : Int) := by omega
              have Hbj := Lib.hid (hbl hjl)
              clear hbl hgo
              go_wp2_with fail
              refine (blank_any _ _).mono ?_
              rintro e w' ⟨rfl, rfl⟩
              rw [Hbj.out]
              go_wp2_with (at_builtin; refine wpList_appLit rfl _ _ _ rfl elt_strs (n := done.length) rfl h3 [stv ((l.take j).drop k)] (m := 1) rfl rfl (by simp [Value.oneCell', stv]) hsz (by omega) (by omega) ?_; intro v1 w1 ho1 hb1 hg1)
              go_roundw
              case rel => exact ⟨j, hj, rfl, done ++ [(l.take j).drop k], Hfin.out, by simp; omega, by simpa using ho1, h4.trans hb1⟩
              case measure => simp [intOf]; omega
            · have i2 : ¬ (j : Int) < (l.length : Int) := by omega
              clear hbl hgo
              go_wp2_with (at_builtin; refine wpList_appLit rfl _ _ _ rfl elt_strs (n := done.length) rfl h3 [stv ((l.take j).drop k)] (m := 1) rfl rfl (by simp [Value.oneCell', stv]) hsz (by omega) (by omega) ?_; intro v1 w1 ho1 hb1 hg1)
              go_roundw
              case rel => exact ⟨j, hj, rfl, done ++ [(l.take j).drop k], Hfin.out, by simp; omega, by simpa using ho1, h4.trans hb1⟩
              case measure => simp [intOf]; omega
      · have hnx := fldR_blank hlt hb
        have hfin : flds l = done ++ fldR [] (l.drop (k + 1)) := by rw [H1.out, hnx]
        have Hfin := Lib.hid hfin
        have Hb := Lib.hid hb
        clear hb hnx hfin
        go_wp2_with fail
        refine (blank_any _ _).mono ?_
        rintro e w' ⟨rfl, rfl⟩
        rw [Hb.out]
        go_wp2_with fail
        go_roundw
        case rel => exact ⟨k + 1, by omega, by go_num, done, Hfin.out, by omega, h3, h4⟩
        case measure => simp [intOf]; omega
    · have i1 : ¬ (k : Int) < (l.length : Int) := by omega
      have hfin : flds l = done := by
        rw [H1.out, List.drop_eq_nil_of_le (by omega)]; simp [fldR]
      have Hfin := Lib.hid hfin
      clear hfin
      go_wp2
      go_ret
      rw [Hfin.out]
      exact ⟨_, rfl, Sl.own h3, h4⟩
end Go.Proofs.YtgebcifkbldfoaaDoor

/- The contract of domain.one: the label that a text begins with. -/
namespace Go.Proofs.YtgebcifkbldfoaaDoor
open Go.RowKit
attribute [local go_sem] ba_get ext_take ext_drop

/-- one byte of a label, and in how many bytes it is written. -/
def stp : List UInt8 → Option (UInt8 × Nat)
  | [] => none
  | a :: r => if a = 92 then (esc r).map (fun p => (p.1, p.2 + 1)) else some (a, 1)
/-- at the end, or at a dot. -/
def ends (l : List UInt8) : Bool := l.isEmpty || l.head? == some 46
def oneF : Nat → List UInt8 → Option (List UInt8 × Nat)
  | 0, _ => some ([], 0)
  | k + 1, l => if ends l = true then some ([], 0) else match stp l with
    | none => none
    | some (c, n) => (oneF k (l.drop n)).map (fun p => (c :: p.1, n + p.2))
def one (l : List UInt8) : Option (List UInt8 × Nat) := oneF l.length l

theorem esc3_bd {a : UInt8} {r : List UInt8} {c : UInt8} {n : Nat} (h : esc3 a r = some (c, n)) : n = 3 ∧ 2 ≤ r.length := by
  rcases r with _ | ⟨b, _ | ⟨d, r⟩⟩
  · cases h
  · cases h
  · simp only [esc3] at h
    split at h
    · split at h
      · cases h; exact ⟨rfl, by simp⟩
      · cases h
    · cases h
theorem esc_bd {l : List UInt8} {c : UInt8} {n : Nat} (h : esc l = some (c, n)) : 1 ≤ n ∧ n ≤ 3 ∧ n ≤ l.length := by
  rcases l with _ | ⟨a, r⟩
  · cases h
  · simp only [esc] at h
    split at h
    · have := esc3_bd h; simp; omega
    · cases h; simp
theorem stp_bd {l : List UInt8} {c : UInt8} {n : Nat} (h : stp l = some (c, n)) : 1 ≤ n ∧ n ≤ 4 ∧ n ≤ l.length := by
  rcases l with _ | ⟨a, r⟩
  · cases h
  · simp only [stp] at h
    split at h
    · obtain ⟨⟨c', m⟩, hp, he⟩ := Option.map_eq_some_iff.1 h
      have := esc_bd hp
      cases he
      simp; omega
    · cases h; simp
theorem oneF_nil (k : Nat) : oneF k [] = some ([], 0) := by cases k <;> rfl
theorem oneF_enough (k : Nat) : ∀ (j : Nat) (l : List UInt8), l.length ≤ k → l.length ≤ j → oneF k l = oneF j l := by
  induction k with
  | zero =>
    intro j l h _
    have : l = [] := List.eq_nil_of_length_eq_zero (by omega)
    subst this
    rw [oneF_nil, oneF_nil]
  | succ k ih =>
    intro j l h hj
    rcases j with _ | j
    · have : l = [] := List.eq_nil_of_length_eq_zero (by omega)
      subst this
      rw [oneF_nil, oneF_nil]
    · simp only [oneF]
      by_cases he : ends l = true
      · rw [if_pos he, if_pos he]
      · rw [if_neg he, if_neg he]
        rcases hn : stp l with _ | ⟨c, n⟩
        · rfl
        · have hb := stp_bd hn
          have hd : (l.drop n).length ≤ l.length - 1 := by rw [List.length_drop]; omega
          dsimp only
          rw [ih j (l.drop n) (by omega) (by omega)]
theorem one_end {l : List UInt8} (h : ends l = true) : one l = some ([], 0) := by
  unfold one
  rcases l with _ | ⟨a, r⟩
  · rfl
  · simp only [List.length_cons, oneF]; rw [if_pos h]
theorem one_none {l : List UInt8} (h : ends l = false) (hs : stp l = none) : one l = none := by
  unfold one
  rcases l with _ | ⟨a, r⟩
  · cases h
  · simp only [List.length_cons, oneF]; rw [if_neg (by simp [h]), hs]
theorem one_some {l : List UInt8} {c : UInt8} {n : Nat} (h : ends l = false) (hs : stp l = some (c, n)) : one l = (one (l.drop n)).map (fun p => (c :: p.1, n + p.2)) := by
  have hb := stp_bd hs
  unfold one
  rcases l with _ | ⟨a, r⟩
  · cases h
  · simp only [List.length_cons, oneF]; rw [if_neg (by simp [h]), hs]
    dsimp only
    rw [oneF_enough r.length ((a :: r).drop n).length _ (by rw [List.length_drop]; simp at hb ⊢; omega) (Nat.le_refl _)]
theorem oneF_bd (k : Nat) : ∀ (l b : List UInt8) (m : Nat), oneF k l = some (b, m) → m ≤ l.length ∧ b.length ≤ m ∧ m ≤ 4 * b.length := by
  induction k with
  | zero => intro l b m h; cases h; exact ⟨Nat.zero_le _, Nat.le_refl _, Nat.zero_le _⟩
  | succ k ih =>
    intro l b m h
    simp only [oneF] at h
    split at h
    · cases h; exact ⟨Nat.zero_le _, Nat.le_refl _, Nat.zero_le _⟩
    · rcases hn : stp l with _ | ⟨c, n⟩
      · rw [hn] at h; cases h
      · rw [hn] at h
        dsimp only at h
        obtain ⟨⟨b', m'⟩, hp, he⟩ := Option.map_eq_some_iff.1 h
        cases he
        have hb := stp_bd hn
        obtain ⟨h1, h2, h3⟩ := ih _ _ _ hp
        rw [List.length_drop] at h1
        simp
        omega
theorem one_bd {l b : List UInt8} {m : Nat} (h : one l = some (b, m)) : m ≤ l.length ∧ b.length ≤ m ∧ m ≤ 4 * b.length := oneF_bd _ _ _ _ h
theorem one_pos {l b : List UInt8} {m : Nat} (h : one l = some (b, m)) (hb : b ≠ []) : 1 ≤ m := by
  have := one_bd h
  have : 0 < b.length := List.length_pos_iff.2 hb
  omega

/-- what domain.one answers: the label, how many bytes, the error. -/
def oneE (l : List UInt8) : Int × List UInt8 × Nat := match one l with
  | none => (5, [], 0)
  | some (b, m) => if b = [] then (8, [], 0) else if 63 < b.length then (7, [], 0) else (0, b, m)
def oneV (p : Int × List UInt8 × Nat) : Value := .tuple #[.string ⟨p.2.1.toArray⟩, .int .i64 (p.2.2 : Int), .int .i64 p.1]
def OnePost (w : World) (l : List UInt8) (e : Ending) (w' : World) : Prop := e = .returned (oneV (oneE l)) ∧ Below w.heap.size w w'

def OneRel (w : World) (l : List UInt8) (k : Nat) (v : Value) (wr : World) : Prop :=
  ∃ done : List UInt8, one l = (one (l.drop k)).map (fun p => (done ++ p.1, k + p.2)) ∧ done.length ≤ k ∧ wr.ownsRow w.heap.size 5 1 v done.length (done.map byv) ∧ Below w.heap.size w wr
theorem OneRel.start (w : World) (l : List UInt8) : OneRel w l 0 (.slice none 0 0) w :=
  ⟨[], by rw [List.drop_zero]; cases one l <;> simp, Nat.le_refl _, World.ownsRow_nil _ _ _ _, Below.refl _ _⟩
theorem one_fail {w wr : World} {l : List UInt8} {k : Nat} {done : List UInt8} (h : one l = (one (l.drop k)).map (fun p => (done ++ p.1, k + p.2))) (he : ends (l.drop k) = false) (hs : stp (l.drop k) = none) (hb : Below w.heap.size w wr) :
    OnePost w l (.returned (.tuple #[.string ⟨#[]⟩, .int .i64 0, .int .i64 5])) wr := by
  rw [one_none he hs] at h
  unfold OnePost oneE
  rw [h]
  exact ⟨rfl, hb⟩
theorem OneRel.step {w w0 w1 : World} {l : List UInt8} {k n : Nat} {c : UInt8} {v1 : Value} {done : List UInt8} (h : one l = (one (l.drop k)).map (fun p => (done ++ p.1, k + p.2))) (hk : done.length ≤ k) (he : ends (l.drop k) = false) (hs : stp (l.drop k) = some (c, n))
    (h3 : w1.ownsRow w.heap.size 5 1 v1 (done.length + 1) (done.map byv ++ [byv c])) (h4 : Below w.heap.size w w0) (h5 : Below w.heap.size w0 w1) : OneRel w l (k + n) v1 w1 := by
  have hb := stp_bd hs
  refine ⟨done ++ [c], ?_, by simp; omega, by simpa using h3, h4.trans h5⟩
  rw [h, one_some he hs, List.drop_drop]
  cases one (l.drop (k + n)) <;> simp [Nat.add_assoc]
theorem one_done {l : List UInt8} {k : Nat} {done : List UInt8} (h : one l = (one (l.drop k)).map (fun p => (done ++ p.1, k + p.2))) (he : ends (l.drop k) = true) : one l = some (done, k) := by
  rw [one_end he] at h
  rw [h]
  simp

theorem drop_cons {l : List UInt8} {k : Nat} (h : k < l.length) : l.drop k = l[k] :: l.drop (k + 1) := List.drop_eq_getElem_cons h
theorem u8eq {a : UInt8} {n : Nat} (h : n < 256) : a = UInt8.ofNat n ↔ a.toNat = n := by
  constructor
  · intro e; rw [e, UInt8.toNat_ofNat_of_lt' h]
  · intro e; rw [← e]; simp
theorem is46 {a : UInt8} : a = 46 ↔ a.toNat = 46 := u8eq (n := 46) (by omega)
theorem is92 {a : UInt8} : a = 92 ↔ a.toNat = 92 := u8eq (n := 92) (by omega)
theorem ends_cons (a : UInt8) (r : List UInt8) : ends (a :: r) = (a == 46) := by simp [ends]
theorem ends_at {l : List UInt8} {k : Nat} (h : k < l.length) : ends (l.drop k) = (l[k] == 46) := by
  rw [drop_cons h, ends_cons]
theorem ends_end {l : List UInt8} : ends (l.drop l.length) = true := by simp [ends]
theorem stp_at {l : List UInt8} {k : Nat} (h : k < l.length) : stp (l.drop k) = if l[k] = 92 then (esc (l.drop (k + 1))).map (fun p => (p.1, p.2 + 1)) else some (l[k], 1) := by
  rw [drop_cons h]
  rfl
theorem fin_name {w wr : World} {l : List UInt8} {k : Nat} (h : one l = some ([], k)) (hb : Below w.heap.size w wr) : OnePost w l (.returned (.tuple #[.string ⟨#[]⟩, .int .i64 0, .int .i64 8])) wr := by
  unfold OnePost oneE; rw [h]; exact ⟨rfl, hb⟩
theorem fin_label {w wr : World} {l b : List UInt8} {k : Nat} (h : one l = some (b, k)) (h0 : b ≠ []) (h1 : 63 < b.length) (hb : Below w.heap.size w wr) : OnePost w l (.returned (.tuple #[.string ⟨#[]⟩, .int .i64 0, .int .i64 7])) wr := by
  unfold OnePost oneE; rw [h]; dsimp only; rw [if_neg h0, if_pos h1]; exact ⟨rfl, hb⟩
theorem fin_ok {w wr : World} {l b : List UInt8} {k : Nat} (h : one l = some (b, k)) (h0 : b ≠ []) (h1 : ¬ 63 < b.length) (hb : Below w.heap.size w wr) : OnePost w l (.returned (.tuple #[.string ⟨b.toArray⟩, .int .i64 (k : Int), .int .i64 0])) wr := by
  unfold OnePost oneE; rw [h]; dsimp only; rw [if_neg h0, if_neg h1]; exact ⟨rfl, hb⟩

theorem escaped_bel (l : List UInt8) (w : World) (hl : l.length ≤ 140737488351232) : Calls Tryd.prog 151 #[.string ⟨l.toArray⟩] w fun e w' => e = .returned (escV (esc l)) ∧ Below w.heap.size w w' :=
  (escaped_any l w hl).mono fun _ _ ⟨h, n, hn⟩ => ⟨h, by rw [hn]; exact below_drewN (Below.refl _ _) _⟩

set_option maxRecDepth 100000 in
set_option maxHeartbeats 1000000 in
theorem one_any (l : List UInt8) (w : World) (hl : l.length ≤ 1000000000) : Calls Tryd.prog 129 #[.string ⟨l.toArray⟩] w (OnePost w l) := by
  go_enter Tryd.func129, Tryd.ntmps129
  go_wp2
  go_loopw [5, 6] (fun v i wr => ∃ k : Nat, k ≤ l.length ∧ i = .int .i64 k ∧ OneRel w l k v wr) (fun _ i _ => l.length - (intOf i).toNat)
  case atStart => exact ⟨0, Nat.zero_le _, rfl, OneRel.start _ _⟩
  case round =>
    obtain ⟨k, hk, rfl, done, h1, h2, h3, h4⟩ := hrel
    have H1 := Lib.hid h1
    clear h1
    have hsz := h4.size
    by_cases hgo : ∃ h : k < l.length, l[k].toNat ≠ 46
    · obtain ⟨hlt, h46⟩ := hgo
      have i1 : (k : Int) < (l.length : Int) := by omega
      have i2 : (((l[k].toNat : Nat) : Int) != 46) = true := by simp; omega
      have he : ends (l.drop k) = false := by
        rw [ends_at hlt]
        simp only [beq_eq_false_iff_ne, ne_eq]
        intro h
        exact h46 (is46.1 h)
      have He := Lib.hid he
      clear he
      by_cases h92 : l[k].toNat = 92
      · have i3 : (((l[k].toNat : Nat) : Int) == 92) = true := by simp; omega
        have hst : stp (l.drop k) = (esc (l.drop (k + 1))).map (fun p => (p.1, p.2 + 1)) := by
          rw [stp_at hlt, if_pos (is92.2 h92)]
        clear h46 h92
        have hdl : (l.drop (k + 1)).length ≤ l.length := by rw [List.length_drop]; omega
        rcases hes : esc (l.drop (k + 1)) with _ | ⟨c, n⟩
        · rw [hes] at hst
          have Hst := Lib.hid hst
          have Hes := Lib.hid hes
          clear hst hes
          go_wp2_with fail
          refine (escaped_bel _ _ (by omega)).mono ?_
          rintro e w0 ⟨rfl, hb0⟩
          rw [Hes.out]
          unfold escV
          go_wp2
          go_ret3
          exact one_fail H1.out He.out Hst.out (h4.trans (hb0.mono hsz))
        · rw [hes] at hst
          have hst' : stp (l.drop k) = some (c, n + 1) := hst
          have heb := esc_bd hes
          rw [List.length_drop] at heb
          have Hst := Lib.hid hst'
          have Hes := Lib.hid hes
          clear hst hes hst'
          have hcb := c.toNat_lt
          go_wp2_with fail
          refine (escaped_bel _ _ (by omega)).mono ?_
          rintro e w0 ⟨rfl, hb0⟩
          rw [Hes.out]
          unfold escV
          have h3' := own_below h3 hb0
          have h4' := h4.trans (hb0.mono hsz)
          have hsz' := h4'.size
          clear h3
          go_wp2_with (at_builtin; refine wpList_appLit rfl _ _ _ rfl elt_bytes (n := done.length) rfl h3' [byv c] (m := 1) rfl rfl (by simp [Value.oneCell', byv]) hsz' (by omega) (by omega) ?_; intro v1 w1 ho1 hb1 hg1)
          have R := OneRel.step H1.out h2 He.out Hst.out ho1 h4' hb1
          clear ho1 hb1
          go_roundw
          case rel => exact ⟨k + (n + 1), by omega, vint (by omega), R⟩
          case measure => simp [intOf]; omega
      · have i3 : (((l[k].toNat : Nat) : Int) == 92) = false := by simp; omega
        have hst : stp (l.drop k) = some (l[k], 1) := by
          rw [stp_at hlt, if_neg (fun h => h92 (is92.1 h))]
        have Hst := Lib.hid hst
        clear h46 h92 hst
        go_wp2_with (at_builtin; refine wpList_appLit rfl _ _ _ rfl elt_bytes (n := done.length) rfl h3 [byv l[k]] (m := 1) rfl rfl (by simp [Value.oneCell', byv]) hsz (by omega) (by omega) ?_; intro v1 w1 ho1 hb1 hg1)
        have R := OneRel.step H1.out h2 He.out Hst.out ho1 h4 hb1
        clear ho1 hb1
        go_roundw
        case rel => exact ⟨k + 1, by omega, by go_num, R⟩
        case measure => simp [intOf]; omega
    · have hend : ends (l.drop k) = true := by
        by_cases hlt : k < l.length
        · rw [ends_at hlt]
          have : l[k].toNat = 46 := Decidable.byContradiction fun h => hgo ⟨hlt, h⟩
          simpa using is46.2 this
        · obtain rfl : k = l.length := by omega
          exact ends_end
      have hone := one_done H1.out hend
      have Ho := Lib.hid hone
      have hcv := str_run (Sl.own h3)
      obtain ⟨A5, c5, hv5, _⟩ := (Sl.own h3).any
      subst hv5
      clear hone hend
      by_cases hlt : k < l.length
      all_goals
        by_cases hd0 : done = []
      all_goals
        try have i1 : (k : Int) < (l.length : Int) := by omega
        try have i1 : ¬ (k : Int) < (l.length : Int) := by omega
        try
          have i2 : (((l[k].toNat : Nat) : Int) != 46) = false := by
            have : l[k].toNat = 46 := Decidable.byContradiction fun h => hgo ⟨hlt, h⟩
            simp; omega
        clear hgo
      · subst hd0
        go_wp2
        go_ret3
        exact fin_name Ho.out h4
      · have hd1 : 0 < done.length := List.length_pos_iff.2 hd0
        have hd2 : ((done.length : Int) == 0) = false := by simp; omega
        by_cases h63 : 63 < done.length
        · go_wp2
          go_ret3
          exact fin_label Ho.out hd0 h63 h4
        · go_wp2
          go_ret3
          exact fin_ok Ho.out hd0 h63 h4
      · subst hd0
        go_wp2
        go_ret3
        exact fin_name Ho.out h4
      · have hd1 : 0 < done.length := List.length_pos_iff.2 hd0
        have hd2 : ((done.length : Int) == 0) = false := by simp; omega
        by_cases h63 : 63 < done.length
        · go_wp2
          go_ret3
          exact fin_label Ho.out hd0 h63 h4
        · go_wp2
          go_ret3
          exact fin_ok Ho.out hd0 h63 h4
end Go.Proofs.YtgebcifkbldfoaaDoor

/- The contract of domain.Parse. -/
namespace Go.Proofs.YtgebcifkbldfoaaDoor
open Go.RowKit
attribute [local go_sem] ba_get ext_take ext_drop

/-- what a reading of names comes to: an error; or the labels, and whether a dot stood last. -/
def prsF : Nat → List (List UInt8) → Bool → List UInt8 → Int ⊕ (List (List UInt8) × Bool)
  | 0, n, dot, _ => if 255 < sz n then .inl 3 else .inr (n, dot)
  | k + 1, n, dot, r => if r = [] then (if 255 < sz n then .inl 3 else .inr (n, dot)) else
    if (oneE r).1 = 0 then prsF k (n ++ [(oneE r).2.1]) (decide ((oneE r).2.2 < r.length)) (r.drop ((oneE r).2.2 + if (oneE r).2.2 < r.length then 1 else 0)) else .inl (oneE r).1
def prs (l : List UInt8) : Int ⊕ (List (List UInt8) × Bool) := if l = [46] then .inr ([], true) else if l = [] then .inl 8 else prsF l.length [] false l
theorem oneE_bd (r : List UInt8) : (oneE r).2.2 ≤ r.length ∧ ((oneE r).1 = 0 → 1 ≤ (oneE r).2.2 ∧ lokB (oneE r).2.1 = true) ∧ ((oneE r).1 = 0 ∨ (oneE r).1 = 5 ∨ (oneE r).1 = 7 ∨ (oneE r).1 = 8) := by
  unfold oneE
  rcases h : one r with _ | ⟨b, m⟩
  · exact ⟨Nat.zero_le _, (fun h => by cases h), .inr (.inl rfl)⟩
  · have hb := one_bd h
    dsimp only
    by_cases h0 : b = []
    · rw [if_pos h0]; exact ⟨Nat.zero_le _, (fun h => by cases h), .inr (.inr (.inr rfl))⟩
    · rw [if_neg h0]
      by_cases h1 : 63 < b.length
      · rw [if_pos h1]; exact ⟨Nat.zero_le _, (fun h => by cases h), .inr (.inr (.inl rfl))⟩
      · rw [if_neg h1]
        have : 0 < b.length := List.length_pos_iff.2 h0
        refine ⟨hb.1, fun _ => ⟨one_pos h h0, ?_⟩, .inl rfl⟩
        simp [lokB]; omega
theorem prsF_enough (k : Nat) : ∀ (j : Nat) (n : List (List UInt8)) (dot : Bool) (r : List UInt8), r.length ≤ k → r.length ≤ j → prsF k n dot r = prsF j n dot r := by
  induction k with
  | zero =>
    intro j n dot r h _
    have : r = [] := List.eq_nil_of_length_eq_zero (by omega)
    subst this
    rcases j with _ | j
    · rfl
    · simp [prsF]
  | succ k ih =>
    intro j n dot r h hj
    rcases j with _ | j
    · have : r = [] := List.eq_nil_of_length_eq_zero (by omega)
      subst this
      simp [prsF]
    · simp only [prsF]
      by_cases hr : r = []
      · rw [if_pos hr, if_pos hr]
      · rw [if_neg hr, if_neg hr]
        by_cases he : (oneE r).1 = 0
        · rw [if_pos he, if_pos he]
          have hb := (oneE_bd r).2.1 he
          refine ih j _ _ _ ?_ ?_ <;> rw [List.length_drop] <;> omega
        · rw [if_neg he, if_neg he]
/-- from a rest on, with labels that were read. -/
def prsR (n : List (List UInt8)) (dot : Bool) (r : List UInt8) : Int ⊕ (List (List UInt8) × Bool) := prsF r.length n dot r
theorem prsR_nil (n : List (List UInt8)) (dot : Bool) : prsR n dot [] = if 255 < sz n then .inl 3 else .inr (n, dot) := rfl
theorem prsR_err {n : List (List UInt8)} {dot : Bool} {r : List UInt8} (hr : r ≠ []) (he : (oneE r).1 ≠ 0) : prsR n dot r = .inl (oneE r).1 := by
  unfold prsR
  rcases r with _ | ⟨a, r⟩
  · exact absurd rfl hr
  · simp only [List.length_cons, prsF]; rw [if_neg hr, if_neg he]
theorem prsR_ok {n : List (List UInt8)} {dot : Bool} {r : List UInt8} (hr : r ≠ []) (he : (oneE r).1 = 0) :
    prsR n dot r = prsR (n ++ [(oneE r).2.1]) (decide ((oneE r).2.2 < r.length)) (r.drop ((oneE r).2.2 + if (oneE r).2.2 < r.length then 1 else 0)) := by
  unfold prsR
  have hb := (oneE_bd r).2.1 he
  rcases r with _ | ⟨a, r⟩
  · exact absurd rfl hr
  · simp only [List.length_cons, prsF]; rw [if_neg hr, if_pos he]
    refine prsF_enough _ _ _ _ _ ?_ (Nat.le_refl _)
    rw [List.length_drop]
    have e : (a :: r).length = r.length + 1 := rfl
    generalize (if (oneE (a :: r)).2.2 < (a :: r).length then 1 else 0) = x
    omega

/-- the labels that a reading came to (none, of an error), whether a dot stood last, and the error. -/
def pA (o : Int ⊕ (List (List UInt8) × Bool)) : List (List UInt8) := match o with | .inl _ => [] | .inr p => p.1
def pD (o : Int ⊕ (List (List UInt8) × Bool)) : Bool := match o with | .inl _ => false | .inr p => p.2
def pE (o : Int ⊕ (List (List UInt8) × Bool)) : Int := match o with | .inl e => e | .inr _ => 0
def PrsPost (w : World) (o : Int ⊕ (List (List UInt8) × Bool)) (e : Ending) (w' : World) : Prop :=
  ∃ v, e = .returned (.tuple #[v, .bool (pD o), .int .i64 (pE o)]) ∧ Sl w' 1 v (pA o).length ((pA o).map stv) ∧ Below w.heap.size w w'

theorem PrsPost.err {w w' : World} {o : Int ⊕ (List (List UInt8) × Bool)} {e : Int} (h : o = .inl e) (hb : Below w.heap.size w w') : PrsPost w o (.returned (.tuple #[.slice none 0 0, .bool false, .int .i64 e])) w' := by
  rw [h]; exact ⟨_, rfl, Sl.nil _ _, hb⟩
theorem PrsPost.ok {w w' : World} {o : Int ⊕ (List (List UInt8) × Bool)} {n : List (List UInt8)} {d : Bool} {v : Value} (h : o = .inr (n, d)) (hs : Sl w' 1 v n.length (n.map stv)) (hb : Below w.heap.size w w') : PrsPost w o (.returned (.tuple #[v, .bool d, .int .i64 0])) w' := by
  rw [h]; exact ⟨_, rfl, hs, hb⟩

def PrsRel (w : World) (l r : List UInt8) (v : Value) (dot : Bool) (wr : World) : Prop :=
  ∃ n : List (List UInt8), prsF l.length [] false l = prsR n dot r ∧ n.length + r.length ≤ l.length ∧ n.all lokB = true ∧ wr.ownsRow w.heap.size 9 1 v n.length (n.map stv) ∧ Below w.heap.size w wr
theorem PrsRel.step {w w0 w1 : World} {l r : List UInt8} {dot : Bool} {v1 : Value} {n : List (List UInt8)} (hr : r ≠ []) (he : (oneE r).1 = 0) (h1 : prsF l.length [] false l = prsR n dot r) (h2 : n.length + r.length ≤ l.length) (ha : n.all lokB = true)
    (h3 : w1.ownsRow w.heap.size 9 1 v1 (n.length + 1) (n.map stv ++ [stv (oneE r).2.1])) (h4 : Below w.heap.size w w0) (h5 : Below w.heap.size w0 w1) {d : Bool} {m : Nat} (hd : d = decide ((oneE r).2.2 < r.length)) (hm : m = (oneE r).2.2 + if (oneE r).2.2 < r.length then 1 else 0) : PrsRel w l (r.drop m) v1 d w1 := by
  have hb := (oneE_bd r).2.1 he
  subst hd hm
  refine ⟨n ++ [(oneE r).2.1], by rw [h1, prsR_ok hr he], ?_, by rw [List.all_append, ha]; simp [hb.2], by simpa using h3, h4.trans h5⟩
  rw [List.length_append, List.length_drop]
  simp
  have : 0 < r.length := List.length_pos_iff.2 hr
  omega

end Go.Proofs.YtgebcifkbldfoaaDoor

/- The contract of the reference's Parse: it answers what domain.Parse does. -/
namespace Go.Proofs.YtgebcifkbldfoaaDoor
open Go.RowKit
attribute [local go_sem] ba_get ext_take ext_drop

/-- what is to come within a label of which b has been read. -/
def mid (n : List (List UInt8)) (b r : List UInt8) : Int ⊕ (List (List UInt8) × Bool) := match one r with
  | none => .inl 5
  | some (b', m) => if b ++ b' = [] then .inl 8 else if 63 < (b ++ b').length then .inl 7 else prsR (n ++ [b ++ b']) (decide (m < r.length)) (r.drop (m + if m < r.length then 1 else 0))
def fin (n : List (List UInt8)) (dot : Bool) : Int ⊕ (List (List UInt8) × Bool) := if 255 < sz n then .inl 3 else .inr (n, dot)
/-- what is to come, whatever was read. -/
def St (n : List (List UInt8)) (b : List UInt8) (dot : Bool) (r : List UInt8) : Int ⊕ (List (List UInt8) × Bool) := if dot = true ∧ r = [] then fin n true else mid n b r
theorem mid_end {n : List (List UInt8)} {b r : List UInt8} (he : ends r = true) : mid n b r = if b = [] then .inl 8 else if 63 < b.length then .inl 7 else prsR (n ++ [b]) (decide (0 < r.length)) (r.drop (if 0 < r.length then 1 else 0)) := by
  unfold mid; rw [one_end he]; simp
theorem St_mid {n : List (List UInt8)} {b : List UInt8} {dot : Bool} {r : List UInt8} (h : dot = false ∨ r ≠ []) : St n b dot r = mid n b r := by
  unfold St; rw [if_neg]; rintro ⟨h1, h2⟩; rcases h with h | h
  · rw [h] at h1; cases h1
  · exact h h2
/-- what holds at each round's head. -/
def RpRel (w : World) (l : List UInt8) (i : Nat) (nv bv : Value) (dot : Bool) (wr : World) : Prop :=
  ∃ (n : List (List UInt8)) (b : List UInt8), ((i ≤ l.length ∧ prs l = St n b dot (l.drop i)) ∨ (i = l.length + 1 ∧ prs l = fin n dot)) ∧ (i ≤ l.length + 1) ∧ n.length + b.length ≤ i ∧ n.all lokB = true ∧
    wr.ownsRow w.heap.size 9 1 nv n.length (n.map stv) ∧ wr.ownsRow w.heap.size 5 1 bv b.length (b.map byv) ∧ Below w.heap.size w wr
theorem RpRel.last {w w1 : World} {l : List UInt8} {v1 : Value} {n : List (List UInt8)} {b : List UInt8} (h1 : prs l = St n b false (l.drop l.length)) (h2 : n.length + b.length ≤ l.length) (ha : n.all lokB = true)
    (hb0 : b ≠ []) (hb1 : ¬ 63 < b.length) (h5 : w1.ownsRow w.heap.size 9 1 v1 (n.length + 1) (n.map stv ++ [stv b])) (h4 : Below w.heap.size w w1) : RpRel w l (l.length + 1) v1 (.slice none 0 0) false w1 := by
  have hbl : 0 < b.length := List.length_pos_iff.2 hb0
  refine ⟨n ++ [b], [], .inr ⟨rfl, ?_⟩, by omega, by simp; omega, ?_, by simpa using h5, World.ownsRow_nil _ _ _ _, h4⟩
  · rw [h1, St_mid (.inl rfl), mid_end ends_end, if_neg hb0, if_neg hb1]
    simp [fin, prsR_nil]
  · rw [List.all_append, ha]; simp [lokB]; omega
end Go.Proofs.YtgebcifkbldfoaaDoor

/- The contracts of domain.add, domain.Text, domain.Plain and works. -/
namespace Go.Proofs.YtgebcifkbldfoaaDoor
open Go.RowKit
attribute [local go_sem] ba_get ext_take ext_drop

/-- a byte of a label, written. -/
def escb (c : UInt8) : List UInt8 :=
  if c.toNat = 46 ∨ c.toNat = 92 then [92, c] else if c.toNat < 33 ∨ 126 < c.toNat then [92, UInt8.ofNat (48 + c.toNat / 100), UInt8.ofNat (48 + c.toNat / 10 % 10), UInt8.ofNat (48 + c.toNat % 10)] else [c]
def escl (l : List UInt8) : List UInt8 := l.flatMap escb
def escp (l : List UInt8) (k : Nat) : List UInt8 := (l.take k).flatMap escb
theorem escp_succ {l : List UInt8} {k : Nat} (h : k < l.length) : escp l (k + 1) = escp l k ++ escb l[k] := by
  unfold escp
  rw [List.take_succ_eq_append_getElem h, List.flatMap_append, List.flatMap_singleton]
def DaddRel (base : Nat) (w : World) (n : Nat) (xs : List Value) (l : List UInt8) (k : Nat) (v : Value) (wr : World) : Prop :=
  wr.ownsRow base 5 1 v (n + (escp l k).length) (xs ++ (escp l k).map byv) ∧ Below base w wr
theorem DaddRel.next {base : Nat} {w w0 w1 : World} {n : Nat} {xs : List Value} {l : List UInt8} {k m : Nat} {v1 : Value} {us : List Value} (hk : k < l.length) (hu : (escb l[k]).map byv = us) (hm : us.length = m) (h : w1.ownsRow base 5 1 v1 (n + (escp l k).length + m) (xs ++ (escp l k).map byv ++ us)) (h0 : Below base w w0) (h1 : Below base w0 w1) : DaddRel base w n xs l (k + 1) v1 w1 := by
  refine ⟨?_, h0.trans h1⟩
  have hl : (escb l[k]).length = m := by rw [← hm, ← hu]; simp
  rw [escp_succ hk, List.length_append, hl, List.map_append, hu, ← Nat.add_assoc, ← List.append_assoc]
  exact h

def dtxs (A : List (List UInt8)) (k : Nat) : List UInt8 := (A.take k).flatMap (fun l => escl l ++ [46])
theorem dtxs_succ {A : List (List UInt8)} {k : Nat} (h : k < A.length) : dtxs A (k + 1) = dtxs A k ++ (escl A[k] ++ [46]) := by
  unfold dtxs
  rw [List.take_succ_eq_append_getElem h, List.flatMap_append, List.flatMap_singleton]
def DtRel (w : World) (A : List (List UInt8)) (k : Nat) (v : Value) (wr : World) : Prop :=
  wr.ownsRow w.heap.size 5 1 v (dtxs A k).length ((dtxs A k).map byv) ∧ Below w.heap.size w wr
theorem DtRel.next {w w0 w1 : World} {A : List (List UInt8)} {k : Nat} {v1 : Value} (hk : k < A.length) (h : w1.ownsRow w.heap.size 5 1 v1 ((dtxs A k).length + (escl A[k]).length + 1) ((dtxs A k).map byv ++ ((escl A[k]).map byv ++ [.int .u8 46]))) (h0 : Below w.heap.size w w0) (h1 : Below w.heap.size w0 w1) : DtRel w A (k + 1) v1 w1 := by
  refine ⟨?_, h0.trans h1⟩
  rw [dtxs_succ hk]
  simp only [List.length_append, List.map_append, List.length_cons, List.length_nil, Nat.add_assoc] at h ⊢
  exact h
def StrPost (w : World) (l : List UInt8) (e : Ending) (w' : World) : Prop := e = .returned (.string ⟨l.toArray⟩) ∧ Below w.heap.size w w'

end Go.Proofs.YtgebcifkbldfoaaDoor

/- The plain law of names: what is written is read; and the walks of DomainParses and DomainAgain. -/
namespace Go.Proofs.YtgebcifkbldfoaaDoor
open Go.RowKit
attribute [local go_sem] ba_get ext_take ext_drop

theorem chk_of {A : List (List UInt8)} (h : A.all lokB = true) (hs : sz A ≤ 255) : chk A = 0 := by unfold chk; rw [if_pos h, if_neg (by omega)]
theorem prsF_ok (k : Nat) : ∀ (n : List (List UInt8)) (d : Bool) (r : List UInt8) (A : List (List UInt8)) (e : Bool), n.all lokB = true → prsF k n d r = .inr (A, e) → A.all lokB = true ∧ sz A ≤ 255 ∧ A.length ≤ n.length + r.length := by
  induction k with
  | zero =>
    intro n d r A e hn h
    simp only [prsF] at h
    split at h
    · cases h
    · cases h; exact ⟨hn, by omega, by omega⟩
  | succ k ih =>
    intro n d r A e hn h
    simp only [prsF] at h
    split at h
    · split at h
      · cases h
      · cases h; exact ⟨hn, by omega, by omega⟩
    · next hr =>
      split at h
      · next he =>
        have hb := (oneE_bd r).2.1 he
        obtain ⟨g1, g2, g3⟩ := ih _ _ _ _ _ (by rw [List.all_append, hn]; simp [hb.2]) h
        refine ⟨g1, g2, ?_⟩
        rw [List.length_append, List.length_drop] at g3
        have : 0 < r.length := List.length_pos_iff.2 hr
        simp at g3
        omega
      · cases h
theorem prs_ok {l : List UInt8} {A : List (List UInt8)} {d : Bool} (h : prs l = .inr (A, d)) : chk A = 0 ∧ A.length ≤ l.length := by
  unfold prs at h
  split at h
  · cases h; exact ⟨rfl, Nat.zero_le _⟩
  · split at h
    · cases h
    · obtain ⟨h1, h2, h3⟩ := prsF_ok _ _ _ _ _ _ rfl h
      exact ⟨chk_of h1 h2, by simpa using h3⟩
end Go.Proofs.YtgebcifkbldfoaaDoor

/- The contracts of the reference's Lower and Same, of names' Same, Lower, Under and Cat. -/
namespace Go.Proofs.YtgebcifkbldfoaaDoor
open Go.RowKit
attribute [local go_sem] ba_get ext_take ext_drop

theorem low_next {l : List UInt8} {k : Nat} (h : k < l.length) : low (l.take (k + 1)) = low (l.take k) ++ [sm l[k]] := by
  unfold low; rw [List.take_succ_eq_append_getElem h, List.map_append]; rfl
def RlRel (w : World) (l : List UInt8) (k : Nat) (v : Value) (wr : World) : Prop :=
  wr.ownsRow w.heap.size 5 1 v k ((low (l.take k)).map byv) ∧ Below w.heap.size w wr
theorem RlRel.next {w w0 w1 : World} {l : List UInt8} {k : Nat} {v1 : Value} {u : Value} (hk : k < l.length) (hu : u = byv (sm l[k])) (h : w1.ownsRow w.heap.size 5 1 v1 (k + 1) ((low (l.take k)).map byv ++ [u])) (h0 : Below w.heap.size w w0) (h1 : Below w.heap.size w0 w1) : RlRel w l (k + 1) v1 w1 := by
  subst hu
  refine ⟨?_, h0.trans h1⟩
  rw [low_next hk, List.map_append]
  exact h
def lows (A : List (List UInt8)) : List (List UInt8) := A.map low
def RdRel (w : World) (A : List (List UInt8)) (k : Nat) (v : Value) (wr : World) : Prop :=
  wr.ownsRow w.heap.size 9 1 v k ((lows (A.take k)).map stv) ∧ Below w.heap.size w wr
theorem RdRel.next {w w0 w1 : World} {A : List (List UInt8)} {k : Nat} {v1 : Value} (hk : k < A.length) (h : w1.ownsRow w.heap.size 9 1 v1 (k + 1) ((lows (A.take k)).map stv ++ [stv (low A[k])])) (h0 : Below w.heap.size w w0) (h1 : Below w.heap.size w0 w1) : RdRel w A (k + 1) v1 w1 := by
  refine ⟨?_, h0.trans h1⟩
  unfold lows at h ⊢
  rw [List.take_succ_eq_append_getElem hk, List.map_append, List.map_append]
  exact h
end Go.Proofs.YtgebcifkbldfoaaDoor

/- The contracts of Under and Cat, and the walk of DomainHolds. -/
namespace Go.Proofs.YtgebcifkbldfoaaDoor
open Go.RowKit
attribute [local go_sem] ba_get ext_take ext_drop

theorem Sl.cut {w : World} {a : Option Addr} {n c k : Nat} {xs : List Value} (h : Sl w 1 (.slice a n c) n xs) (hk : k ≤ n) : Sl w 1 (.slice (if c = k then a else a.map (·.add k)) (n - k) (c - k)) (n - k) (xs.drop k) := by
  obtain ⟨h0, A, c', hv, hc, hA, hcell⟩ := h
  injection hv with e1 _ e2
  subst e1 e2
  refine ⟨by rw [List.length_drop, h0]; omega, _, _, rfl, by omega, ?_, ?_⟩
  · intro hn
    by_cases hck : c = k
    · omega
    · rw [if_neg hck, Option.map_eq_none_iff] at hn
      have := hA hn
      omega
  · intro ad had hpos
    have hck : ¬ c = k := by omega
    rw [if_neg hck] at had
    obtain ⟨a0, ha0, rfl⟩ := Option.map_eq_some_iff.1 had
    obtain ⟨g1, g2, g3⟩ := hcell a0 ha0 (by omega)
    obtain ⟨b, off, sp⟩ := a0
    dsimp only at g1 g2 g3
    subst g2
    rw [add_none]
    refine ⟨g1, rfl, fun j u hu => ?_⟩
    rw [List.getElem?_drop] at hu
    have := g3 _ _ hu
    dsimp only
    rwa [Nat.add_assoc]

theorem Sl.empty {w : World} {X : Option Addr} {c : Nat} {α : Type} {f : α → Value} (h : X = none → c = 0) : Sl w 1 (.slice X 0 c) 0 (([] : List α).map f) :=
  ⟨by simp, X, c, rfl, Nat.zero_le _, h, fun _ _ h => absurd h (by omega)⟩

/-- both together: the labels, of an error none; and the error. -/
def CatPost (w : World) (A B : List (List UInt8)) (e : Ending) (w' : World) : Prop :=
  ∃ v, e = .returned (.tuple #[v, .int .i64 (chk (A ++ B))]) ∧ (∃ C : List (List UInt8), C = (if chk (A ++ B) = 0 then A ++ B else []) ∧ Sl w' 1 v C.length (C.map stv)) ∧ Below w.heap.size w w'
theorem CatPost.ok {w w' : World} {A B : List (List UInt8)} {v : Value} (h : chk (A ++ B) = 0) (hs : Sl w' 1 v (A ++ B).length ((A ++ B).map stv)) (hb : Below w.heap.size w w') : CatPost w A B (.returned (.tuple #[v, .int .i64 0])) w' :=
  ⟨v, by rw [h], ⟨_, rfl, by rw [if_pos h]; exact hs⟩, hb⟩
theorem CatPost.no {w w' : World} {A B : List (List UInt8)} (h : chk (A ++ B) ≠ 0) (hb : Below w.heap.size w w') : CatPost w A B (.returned (.tuple #[.slice none 0 0, .int .i64 (chk (A ++ B))])) w' :=
  ⟨_, rfl, ⟨_, rfl, by rw [if_neg h]; exact Sl.nil _ _⟩, hb⟩

end Go.Proofs.YtgebcifkbldfoaaDoor

/- domain.Parse: the name that is read is the call's own. -/
namespace Go.Proofs.YtgebcifkbldfoaaDoor
open Go.RowKit
attribute [local go_sem] ba_get ext_take ext_drop
def PrsOwn (w : World) (o : Int ⊕ (List (List UInt8) × Bool)) (e : Ending) (w' : World) : Prop :=
  ∃ v, e = .returned (.tuple #[v, .bool (pD o), .int .i64 (pE o)]) ∧ w'.ownsRow w.heap.size 9 1 v (pA o).length ((pA o).map stv) ∧ Below w.heap.size w w'
theorem PrsOwn.err {w w' : World} {o : Int ⊕ (List (List UInt8) × Bool)} {e : Int} (h : o = .inl e) (hb : Below w.heap.size w w') : PrsOwn w o (.returned (.tuple #[.slice none 0 0, .bool false, .int .i64 e])) w' := by
  rw [h]; exact ⟨_, rfl, World.ownsRow_nil _ _ _ _, hb⟩
theorem PrsOwn.ok {w w' : World} {o : Int ⊕ (List (List UInt8) × Bool)} {n : List (List UInt8)} {d : Bool} {v : Value} (h : o = .inr (n, d)) (hs : w'.ownsRow w.heap.size 9 1 v n.length (n.map stv)) (hb : Below w.heap.size w w') : PrsOwn w o (.returned (.tuple #[v, .bool d, .int .i64 0])) w' := by
  rw [h]; exact ⟨_, rfl, hs, hb⟩
set_option maxRecDepth 100000 in
set_option maxHeartbeats 1000000 in
theorem parse_own (l : List UInt8) (w : World) (hl : l.length ≤ 1000000) : Calls Tryd.prog 97 #[.string ⟨l.toArray⟩] w (PrsOwn w (prs l)) := by
  by_cases hd : l = [46]
  · subst hd
    go_enter Tryd.func97, Tryd.ntmps97
    go_wp2
    go_ret3
    exact ⟨_, rfl, World.ownsRow_nil _ _ _ _, Below.refl _ _⟩
  · have hd1 : (l == [46]) = false := by simpa using hd
    by_cases h0 : l = []
    · subst h0
      clear hd hd1
      go_enter Tryd.func97, Tryd.ntmps97
      go_wp2
      go_ret3
      exact ⟨_, rfl, World.ownsRow_nil _ _ _ _, Below.refl _ _⟩
    · have h01 : l.isEmpty = false := by simpa using h0
      have hP : prs l = prsF l.length [] false l := by unfold prs; rw [if_neg hd, if_neg h0]
      have HP := Lib.hid hP
      clear hP hd
      go_enter Tryd.func97, Tryd.ntmps97
      go_wp2
      go_loopw [0, 5, 6] (fun s v d wr => ∃ (r : List UInt8) (dot : Bool), s = .string ⟨r.toArray⟩ ∧ d = .bool dot ∧ PrsRel w l r v dot wr) (fun s _ _ _ => strLen s)
      case atStart => exact ⟨l, false, rfl, rfl, [], rfl, by simp, rfl, World.ownsRow_nil _ _ _ _, Below.refl _ _⟩
      case round =>
        obtain ⟨r, dot, rfl, rfl, n, h1, h2, ha, h3, h4⟩ := hrel
        have H1 := Lib.hid h1
        have HA := Lib.hid ha
        clear h1 ha
        have hsz := h4.size
        by_cases hr : r = []
        · subst hr
          have hso := sz_ok HA.out
          have H3 := Lib.hid h3
          have hown := Sl.own h3
          obtain ⟨A5, c5, hv5, _⟩ := hown.any
          subst hv5
          have Ho := Lib.hid hown
          clear hown
          by_cases h255 : 255 < sz n
          · have hfin : prs l = .inl 3 := by rw [HP.out, H1.out, prsR_nil, if_pos h255]
            have Hfin := Lib.hid hfin
            clear hfin
            go_wp2_with fail
            refine (size_any n _ _ Ho.out (by simp at h2; omega) (by simp at h2; omega)).mono ?_
            rintro e w' ⟨rfl, rfl⟩
            go_wp2
            go_ret3
            exact PrsOwn.err Hfin.out h4
          · have hfin : prs l = .inr (n, dot) := by rw [HP.out, H1.out, prsR_nil, if_neg h255]
            have Hfin := Lib.hid hfin
            clear hfin
            go_wp2_with fail
            refine (size_any n _ _ Ho.out (by simp at h2; omega) (by simp at h2; omega)).mono ?_
            rintro e w' ⟨rfl, rfl⟩
            go_wp2
            go_ret3
            exact PrsOwn.ok Hfin.out H3.out h4
        · have hr1 : r.isEmpty = false := by simpa using hr
          obtain ⟨hb1, hb2, hb3⟩ := oneE_bd r
          by_cases he : (oneE r).1 = 0
          · obtain ⟨hb4, hb5⟩ := hb2 he
            have He := Lib.hid he
            clear he hb2 hb3 hb5
            by_cases hdot : (oneE r).2.2 < r.length
            · have Hif : Hid ((oneE r).2.2 + 1 = (oneE r).2.2 + if (oneE r).2.2 < r.length then 1 else 0) := Lib.hid (by rw [if_pos hdot])
              have Hd : Hid (true = decide ((oneE r).2.2 < r.length)) := Lib.hid (by simp [hdot])
              go_wp2_with fail
              refine (one_any _ _ (by omega)).mono ?_
              rintro e w0 ⟨rfl, hb0⟩
              unfold oneV
              rw [He.out]
              have h3' := own_below h3 hb0
              have h4' := h4.trans (hb0.mono hsz)
              have hsz' := h4'.size
              clear h3
              go_wp2_with (at_builtin; refine wpList_appLit rfl _ _ _ rfl elt_name (n := n.length) rfl h3' [stv (oneE r).2.1] (m := 1) rfl rfl (by simp [Value.oneCell', stv]) hsz' (by omega) (by omega) ?_; intro v1 w1 ho1 hbw1 hg1)
              have R := PrsRel.step hr He.out H1.out h2 HA.out ho1 h4' hbw1 (d := true) (m := (oneE r).2.2 + 1) Hd.out Hif.out
              clear ho1 hbw1
              go_roundw
              case rel => exact ⟨_, _, rfl, rfl, R⟩
              case measure => simp only [strLen_mk, List.length_drop]; omega
            · have Hif : Hid ((oneE r).2.2 = (oneE r).2.2 + if (oneE r).2.2 < r.length then 1 else 0) := Lib.hid (by rw [if_neg hdot, Nat.add_zero])
              have Hd : Hid (false = decide ((oneE r).2.2 < r.length)) := Lib.hid (by simp [hdot])
              go_wp2_with fail
              refine (one_any _ _ (by omega)).mono ?_
              rintro e w0 ⟨rfl, hb0⟩
              unfold oneV
              rw [He.out]
              have h3' := own_below h3 hb0
              have h4' := h4.trans (hb0.mono hsz)
              have hsz' := h4'.size
              clear h3
              go_wp2_with (at_builtin; refine wpList_appLit rfl _ _ _ rfl elt_name (n := n.length) rfl h3' [stv (oneE r).2.1] (m := 1) rfl rfl (by simp [Value.oneCell', stv]) hsz' (by omega) (by omega) ?_; intro v1 w1 ho1 hbw1 hg1)
              have R := PrsRel.step hr He.out H1.out h2 HA.out ho1 h4' hbw1 (d := false) (m := (oneE r).2.2) Hd.out Hif.out
              clear ho1 hbw1
              go_roundw
              case rel => exact ⟨_, _, rfl, rfl, R⟩
              case measure => simp only [strLen_mk, List.length_drop]; omega
          · have hne : (((oneE r).1 : Int) != 0) = true := by simpa using he
            have hfin : prs l = .inl (oneE r).1 := by rw [HP.out, H1.out, prsR_err hr he]
            have Hfin := Lib.hid hfin
            clear hfin he hb2 hb3
            go_wp2_with fail
            refine (one_any _ _ (by omega)).mono ?_
            rintro e w0 ⟨rfl, hb0⟩
            unfold oneV
            go_wp2
            go_ret3
            exact PrsOwn.err Hfin.out (h4.trans (hb0.mono hsz))
end Go.Proofs.YtgebcifkbldfoaaDoor

/- The contract of ascii.Lower. -/
namespace Go.Proofs.YtgebcifkbldfoaaDoor
open Go.RowKit
attribute [local go_sem] ba_get ext_take ext_drop

/-- block g holds l's bytes, the first k of them folded. -/
def LowBlk (W : World) (g c : Nat) (l : List UInt8) (k : Nat) : Prop :=
  ∃ cur : Array Value, W.heap[g]? = some (.cells cur 5 (c, c + 1)) ∧ l.length ≤ c ∧ ∀ (j : Nat) (hj : j < l.length), cur[j]? = some (byv (if j < k then sm l[j] else l[j]))
theorem LowBlk.cell {W : World} {g c k j : Nat} {l : List UInt8} (h : LowBlk W g c l k) (hj : j < l.length) : W.cell? ⟨g, j, none⟩ = some (byv (if j < k then sm l[j] else l[j])) := by
  obtain ⟨cur, h1, _, h3⟩ := h
  rw [cell_of_row W g j cur 5 (c, c + 1) h1]
  exact h3 j hj
theorem LowBlk.free {W : World} {g c k j : Nat} {l : List UInt8} (h : LowBlk W g c l k) (hj : j < l.length) : W.frozen? ⟨g, j, none⟩ = false := by
  obtain ⟨cur, h1, h2, _⟩ := h
  simp [World.frozen?, h1]
  omega
theorem LowBlk.store {W : World} {g c k : Nat} {l : List UInt8} (h : LowBlk W g c l k) (hk : k < l.length) : LowBlk (W.setCell ⟨g, k, none⟩ (byv (sm l[k]))) g c l (k + 1) := by
  obtain ⟨cur, h1, h2, h3⟩ := h
  refine ⟨cur.setIfInBounds k (byv (sm l[k])), by simp [World.setCell, Array.getElem?_modify, h1], h2, fun j hj => ?_⟩
  have hs : k < cur.size := (Array.getElem?_eq_some_iff.1 (h3 k hk)).1
  rw [Array.getElem?_setIfInBounds]
  by_cases e : k = j
  · subst e
    rw [if_pos rfl, if_pos hs, if_pos (by omega)]
  · rw [if_neg e, h3 j hj]
    by_cases hjk : j < k
    · rw [if_pos hjk, if_pos (by omega)]
    · rw [if_neg hjk, if_neg (by omega)]
theorem LowBlk.lt {W : World} {g c k : Nat} {l : List UInt8} (h : LowBlk W g c l k) : g < W.heap.size := by
  obtain ⟨cur, h1, _, _⟩ := h
  rcases Nat.lt_or_ge g W.heap.size with hlt | hge
  · exact hlt
  · rw [Array.getElem?_eq_none hge] at h1; cases h1
theorem bytes_size (l : List UInt8) (cap : Nat) : l.length ≤ (bytesRow ⟨l.toArray⟩ cap).size := by
  rcases Nat.eq_zero_or_pos l.length with h | h
  · omega
  · have := bytesRow_at ⟨l.toArray⟩ cap (l.length - 1) (by simp; omega)
    have := (Array.getElem?_eq_some_iff.1 this).1
    omega
theorem LowBlk.start (W : World) (l : List UInt8) (cap k : Nat) (hm : ∀ (j : Nat) (hj : j < l.length), j < k → sm l[j] = l[j]) :
    LowBlk (W.alloc (.cells (bytesRow ⟨l.toArray⟩ cap) 5 ((bytesRow ⟨l.toArray⟩ cap).size, (bytesRow ⟨l.toArray⟩ cap).size + 1))) W.heap.size (bytesRow ⟨l.toArray⟩ cap).size l k := by
  refine ⟨_, heap_alloc_new W _, bytes_size l cap, fun j hj => ?_⟩
  have := bytesRow_at ⟨l.toArray⟩ cap j (by simpa using hj)
  rw [this]
  by_cases h : j < k
  · rw [if_pos h, hm j hj h]; rfl
  · rw [if_neg h]; rfl
end Go.Proofs.YtgebcifkbldfoaaDoor
