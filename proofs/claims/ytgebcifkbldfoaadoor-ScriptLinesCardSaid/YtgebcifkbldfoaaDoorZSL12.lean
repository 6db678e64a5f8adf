/- Contracts and plain lemmas of our own, merged. -/
import Derived.Test.YtgebcifkbldfoaaDoorZSL4
import Derived.Test.YtgebcifkbldfoaaDoorZSL5
import Derived.Test.YtgebcifkbldfoaaDoorShelf
/- The contracts of ascii.Join and works. -/
namespace Go.Proofs.YtgebcifkbldfoaaDoor
open Go.RowKit
attribute [local go_sem] ba_get ext_take ext_drop ext_any

/-- texts with one between. -/
def joi (by_ : List UInt8) (A : List (List UInt8)) : List UInt8 := Lib.join A by_
def StrPost' (w : World) (l : List UInt8) (e : Ending) (w' : World) : Prop := e = .returned (.string ⟨l.toArray⟩) ∧ Below w.heap.size w w'
theorem map_ba (A : List (List UInt8)) : (A.map (fun l => (⟨l.toArray⟩ : ByteArray))).map (·.data.toList) = A := by
  induction A with
  | nil => rfl
  | cons a A ih => rw [List.map_cons, List.map_cons, ih]
set_option maxHeartbeats 400000 in
theorem join_any (b : List UInt8) (A : List (List UInt8)) (v : Value) (w : World) (ha : Sl w 1 v A.length (A.map stv)) (hn : A.length ≤ 1000000000) (hj : (joi b A).length ≤ 1000000000) :
    Calls Tryd.prog 45 #[.string ⟨b.toArray⟩, v] w (StrPost' w (joi b A)) := by
  rcases Nat.eq_zero_or_pos A.length with h0 | hpos
  · have hA : A = [] := List.eq_nil_of_length_eq_zero h0
    subst hA
    obtain ⟨a1, c1, rfl, _⟩ := ha.zero
    clear ha
    go_enter Tryd.func45, Tryd.ntmps45
    go_wp2_with fail
    refine (Tryd.strings_Join_none _ _ _ _).mono ?_
    rintro e w' ⟨rfl, rfl⟩
    go_wp2_with fail
    go_ret
    exact ⟨rfl, Below.refl _ _⟩
  · obtain ⟨b1, o1, c1, rfl, hc1, hb1, hcA⟩ := ha.pos hpos
    have hjj : (Lib.join ((A.map (fun l => (⟨l.toArray⟩ : ByteArray))).map (·.data.toList)) b.toArray.toList).length ≤ 140737488355328 := by rw [map_ba]; unfold joi at hj; simp at hj ⊢; omega
    have hco : ∀ (j : Nat) x, (A.map (fun l => (⟨l.toArray⟩ : ByteArray)))[j]? = some x → w.cell? ⟨b1, o1 + j, none⟩ = some (.string x) := by
      intro j x hx
      refine hcA j _ ?_
      rw [List.getElem?_map, Option.map_eq_some_iff] at hx
      obtain ⟨y, hy, rfl⟩ := hx
      rw [List.getElem?_map, hy]
      rfl
    have hJ := Tryd.strings_Join b1 o1 c1 (A.map (fun l => (⟨l.toArray⟩ : ByteArray))) ⟨b.toArray⟩ w hco hb1 (by simp; omega) (by simpa using hc1) hjj
    rw [map_ba, List.length_map] at hJ
    have HJ := Lib.hid hJ
    clear hJ hco hjj hcA ha
    go_enter Tryd.func45, Tryd.ntmps45
    go_wp2_with fail
    refine HJ.out.mono ?_
    rintro e w1 ⟨rfl, hb1⟩
    go_wp2_with fail
    go_ret
    exact ⟨rfl, hb1⟩

end Go.Proofs.YtgebcifkbldfoaaDoor

/- The contracts of Cut, of ascii.Lower and of the reference's Cut and Fields. -/
namespace Go.Proofs.YtgebcifkbldfoaaDoor
open Go.RowKit
attribute [local go_sem] ba_get ext_take ext_drop

/-- the first place of a byte. -/
def idx (c : UInt8) : List UInt8 → Option Nat
  | [] => none
  | b :: r => if b = c then some 0 else (idx c r).map (· + 1)
theorem idx_none {c : UInt8} {l : List UInt8} (h : idx c l = none) : ∀ (j : Nat) (hj : j < l.length), l[j] ≠ c := by
  induction l with
  | nil => intro j hj; simp at hj
  | cons b r ih =>
    intro j hj
    unfold idx at h
    split at h
    · cases h
    · next hb =>
      rcases j with _ | j
      · simpa using hb
      · simp only [List.getElem_cons_succ]
        exact ih (by simpa using h) j (by simpa using hj)
theorem idx_some {c : UInt8} {l : List UInt8} {k : Nat} (h : idx c l = some k) : ∃ hk : k < l.length, l[k] = c ∧ ∀ (j : Nat) (hj : j < l.length), j < k → l[j] ≠ c := by
  induction l generalizing k with
  | nil => cases h
  | cons b r ih =>
    unfold idx at h
    split at h
    · next hb => cases h; exact ⟨by simp, by simpa using hb, fun j hj h => absurd h (by omega)⟩
    · next hb =>
      obtain ⟨k', hk', rfl⟩ := Option.map_eq_some_iff.1 h
      obtain ⟨h1, h2, h3⟩ := ih hk'
      refine ⟨by simp; omega, by simpa using h2, fun j hj hjk => ?_⟩
      rcases j with _ | j
      · simpa using hb
      · simp only [List.getElem_cons_succ]
        exact h3 j (by simpa using hj) (by omega)
theorem idx_none_of {c : UInt8} {l : List UInt8} (h : ∀ (j : Nat) (hj : j < l.length), l[j] ≠ c) : idx c l = none := by
  rcases hh : idx c l with _ | k
  · rfl
  · obtain ⟨h1, h2, _⟩ := idx_some hh
    exact absurd h2 (h k h1)
theorem idx_some_of {c : UInt8} {l : List UInt8} {k : Nat} (hk : k < l.length) (h1 : l[k] = c) (h2 : ∀ (j : Nat) (hj : j < l.length), j < k → l[j] ≠ c) : idx c l = some k := by
  rcases hh : idx c l with _ | k'
  · exact absurd h1 (idx_none hh k hk)
  · obtain ⟨g1, g2, g3⟩ := idx_some hh
    congr 1
    rcases Nat.lt_trichotomy k k' with h | h | h
    · exact absurd h1 (g3 k hk h)
    · exact h.symm
    · exact absurd g2 (h2 k' g1 h)
/-- what stands ahead of a byte, and behind it. -/
def cutV (c : UInt8) (l : List UInt8) : Value := match idx c l with
  | none => .tuple #[.string ⟨l.toArray⟩, .string ⟨([] : List UInt8).toArray⟩, .bool false]
  | some k => .tuple #[.string ⟨(l.take k).toArray⟩, .string ⟨(l.drop (k + 1)).toArray⟩, .bool true]
theorem cutV_n {c : UInt8} {l : List UInt8} (h : idx c l = none) : Ending.returned (.tuple #[.string ⟨l.toArray⟩, .string ⟨([] : List UInt8).toArray⟩, .bool false]) = .returned (cutV c l) := by unfold cutV; rw [h]
theorem cutV_s {c : UInt8} {l : List UInt8} {k : Nat} (h : idx c l = some k) : Ending.returned (.tuple #[.string ⟨(l.take k).toArray⟩, .string ⟨(l.drop (k + 1)).toArray⟩, .bool true]) = .returned (cutV c l) := by unfold cutV; rw [h]

set_option maxRecDepth 100000 in
set_option maxHeartbeats 800000 in
theorem rcut_any (c : UInt8) (l : List UInt8) (w : World) (hl : l.length ≤ 140737488351232) :
    Calls Tryd.prog 117 #[.string ⟨l.toArray⟩, .int .u8 (c.toNat : Int)] w fun e w' => e = .returned (cutV c l) ∧ Below w.heap.size w w' := by
  go_enter Tryd.func117, Tryd.ntmps117
  go_wp2
  go_loop [7] (fun i => ∃ k : Nat, k ≤ l.length ∧ i = .int .i64 k ∧ ∀ (j : Nat) (hj : j < l.length), j < k → l[j] ≠ c) (fun i => l.length - (intOf i).toNat)
  case atStart => exact ⟨0, Nat.zero_le _, rfl, fun j _ h => absurd h (by omega)⟩
  case round =>
    obtain ⟨k, hk, rfl, hm⟩ := hrel
    have Hm := Lib.hid hm
    clear hm
    by_cases hlt : k < l.length
    · have i1 : (k : Int) < (l.length : Int) := by omega
      by_cases he : l[k] = c
      · have i2 : (((l[k].toNat : Nat) : Int) == (c.toNat : Int)) = true := by simp [he]
        have hfin := idx_some_of hlt he Hm.out
        have Hfin := Lib.hid hfin
        have i3 : (0 : Int) ≤ (k : Int) := by omega
        have i4 : (k : Int) ≤ (l.length : Int) := by omega
        have i5 : IntKind.i64.wrap ((k : Int) + 1) = (k : Int) + 1 := IntWalk.i64_in _ (by omega)
        have i6 : (0 : Int) ≤ (k : Int) + 1 := by omega
        have i7 : (k : Int) + 1 ≤ (l.length : Int) := by omega
        have i8 : ((k : Int) + 1).toNat = k + 1 := by omega
        clear hfin he
        go_wp2
        go_quiet (fail)
        go_wp2
        go_ret3
        exact ⟨cutV_s Hfin.out, below_drewN (Below.refl _ _) _⟩
      · have i2 : (((l[k].toNat : Nat) : Int) == (c.toNat : Int)) = false := by
          rw [beq_eq_false_iff_ne]
          intro h
          exact he (UInt8.toNat.inj (by omega))
        have He := Lib.hid he
        clear he
        go_wp2
        go_round
        case rel =>
          refine ⟨k + 1, by omega, by go_num, fun j hj hjk => ?_⟩
          by_cases hjk2 : j < k
          · exact Hm.out j hj hjk2
          · obtain rfl : j = k := by omega
            exact He.out
        case measure => simp [intOf]; omega
    · have i1 : ¬ (k : Int) < (l.length : Int) := by omega
      have hfin : idx c l = none := idx_none_of (fun j hj => Hm.out j hj (by omega))
      have Hfin := Lib.hid hfin
      clear hfin
      go_wp2
      go_ret3
      exact ⟨cutV_n Hfin.out, Below.refl _ _⟩

theorem lib_idx (l : List UInt8) (c : UInt8) : Lib.indexByte l c = match idx c l with | none => -1 | some k => (k : Int) := by
  induction l with
  | nil => rfl
  | cons b r ih =>
    unfold Lib.indexByte idx
    by_cases h : b = c
    · simp [h]
    · rw [if_neg (by simpa using h), if_neg h, ih]
      rcases idx c r with _ | k
      · rfl
      · simp only [Option.map_some]
        rw [if_neg (by simp)]
        first | rfl | simp
set_option maxRecDepth 100000 in
set_option maxHeartbeats 800000 in
theorem cut_any (c : UInt8) (l : List UInt8) (w : World) (hl : l.length ≤ 140737488351232) :
    Calls Tryd.prog 80 #[.string ⟨l.toArray⟩, .int .u8 (c.toNat : Int)] w fun e w' => e = .returned (cutV c l) ∧ Below w.heap.size w w' := by
  have hi : ∀ W, Calls Tryd.prog 83 #[.string ⟨l.toArray⟩, .int .u8 (c.toNat : Int)] W fun e w' => e = .returned (.int .i64 (Lib.indexByte l c)) ∧ w' = W := by
    intro W
    have := Tryd.strings_IndexByte ⟨l.toArray⟩ (c.toNat : Int) W
    rwa [Int.toNat_natCast, show c.toNat.toUInt8 = c by simp] at this
  have Hi := Lib.hid hi
  clear hi
  rcases hk : idx c l with _ | k
  · have hx : Lib.indexByte l c = -1 := by rw [lib_idx, hk]
    have Hx := Lib.hid hx
    have Hk := Lib.hid hk
    clear hx hk
    go_enter Tryd.func80, Tryd.ntmps80
    go_wp2_with fail
    refine (Hi.out _).mono ?_
    rintro e w' ⟨rfl, rfl⟩
    rw [Hx.out]
    go_wp2_with fail
    go_ret3
    exact ⟨cutV_n Hk.out, Below.refl _ _⟩
  · have hx : Lib.indexByte l c = (k : Int) := by rw [lib_idx, hk]
    obtain ⟨hlt, _, _⟩ := idx_some hk
    have Hx := Lib.hid hx
    have Hk := Lib.hid hk
    clear hx hk
    have i3 : (0 : Int) ≤ (k : Int) := by omega
    have i4 : (k : Int) ≤ (l.length : Int) := by omega
    have i5 : IntKind.i64.wrap ((k : Int) + 1) = (k : Int) + 1 := IntWalk.i64_in _ (by omega)
    have i6 : (0 : Int) ≤ (k : Int) + 1 := by omega
    have i7 : (k : Int) + 1 ≤ (l.length : Int) := by omega
    have i8 : ((k : Int) + 1).toNat = k + 1 := by omega
    go_enter Tryd.func80, Tryd.ntmps80
    go_wp2_with fail
    refine (Hi.out _).mono ?_
    rintro e w' ⟨rfl, rfl⟩
    rw [Hx.out]
    go_wp2_with fail
    go_quiet (fail)
    go_wp2
    go_ret3
    exact ⟨cutV_s Hk.out, below_drewN (Below.refl _ _) _⟩

def RfRel (w : World) (l : List UInt8) (k : Nat) (v : Value) (word : List UInt8) (wr : World) : Prop :=
  ∃ done : List (List UInt8), flds l = done ++ fldR word (l.drop k) ∧ done.length + word.length ≤ k ∧ wr.ownsRow w.heap.size 9 1 v done.length (done.map stv) ∧ Below w.heap.size w wr
theorem fldR_blank_w {l word : List UInt8} {k : Nat} (h : k < l.length) (hb : blB l[k] = true) (hw : word ≠ []) : fldR word (l.drop k) = word :: fldR [] (l.drop (k + 1)) := by
  rw [List.drop_eq_getElem_cons h, fldR, if_pos hb, if_neg hw]
theorem ext_one {l : List UInt8} {k : Nat} (h : k < l.length) : (l.take (k + 1)).drop k = [l[k]] := by
  rw [List.take_succ_eq_append_getElem h, List.drop_append_of_le_length (by rw [List.length_take]; omega), List.drop_take]
  simp
theorem ext_at (l : List UInt8) (k : Nat) (h : k < l.length) : (ByteArray.mk l.toArray).extract k (k + 1) = ⟨[l[k]].toArray⟩ := by
  rw [ext_any, ext_one h]
attribute [local go_sem] ba_app
set_option maxRecDepth 100000 in
set_option maxHeartbeats 1000000 in
theorem rfields_any (l : List UInt8) (w : World) (hl : l.length ≤ 1000000000) : Calls Tryd.prog 55 #[.string ⟨l.toArray⟩] w (TextsPost w (flds l)) := by
  go_enter Tryd.func55, Tryd.ntmps55
  go_wp2
  go_loopw [3, 4, 5] (fun v s i wr => ∃ (k : Nat) (word : List UInt8), k ≤ l.length ∧ i = .int .i64 k ∧ s = .string ⟨word.toArray⟩ ∧ RfRel w l k v word wr) (fun _ _ i _ => l.length - (intOf i).toNat)
  case atStart => exact ⟨0, [], Nat.zero_le _, rfl, rfl, [], rfl, Nat.le_refl _, World.ownsRow_nil _ _ _ _, Below.refl _ _⟩
  case round =>
    obtain ⟨k, word, hk, rfl, rfl, done, h1, h2, h3, h4⟩ := hrel
    have H1 := Lib.hid h1
    clear h1
    have hsz := h4.size
    by_cases hlt : k < l.length
    · have i1 : (k : Int) < (l.length : Int) := by omega
      rcases hb : blB l[k]
      · have hst := fldR_step (word := word) hlt hb
        have hfin : flds l = done ++ fldR (word ++ [l[k]]) (l.drop (k + 1)) := by rw [H1.out, hst]
        have Hfin := Lib.hid hfin
        have hb1 : ¬ l[k].toNat = 32 ∧ ¬ l[k].toNat = 9 := by simp [blB] at hb; exact hb
        have i2 : (((l[k].toNat : Nat) : Int) != 32) = true := by rw [bne_iff_ne]; omega
        have i3 : (((l[k].toNat : Nat) : Int) != 9) = true := by rw [bne_iff_ne]; omega
        have hex := ext_at l k hlt
        clear hb hb1 hst hfin
        go_wp2
        go_roundw
        case rel => exact ⟨k + 1, word ++ [l[k]], by omega, by go_num, rfl, done, Hfin.out, by simp; omega, h3, h4⟩
        case measure => simp [intOf]; omega
      · have hb1 : l[k].toNat = 32 ∨ l[k].toNat = 9 := by simpa [blB] using hb
        by_cases hw : word = []
        · subst hw
          have hfin : flds l = done ++ fldR [] (l.drop (k + 1)) := by rw [H1.out, fldR_blank hlt hb]
          have Hfin := Lib.hid hfin
          clear hb hfin
          by_cases h32 : l[k].toNat = 32
          · have i2 : (((l[k].toNat : Nat) : Int) != 32) = false := by simp; omega
            clear hb1 h32
            go_wp2
            go_roundw
            case rel => exact ⟨k + 1, [], by omega, by go_num, rfl, done, Hfin.out, by simp at h2 ⊢; omega, h3, h4⟩
            case measure => simp [intOf]; omega
          · have i2 : (((l[k].toNat : Nat) : Int) != 32) = true := by rw [bne_iff_ne]; omega
            have i3 : (((l[k].toNat : Nat) : Int) != 9) = false := by simp; omega
            clear hb1 h32
            go_wp2
            go_roundw
            case rel => exact ⟨k + 1, [], by omega, by go_num, rfl, done, Hfin.out, by simp at h2 ⊢; omega, h3, h4⟩
            case measure => simp [intOf]; omega
        · have hw1 : word.isEmpty = false := by simpa using hw
          have hwl : 0 < word.length := List.length_pos_iff.2 hw
          have hfin : flds l = (done ++ [word]) ++ fldR [] (l.drop (k + 1)) := by rw [H1.out, fldR_blank_w hlt hb hw]; simp
          have Hfin := Lib.hid hfin
          clear hb hfin
          by_cases h32 : l[k].toNat = 32
          · have i2 : (((l[k].toNat : Nat) : Int) != 32) = false := by simp; omega
            clear hb1 h32
            go_wp2_with (at_builtin; refine wpList_appLit rfl _ _ _ rfl elt_strs (n := done.length) rfl h3 [stv word] (m := 1) rfl rfl (by simp [Value.oneCell', stv]) hsz (by omega) (by omega) ?_; intro v1 w1 ho1 hb1 hg1)
            go_roundw
            case rel => exact ⟨k + 1, [], by omega, by go_num, rfl, done ++ [word], Hfin.out, by simp; omega, by simpa using ho1, h4.trans hb1⟩
            case measure => simp [intOf]; omega
          · have i2 : (((l[k].toNat : Nat) : Int) != 32) = true := by rw [bne_iff_ne]; omega
            have i3 : (((l[k].toNat : Nat) : Int) != 9) = false := by simp; omega
            clear hb1 h32
            go_wp2_with (at_builtin; refine wpList_appLit rfl _ _ _ rfl elt_strs (n := done.length) rfl h3 [stv word] (m := 1) rfl rfl (by simp [Value.oneCell', stv]) hsz (by omega) (by omega) ?_; intro v1 w1 ho1 hb1 hg1)
            go_roundw
            case rel => exact ⟨k + 1, [], by omega, by go_num, rfl, done ++ [word], Hfin.out, by simp; omega, by simpa using ho1, h4.trans hb1⟩
            case measure => simp [intOf]; omega
    · have i1 : ¬ (k : Int) < (l.length : Int) := by omega
      have hd : l.drop k = [] := List.drop_eq_nil_of_le (by omega)
      by_cases hw : word = []
      · subst hw
        have hfin : flds l = done := by rw [H1.out, hd]; simp [fldR]
        have Hfin := Lib.hid hfin
        clear hfin hd
        go_wp2
        go_ret
        rw [Hfin.out]
        exact ⟨_, rfl, Sl.own h3, h4⟩
      · have hw1 : word.isEmpty = false := by simpa using hw
        have hfin : flds l = done ++ [word] := by rw [H1.out, hd, fldR, if_neg hw]
        have Hfin := Lib.hid hfin
        clear hfin hd
        go_wp2_with (at_builtin; refine wpList_appLit rfl _ _ _ rfl elt_strs (n := done.length) rfl h3 [stv word] (m := 1) rfl rfl (by simp [Value.oneCell', stv]) hsz (by omega) (by omega) ?_; intro v1 w1 ho1 hb1 hg1)
        go_ret
        rw [Hfin.out]
        exact ⟨_, rfl, by have := Sl.own ho1; simpa using this, h4.trans hb1⟩
end Go.Proofs.YtgebcifkbldfoaaDoor
