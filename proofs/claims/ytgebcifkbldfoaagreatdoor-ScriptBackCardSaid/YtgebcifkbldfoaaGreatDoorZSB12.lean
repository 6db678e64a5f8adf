/- Contracts and plain lemmas of our own, merged. -/
import Derived.Test.YtgebcifkbldfoaaGreatDoorZSB4
import Derived.Test.YtgebcifkbldfoaaGreatDoorZSB5
import Derived.Test.YtgebcifkbldfoaaGreatDoorShelf
/- The contracts of ascii.Join and works. -/
namespace Go.Proofs.YtgebcifkbldfoaaGreatDoor
open Go.RowKit
attribute [local go_sem] ba_get ext_take ext_drop ext_any

/-- texts with one between. -/
def joi (by_ : List UInt8) (A : List (List UInt8)) : List UInt8 := Lib.join A by_
def StrPost' (w : World) (l : List UInt8) (e : Ending) (w' : World) : Prop := e = .returned (.string ⟨l.toArray⟩) ∧ Below w.heap.size w w'
theorem map_ba (A : List (List UInt8)) : (A.map (fun l => (⟨l.toArray⟩ : ByteArray))).map (·.data.toList) = A := by
  induction A with
  | nil => rfl
  | cons a A ih => rw [List.map_cons, List.map_cons, ih]
set_option maxHeartbeats 400000 in
theorem join_any (b : List UInt8) (A : List (List UInt8)) (v : Value) (w : World) (ha : Sl w 1 v A.length (A.map stv)) (hn : A.length ≤ 1000000000) (hj : (joi b A).length ≤ 1000000000) :
    Calls Tryz.prog 21 #[.string ⟨b.toArray⟩, v] w (StrPost' w (joi b A)) := by
  rcases Nat.eq_zero_or_pos A.length with h0 | hpos
  · have hA : A = [] := List.eq_nil_of_length_eq_zero h0
    subst hA
    obtain ⟨a1, c1, rfl, _⟩ := ha.zero
    clear ha
    go_enter Tryz.func21, Tryz.ntmps21
    go_wp2_with fail
    refine (Tryz.strings_Join_none _ _ _ _).mono ?_
    rintro e w' ⟨rfl, rfl⟩
    go_wp2_with fail
    go_ret
    exact ⟨rfl, Below.refl _ _⟩
  · obtain ⟨b1, o1, c1, rfl, hc1, hb1, hcA⟩ := ha.pos hpos
    have hjj : (Lib.join ((A.map (fun l => (⟨l.toArray⟩ : ByteArray))).map (·.data.toList)) b.toArray.toList).length ≤ 140737488355328 := by rw [map_ba]; unfold joi at hj; simp at hj ⊢; omega
    have hco : ∀ (j : Nat) x, (A.map (fun l => (⟨l.toArray⟩ : ByteArray)))[j]? = some x → w.cell? ⟨b1, o1 + j, none⟩ = some (.string x) := by
      intro j x hx
      refine hcA j _ ?_
      rw [List.getElem?_map, Option.map_eq_some_iff] at hx
      obtain ⟨y, hy, rfl⟩ := hx
      rw [List.getElem?_map, hy]
      rfl
    have hJ := Tryz.strings_Join b1 o1 c1 (A.map (fun l => (⟨l.toArray⟩ : ByteArray))) ⟨b.toArray⟩ w hco hb1 (by simp; omega) (by simpa using hc1) hjj
    rw [map_ba, List.length_map] at hJ
    have HJ := Lib.hid hJ
    clear hJ hco hjj hcA ha
    go_enter Tryz.func21, Tryz.ntmps21
    go_wp2_with fail
    refine HJ.out.mono ?_
    rintro e w1 ⟨rfl, hb1⟩
    go_wp2_with fail
    go_ret
    exact ⟨rfl, hb1⟩

end Go.Proofs.YtgebcifkbldfoaaGreatDoor

/- The contracts of Cut, of ascii.Lower and of the reference's Cut and Fields. -/
namespace Go.Proofs.YtgebcifkbldfoaaGreatDoor
open Go.RowKit
attribute [local go_sem] ba_get ext_take ext_drop

/-- the first place of a byte. -/
def idx (c : UInt8) : List UInt8 → Option Nat
  | [] => none
  | b :: r => if b = c then some 0 else (idx c r).map (· + 1)
theorem idx_none {c : UInt8} {l : List UInt8} (h : idx c l = none) : ∀ (j : Nat) (hj : j < l.length), l[j] ≠ c := by
  induction l with
  | nil => intro j hj; simp at hj
  | cons b r ih =>
    intro j hj
    unfold idx at h
    split at h
    · cases h
    · next hb =>
      rcases j with _ | j
      · simpa using hb
      · simp only [List.getElem_cons_succ]
        exact ih (by simpa using h) j (by simpa using hj)
theorem idx_some {c : UInt8} {l : List UInt8} {k : Nat} (h : idx c l = some k) : ∃ hk : k < l.length, l[k] = c ∧ ∀ (j : Nat) (hj : j < l.length), j < k → l[j] ≠ c := by
  induction l generalizing k with
  | nil => cases h
  | cons b r ih =>
    unfold idx at h
    split at h
    · next hb => cases h; exact ⟨by simp, by simpa using hb, fun j hj h => absurd h (by omega)⟩
    · next hb =>
      obtain ⟨k', hk', rfl⟩ := Option.map_eq_some_iff.1 h
      obtain ⟨h1, h2, h3⟩ := ih hk'
      refine ⟨by simp; omega, by simpa using h2, fun j hj hjk => ?_⟩
      rcases j with _ | j
      · simpa using hb
      · simp only [List.getElem_cons_succ]
        exact h3 j (by simpa using hj) (by omega)
theorem idx_none_of {c : UInt8} {l : List UInt8} (h : ∀ (j : Nat) (hj : j < l.length), l[j] ≠ c) : idx c l = none := by
  rcases hh : idx c l with _ | k
  · rfl
  · obtain ⟨h1, h2, _⟩ := idx_some hh
    exact absurd h2 (h k h1)
theorem idx_some_of {c : UInt8} {l : List UInt8} {k : Nat} (hk : k < l.length) (h1 : l[k] = c) (h2 : ∀ (j : Nat) (hj : j < l.length), j < k → l[j] ≠ c) : idx c l = some k := by
  rcases hh : idx c l with _ | k'
  · exact absurd h1 (idx_none hh k hk)
  · obtain ⟨g1, g2, g3⟩ := idx_some hh
    congr 1
    rcases Nat.lt_trichotomy k k' with h | h | h
    · exact absurd h1 (g3 k hk h)
    · exact h.symm
    · exact absurd g2 (h2 k' g1 h)
/-- what stands ahead of a byte, and behind it. -/
def cutV (c : UInt8) (l : List UInt8) : Value := match idx c l with
  | none => .tuple #[.string ⟨l.toArray⟩, .string ⟨([] : List UInt8).toArray⟩, .bool false]
  | some k => .tuple #[.string ⟨(l.take k).toArray⟩, .string ⟨(l.drop (k + 1)).toArray⟩, .bool true]
theorem cutV_n {c : UInt8} {l : List UInt8} (h : idx c l = none) : Ending.returned (.tuple #[.string ⟨l.toArray⟩, .string ⟨([] : List UInt8).toArray⟩, .bool false]) = .returned (cutV c l) := by unfold cutV; rw [h]
theorem cutV_s {c : UInt8} {l : List UInt8} {k : Nat} (h : idx c l = some k) : Ending.returned (.tuple #[.string ⟨(l.take k).toArray⟩, .string ⟨(l.drop (k + 1)).toArray⟩, .bool true]) = .returned (cutV c l) := by unfold cutV; rw [h]

theorem lib_idx (l : List UInt8) (c : UInt8) : Lib.indexByte l c = match idx c l with | none => -1 | some k => (k : Int) := by
  induction l with
  | nil => rfl
  | cons b r ih =>
    unfold Lib.indexByte idx
    by_cases h : b = c
    · simp [h]
    · rw [if_neg (by simpa using h), if_neg h, ih]
      rcases idx c r with _ | k
      · rfl
      · simp only [Option.map_some]
        rw [if_neg (by simp)]
        first | rfl | simp
set_option maxRecDepth 100000 in
set_option maxHeartbeats 800000 in
theorem cut_any (c : UInt8) (l : List UInt8) (w : World) (hl : l.length ≤ 140737488351232) :
    Calls Tryz.prog 87 #[.string ⟨l.toArray⟩, .int .u8 (c.toNat : Int)] w fun e w' => e = .returned (cutV c l) ∧ Below w.heap.size w w' := by
  have hi : ∀ W, Calls Tryz.prog 75 #[.string ⟨l.toArray⟩, .int .u8 (c.toNat : Int)] W fun e w' => e = .returned (.int .i64 (Lib.indexByte l c)) ∧ w' = W := by
    intro W
    have := Tryz.strings_IndexByte ⟨l.toArray⟩ (c.toNat : Int) W
    rwa [Int.toNat_natCast, show c.toNat.toUInt8 = c by simp] at this
  have Hi := Lib.hid hi
  clear hi
  rcases hk : idx c l with _ | k
  · have hx : Lib.indexByte l c = -1 := by rw [lib_idx, hk]
    have Hx := Lib.hid hx
    have Hk := Lib.hid hk
    clear hx hk
    go_enter Tryz.func87, Tryz.ntmps87
    go_wp2_with fail
    refine (Hi.out _).mono ?_
    rintro e w' ⟨rfl, rfl⟩
    rw [Hx.out]
    go_wp2_with fail
    go_ret3
    exact ⟨cutV_n Hk.out, Below.refl _ _⟩
  · have hx : Lib.indexByte l c = (k : Int) := by rw [lib_idx, hk]
    obtain ⟨hlt, _, _⟩ := idx_some hk
    have Hx := Lib.hid hx
    have Hk := Lib.hid hk
    clear hx hk
    have i3 : (0 : Int) ≤ (k : Int) := by omega
    have i4 : (k : Int) ≤ (l.length : Int) := by omega
    have i5 : IntKind.i64.wrap ((k : Int) + 1) = (k : Int) + 1 := IntWalk.i64_in _ (by omega)
    have i6 : (0 : Int) ≤ (k : Int) + 1 := by omega
    have i7 : (k : Int) + 1 ≤ (l.length : Int) := by omega
    have i8 : ((k : Int) + 1).toNat = k + 1 := by omega
    go_enter Tryz.func87, Tryz.ntmps87
    go_wp2_with fail
    refine (Hi.out _).mono ?_
    rintro e w' ⟨rfl, rfl⟩
    rw [Hx.out]
    go_wp2_with fail
    go_quiet (fail)
    go_wp2
    go_ret3
    exact ⟨cutV_s Hk.out, below_drewN (Below.refl _ _) _⟩

attribute [local go_sem] ba_app
end Go.Proofs.YtgebcifkbldfoaaGreatDoor
