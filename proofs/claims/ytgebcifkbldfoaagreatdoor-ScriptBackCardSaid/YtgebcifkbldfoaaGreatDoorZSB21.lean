/- Contracts and plain lemmas of our own, merged. -/
import Derived.Test.YtgebcifkbldfoaaGreatDoorZSB13
import Derived.Test.YtgebcifkbldfoaaGreatDoorZSB20
import Derived.Shelf.Abstract
import Derived.Shelf.RegionOpen
import Derived.WalkKit
import Derived.OwnWalkIn
import Derived.TacticsInMore
import Derived.LoopNIn
import Derived.LoopIn
/- The lines of a text (layer 16): plain words, and the iterator of lines. -/
namespace Go.Proofs.YtgebcifkbldfoaaGreatDoor
open Go.RowKit
attribute [local go_sem] ba_get ext_take ext_drop

theorem holdL {p : Prop} (h : Hid p) : p := h.out
theorem spB_none {d : UInt8} : ∀ (l cur : List UInt8), idx d l = none → spB d cur l = [cur ++ l]
  | [], cur, _ => by simp [spB]
  | c :: r, cur, h => by
    unfold idx at h
    split at h
    · cases h
    · next hc =>
      rw [spB, if_neg hc, spB_none r _ (by simpa using h)]
      simp
theorem spB_some {d : UInt8} : ∀ (l cur : List UInt8) (k : Nat), idx d l = some k → spB d cur l = (cur ++ l.take k) :: spB d [] (l.drop (k + 1))
  | [], cur, _, h => by cases h
  | c :: r, cur, k, h => by
    unfold idx at h
    split at h
    · next hc =>
      cases h
      rw [spB, if_pos hc]
      simp
    · next hc =>
      obtain ⟨k', hk', rfl⟩ := Option.map_eq_some_iff.1 h
      rw [spB, if_neg hc, spB_some r _ k' hk']
      simp
theorem spB_pos (d : UInt8) : ∀ (l cur : List UInt8), 0 < (spB d cur l).length
  | [], _ => by simp [spB]
  | c :: r, cur => by
    rw [spB]
    split
    · simp
    · exact spB_pos d r _
/-- the lines of a text, with their numbers. -/
def linL (s : List UInt8) : List (List UInt8) := spB 10 [] s
theorem linL_len (d : UInt8) : ∀ (l cur : List UInt8), (spB d cur l).length ≤ l.length + 1
  | [], _ => by simp [spB]
  | c :: r, cur => by
    rw [spB]
    split
    · have := linL_len d r []; simp; omega
    · have := linL_len d r (cur ++ [c]); simp; omega
attribute [local go_sem] Oper.semAt_some
end Go.Proofs.YtgebcifkbldfoaaGreatDoor

/- A line's fields (layer 16). -/
namespace Go.Proofs.YtgebcifkbldfoaaGreatDoor
open Go.RowKit
attribute [local go_sem] ba_get ext_take ext_drop

theorem trS_len (s : List UInt8) : (Lib.trimSuffix s [13]).length ≤ s.length := by
  unfold Lib.trimSuffix
  split
  · rw [List.length_take]; omega
  · exact Nat.le_refl _
theorem trim_any (s : List UInt8) (w : World) (hl : s.length ≤ 1000000000) : Calls Tryz.prog 37 #[.string ⟨s.toArray⟩, .string ⟨#[13]⟩] w fun e w' => e = .returned (.string ⟨(Lib.trimSuffix s [13]).toArray⟩) ∧ Below w.heap.size w w' :=
  (Tryz.strings_TrimSuffix ⟨s.toArray⟩ ⟨#[13]⟩ w (by show s.toArray.size ≤ _; simp; omega)).mono fun e w' ⟨he, hw⟩ => ⟨by rw [he], by rw [hw]; exact Below.refl _ _⟩
end Go.Proofs.YtgebcifkbldfoaaGreatDoor

/- The reference's Fields of a line (16). -/
namespace Go.Proofs.YtgebcifkbldfoaaGreatDoor
open Go.RowKit
attribute [local go_sem] ba_get ext_take ext_drop

/-- texts in a row of the call's own. -/
def TextsOwn (w : World) (A : List (List UInt8)) (e : Ending) (w' : World) : Prop := ∃ v, e = .returned v ∧ w'.ownsRow w.heap.size 9 1 v A.length (A.map stv) ∧ Below w.heap.size w w'
theorem trS_nil : Lib.trimSuffix [] [13] = [] := by
  unfold Lib.trimSuffix
  split <;> rfl
/-- what stands ahead of place k holds no d. -/
def NoB (d : UInt8) (t : List UInt8) (k : Nat) : Prop := ∀ j, (h : j < t.length) → j < k → t[j] ≠ d
theorem NoB.next {d : UInt8} {t : List UInt8} {k : Nat} (h : NoB d t k) (hk : k < t.length) (hd : t[k] ≠ d) : NoB d t (k + 1) := by
  intro j hj hlt
  rcases Nat.lt_or_ge j k with h1 | h1
  · exact h j hj h1
  · obtain rfl : j = k := by omega
    exact hd
attribute [local go_sem] ba_app
end Go.Proofs.YtgebcifkbldfoaaGreatDoor
