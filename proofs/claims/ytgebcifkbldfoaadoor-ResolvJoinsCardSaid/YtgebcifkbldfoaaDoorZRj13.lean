/- Contracts and plain lemmas of our own, merged. -/
import Derived.Test.YtgebcifkbldfoaaDoorZRj12
import Derived.OpenShut
/- Texts joined by a byte, and cut at it: plain words. -/
namespace Go.Proofs.YtgebcifkbldfoaaDoor
open Go.RowKit

/-- joined by a byte, by recursion. -/
def jB {α : Type} (d : α) : List (List α) → List α
  | [] => []
  | [x] => x
  | x :: y :: r => x ++ d :: jB d (y :: r)
theorem joi_jB (d : UInt8) (A : List (List UInt8)) : joi [d] A = jB d A := by
  induction A with
  | nil => rfl
  | cons x r ih =>
    rcases r with _ | ⟨y, r⟩
    · unfold joi; rw [Lib.join_one]; rfl
    · unfold joi at ih ⊢
      rw [jB, ← ih, Lib.join_cons, Lib.join_cons]
      simp [Lib.joinTail]
/-- a text's parts between separators, as Split has them, the first one behind 'cur'. -/
def spB (d : UInt8) (cur : List UInt8) : List UInt8 → List (List UInt8)
  | [] => [cur]
  | c :: r => if c = d then cur :: spB d [] r else spB d (cur ++ [c]) r
theorem spB_app {d : UInt8} (L : List UInt8) (h : ∀ c ∈ L, c ≠ d) : ∀ (cur R : List UInt8), spB d cur (L ++ R) = spB d (cur ++ L) R := by
  induction L with
  | nil => intro cur R; simp
  | cons c L ih =>
    intro cur R
    rw [List.cons_append, spB, if_neg (h c (by simp)), ih (fun x hx => h x (by simp [hx]))]
    simp
theorem spB_ne (d : UInt8) (l : List UInt8) : ∀ cur, spB d cur l ≠ [] := by
  induction l with
  | nil => intro cur h; cases h
  | cons c l ih =>
    intro cur
    rw [spB]
    split
    · intro h; cases h
    · exact ih _
theorem spB_len (d : UInt8) (l : List UInt8) : ∀ cur, (spB d cur l).length ≤ l.length + 1 := by
  induction l with
  | nil => intro cur; simp [spB]
  | cons c l ih =>
    intro cur
    rw [spB]
    split
    · have := ih []; simp; omega
    · have := ih (cur ++ [c]); simp; omega
/-- what stands ahead of the first separator, and what behind it. -/
def hdB (d : UInt8) (l : List UInt8) : List UInt8 := match idx d l with | none => l | some k => l.take k
def tlB (d : UInt8) (l : List UInt8) : List UInt8 := match idx d l with | none => [] | some k => l.drop (k + 1)
def hasB (d : UInt8) (l : List UInt8) : Bool := match idx d l with | none => false | some _ => true
theorem cutV_eq (d : UInt8) (l : List UInt8) : cutV d l = .tuple #[.string ⟨(hdB d l).toArray⟩, .string ⟨(tlB d l).toArray⟩, .bool (hasB d l)] := by
  unfold cutV hdB tlB hasB
  cases idx d l <;> rfl
theorem hdB_len (d : UInt8) (l : List UInt8) : (hdB d l).length ≤ l.length := by
  unfold hdB
  split
  · exact Nat.le_refl _
  · rw [List.length_take]; omega
theorem tlB_len (d : UInt8) (l : List UInt8) : (tlB d l).length ≤ l.length := by
  unfold tlB
  split
  · simp
  · rw [List.length_drop]; omega
theorem hdB_free (d : UInt8) (l : List UInt8) : ∀ c ∈ hdB d l, c ≠ d := by
  intro c hc
  unfold hdB at hc
  cases h : idx d l with
  | none =>
    rw [h] at hc
    obtain ⟨j, hj, rfl⟩ := List.mem_iff_getElem.1 hc
    exact idx_none h j hj
  | some k =>
    rw [h] at hc
    obtain ⟨hk, _, h2⟩ := idx_some h
    obtain ⟨j, hj, rfl⟩ := List.mem_iff_getElem.1 hc
    rw [List.getElem_take]
    rw [List.length_take] at hj
    exact h2 j (by omega) (by omega)
theorem split_has {d : UInt8} {l : List UInt8} (h : hasB d l = true) : l = hdB d l ++ d :: tlB d l := by
  unfold hasB at h
  cases e : idx d l with
  | none => rw [e] at h; cases h
  | some k =>
    obtain ⟨hk, h1, _⟩ := idx_some e
    unfold hdB tlB
    rw [e]
    simp only
    rw [← h1, ← List.drop_eq_getElem_cons hk, List.take_append_drop]
theorem split_not {d : UInt8} {l : List UInt8} (h : hasB d l = false) : hdB d l = l ∧ tlB d l = [] := by
  unfold hasB at h
  cases e : idx d l with
  | none => unfold hdB tlB; rw [e]; exact ⟨rfl, rfl⟩
  | some k => rw [e] at h; cases h
theorem spB_has {d : UInt8} {l : List UInt8} (h : hasB d l = true) : spB d [] l = hdB d l :: spB d [] (tlB d l) := by
  have e := split_has h
  have := spB_app (hdB d l) (hdB_free d l) [] (d :: tlB d l)
  rw [← e, spB, if_pos rfl] at this
  simpa using this
theorem spB_not {d : UInt8} {l : List UInt8} (h : hasB d l = false) : spB d [] l = [l] := by
  obtain ⟨h1, _⟩ := split_not h
  have h2 := hdB_free d l
  rw [h1] at h2
  have := spB_app l h2 [] []
  rw [List.append_nil] at this
  rw [this]; simp [spB]
end Go.Proofs.YtgebcifkbldfoaaDoor

/- A variable of Go's library that must hold a number; lengths of parts. -/
namespace Go.Proofs.YtgebcifkbldfoaaDoor
open Go.RowKit
/-- a variable of Go's library that holds some number. -/
def MaxI (w : World) : Prop := ∃ m, w.cell? ⟨0, 0, none⟩ = some (.int .i64 m)
theorem MaxI.below {w w' : World} (h : MaxI w) (hb : Below w.heap.size w w') : MaxI w' := by
  obtain ⟨m, hm⟩ := h
  exact ⟨m, (hb.cell (p := ⟨0, 0, none⟩) (block_lt_of_cell hm)).trans hm⟩
end Go.Proofs.YtgebcifkbldfoaaDoor
