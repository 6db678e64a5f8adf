/- Contracts and plain lemmas of our own, merged. -/
import Derived.Test.YtgebcifkbldfoaaGreatDoorZSB12
import Derived.OpenShut
/- The contract of the reference's Join, and the walk of AsciiJoins. -/
namespace Go.Proofs.YtgebcifkbldfoaaGreatDoor
open Go.RowKit
attribute [local go_sem] ba_get ext_take ext_drop ba_app

theorem joi_first {A : List (List UInt8)} (b : List UInt8) (h : 0 < A.length) : joi b (A.take 1) = A[0] := by
  rcases A with _ | ⟨x, r⟩
  · simp at h
  · unfold joi; simp [Lib.join_one]
theorem joi_snoc {A : List (List UInt8)} (b : List UInt8) {k : Nat} (hk : k < A.length) (h0 : 0 < k) : joi b (A.take (k + 1)) = joi b (A.take k) ++ b ++ A[k] := by
  rcases A with _ | ⟨x, r⟩
  · simp at hk
  · rcases k with _ | k
    · omega
    · have hk' : k < r.length := by simpa using hk
      unfold joi
      rw [List.take_succ_cons, List.take_succ_cons, Lib.join_cons, Lib.join_cons, Lib.joinTail_take_succ b r k r[k] (List.getElem?_eq_getElem hk')]
      simp [List.append_assoc]
theorem joi_nil (b : List UInt8) : joi b [] = [] := rfl
theorem joi_all (b : List UInt8) (A : List (List UInt8)) : joi b (A.take A.length) = joi b A := by rw [List.take_length]
theorem joi_mono {A : List (List UInt8)} (b : List UInt8) (k : Nat) (hk : k < A.length) : (joi b (A.take k)).length + (if k = 0 then 0 else b.length) + A[k].length = (joi b (A.take (k + 1))).length := by
  rcases Nat.eq_zero_or_pos k with h0 | h0
  · subst h0
    rw [joi_first b hk]
    simp [joi_nil]
  · rw [joi_snoc b hk h0, List.length_append, List.length_append, if_neg (by omega)]
theorem joi_le {A : List (List UInt8)} (b : List UInt8) (k : Nat) (hk : k ≤ A.length) : (joi b (A.take k)).length ≤ (joi b A).length := by
  have h : ∀ d : Nat, ∀ k : Nat, k + d = A.length → (joi b (A.take k)).length ≤ (joi b A).length := by
    intro d
    induction d with
    | zero => intro k hk; obtain rfl : k = A.length := by omega
              rw [joi_all]; exact Nat.le_refl _
    | succ d ih =>
      intro k hk
      have h1 := ih (k + 1) (by omega)
      have h2 := joi_mono (A := A) b k (by omega)
      omega
  exact h (A.length - k) k (by omega)

end Go.Proofs.YtgebcifkbldfoaaGreatDoor

/- The walk of AsciiJoins. -/
namespace Go.Proofs.YtgebcifkbldfoaaGreatDoor
open Go.RowKit
attribute [local go_sem] ba_get

theorem joi_more {A : List (List UInt8)} (c : UInt8) {k : Nat} (h : k + 1 < A.length) : joi [c] (A.drop k) = A[k]'(by omega) ++ c :: joi [c] (A.drop (k + 1)) := by
  rw [List.drop_eq_getElem_cons (show k < A.length by omega), List.drop_eq_getElem_cons h]
  generalize A.drop (k + 1 + 1) = D
  unfold joi
  rw [Lib.join_cons, Lib.join_cons]
  simp [Lib.joinTail]
theorem idx_app {c : UInt8} {x r : List UInt8} (h : idx c x = none) : idx c (x ++ c :: r) = some x.length := by
  refine idx_some_of (by simp) (by simp) fun j hj hjk => ?_
  rw [List.getElem_append_left hjk]
  exact idx_none h j hjk
end Go.Proofs.YtgebcifkbldfoaaGreatDoor

/- Texts joined by a byte, and cut at it: plain words. -/
namespace Go.Proofs.YtgebcifkbldfoaaGreatDoor
open Go.RowKit

/-- joined by a byte, by recursion. -/
def jB {α : Type} (d : α) : List (List α) → List α
  | [] => []
  | [x] => x
  | x :: y :: r => x ++ d :: jB d (y :: r)
theorem joi_jB (d : UInt8) (A : List (List UInt8)) : joi [d] A = jB d A := by
  induction A with
  | nil => rfl
  | cons x r ih =>
    rcases r with _ | ⟨y, r⟩
    · unfold joi; rw [Lib.join_one]; rfl
    · unfold joi at ih ⊢
      rw [jB, ← ih, Lib.join_cons, Lib.join_cons]
      simp [Lib.joinTail]
theorem jB_mem {α : Type} {d : α} {Ls : List (List α)} {c : α} (h : c ∈ jB d Ls) : c = d ∨ ∃ L ∈ Ls, c ∈ L := by
  induction Ls with
  | nil => cases h
  | cons L r ih =>
    rcases r with _ | ⟨M, r⟩
    · exact .inr ⟨L, by simp, h⟩
    · rw [jB, List.mem_append, List.mem_cons] at h
      rcases h with h | h | h
      · exact .inr ⟨L, by simp, h⟩
      · exact .inl h
      · rcases ih h with h | ⟨X, hX, hc⟩
        · exact .inl h
        · exact .inr ⟨X, by simp [hX], hc⟩

/-- a text's parts between separators, as Split has them, the first one behind 'cur'. -/
def spB (d : UInt8) (cur : List UInt8) : List UInt8 → List (List UInt8)
  | [] => [cur]
  | c :: r => if c = d then cur :: spB d [] r else spB d (cur ++ [c]) r
theorem spB_app {d : UInt8} (L : List UInt8) (h : ∀ c ∈ L, c ≠ d) : ∀ (cur R : List UInt8), spB d cur (L ++ R) = spB d (cur ++ L) R := by
  induction L with
  | nil => intro cur R; simp
  | cons c L ih =>
    intro cur R
    rw [List.cons_append, spB, if_neg (h c (by simp)), ih (fun x hx => h x (by simp [hx]))]
    simp
theorem spB_join {d : UInt8} (A : List (List UInt8)) (h : ∀ a ∈ A, ∀ c ∈ a, c ≠ d) (hne : A ≠ []) : spB d [] (jB d A) = A := by
  induction A with
  | nil => exact absurd rfl hne
  | cons L r ih =>
    rcases r with _ | ⟨M, r⟩
    · have := spB_app L (h L (by simp)) [] []
      rw [List.append_nil] at this
      rw [jB, this]
      simp [spB]
    · rw [jB, spB_app _ (h L (by simp)), spB, if_pos rfl, ih (fun X hX => h X (by simp [hX])) (by simp)]
      simp
theorem spB_ne (d : UInt8) (l : List UInt8) : ∀ cur, spB d cur l ≠ [] := by
  induction l with
  | nil => intro cur h; cases h
  | cons c l ih =>
    intro cur
    rw [spB]
    split
    · intro h; cases h
    · exact ih _
theorem spB_len (d : UInt8) (l : List UInt8) : ∀ cur, (spB d cur l).length ≤ l.length + 1 := by
  induction l with
  | nil => intro cur; simp [spB]
  | cons c l ih =>
    intro cur
    rw [spB]
    split
    · have := ih []; simp; omega
    · have := ih (cur ++ [c]); simp; omega
/-- what stands ahead of the first separator, and what behind it. -/
def hdB (d : UInt8) (l : List UInt8) : List UInt8 := match idx d l with | none => l | some k => l.take k
def tlB (d : UInt8) (l : List UInt8) : List UInt8 := match idx d l with | none => [] | some k => l.drop (k + 1)
def hasB (d : UInt8) (l : List UInt8) : Bool := match idx d l with | none => false | some _ => true
theorem cutV_eq (d : UInt8) (l : List UInt8) : cutV d l = .tuple #[.string ⟨(hdB d l).toArray⟩, .string ⟨(tlB d l).toArray⟩, .bool (hasB d l)] := by
  unfold cutV hdB tlB hasB
  cases idx d l <;> rfl
theorem idx_free {d : UInt8} {x : List UInt8} (h : ∀ c ∈ x, c ≠ d) : idx d x = none := idx_none_of fun _ hj => h _ (List.getElem_mem hj)
theorem hdB_app {d : UInt8} {x r : List UInt8} (h : ∀ c ∈ x, c ≠ d) : hdB d (x ++ d :: r) = x := by unfold hdB; rw [idx_app (idx_free h)]; simp
theorem tlB_app {d : UInt8} {x r : List UInt8} (h : ∀ c ∈ x, c ≠ d) : tlB d (x ++ d :: r) = r := by unfold tlB; rw [idx_app (idx_free h)]; simp
theorem hasB_app {d : UInt8} {x r : List UInt8} (h : ∀ c ∈ x, c ≠ d) : hasB d (x ++ d :: r) = true := by unfold hasB; rw [idx_app (idx_free h)]
theorem hdB_one {d : UInt8} {x : List UInt8} (h : ∀ c ∈ x, c ≠ d) : hdB d x = x := by unfold hdB; rw [idx_free h]
theorem hasB_one {d : UInt8} {x : List UInt8} (h : ∀ c ∈ x, c ≠ d) : hasB d x = false := by unfold hasB; rw [idx_free h]
theorem hdB_len (d : UInt8) (l : List UInt8) : (hdB d l).length ≤ l.length := by
  unfold hdB
  split
  · exact Nat.le_refl _
  · rw [List.length_take]; omega
theorem tlB_len (d : UInt8) (l : List UInt8) : (tlB d l).length ≤ l.length := by
  unfold tlB
  split
  · simp
  · rw [List.length_drop]; omega
theorem hdB_free (d : UInt8) (l : List UInt8) : ∀ c ∈ hdB d l, c ≠ d := by
  intro c hc
  unfold hdB at hc
  cases h : idx d l with
  | none =>
    rw [h] at hc
    obtain ⟨j, hj, rfl⟩ := List.mem_iff_getElem.1 hc
    exact idx_none h j hj
  | some k =>
    rw [h] at hc
    obtain ⟨hk, _, h2⟩ := idx_some h
    obtain ⟨j, hj, rfl⟩ := List.mem_iff_getElem.1 hc
    rw [List.getElem_take]
    rw [List.length_take] at hj
    exact h2 j (by omega) (by omega)
theorem split_has {d : UInt8} {l : List UInt8} (h : hasB d l = true) : l = hdB d l ++ d :: tlB d l := by
  unfold hasB at h
  cases e : idx d l with
  | none => rw [e] at h; cases h
  | some k =>
    obtain ⟨hk, h1, _⟩ := idx_some e
    unfold hdB tlB
    rw [e]
    simp only
    rw [← h1, ← List.drop_eq_getElem_cons hk, List.take_append_drop]
theorem split_not {d : UInt8} {l : List UInt8} (h : hasB d l = false) : hdB d l = l ∧ tlB d l = [] := by
  unfold hasB at h
  cases e : idx d l with
  | none => unfold hdB tlB; rw [e]; exact ⟨rfl, rfl⟩
  | some k => rw [e] at h; cases h
theorem spB_has {d : UInt8} {l : List UInt8} (h : hasB d l = true) : spB d [] l = hdB d l :: spB d [] (tlB d l) := by
  have e := split_has h
  have := spB_app (hdB d l) (hdB_free d l) [] (d :: tlB d l)
  rw [← e, spB, if_pos rfl] at this
  simpa using this
theorem spB_not {d : UInt8} {l : List UInt8} (h : hasB d l = false) : spB d [] l = [l] := by
  obtain ⟨h1, _⟩ := split_not h
  have h2 := hdB_free d l
  rw [h1] at h2
  have := spB_app l h2 [] []
  rw [List.append_nil] at this
  rw [this]; simp [spB]
end Go.Proofs.YtgebcifkbldfoaaGreatDoor

/- A variable of Go's library that must hold a number; lengths of parts. -/
namespace Go.Proofs.YtgebcifkbldfoaaGreatDoor
open Go.RowKit
/-- a variable of Go's library that holds some number. -/
def MaxI (w : World) : Prop := ∃ m, w.cell? ⟨2, 0, none⟩ = some (.int .i64 m)
theorem MaxI.below {w w' : World} (h : MaxI w) (hb : Below w.heap.size w w') : MaxI w' := by
  obtain ⟨m, hm⟩ := h
  exact ⟨m, (hb.cell (p := ⟨2, 0, none⟩) (block_lt_of_cell hm)).trans hm⟩
end Go.Proofs.YtgebcifkbldfoaaGreatDoor
