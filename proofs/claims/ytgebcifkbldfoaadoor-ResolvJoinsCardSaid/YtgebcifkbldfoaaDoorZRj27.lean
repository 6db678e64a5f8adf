/- Contracts and plain lemmas of our own, merged. -/
import Derived.Test.YtgebcifkbldfoaaDoorZRj23
import Derived.Test.YtgebcifkbldfoaaDoorZRj26
import Derived.Test.YtgebcifkbldfoaaDoorZRj5
/- hosts.host: what the fields of one line say. -/
namespace Go.Proofs.YtgebcifkbldfoaaDoor
open Go.RowKit
attribute [local go_sem] ba_get ext_take ext_drop ext_any ba_app

theorem oneN_err {x : List UInt8} {c : Int} (h : prs x = .inl c) : oneN x = none := by unfold oneN; rw [h]
theorem oneN_nil {x : List UInt8} {d : Bool} (h : prs x = .inr ([], d)) : oneN x = none := by unfold oneN; rw [h]; exact if_pos rfl
theorem oneN_ok {x : List UInt8} {n : NmL} {d : Bool} (h : prs x = .inr (n, d)) (hn : n ≠ []) : oneN x = some n := by unfold oneN; rw [h]; exact if_neg hn
theorem namesP_none {F : List (List UInt8)} {k : Nat} (h : k < F.length) (hn : oneN F[k] = none) : namesP F = none := by
  unfold namesP
  rw [if_neg]
  intro ha
  have := List.all_eq_true.1 ha F[k] (List.getElem_mem h)
  rw [hn] at this
  cases this
theorem namesP_all {F : List (List UInt8)} (h : F.all (fun x => (oneN x).isSome) = true) : namesP F = some (F.filterMap oneN) := if_pos h
theorem own_neBk {w : World} {base size n g : Nat} {e t : TypeId} {v : Value} {xs : List Value} {cs : Array Value} (h : w.ownsRow base e size v n xs) (hB : Bk w g t cs) (ht : t ≠ e) : some g ≠ v.ownBlock := by
  intro hgo
  rcases h.2 with ⟨rfl, _⟩ | ⟨g', cap, cur, rfl, hb', hg', _⟩
  · cases hgo
  · have hgg : g = g' := by simpa [Value.ownBlock] using hgo
    subst hgg
    rw [show w.heap[g]? = _ from hB] at hg'
    injection hg' with h2
    injection h2 with _ h2 _
    exact ht h2
theorem NmB.any {w : World} {q : Value × NmL} (h : NmB 0 w q) (b : Nat) : NmB b w q := ⟨⟨h.sl.sl, fun g off c hv hn => (h.sl.far g off c hv hn).elim (fun h => absurd h (Nat.not_lt_zero _)) .inr⟩, h.few, h.len⟩
theorem HoB.any {w : World} {h : Ho} (x : HoB 0 w h) (b : Nat) : HoB b w h := ⟨⟨x.sl.sl, fun g off c hv hn => (x.sl.far g off c hv hn).elim (fun h => absurd h (Nat.not_lt_zero _)) .inr⟩, fun q hq => (x.nm q hq).any b, x.few⟩
theorem prs_bad {x : List UInt8} {c : Int} (h : prs x = .inl c) (w : World) (hl : x.length ≤ 1000000) : Calls Tryd.prog 97 #[.string ⟨x.toArray⟩] w fun e w' => ∃ A k, e = .returned (.tuple #[.slice A 0 k, .bool false, .int .i64 c]) ∧ Below w.heap.size w w' :=
  (parse_own x w hl).mono fun e w' ⟨v, he, ho, hb⟩ => by
    rw [h] at he ho
    obtain ⟨A, k, rfl⟩ := own_any ho
    exact ⟨A, k, he, hb⟩
theorem prs_good {x : List UInt8} {n : NmL} {d : Bool} (h : prs x = .inr (n, d)) (w : World) (hl : x.length ≤ 1000000) : Calls Tryd.prog 97 #[.string ⟨x.toArray⟩] w fun e w' => ∃ A k, e = .returned (.tuple #[.slice A n.length k, .bool d, .int .i64 0]) ∧ w'.ownsRow w.heap.size 9 1 (.slice A n.length k) n.length (n.map stv) ∧ Below w.heap.size w w' :=
  (parse_own x w hl).mono fun e w' ⟨v, he, ho, hb⟩ => by
    rw [h] at he ho
    obtain ⟨A, k, rfl⟩ := own_any ho
    exact ⟨A, k, he, ho, hb⟩
theorem all_nextH {F : List (List UInt8)} {k : Nat} {n : NmL} (h : k < F.length) (ha : (F.take k).all (fun x => (oneN x).isSome) = true) (hn : oneN F[k] = some n) : (F.take (k + 1)).all (fun x => (oneN x).isSome) = true ∧ (F.take (k + 1)).filterMap oneN = (F.take k).filterMap oneN ++ [n] := by
  rw [List.take_succ_eq_append_getElem h, List.all_append, ha, List.filterMap_append]
  constructor
  · simp [hn]
  · rw [List.filterMap_cons_some hn, List.filterMap_nil]
end Go.Proofs.YtgebcifkbldfoaaDoor
