/- Contracts and plain lemmas of our own, merged. -/
import Derived.Test.YtgebcifkbldfoaaDoorZHF2
import Derived.SizedLaws
/- Slices of texts among a law's arguments, with the reach that each row of the form has. -/
namespace Go.Proofs.YtgebcifkbldfoaaDoor
open Go.ChangeShapes Go.WideShapes Go.ChangeAt Go.RowKit

section
variable {H : Type} {enc : TypeId × Value → H} {P : Program} {w : World} {base b0 : Nat} {spare : Nat → Bool} {held : Bool} {r : Reach}

theorem mem_weightsAll {e : TypeId} {l : List (DataW H)} {d : DataW H} (hd : d ∈ l) {n : Nat} (hn : n ∈ d.weights P e) : n ∈ DataW.weightsAll P e l := by
  induction l with
  | nil => cases hd
  | cons x l ih =>
    rw [DataW.weightsAll, List.mem_append]
    rcases List.mem_cons.1 hd with rfl | h
    · exact .inl hn
    · exact .inr (ih h)
theorem mem_weights_slice {t e : TypeId} {l sp : List (DataW H)} (ht : P.underlying t = some (.slice e)) {d : DataW H} (hd : d ∈ l) {n : Nat} (hn : n ∈ d.weights P e) : n ∈ (DataW.slice l sp).weights P t := by
  simp only [DataW.weights, ht, List.mem_cons, List.mem_append]
  exact .inr (.inl (mem_weightsAll hd hn))

theorem open_sl_texts {t e : TypeId} {v : Value} {d : DataW H} {p : List MemPlace} (ht : P.underlying t = some (.slice e)) (he : P.underlying e = some .string) (hC : P.cellsOf e = 1)
    (hv : Value.okWide P w r b0 t v) (h : DataW.Trod enc P w base spare held t v d p) (hz : ∀ n ∈ d.weights P t, n ≤ reachBytes) : ∃ A : List (List UInt8), Sl w 1 v A.length (A.map (fun l => Value.string ⟨l.toArray⟩)) ∧ A.length ≤ maxLen ∧ ∀ l ∈ A, l.length ≤ 140737488351232 := by
  obtain ⟨a0, len0, cap0, rfl⟩ := okWide_slice ht hv
  obtain ⟨fuel, hf⟩ := h
  rcases open_strings ht he hC hf with ⟨hcs, _⟩ | ⟨x, l, c, zs, hcs, _, hl, hm, hzl, hx, hcell, hwz⟩
  · simp [Value.cells] at hcs
    obtain ⟨rfl, rfl, rfl⟩ := hcs
    exact ⟨[], Sl.nil _ _, Nat.zero_le _, fun _ h => by cases h⟩
  · simp [Value.cells] at hcs
    obtain ⟨rfl, rfl, rfl⟩ := hcs
    simp only [Prod.mk.injEq] at hx
    obtain ⟨rfl, _⟩ := hx
    have hlen : (zs.take len0).length = len0 := by
      rw [List.length_take]
      have : len0 ≤ zs.length := by rw [hzl]; split <;> omega
      omega
    refine ⟨(zs.take len0).map (fun s => s.data.toList), ?_, by simp; omega, fun n hn => ?_⟩
    · rw [List.length_map, hlen]
      have hc2 : ∀ i u, (((zs.take len0).map (fun s => s.data.toList)).map (fun l => Value.string ⟨l.toArray⟩))[i]? = some u → w.cell? (x.add i) = some u := by
        intro i u hu
        rw [List.getElem?_map, Option.map_eq_some_iff] at hu
        obtain ⟨y, hy, rfl⟩ := hu
        rw [List.getElem?_map, Option.map_eq_some_iff] at hy
        obtain ⟨y, hy, rfl⟩ := hy
        have hi : i < len0 := by
          have := (List.getElem?_eq_some_iff.1 hy).1
          omega
        rw [List.getElem?_take, if_pos hi] at hy
        have hiz := (List.getElem?_eq_some_iff.1 hy).1
        rw [hcell i hiz]
        simp [hy]
      refine sl_of_add hl (by simpa using hlen) hc2 ?_
      intro hpos
      have h0 := hc2 0 _ (List.getElem?_eq_getElem (by simp; rw [List.length_take] at hlen; omega))
      have := lt_of_cell h0
      rwa [block_add] at this
    · rw [List.mem_map] at hn
      obtain ⟨s, hs, rfl⟩ := hn
      have hmem : (DataW.lit (.string s.data.toList) : DataW H) ∈ strs (zs.take len0) := List.mem_map.2 ⟨s, hs, rfl⟩
      have := hz s.data.toList.length (mem_weights_slice ht hmem (by simp [DataW.weights]))
      unfold reachBytes at this
      omega
end
end Go.Proofs.YtgebcifkbldfoaaDoor
