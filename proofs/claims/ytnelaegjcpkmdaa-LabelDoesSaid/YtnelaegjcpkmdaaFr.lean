/- How the arguments of a law are read: slices of integers and of texts as 'Sl'. -/
import Derived.Test.YtnelaegjcpkmdaaRows
import Derived.Test.YtnelaegjcpkmdaaK
import Derived.ProofKit
import Derived.OpenShut
import Derived.ShutString
import Derived.ChangeOld
import Derived.SliceStrings
namespace Go.Proofs.Ytnelaegjcpkmdaa
open Go.ChangeShapes Go.WideShapes Go.ChangeAt Go.RowKit

theorem own : ownKnob Try.prog.godebug = none := by kernel_rfl
theorem laidOut : laidOutB Try.prog = true := by kernel_rfl

section
variable {H : Type} {enc : TypeId × Value → H} {P : Program} {w : World} {base b0 : Nat} {spare : Nat → Bool} {held : Bool} {r : Reach}

/-- a row of cells that is known from its address on, as 'Sl'. -/
theorem sl_of_add {a : Addr} {len cap : Nat} {vs : List Value} (hl : len ≤ cap) (hn : vs.length = len) (hc : ∀ i u, vs[i]? = some u → w.cell? (a.add i) = some u) (hb : 0 < len → a.block < w.heap.size) :
    Sl w 1 (.slice (some a) len cap) len vs := by
  refine ⟨by omega, some a, cap, rfl, hl, fun h => (by cases h), fun ad had hpos => ?_⟩
  injection had with had
  subst had
  obtain ⟨b, off, sp⟩ := a
  have h0 := hc 0 vs[0] (List.getElem?_eq_getElem (by omega))
  have hsp : sp = none := by simpa [Addr.add] using World.cell?_spot h0
  subst hsp
  refine ⟨hb hpos, rfl, fun j u hu => ?_⟩
  have := hc j u hu
  rwa [add_none] at this
theorem lt_of_cell {w : World} {a : Addr} {u : Value} (h : w.cell? a = some u) : a.block < w.heap.size := by
  rcases Nat.lt_or_ge a.block w.heap.size with hlt | hge
  · exact hlt
  · unfold World.cell? at h
    rw [Array.getElem?_eq_none hge] at h
    simp at h
theorem block_add (a : Addr) (n : Nat) : (a.add n).block = a.block := by unfold Addr.add; split <;> rfl

theorem open_sl_ints {t e : TypeId} {k : IntKind} {v : Value} {d : DataW H} {p : List MemPlace} (ht : P.underlying t = some (.slice e)) (he : P.underlying e = some (.int k)) (hC : P.cellsOf e = 1)
    (hv : Value.okWide P w r b0 t v) (h : DataW.Trod enc P w base spare held t v d p) : ∃ A : List Int, Sl w 1 v A.length (A.map (Value.int k)) ∧ A.length ≤ maxLen ∧ ∀ n ∈ A, (Lit.int k n).wf = true := by
  obtain ⟨a0, len0, cap0, rfl⟩ := okWide_slice ht hv
  obtain ⟨fuel, hf⟩ := h
  rcases open_ints ht he hC hf with ⟨hcs, _⟩ | ⟨x, l, c, zs, hcs, _, hl, hm, hz, _, hcell, hwz⟩
  · simp [Value.cells] at hcs
    obtain ⟨rfl, rfl, rfl⟩ := hcs
    exact ⟨[], Sl.nil _ _, Nat.zero_le _, fun _ h => by cases h⟩
  · simp [Value.cells] at hcs
    obtain ⟨rfl, rfl, rfl⟩ := hcs
    have hlen : (zs.take len0).length = len0 := by
      rw [List.length_take]
      have : len0 ≤ zs.length := by rw [hz]; split <;> omega
      omega
    refine ⟨zs.take len0, ?_, by omega, fun n hn => hwz n (List.mem_of_mem_take hn)⟩
    rw [hlen]
    have hc2 : ∀ i u, ((zs.take len0).map (Value.int k))[i]? = some u → w.cell? (x.add i) = some u := by
      intro i u hu
      rw [List.getElem?_map, Option.map_eq_some_iff] at hu
      obtain ⟨y, hy, rfl⟩ := hu
      have hi : i < len0 := by
        have := (List.getElem?_eq_some_iff.1 hy).1
        omega
      rw [List.getElem?_take, if_pos hi] at hy
      have hiz := (List.getElem?_eq_some_iff.1 hy).1
      rw [hcell i hiz]
      simp [hy]
    refine sl_of_add hl (by simpa using hlen) hc2 ?_
    intro hpos
    have h0 := hc2 0 _ (List.getElem?_eq_getElem (by simp; rw [List.length_take] at hlen; omega))
    have := lt_of_cell h0
    rwa [block_add] at this

theorem open_sl_strs {t e : TypeId} {v : Value} {d : DataW H} {p : List MemPlace} (ht : P.underlying t = some (.slice e)) (he : P.underlying e = some .string) (hC : P.cellsOf e = 1)
    (hv : Value.okWide P w r b0 t v) (h : DataW.Trod enc P w base spare held t v d p) : ∃ A : List (List UInt8), Sl w 1 v A.length (A.map (fun l => Value.string ⟨l.toArray⟩)) ∧ A.length ≤ maxLen ∧ ∀ l ∈ A, l.length ≤ maxLen := by
  obtain ⟨a0, len0, cap0, rfl⟩ := okWide_slice ht hv
  obtain ⟨fuel, hf⟩ := h
  rcases open_strings ht he hC hf with ⟨hcs, _⟩ | ⟨x, l, c, zs, hcs, _, hl, hm, hz, _, hcell, hwz⟩
  · simp [Value.cells] at hcs
    obtain ⟨rfl, rfl, rfl⟩ := hcs
    exact ⟨[], Sl.nil _ _, Nat.zero_le _, fun _ h => by cases h⟩
  · simp [Value.cells] at hcs
    obtain ⟨rfl, rfl, rfl⟩ := hcs
    have hlen : (zs.take len0).length = len0 := by
      rw [List.length_take]
      have : len0 ≤ zs.length := by rw [hz]; split <;> omega
      omega
    refine ⟨(zs.take len0).map (fun s => s.data.toList), ?_, by simp; omega, fun n hn => ?_⟩
    · rw [List.length_map, hlen]
      have hc2 : ∀ i u, (((zs.take len0).map (fun s => s.data.toList)).map (fun l => Value.string ⟨l.toArray⟩))[i]? = some u → w.cell? (x.add i) = some u := by
        intro i u hu
        rw [List.getElem?_map, Option.map_eq_some_iff] at hu
        obtain ⟨y, hy, rfl⟩ := hu
        rw [List.getElem?_map, Option.map_eq_some_iff] at hy
        obtain ⟨y, hy, rfl⟩ := hy
        have hi : i < len0 := by
          have := (List.getElem?_eq_some_iff.1 hy).1
          omega
        rw [List.getElem?_take, if_pos hi] at hy
        have hiz := (List.getElem?_eq_some_iff.1 hy).1
        rw [hcell i hiz]
        simp [hy]
      refine sl_of_add hl (by simpa using hlen) hc2 ?_
      intro hpos
      have h0 := hc2 0 _ (List.getElem?_eq_getElem (by simp; rw [List.length_take] at hlen; omega))
      have := lt_of_cell h0
      rwa [block_add] at this
    · rw [List.mem_map] at hn
      obtain ⟨s, hs, rfl⟩ := hn
      have := hwz s (List.mem_of_mem_take hs)
      simpa using this
end
end Go.Proofs.Ytnelaegjcpkmdaa
