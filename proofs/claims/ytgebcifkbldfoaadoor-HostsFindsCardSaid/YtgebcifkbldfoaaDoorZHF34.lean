/- Contracts and plain lemmas of our own, merged. -/
import Derived.Test.YtgebcifkbldfoaaDoorZHF12
import Derived.Test.YtgebcifkbldfoaaDoorZHF33
/- Hosts as an argument of a law. -/
namespace Go.Proofs.YtgebcifkbldfoaaDoor
open Go.ChangeShapes Go.WideShapes Go.ChangeAt Go.RowKit

section
variable {H : Type} {enc : TypeId × Value → H} {P : Program} {w : World} {base b0 : Nat} {spare : Nat → Bool} {held : Bool} {r : Reach}
theorem ho_cells19 : Tryd.prog.cellsOf 106 = 19 := by kernel_rfl
theorem open_hoL {fuel : Nat} {cs : List Value} {d : DataW H} {p : List MemPlace} (h : DataW.trod enc Tryd.prog w base spare held fuel 106 cs = some (d, p)) (hz : ∀ n ∈ d.weights Tryd.prog 106, n ≤ reachBytes) : ∃ a : Ho, cs = hoL a ∧ HoRaw w a := by
  obtain ⟨xs, n, rfl, hx, hlen, hxl, hf⟩ := DataW.trod_struct ho_under h
  rw [Prod.mk.injEq] at hx
  obtain ⟨rfl, _⟩ := hx
  rw [ho_cells19] at hlen
  have q1 : (Tryd.prog.fieldsOf 106)[1]?.map (fun f => (f.type, f.offset)) = some (62, 18) := by kernel_rfl
  obtain ⟨y0, g0, k0⟩ := field_at hf hxl (i := 0) (t := 34) (o := 0) (by kernel_rfl) (c := 18) (by kernel_rfl)
  obtain ⟨y1, g1, k1⟩ := field_at hf hxl q1 (c := 1) (by kernel_rfl)
  obtain ⟨a, ha⟩ := open_adL k0
  obtain ⟨v, hv⟩ : ∃ v, (cs.drop 18).take 1 = [v] := by
    have h1 : ((cs.drop 18).take 1).length = 1 := by rw [List.length_take, List.length_drop]; omega
    exact List.length_eq_one_iff.1 h1
  rw [hv] at k1
  obtain ⟨L, n1, n2, n3⟩ := open_sl_of (R := NmRaw w) (f := nmF) Tryd.underlying62 (show Tryd.prog.cellsOf 51 = 1 by kernel_rfl) (by omega) nmF_len (fun h hz => open_nm h hz) (show DataW.trod enc Tryd.prog w base spare held n 62 [v] = some (y1.1, y1.2) from k1) (weight_at ho_under hz q1 g1)
  obtain ⟨A, c, rfl, _⟩ := n1.any
  refine ⟨⟨a, A, c, L⟩, ?_, n1, n2, n3⟩
  have h1 := List.take_append_drop 18 cs
  rw [List.drop_zero] at ha
  have h2 := List.take_append_drop 1 (cs.drop 18)
  rw [hv, List.drop_drop, List.drop_eq_nil_of_le (by omega)] at h2
  rw [ha, ← h2] at h1
  exact h1.symm
set_option maxRecDepth 100000 in
theorem open_hos {v : Value} {d : DataW H} {p : List MemPlace} (hv : Value.okWide Tryd.prog w r b0 45 v) (h : DataW.Trod enc Tryd.prog w base spare held 45 v d p) (hz : ∀ n ∈ d.weights Tryd.prog 45, n ≤ reachBytes) : ∃ L : List Ho, HosArg w v L := by
  obtain ⟨a0, len0, cap0, rfl⟩ := okWide_slice Tryd.underlying45 hv
  obtain ⟨fuel, hf⟩ := h
  obtain ⟨S, s1, s2, s3⟩ := open_sl_of (R := HoRaw w) (f := hoL) Tryd.underlying45 ho_cells19 (by omega) hoL_len (fun h hz => open_hoL h hz) (show DataW.trod enc Tryd.prog w base spare held fuel 45 [.slice a0 len0 cap0] = some (d, p) from hf) hz
  exact ⟨S, s1, s2, s3⟩
end
end Go.Proofs.YtgebcifkbldfoaaDoor
