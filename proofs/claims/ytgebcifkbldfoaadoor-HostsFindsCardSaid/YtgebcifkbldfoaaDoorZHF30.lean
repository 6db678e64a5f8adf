/- Contracts and plain lemmas of our own, merged. -/
import Derived.Test.YtgebcifkbldfoaaDoorZHF10
import Derived.Test.YtgebcifkbldfoaaDoorZHF8
import Derived.Maps.OwnSet
import Derived.Maps.OwnOps
import Derived.Maps.Views
import Derived.DeepKeys4
/- Addresses as keys of a map. -/
namespace Go.Proofs.YtgebcifkbldfoaaDoor
open Go.RowKit

section
variable {P : Program}
theorem kl_int {d : Nat} {t : TypeId} {q : IntKind} (hu : P.underlying t = some (.int q)) {n : Int} (hw : (Lit.int q n).wf = true) : P.keyLits (d + 1) t [.int q n] = some [.int q n] := by
  unfold Program.keyLits
  simp [hu, hw]
end
theorem ad_cellsK : Tryd.prog.cellsOf 34 = 18 := by kernel_rfl
theorem ip_cellsK : Tryd.prog.cellsOf 32 = 16 := by kernel_rfl
theorem u8_cellsK : Tryd.prog.cellsOf 5 = 1 := by kernel_rfl
theorem int_cellsK : Tryd.prog.cellsOf 3 = 1 := by kernel_rfl
theorem ip_under : Tryd.prog.underlying 32 = some (.array 16 5) := by kernel_rfl
theorem wf_u8 (c : UInt8) : (Lit.int .u8 (c.toNat : Int)).wf = true := by
  have := c.toNat_lt
  have h1 : IntKind.u8.min = 0 := rfl
  have h2 : IntKind.u8.max = 255 := rfl
  simp [Lit.wf, h1, h2]
  omega
theorem wf_i64 {x : Int} (h : -9223372036854775808 ≤ x ∧ x ≤ 9223372036854775807) : (Lit.int .i64 x).wf = true := by
  have h1 : IntKind.i64.min = -9223372036854775808 := rfl
  have h2 : IntKind.i64.max = 9223372036854775807 := rfl
  simp [Lit.wf, h1, h2]
  omega
theorem kl_ip {d : Nat} {l : List UInt8} (hl : l.length = 16) : ∃ x, Tryd.prog.keyLits (d + 2) 32 (l.map byv) = some x := by
  obtain ⟨c0, c1, c2, c3, c4, c5, c6, c7, c8, c9, c10, c11, c12, c13, c14, c15, rfl⟩ := len16 hl
  have hw : ∀ c : UInt8, Tryd.prog.keyLits (d + 1) 5 [byv c] = some [.int .u8 (c.toNat : Int)] := fun c => kl_int Tryd.underlying5 (wf_u8 c)
  unfold Program.keyLits
  simp only [ip_under, ip_cellsK, u8_cellsK]
  rw [if_pos (by simp)]
  simp only [List.range, List.range.loop, List.map_cons, List.map_nil, List.mapM_cons, List.mapM_nil, Nat.mul_one, List.drop_zero, List.drop_succ_cons, List.take_succ_cons, List.take_zero, hw]
  exact ⟨_, rfl⟩
theorem kl_ad {d : Nat} (a : Ad) : ∃ x, Tryd.prog.keyLits (d + 3) 34 (adL a) = some x := by
  obtain ⟨x, hx⟩ := kl_ip (d := d) a.len
  have h1 : Tryd.prog.keyLits (d + 2) 3 [.int .i64 a.fam] = some [.int .i64 a.fam] := kl_int Tryd.underlying3 (wf_i64 a.ok.2.1)
  have h2 : Tryd.prog.keyLits (d + 2) 3 [.int .i64 a.zone] = some [.int .i64 a.zone] := kl_int Tryd.underlying3 (wf_i64 a.ok.2.2)
  unfold Program.keyLits
  simp only [ad_under, ad_cellsK]
  rw [if_pos ⟨adL_len a, by kernel_rfl⟩]
  obtain ⟨f1, f2, f3, hfs, g1, g2, g3⟩ := list3 ad_fields
  injection g1 with _ g1
  injection g1 with g1 k1
  injection g2 with _ g2
  injection g2 with g2 k2
  injection g3 with _ g3
  injection g3 with g3 k3
  rw [hfs]
  simp only [List.mapM_cons, List.mapM_nil, g1, g2, g3, k1, k2, k3, int_cellsK, ip_cellsK]
  have e1 : ((adL a).drop 0).take 1 = [.int .i64 a.fam] := rfl
  have e2 : ((adL a).drop 1).take 16 = a.ip.map byv := by
    unfold adL
    rw [List.drop_succ_cons, List.drop_zero, List.take_append_of_le_length (by simp [a.len]), List.take_of_length_le (by simp [a.len])]
  have e3 : ((adL a).drop 17).take 1 = [.int .i64 a.zone] := by
    unfold adL
    rw [List.drop_succ_cons, List.drop_append_of_le_length (by simp [a.len]), List.drop_of_length_le (by simp [a.len]), List.nil_append]
    rfl
  rw [e1, e2, e3, h1, hx, h2]
  exact ⟨_, rfl⟩
theorem ad_keyed : Go.Maps.Keyed Tryd.prog 34 := Go.Maps.Keyed.of_law (deep_law_laid (by kernel_rfl) (m := 3) (by decide) (of_decide_eq_true (by kernel_rfl)) (by kernel_rfl) (by kernel_rfl))
theorem ad_keyT : Tryd.prog.keyType 34 = true := by kernel_rfl
theorem ad_key (a : Ad) : ∃ l, keyOf Tryd.prog 34 (.agg (adA a)) = some l := by
  unfold keyOf
  simp only [ad_under]
  have hf : (Value.agg (adA a)).formed Tryd.prog 34 = true := by
    unfold Value.formed
    simp only [ad_under, ad_cellsK, adA_size]
    rfl
  have hs : Tryd.prog.types.size + 1 = (Tryd.prog.types.size - 2) + 3 := by kernel_rfl
  obtain ⟨x, hx⟩ := kl_ad (d := Tryd.prog.types.size - 2) a
  rw [if_pos (by rw [ad_keyT, hf]; rfl), hs]
  refine ⟨.string (keyBytes x), ?_⟩
  have hc : (Value.agg (adA a)).cells.toList = adL a := rfl
  rw [hc, hx]
  rfl
/-- an address as a key. -/
noncomputable def adK (a : Ad) : Lit := (ad_key a).choose
theorem adK_of (a : Ad) : keyOf Tryd.prog 34 (.agg (adA a)) = some (adK a) := (ad_key a).choose_spec
theorem adK_inj {a b : Ad} (h : adK a = adK b) : a = b := by
  have h1 := adK_of a
  rw [h] at h1
  have := ad_keyed.inj h1 (adK_of b)
  have h2 : adA a = adA b := Value.agg.inj this
  have h3 := congrArg Array.toList h2
  exact adL_inj h3
end Go.Proofs.YtgebcifkbldfoaaDoor
