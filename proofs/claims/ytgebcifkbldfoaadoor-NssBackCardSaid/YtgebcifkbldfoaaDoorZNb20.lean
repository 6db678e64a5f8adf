/- Contracts and plain lemmas of our own, merged. -/
import Derived.Test.YtgebcifkbldfoaaDoorZNb10
import Derived.Test.YtgebcifkbldfoaaDoorZNb12
import Derived.Test.YtgebcifkbldfoaaDoorShelf
import Derived.Lib.AsciiSet
/- strings.TrimLeft at blanks, strings.IndexAny at blanks and a bracket. -/
namespace Go.Proofs.YtgebcifkbldfoaaDoor
open Go.RowKit
attribute [local go_sem] ba_get ext_take ext_drop ext_any ba_app

def trimL (s : List UInt8) : List UInt8 := s.dropWhile blB
theorem set_z : ZeroIs Tryd.prog 160 (Array.replicate 256 (.bool false)) := by unfold ZeroIs; kernel_rfl
theorem set_size : (Tryd.prog.info? 160).map (·.size) = some 256 := by kernel_rfl
theorem set_at (x : UInt8) : (Lib.setCells [32, 9])[x.toNat]? = some (.bool (blB x)) := by
  have h := x.toNat_lt
  unfold Lib.setCells blB
  simp only [List.foldl_cons, List.foldl_nil, Array.getElem?_setIfInBounds, Array.size_setIfInBounds, Array.size_replicate, Array.getElem?_replicate]
  have e1 : (32 : UInt8).toNat = 32 := rfl
  have e2 : (9 : UInt8).toNat = 9 := rfl
  rw [e1, e2]
  by_cases h9 : x.toNat = 9
  · simp [h9]
  · by_cases h32 : x.toNat = 32
    · simp [h32]
    · have h3 : ¬ 9 = x.toNat := fun h => h9 h.symm
      have h4 : ¬ 32 = x.toNat := fun h => h32 h.symm
      simp [h3, h4, h9, h32]
      omega
theorem setC_size : (Lib.setCells [32, 9]).size = 256 := by unfold Lib.setCells; simp
theorem setC_one : (Lib.setCells [32, 9]).all (·.oneCell') = true := by kernel_rfl
set_option maxRecDepth 100000 in
set_option maxHeartbeats 1000000 in
theorem trimLA_any (s : List UInt8) (g : Nat) (w : World) (hB : Bk w g 160 (Lib.setCells [32, 9])) (hl : s.length ≤ 1000000000) :
    Calls Tryd.prog 108 #[.string ⟨s.toArray⟩, .pointer (some ⟨g, 0, none⟩)] w fun e w' => e = .returned (.string ⟨(trimL s).toArray⟩) ∧ w' = w := by
  go_enter Tryd.func108, Tryd.ntmps108
  go_wp2
  go_loopw [0] (fun sv wr => ∃ r : List UInt8, sv = .string ⟨r.toArray⟩ ∧ trimL s = trimL r ∧ r.length ≤ s.length ∧ wr = w) (fun sv _ => strLen sv)
  case atStart => exact ⟨s, rfl, rfl, Nat.le_refl _, rfl⟩
  case round =>
    obtain ⟨r, rfl, heq, hrl, rfl⟩ := hrel
    have Heq := Lib.hid heq
    clear heq
    cases r with
    | nil =>
      go_wp2
      go_ret
      exact ⟨by rw [Heq.out]; rfl, rfl⟩
    | cons x r =>
      have hx := x.toNat_lt
      have hc : wr.cell? ⟨g, x.toNat, none⟩ = some (.bool (blB x)) := (hB.cell x.toNat).trans (set_at x)
      have HX := Lib.hid (Tryd.asciiSet_contains g x (blB x) wr hc)
      have i1 : (0 : Int) < (r.length : Int) + 1 := by omega
      have hrl2 : r.length + 1 ≤ 1000000000 := by simp at hrl; omega
      cases hb : blB x with
      | true =>
        have Hn : Hid (trimL s = trimL r) := Lib.hid (by rw [Heq.out]; unfold trimL; rw [List.dropWhile_cons, if_pos hb])
        rw [hb] at HX
        clear hb hc
        go_wp2_with (first
          | (go_at_call 113; refine HX.out.mono ?_; rintro e w2 ⟨rfl, rfl⟩))
        go_roundw
        case rel => exact ⟨r, by rfl, Hn.out, by simp at hrl; omega, trivial⟩
        case measure =>
          show r.length < r.length + 1
          omega
      | false =>
        have Hn : Hid (trimL s = x :: r) := Lib.hid (by rw [Heq.out]; unfold trimL; rw [List.dropWhile_cons, if_neg (by rw [hb]; decide)])
        rw [hb] at HX
        clear hb hc
        go_wp2_with (first
          | (go_at_call 113; refine HX.out.mono ?_; rintro e w2 ⟨rfl, rfl⟩))
        go_ret
        exact ⟨by rw [Hn.out]; rfl, rfl⟩
theorem set_asc : ∀ (j : Nat) b, (ByteArray.mk #[32, 9]).data.toList[j]? = some b → b.toNat < 128 := by
  intro j b h
  have hm : b ∈ [(32 : UInt8), 9] := List.mem_of_getElem? h
  simp only [List.mem_cons, List.not_mem_nil, or_false] at hm
  rcases hm with rfl | rfl <;> decide
theorem zero_set (w : World) : (zeroValue 160).run Tryd.prog w = .ok (.agg (Array.replicate 256 (.bool false))) w := by
  have h : (Tryd.prog.info? 160).map (fun i => i.zero) = some (some (.agg (Array.replicate 256 (.bool false)))) := by kernel_rfl
  cases hi : Tryd.prog.info? 160 with
  | none => rw [hi] at h; cases h
  | some i =>
    rw [hi, Option.map_some] at h
    have h := Option.some.inj h
    simp [zeroValue, typeInfo, hi, h]
set_option maxRecDepth 100000 in
set_option maxHeartbeats 1000000 in
theorem trimL_any (s : List UInt8) (w : World) (hl : s.length ≤ 1000000000) : Calls Tryd.prog 79 #[.string ⟨s.toArray⟩, .string ⟨#[32, 9]⟩] w fun e w' => e = .returned (.string ⟨(trimL s).toArray⟩) ∧ Below w.heap.size w w' := by
  by_cases h0 : s = []
  · subst h0
    go_enter Tryd.func79, Tryd.ntmps79
    go_wp2
    go_ret
    exact ⟨rfl, Below.refl _ _⟩
  · have e0 : s.isEmpty = false := by cases s <;> simp_all
    have HM := Lib.hid (fun (w' : World) => Tryd.strings_makeASCIISet zero_set ⟨#[32, 9]⟩ w' (by decide) set_asc)
    clear h0
    go_enter Tryd.func79, Tryd.ntmps79
    go_wp2_with (first
      | (go_at_call 107; refine (HM.out _).mono ?_; rintro e w1 ⟨rfl, hw1⟩; have hb1 : Below w.heap.size w w1 := (by rw [hw1]; exact (Below.refl _ _).alloc (Nat.le_refl _) _); have Hb1 := Lib.hid hb1; clear hw1 hb1)
      | ((with_reducible show wpList _ _ _ (⟨some 5, _, _, _, _, _⟩ :: _) _ _); refine wpList_allocZ (o := ⟨some 5, _, _, _, _, _⟩) rfl _ rfl set_z ?_; intro g5 w2 hg hB5 hb2 hs; have Hg := Lib.hid hg; clear hg hs)
      | ((with_reducible refine wpList_storeB (o := ⟨none, _, _, _, _, _⟩) rfl _ (.tmp 5) _ rfl rfl rfl hB5 (by rw [setC_size]; exact set_size) (by rw [setC_size, Array.size_replicate]) setC_one ?_); intro w3 hB3 hS3; have hb3 := (Hb1.out.trans (hb2.mono Hb1.out.size)).trans (hS3.below (by have := Hg.out; have := Hb1.out.size; omega)); have Hb3 := Lib.hid hb3; clear hb3 hb2 hB5 hS3)
      | (go_at_call 108; refine (trimLA_any s g5 _ hB3 hl).mono ?_; rintro e w4 ⟨rfl, rfl⟩))
    go_ret
    exact ⟨rfl, Hb3.out⟩
end Go.Proofs.YtgebcifkbldfoaaDoor
