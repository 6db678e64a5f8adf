/- Contracts and plain lemmas of our own, merged. -/
import Derived.Test.YtgbdhfjblebeiaaDoorZPp19
import Derived.Test.YtgbdhfjblebeiaaDoorZPp20
import Derived.Lib.LaidTab
/- The contract of strconv.FormatInt at the base 16, for numbers below 65536. -/
namespace Go.Proofs.YtgbdhfjblebeiaaDoor
open Go.RowKit
attribute [local go_sem] ba_get ext_take ext_drop ext_any ba_app

def brTab : List Int := [0, 1, 56, 2, 57, 49, 28, 3, 61, 58, 42, 50, 38, 29, 17, 4, 62, 47, 59, 36, 45, 43, 51, 22, 53, 39, 33, 30, 24, 18, 12, 5, 63, 55, 48, 27, 60, 41, 37, 16, 46, 35, 44, 21, 52, 32, 23, 11, 54, 26, 40, 15, 34, 20, 31, 10, 25, 14, 19, 9, 13, 8, 7, 6]
def TabN (w : World) : Prop := Lib.TabIs Tryd.prog w "math/bits.deBruijn64tab" .u8 brTab
theorem TabN.below {w w' : World} (h : TabN w) (hb : Below w.heap.size w w') : TabN w' := Lib.tabBelow_of_tabIs h w' hb
set_option maxRecDepth 100000 in
theorem slice65_l (w : World) (g : Nat) (l : Int) (h0 : 0 ≤ l) (h1 : l < 65) : (Instr.sliceAt 126 (.pointer (some ⟨g, 0, none⟩)) (some (.int .i64 l)) none none).run Tryd.prog w = .ok (.slice (some ⟨g, l.toNat, none⟩) (65 - l.toNat) (65 - l.toNat)) w := by
  have hu : Tryd.prog.underlying 126 = some (.array 65 5) := by kernel_rfl
  have ha : Tryd.prog.arrayLen 126 = 65 := by kernel_rfl
  have he : Tryd.prog.elem 126 = 5 := by kernel_rfl
  have hi : (Tryd.prog.info? 5).map (·.size) = some 1 := by kernel_rfl
  have hs : (sizeOf 5).run Tryd.prog w = .ok 1 w := by
    cases hi2 : Tryd.prog.info? 5 with
    | none => rw [hi2] at hi; cases hi
    | some i => rw [hi2] at hi; injection hi with hi; simp [sizeOf, typeInfo, hi2, hi]
  rw [run_sliceAt_array_l w _ _ (by rw [ha, he]; exact hu) .i64 l h0 (by rw [ha]; omega), he, hs, ha]
  simp only [Result.andThen_ok, slicedAt]
  rw [if_neg (by omega), Nat.mul_one, add_none, Nat.zero_add]
attribute [local go_sem] slice65_l

end Go.Proofs.YtgbdhfjblebeiaaDoor

/- The walks of ColonParses and ColonBack. -/
namespace Go.Proofs.YtgbdhfjblebeiaaDoor
open Go.RowKit
attribute [local go_sem] ba_get ext_take ext_drop ext_any ba_app

theorem cparse_yes {s : List UInt8} {x : Ad} {w : World} (ht : Tab w) (hm : MaxI w) (hl : s.length ≤ 1000000000) (h : colP s = .inr x) : Calls Tryd.prog 9 #[.string ⟨s.toArray⟩] w fun e w' => e = .returned (.tuple #[.agg (adA x), .int .i64 0]) ∧ Below w.heap.size w w' :=
  (cparse_any s w ht hm hl).mono fun e w' ⟨he, hb⟩ => by rw [h] at he; exact ⟨he, hb⟩
end Go.Proofs.YtgbdhfjblebeiaaDoor

/- The contracts of addr.mapped, addr.Unmap, addr.Map, addr.Scope. -/
namespace Go.Proofs.YtgbdhfjblebeiaaDoor
open Go.RowKit
attribute [local go_sem] ba_get ext_take ext_drop ext_any ba_app

def aheadTab : List Int := [0, 0, 0, 0, 0, 0, 0, 0, 0, 0, 255, 255]
def TabA (w : World) : Prop := Lib.TabIs Tryd.prog w "wayfinder/addr.ahead" .u8 aheadTab
theorem TabA.below {w w' : World} (h : TabA w) (hb : Below w.heap.size w w') : TabA w' := Lib.tabBelow_of_tabIs h w' hb
def ahd : List UInt8 := [0, 0, 0, 0, 0, 0, 0, 0, 0, 0, 255, 255]
theorem TabA.range {w : World} (h : TabA w) : w.rangeAt 0 0 (ahd.map byv) := fun j v hv => by
  have hj := (List.getElem?_eq_some_iff.1 hv).1
  have := Lib.TabIs.cell (g := 0) h (by kernel_rfl) j (by simpa [ahd, aheadTab] using hj)
  rw [Nat.zero_add]
  rw [this, ← hv]
  have hj' : j < 12 := by simpa [ahd] using hj
  match j, hj' with
  | 0, _ | 1, _ | 2, _ | 3, _ | 4, _ | 5, _ | 6, _ | 7, _ | 8, _ | 9, _ | 10, _ | 11, _ => rfl
def z12 : List UInt8 := [0, 0, 0, 0, 0, 0, 0, 0, 0, 0, 0, 0]
/-- an address as one of Inet6. -/
def mpA (a : Ad) : Ad := if a.fam = 4 then mapA a else a
set_option maxRecDepth 100000 in
set_option maxHeartbeats 2000000 in
theorem amap_all (a : Ad) (w : World) : Calls Tryd.prog 42 #[.agg (adA a)] w (AdPost w (mpA a)) := by
  by_cases hf : a.fam = 4
  · have := amap_any a w hf
    unfold mpA
    rw [if_pos hf]
    exact this
  · have Hf := Lib.hid (show mpA a = a by unfold mpA; rw [if_neg hf])
    have i4 : (a.fam != 4) = true := by simpa using hf
    clear hf
    go_enter Tryd.func42, Tryd.ntmps42
    go_wp2_with (first
      | ((with_reducible refine wpList_boxB rfl _ _ rfl rfl ?_); intro g1 w1 hg hB1 hb1 hs; have hg1 : w.heap.size ≤ g1 := Nat.le_of_eq hg.symm; clear hg hs)
      | ((with_reducible refine wpList_allocAd (o := ⟨some 2, _, _, _, _, _⟩) rfl rfl ?_); intro g2 w2 hg hB2 hb2 hs; have hg2 : w1.heap.size ≤ g2 := Nat.le_of_eq hg.symm; have hB12 := hB1.bel hb2; have hb02 := bel_tr hb1 hb2; have c0 := hB12.cell 0; rw [adA_0] at c0; clear hg hs)
      | (with_reducible refine wpList_loadAd (o := ⟨some 7, _, _, _, _, _⟩) rfl _ rfl rfl hB12 ?_)
      | ((with_reducible refine wpList_storeAd rfl (.tmp 2) _ rfl rfl rfl hB2 ?_); intro w7 hB7 hS7))
    exact ret_ad Tryd.results42 rfl hB7 rfl ⟨by rw [Hf.out], hb02.trans (hS7.below (by have := hb1.size; omega))⟩
end Go.Proofs.YtgbdhfjblebeiaaDoor
