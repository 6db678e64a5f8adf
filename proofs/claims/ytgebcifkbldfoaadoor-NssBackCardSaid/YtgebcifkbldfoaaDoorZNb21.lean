/- Contracts and plain lemmas of our own, merged. -/
import Derived.Test.YtgebcifkbldfoaaDoorZNb17
import Derived.Test.YtgebcifkbldfoaaDoorZNb18
import Derived.Lib.LaidTab
/- The contract of strconv.FormatInt at the base 16, for numbers below 65536. -/
namespace Go.Proofs.YtgebcifkbldfoaaDoor
open Go.RowKit
attribute [local go_sem] ba_get ext_take ext_drop ext_any ba_app

def brTab : List Int := [0, 1, 56, 2, 57, 49, 28, 3, 61, 58, 42, 50, 38, 29, 17, 4, 62, 47, 59, 36, 45, 43, 51, 22, 53, 39, 33, 30, 24, 18, 12, 5, 63, 55, 48, 27, 60, 41, 37, 16, 46, 35, 44, 21, 52, 32, 23, 11, 54, 26, 40, 15, 34, 20, 31, 10, 25, 14, 19, 9, 13, 8, 7, 6]
def TabN (w : World) : Prop := Lib.TabIs Tryd.prog w "math/bits.deBruijn64tab" .u8 brTab
theorem TabN.below {w w' : World} (h : TabN w) (hb : Below w.heap.size w w') : TabN w' := Lib.tabBelow_of_tabIs h w' hb
set_option maxRecDepth 100000 in
theorem slice65_l (w : World) (g : Nat) (l : Int) (h0 : 0 ≤ l) (h1 : l < 65) : (Instr.sliceAt 220 (.pointer (some ⟨g, 0, none⟩)) (some (.int .i64 l)) none none).run Tryd.prog w = .ok (.slice (some ⟨g, l.toNat, none⟩) (65 - l.toNat) (65 - l.toNat)) w := by
  have hu : Tryd.prog.underlying 220 = some (.array 65 5) := by kernel_rfl
  have ha : Tryd.prog.arrayLen 220 = 65 := by kernel_rfl
  have he : Tryd.prog.elem 220 = 5 := by kernel_rfl
  have hi : (Tryd.prog.info? 5).map (·.size) = some 1 := by kernel_rfl
  have hs : (sizeOf 5).run Tryd.prog w = .ok 1 w := by
    cases hi2 : Tryd.prog.info? 5 with
    | none => rw [hi2] at hi; cases hi
    | some i => rw [hi2] at hi; injection hi with hi; simp [sizeOf, typeInfo, hi2, hi]
  rw [run_sliceAt_array_l w _ _ (by rw [ha, he]; exact hu) .i64 l h0 (by rw [ha]; omega), he, hs, ha]
  simp only [Result.andThen_ok, slicedAt]
  rw [if_neg (by omega), Nat.mul_one, add_none, Nat.zero_add]
attribute [local go_sem] slice65_l

end Go.Proofs.YtgebcifkbldfoaaDoor

/- The contracts of addr.Parse, addr.Text and of the reference's Parse (9). -/
namespace Go.Proofs.YtgebcifkbldfoaaDoor
open Go.RowKit
attribute [local go_sem] ba_get ext_take ext_drop ext_any ba_app

/-- an address that is written. -/
def adrP (s : List UInt8) : Int ⊕ Ad := if hasB 58 s = true then colP s else match qpA s with | some a => .inr a | none => .inl 5
end Go.Proofs.YtgebcifkbldfoaaDoor

/- The contracts of addr.mapped, addr.Unmap, addr.Map, addr.Scope. -/
namespace Go.Proofs.YtgebcifkbldfoaaDoor
open Go.RowKit
attribute [local go_sem] ba_get ext_take ext_drop ext_any ba_app

def aheadTab : List Int := [0, 0, 0, 0, 0, 0, 0, 0, 0, 0, 255, 255]
def TabA (w : World) : Prop := Lib.TabIs Tryd.prog w "wayfinder/addr.ahead" .u8 aheadTab
theorem TabA.below {w w' : World} (h : TabA w) (hb : Below w.heap.size w w') : TabA w' := Lib.tabBelow_of_tabIs h w' hb
end Go.Proofs.YtgebcifkbldfoaaDoor
