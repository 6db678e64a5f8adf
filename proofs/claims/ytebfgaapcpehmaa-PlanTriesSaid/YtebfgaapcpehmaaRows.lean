/-
  No cell of these rows narrows 'for every input' (looked for: loops, veiled, ifaces, maps, wideKeys, modest, calm, conditions, laid).
  DERIVED. THE GIVEN ROWS OF THIS SEAT. 4 by the template 'for every input the law returns true; each argument reads behind the call as it read before'; 0 by the template 'total and deterministic' (their statements: YtebfgaapcpehmaaTotals.lean).
  GIVEN WITH THE SEED: the statements are not yours to turn. If you find one false, say at which input.
  Laid BY PROGRAM, IN A SANDBOX (cutbox-rows.mjs): the forced cells as the released guide's own fill.sh prints them over the translation c70197f6c2ce8727… (all of the seat's roots in one cut). By AI agents, Wed Nov 11 2026. No macro, syntax, notation, axiom, sorry.
-/
import Derived.Test.YtebfgaapcpehmaaChecked
import GoSem.Claim
import GoSem.ClaimJoined
import GoSem.ClaimMapViews
import Derived.JoinedTies
import Derived.KernelRfl
namespace Go.Proofs.Ytebfgaapcpehmaa
/- THE CELL 'sum', in the pinned program and in every row, IS THE sha256 OF THE DUMP (.gsa) THAT YtebfgaapcpehmaaProg.lean LOADS. Nothing in Lean hashes anything: it is a label: what it is worth is what the hold of that sum in a sandbox is worth. -/
noncomputable def Try.pinned : Pinned := { name := "ytebfgaapcpehmaa", sum := "c70197f6c2ce8727b124b409c0ac76142e9d2806d0d64b5c347c12697f3d116a", checked := Try.checked }
namespace Rows
def none {H : Type} : Left H := { results := [], args := [] }

/-- 'wayfinderlaw23.PlanTries': WHATEVER THE INPUT: true; the input reads as it did. -/
def planTriesSpec : ChangeSpec := { name := "planTries", fn := fun _ => fun
  | [d1, d2] => { results := [.lit (.bool true)], args := [d1, d2] }
  | _ => none }
def planTriesRow : OpenClaim := { program := "ytebfgaapcpehmaa", sum := "c70197f6c2ce8727b124b409c0ac76142e9d2806d0d64b5c347c12697f3d116a", func := "wayfinder/wayfinderlaw23.PlanTries", spec := "planTries", unfollowed := true, recurses := true, apart := false }
def PlanTriesSaid : Prop := planTriesRow.holds Try.pinned (OpenSpec.ofChange planTriesSpec)

/-- ITS FALSE NEIGHBOUR: 'it returns false'. Refute it at one input. -/
def planTriesWrong : ChangeSpec := { name := "planTries", fn := fun _ => fun
  | [d1, d2] => { results := [.lit (.bool false)], args := [d1, d2] }
  | _ => none }
def PlanTriesWrongFalsely : Prop := planTriesRow.holds Try.pinned (OpenSpec.ofChange planTriesWrong)

/-- 'wayfinderlaw23.PlanFair': WHATEVER THE INPUT: true; the input reads as it did. -/
def planFairSpec : ChangeSpec := { name := "planFair", fn := fun _ => fun
  | [d1, d2] => { results := [.lit (.bool true)], args := [d1, d2] }
  | _ => none }
def planFairRow : OpenClaim := { program := "ytebfgaapcpehmaa", sum := "c70197f6c2ce8727b124b409c0ac76142e9d2806d0d64b5c347c12697f3d116a", func := "wayfinder/wayfinderlaw23.PlanFair", spec := "planFair", unfollowed := true, recurses := true, apart := false }
def PlanFairSaid : Prop := planFairRow.holds Try.pinned (OpenSpec.ofChange planFairSpec)

/-- ITS FALSE NEIGHBOUR: 'it returns false'. Refute it at one input. -/
def planFairWrong : ChangeSpec := { name := "planFair", fn := fun _ => fun
  | [d1, d2] => { results := [.lit (.bool false)], args := [d1, d2] }
  | _ => none }
def PlanFairWrongFalsely : Prop := planFairRow.holds Try.pinned (OpenSpec.ofChange planFairWrong)

/-- 'wayfinderlaw31.SearchTells': WHATEVER THE INPUT: true; the input reads as it did. -/
def searchTellsSpec : ChangeSpec := { name := "searchTells", fn := fun _ => fun
  | [d1, d2] => { results := [.lit (.bool true)], args := [d1, d2] }
  | _ => none }
def searchTellsRow : OpenClaim := { program := "ytebfgaapcpehmaa", sum := "c70197f6c2ce8727b124b409c0ac76142e9d2806d0d64b5c347c12697f3d116a", func := "wayfinder/wayfinderlaw31.SearchTells", spec := "searchTells", unfollowed := true, recurses := true, apart := false }
def SearchTellsSaid : Prop := searchTellsRow.holds Try.pinned (OpenSpec.ofChange searchTellsSpec)

/-- ITS FALSE NEIGHBOUR: 'it returns false'. Refute it at one input. -/
def searchTellsWrong : ChangeSpec := { name := "searchTells", fn := fun _ => fun
  | [d1, d2] => { results := [.lit (.bool false)], args := [d1, d2] }
  | _ => none }
def SearchTellsWrongFalsely : Prop := searchTellsRow.holds Try.pinned (OpenSpec.ofChange searchTellsWrong)

/-- 'wayfinderlaw31.SearchBounds': WHATEVER THE INPUT: true; the input reads as it did. -/
def searchBoundsSpec : ChangeSpec := { name := "searchBounds", fn := fun _ => fun
  | [d1, d2] => { results := [.lit (.bool true)], args := [d1, d2] }
  | _ => none }
def searchBoundsRow : OpenClaim := { program := "ytebfgaapcpehmaa", sum := "c70197f6c2ce8727b124b409c0ac76142e9d2806d0d64b5c347c12697f3d116a", func := "wayfinder/wayfinderlaw31.SearchBounds", spec := "searchBounds", unfollowed := true, recurses := true, apart := false }
def SearchBoundsSaid : Prop := searchBoundsRow.holds Try.pinned (OpenSpec.ofChange searchBoundsSpec)

/-- ITS FALSE NEIGHBOUR: 'it returns false'. Refute it at one input. -/
def searchBoundsWrong : ChangeSpec := { name := "searchBounds", fn := fun _ => fun
  | [d1, d2] => { results := [.lit (.bool false)], args := [d1, d2] }
  | _ => none }
def SearchBoundsWrongFalsely : Prop := searchBoundsRow.holds Try.pinned (OpenSpec.ofChange searchBoundsWrong)

/- THE SECOND FORM. 'bulk': how many values and letters a reading holds, each counted each time it is reached (what is shared counts as often as it is met; a slice's spare places count too). A statement '..UptoSaid' is the law's where the arguments, and the package variables that the reading takes, are together of bulk at most 1048576: NARROWER than '..Said'. Prove '..Said' where nothing that the law and all that it calls make is longer than what came in: it says more and counts as full. Else prove '..UptoSaid'. A law counts once. -/
mutual
def uptoBulk {H : Type} : DataW H → Nat
  | .lit (.string bytes) => bytes.length + 1
  | .lit _ => 1
  | .nil => 1
  | .ptr d => uptoBulk d + 1
  | .slice elems spare => uptoBulkAll elems + uptoBulkAll spare + 1
  | .agg parts => uptoBulkAll parts + 1
  | .iface _ d => uptoBulk d + 1
  | .map entries => uptoBulkEntries entries + 1
  | .held _ => 1
def uptoBulkAll {H : Type} : List (DataW H) → Nat
  | [] => 0
  | d :: r => uptoBulk d + uptoBulkAll r
def uptoBulkEntries {H : Type} : List (Lit × DataW H) → Nat
  | [] => 0
  | x :: r => uptoBulkEntry x + uptoBulkEntries r
def uptoBulkEntry {H : Type} : Lit × DataW H → Nat
  | (.string bytes, d) => bytes.length + uptoBulk d + 1
  | (_, d) => uptoBulk d + 1
 end
def uptoSmall : (H : Type) → List (DataW H) → Bool := fun _ ds => decide (uptoBulkAll ds ≤ 1048576)
def OpenSpec.upto (s : _root_.Go.ChangeSpec) : _root_.Go.OpenSpec := { _root_.Go.OpenSpec.ofChange s with cond := some uptoSmall }

/-- 'wayfinderlaw23.PlanTries', WHERE WHAT IT READS IS OF BULK AT MOST 1048576: true; the input reads as it did. -/
def planTriesUptoRow : OpenClaim := { program := "ytebfgaapcpehmaa", sum := "c70197f6c2ce8727b124b409c0ac76142e9d2806d0d64b5c347c12697f3d116a", func := "wayfinder/wayfinderlaw23.PlanTries", spec := "planTries", unfollowed := true, recurses := true, apart := false, narrowed := true }
def PlanTriesUptoSaid : Prop := planTriesUptoRow.holds Try.pinned (OpenSpec.upto planTriesSpec)

/-- 'wayfinderlaw23.PlanFair', WHERE WHAT IT READS IS OF BULK AT MOST 1048576: true; the input reads as it did. -/
def planFairUptoRow : OpenClaim := { program := "ytebfgaapcpehmaa", sum := "c70197f6c2ce8727b124b409c0ac76142e9d2806d0d64b5c347c12697f3d116a", func := "wayfinder/wayfinderlaw23.PlanFair", spec := "planFair", unfollowed := true, recurses := true, apart := false, narrowed := true }
def PlanFairUptoSaid : Prop := planFairUptoRow.holds Try.pinned (OpenSpec.upto planFairSpec)

/-- 'wayfinderlaw31.SearchTells', WHERE WHAT IT READS IS OF BULK AT MOST 1048576: true; the input reads as it did. -/
def searchTellsUptoRow : OpenClaim := { program := "ytebfgaapcpehmaa", sum := "c70197f6c2ce8727b124b409c0ac76142e9d2806d0d64b5c347c12697f3d116a", func := "wayfinder/wayfinderlaw31.SearchTells", spec := "searchTells", unfollowed := true, recurses := true, apart := false, narrowed := true }
def SearchTellsUptoSaid : Prop := searchTellsUptoRow.holds Try.pinned (OpenSpec.upto searchTellsSpec)

/-- 'wayfinderlaw31.SearchBounds', WHERE WHAT IT READS IS OF BULK AT MOST 1048576: true; the input reads as it did. -/
def searchBoundsUptoRow : OpenClaim := { program := "ytebfgaapcpehmaa", sum := "c70197f6c2ce8727b124b409c0ac76142e9d2806d0d64b5c347c12697f3d116a", func := "wayfinder/wayfinderlaw31.SearchBounds", spec := "searchBounds", unfollowed := true, recurses := true, apart := false, narrowed := true }
def SearchBoundsUptoSaid : Prop := searchBoundsUptoRow.holds Try.pinned (OpenSpec.upto searchBoundsSpec)

end Rows
end Go.Proofs.Ytebfgaapcpehmaa
