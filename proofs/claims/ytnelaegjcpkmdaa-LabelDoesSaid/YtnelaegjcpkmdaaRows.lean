/-
  No cell of these rows narrows 'for every input' (looked for: loops, veiled, ifaces, maps, wideKeys, modest, calm, conditions, laid).
  DERIVED. THE GIVEN ROWS OF THIS SEAT. 12 by the template 'for every input the law returns true; each argument reads behind the call as it read before'; 0 by the template 'total and deterministic' (their statements: YtnelaegjcpkmdaaTotals.lean).
  GIVEN WITH THE SEED: the statements are not yours to turn. If you find one false, say at which input.
  Laid BY PROGRAM, IN A SANDBOX (cutbox-rows.mjs): the forced cells as the released guide's own fill.sh prints them over the translation c42c17780faa56eb… (all of the seat's roots in one cut). By AI agents, Wed Nov 11 2026. No macro, syntax, notation, axiom, sorry.
-/
import Derived.Test.YtnelaegjcpkmdaaChecked
import GoSem.Claim
import GoSem.ClaimJoined
import GoSem.ClaimMapViews
import Derived.JoinedTies
import Derived.KernelRfl
namespace Go.Proofs.Ytnelaegjcpkmdaa
/- THE CELL 'sum', in the pinned program and in every row, IS THE sha256 OF THE DUMP (.gsa) THAT YtnelaegjcpkmdaaProg.lean LOADS. Nothing in Lean hashes anything: it is a label: what it is worth is what the hold of that sum in a sandbox is worth. -/
noncomputable def Try.pinned : Pinned := { name := "ytnelaegjcpkmdaa", sum := "c42c17780faa56ebd8c4330232e6990c83fc7609ef4049741696ad636d11e99a", checked := Try.checked }
namespace Rows
def none {H : Type} : Left H := { results := [], args := [] }

/-- 'wayfinderlaw23.PlanTries': WHATEVER THE INPUT: true; the input reads as it did. -/
def planTriesSpec : ChangeSpec := { name := "planTries", fn := fun _ => fun
  | [d1, d2] => { results := [.lit (.bool true)], args := [d1, d2] }
  | _ => none }
def planTriesRow : OpenClaim := { program := "ytnelaegjcpkmdaa", sum := "c42c17780faa56ebd8c4330232e6990c83fc7609ef4049741696ad636d11e99a", func := "wayfinder/wayfinderlaw23.PlanTries", spec := "planTries", unfollowed := true, recurses := true, apart := false }
def PlanTriesSaid : Prop := planTriesRow.holds Try.pinned (OpenSpec.ofChange planTriesSpec)

/-- ITS FALSE NEIGHBOUR: 'it returns false'. Refute it at one input. -/
def planTriesWrong : ChangeSpec := { name := "planTries", fn := fun _ => fun
  | [d1, d2] => { results := [.lit (.bool false)], args := [d1, d2] }
  | _ => none }
def PlanTriesWrongFalsely : Prop := planTriesRow.holds Try.pinned (OpenSpec.ofChange planTriesWrong)

/-- 'wayfinderlaw23.PlanFair': WHATEVER THE INPUT: true; the input reads as it did. -/
def planFairSpec : ChangeSpec := { name := "planFair", fn := fun _ => fun
  | [d1, d2] => { results := [.lit (.bool true)], args := [d1, d2] }
  | _ => none }
def planFairRow : OpenClaim := { program := "ytnelaegjcpkmdaa", sum := "c42c17780faa56ebd8c4330232e6990c83fc7609ef4049741696ad636d11e99a", func := "wayfinder/wayfinderlaw23.PlanFair", spec := "planFair", unfollowed := true, recurses := true, apart := false }
def PlanFairSaid : Prop := planFairRow.holds Try.pinned (OpenSpec.ofChange planFairSpec)

/-- ITS FALSE NEIGHBOUR: 'it returns false'. Refute it at one input. -/
def planFairWrong : ChangeSpec := { name := "planFair", fn := fun _ => fun
  | [d1, d2] => { results := [.lit (.bool false)], args := [d1, d2] }
  | _ => none }
def PlanFairWrongFalsely : Prop := planFairRow.holds Try.pinned (OpenSpec.ofChange planFairWrong)

/-- 'wayfinderlaw03.PunyWrites': WHATEVER THE INPUT: true; the input reads as it did. -/
def punyWritesSpec : ChangeSpec := { name := "punyWrites", fn := fun _ => fun
  | [d] => { results := [.lit (.bool true)], args := [d] }
  | _ => none }
def punyWritesRow : OpenClaim := { program := "ytnelaegjcpkmdaa", sum := "c42c17780faa56ebd8c4330232e6990c83fc7609ef4049741696ad636d11e99a", func := "wayfinder/wayfinderlaw03.PunyWrites", spec := "punyWrites", apart := false }
def PunyWritesSaid : Prop := punyWritesRow.holds Try.pinned (OpenSpec.ofChange punyWritesSpec)

/-- ITS FALSE NEIGHBOUR: 'it returns false'. Refute it at one input. -/
def punyWritesWrong : ChangeSpec := { name := "punyWrites", fn := fun _ => fun
  | [d] => { results := [.lit (.bool false)], args := [d] }
  | _ => none }
def PunyWritesWrongFalsely : Prop := punyWritesRow.holds Try.pinned (OpenSpec.ofChange punyWritesWrong)

/-- 'wayfinderlaw03.PunyReads': WHATEVER THE INPUT: true; the input reads as it did. -/
def punyReadsSpec : ChangeSpec := { name := "punyReads", fn := fun _ => fun
  | [d] => { results := [.lit (.bool true)], args := [d] }
  | _ => none }
def punyReadsRow : OpenClaim := { program := "ytnelaegjcpkmdaa", sum := "c42c17780faa56ebd8c4330232e6990c83fc7609ef4049741696ad636d11e99a", func := "wayfinder/wayfinderlaw03.PunyReads", spec := "punyReads", apart := false }
def PunyReadsSaid : Prop := punyReadsRow.holds Try.pinned (OpenSpec.ofChange punyReadsSpec)

/-- ITS FALSE NEIGHBOUR: 'it returns false'. Refute it at one input. -/
def punyReadsWrong : ChangeSpec := { name := "punyReads", fn := fun _ => fun
  | [d] => { results := [.lit (.bool false)], args := [d] }
  | _ => none }
def PunyReadsWrongFalsely : Prop := punyReadsRow.holds Try.pinned (OpenSpec.ofChange punyReadsWrong)

/-- 'wayfinderlaw03.PunyBack': WHATEVER THE INPUT: true; the input reads as it did. -/
def punyBackSpec : ChangeSpec := { name := "punyBack", fn := fun _ => fun
  | [d] => { results := [.lit (.bool true)], args := [d] }
  | _ => none }
def punyBackRow : OpenClaim := { program := "ytnelaegjcpkmdaa", sum := "c42c17780faa56ebd8c4330232e6990c83fc7609ef4049741696ad636d11e99a", func := "wayfinder/wayfinderlaw03.PunyBack", spec := "punyBack", apart := false }
def PunyBackSaid : Prop := punyBackRow.holds Try.pinned (OpenSpec.ofChange punyBackSpec)

/-- ITS FALSE NEIGHBOUR: 'it returns false'. Refute it at one input. -/
def punyBackWrong : ChangeSpec := { name := "punyBack", fn := fun _ => fun
  | [d] => { results := [.lit (.bool false)], args := [d] }
  | _ => none }
def PunyBackWrongFalsely : Prop := punyBackRow.holds Try.pinned (OpenSpec.ofChange punyBackWrong)

/-- 'wayfinderlaw03.PunyLong': WHATEVER THE INPUT: true; the input reads as it did. -/
def punyLongSpec : ChangeSpec := { name := "punyLong", fn := fun _ => fun
  | [d1, d2, d3] => { results := [.lit (.bool true)], args := [d1, d2, d3] }
  | _ => none }
def punyLongRow : OpenClaim := { program := "ytnelaegjcpkmdaa", sum := "c42c17780faa56ebd8c4330232e6990c83fc7609ef4049741696ad636d11e99a", func := "wayfinder/wayfinderlaw03.PunyLong", spec := "punyLong", apart := false }
def PunyLongSaid : Prop := punyLongRow.holds Try.pinned (OpenSpec.ofChange punyLongSpec)

/-- ITS FALSE NEIGHBOUR: 'it returns false'. Refute it at one input. -/
def punyLongWrong : ChangeSpec := { name := "punyLong", fn := fun _ => fun
  | [d1, d2, d3] => { results := [.lit (.bool false)], args := [d1, d2, d3] }
  | _ => none }
def PunyLongWrongFalsely : Prop := punyLongRow.holds Try.pinned (OpenSpec.ofChange punyLongWrong)

/-- 'wayfinderlaw03.PunyCase': WHATEVER THE INPUT: true; the input reads as it did. -/
def punyCaseSpec : ChangeSpec := { name := "punyCase", fn := fun _ => fun
  | [d] => { results := [.lit (.bool true)], args := [d] }
  | _ => none }
def punyCaseRow : OpenClaim := { program := "ytnelaegjcpkmdaa", sum := "c42c17780faa56ebd8c4330232e6990c83fc7609ef4049741696ad636d11e99a", func := "wayfinder/wayfinderlaw03.PunyCase", spec := "punyCase", apart := false }
def PunyCaseSaid : Prop := punyCaseRow.holds Try.pinned (OpenSpec.ofChange punyCaseSpec)

/-- ITS FALSE NEIGHBOUR: 'it returns false'. Refute it at one input. -/
def punyCaseWrong : ChangeSpec := { name := "punyCase", fn := fun _ => fun
  | [d] => { results := [.lit (.bool false)], args := [d] }
  | _ => none }
def PunyCaseWrongFalsely : Prop := punyCaseRow.holds Try.pinned (OpenSpec.ofChange punyCaseWrong)

/-- 'wayfinderlaw31.SearchTells': WHATEVER THE INPUT: true; the input reads as it did. -/
def searchTellsSpec : ChangeSpec := { name := "searchTells", fn := fun _ => fun
  | [d1, d2] => { results := [.lit (.bool true)], args := [d1, d2] }
  | _ => none }
def searchTellsRow : OpenClaim := { program := "ytnelaegjcpkmdaa", sum := "c42c17780faa56ebd8c4330232e6990c83fc7609ef4049741696ad636d11e99a", func := "wayfinder/wayfinderlaw31.SearchTells", spec := "searchTells", unfollowed := true, recurses := true, apart := false }
def SearchTellsSaid : Prop := searchTellsRow.holds Try.pinned (OpenSpec.ofChange searchTellsSpec)

/-- ITS FALSE NEIGHBOUR: 'it returns false'. Refute it at one input. -/
def searchTellsWrong : ChangeSpec := { name := "searchTells", fn := fun _ => fun
  | [d1, d2] => { results := [.lit (.bool false)], args := [d1, d2] }
  | _ => none }
def SearchTellsWrongFalsely : Prop := searchTellsRow.holds Try.pinned (OpenSpec.ofChange searchTellsWrong)

/-- 'wayfinderlaw31.SearchBounds': WHATEVER THE INPUT: true; the input reads as it did. -/
def searchBoundsSpec : ChangeSpec := { name := "searchBounds", fn := fun _ => fun
  | [d1, d2] => { results := [.lit (.bool true)], args := [d1, d2] }
  | _ => none }
def searchBoundsRow : OpenClaim := { program := "ytnelaegjcpkmdaa", sum := "c42c17780faa56ebd8c4330232e6990c83fc7609ef4049741696ad636d11e99a", func := "wayfinder/wayfinderlaw31.SearchBounds", spec := "searchBounds", unfollowed := true, recurses := true, apart := false }
def SearchBoundsSaid : Prop := searchBoundsRow.holds Try.pinned (OpenSpec.ofChange searchBoundsSpec)

/-- ITS FALSE NEIGHBOUR: 'it returns false'. Refute it at one input. -/
def searchBoundsWrong : ChangeSpec := { name := "searchBounds", fn := fun _ => fun
  | [d1, d2] => { results := [.lit (.bool false)], args := [d1, d2] }
  | _ => none }
def SearchBoundsWrongFalsely : Prop := searchBoundsRow.holds Try.pinned (OpenSpec.ofChange searchBoundsWrong)

/-- 'wayfinderlaw04.LabelDoes': WHATEVER THE INPUT: true; the input reads as it did. -/
def labelDoesSpec : ChangeSpec := { name := "labelDoes", fn := fun _ => fun
  | [d] => { results := [.lit (.bool true)], args := [d] }
  | _ => none }
def labelDoesRow : OpenClaim := { program := "ytnelaegjcpkmdaa", sum := "c42c17780faa56ebd8c4330232e6990c83fc7609ef4049741696ad636d11e99a", func := "wayfinder/wayfinderlaw04.LabelDoes", spec := "labelDoes", apart := false }
def LabelDoesSaid : Prop := labelDoesRow.holds Try.pinned (OpenSpec.ofChange labelDoesSpec)

/-- ITS FALSE NEIGHBOUR: 'it returns false'. Refute it at one input. -/
def labelDoesWrong : ChangeSpec := { name := "labelDoes", fn := fun _ => fun
  | [d] => { results := [.lit (.bool false)], args := [d] }
  | _ => none }
def LabelDoesWrongFalsely : Prop := labelDoesRow.holds Try.pinned (OpenSpec.ofChange labelDoesWrong)

/-- 'wayfinderlaw04.LabelFixed': WHATEVER THE INPUT: true; the input reads as it did. -/
def labelFixedSpec : ChangeSpec := { name := "labelFixed", fn := fun _ => fun
  | [d] => { results := [.lit (.bool true)], args := [d] }
  | _ => none }
def labelFixedRow : OpenClaim := { program := "ytnelaegjcpkmdaa", sum := "c42c17780faa56ebd8c4330232e6990c83fc7609ef4049741696ad636d11e99a", func := "wayfinder/wayfinderlaw04.LabelFixed", spec := "labelFixed", apart := false }
def LabelFixedSaid : Prop := labelFixedRow.holds Try.pinned (OpenSpec.ofChange labelFixedSpec)

/-- ITS FALSE NEIGHBOUR: 'it returns false'. Refute it at one input. -/
def labelFixedWrong : ChangeSpec := { name := "labelFixed", fn := fun _ => fun
  | [d] => { results := [.lit (.bool false)], args := [d] }
  | _ => none }
def LabelFixedWrongFalsely : Prop := labelFixedRow.holds Try.pinned (OpenSpec.ofChange labelFixedWrong)

/-- 'wayfinderlaw04.LabelBack': WHATEVER THE INPUT: true; the input reads as it did. -/
def labelBackSpec : ChangeSpec := { name := "labelBack", fn := fun _ => fun
  | [d] => { results := [.lit (.bool true)], args := [d] }
  | _ => none }
def labelBackRow : OpenClaim := { program := "ytnelaegjcpkmdaa", sum := "c42c17780faa56ebd8c4330232e6990c83fc7609ef4049741696ad636d11e99a", func := "wayfinder/wayfinderlaw04.LabelBack", spec := "labelBack", apart := false }
def LabelBackSaid : Prop := labelBackRow.holds Try.pinned (OpenSpec.ofChange labelBackSpec)

/-- ITS FALSE NEIGHBOUR: 'it returns false'. Refute it at one input. -/
def labelBackWrong : ChangeSpec := { name := "labelBack", fn := fun _ => fun
  | [d] => { results := [.lit (.bool false)], args := [d] }
  | _ => none }
def LabelBackWrongFalsely : Prop := labelBackRow.holds Try.pinned (OpenSpec.ofChange labelBackWrong)

/- THE SECOND FORM. 'bulk': how many values and letters a reading holds, each counted each time it is reached (what is shared counts as often as it is met; a slice's spare places count too). A statement '..UptoSaid' is the law's where the arguments, and the package variables that the reading takes, are together of bulk at most 1048576: NARROWER than '..Said'. Prove '..Said' where nothing that the law and all that it calls make is longer than what came in: it says more and counts as full. Else prove '..UptoSaid'. A law counts once. -/
mutual
def uptoBulk {H : Type} : DataW H → Nat
  | .lit (.string bytes) => bytes.length + 1
  | .lit _ => 1
  | .nil => 1
  | .ptr d => uptoBulk d + 1
  | .slice elems spare => uptoBulkAll elems + uptoBulkAll spare + 1
  | .agg parts => uptoBulkAll parts + 1
  | .iface _ d => uptoBulk d + 1
  | .map entries => uptoBulkEntries entries + 1
  | .held _ => 1
def uptoBulkAll {H : Type} : List (DataW H) → Nat
  | [] => 0
  | d :: r => uptoBulk d + uptoBulkAll r
def uptoBulkEntries {H : Type} : List (Lit × DataW H) → Nat
  | [] => 0
  | x :: r => uptoBulkEntry x + uptoBulkEntries r
def uptoBulkEntry {H : Type} : Lit × DataW H → Nat
  | (.string bytes, d) => bytes.length + uptoBulk d + 1
  | (_, d) => uptoBulk d + 1
 end
def uptoSmall : (H : Type) → List (DataW H) → Bool := fun _ ds => decide (uptoBulkAll ds ≤ 1048576)
def OpenSpec.upto (s : _root_.Go.ChangeSpec) : _root_.Go.OpenSpec := { _root_.Go.OpenSpec.ofChange s with cond := some uptoSmall }

/-- 'wayfinderlaw23.PlanTries', WHERE WHAT IT READS IS OF BULK AT MOST 1048576: true; the input reads as it did. -/
def planTriesUptoRow : OpenClaim := { program := "ytnelaegjcpkmdaa", sum := "c42c17780faa56ebd8c4330232e6990c83fc7609ef4049741696ad636d11e99a", func := "wayfinder/wayfinderlaw23.PlanTries", spec := "planTries", unfollowed := true, recurses := true, apart := false, narrowed := true }
def PlanTriesUptoSaid : Prop := planTriesUptoRow.holds Try.pinned (OpenSpec.upto planTriesSpec)

/-- 'wayfinderlaw23.PlanFair', WHERE WHAT IT READS IS OF BULK AT MOST 1048576: true; the input reads as it did. -/
def planFairUptoRow : OpenClaim := { program := "ytnelaegjcpkmdaa", sum := "c42c17780faa56ebd8c4330232e6990c83fc7609ef4049741696ad636d11e99a", func := "wayfinder/wayfinderlaw23.PlanFair", spec := "planFair", unfollowed := true, recurses := true, apart := false, narrowed := true }
def PlanFairUptoSaid : Prop := planFairUptoRow.holds Try.pinned (OpenSpec.upto planFairSpec)

/-- 'wayfinderlaw03.PunyWrites', WHERE WHAT IT READS IS OF BULK AT MOST 1048576: true; the input reads as it did. -/
def punyWritesUptoRow : OpenClaim := { program := "ytnelaegjcpkmdaa", sum := "c42c17780faa56ebd8c4330232e6990c83fc7609ef4049741696ad636d11e99a", func := "wayfinder/wayfinderlaw03.PunyWrites", spec := "punyWrites", apart := false, narrowed := true }
def PunyWritesUptoSaid : Prop := punyWritesUptoRow.holds Try.pinned (OpenSpec.upto punyWritesSpec)

/-- 'wayfinderlaw03.PunyReads', WHERE WHAT IT READS IS OF BULK AT MOST 1048576: true; the input reads as it did. -/
def punyReadsUptoRow : OpenClaim := { program := "ytnelaegjcpkmdaa", sum := "c42c17780faa56ebd8c4330232e6990c83fc7609ef4049741696ad636d11e99a", func := "wayfinder/wayfinderlaw03.PunyReads", spec := "punyReads", apart := false, narrowed := true }
def PunyReadsUptoSaid : Prop := punyReadsUptoRow.holds Try.pinned (OpenSpec.upto punyReadsSpec)

/-- 'wayfinderlaw03.PunyBack', WHERE WHAT IT READS IS OF BULK AT MOST 1048576: true; the input reads as it did. -/
def punyBackUptoRow : OpenClaim := { program := "ytnelaegjcpkmdaa", sum := "c42c17780faa56ebd8c4330232e6990c83fc7609ef4049741696ad636d11e99a", func := "wayfinder/wayfinderlaw03.PunyBack", spec := "punyBack", apart := false, narrowed := true }
def PunyBackUptoSaid : Prop := punyBackUptoRow.holds Try.pinned (OpenSpec.upto punyBackSpec)

/-- 'wayfinderlaw03.PunyLong', WHERE WHAT IT READS IS OF BULK AT MOST 1048576: true; the input reads as it did. -/
def punyLongUptoRow : OpenClaim := { program := "ytnelaegjcpkmdaa", sum := "c42c17780faa56ebd8c4330232e6990c83fc7609ef4049741696ad636d11e99a", func := "wayfinder/wayfinderlaw03.PunyLong", spec := "punyLong", apart := false, narrowed := true }
def PunyLongUptoSaid : Prop := punyLongUptoRow.holds Try.pinned (OpenSpec.upto punyLongSpec)

/-- 'wayfinderlaw03.PunyCase', WHERE WHAT IT READS IS OF BULK AT MOST 1048576: true; the input reads as it did. -/
def punyCaseUptoRow : OpenClaim := { program := "ytnelaegjcpkmdaa", sum := "c42c17780faa56ebd8c4330232e6990c83fc7609ef4049741696ad636d11e99a", func := "wayfinder/wayfinderlaw03.PunyCase", spec := "punyCase", apart := false, narrowed := true }
def PunyCaseUptoSaid : Prop := punyCaseUptoRow.holds Try.pinned (OpenSpec.upto punyCaseSpec)

/-- 'wayfinderlaw31.SearchTells', WHERE WHAT IT READS IS OF BULK AT MOST 1048576: true; the input reads as it did. -/
def searchTellsUptoRow : OpenClaim := { program := "ytnelaegjcpkmdaa", sum := "c42c17780faa56ebd8c4330232e6990c83fc7609ef4049741696ad636d11e99a", func := "wayfinder/wayfinderlaw31.SearchTells", spec := "searchTells", unfollowed := true, recurses := true, apart := false, narrowed := true }
def SearchTellsUptoSaid : Prop := searchTellsUptoRow.holds Try.pinned (OpenSpec.upto searchTellsSpec)

/-- 'wayfinderlaw31.SearchBounds', WHERE WHAT IT READS IS OF BULK AT MOST 1048576: true; the input reads as it did. -/
def searchBoundsUptoRow : OpenClaim := { program := "ytnelaegjcpkmdaa", sum := "c42c17780faa56ebd8c4330232e6990c83fc7609ef4049741696ad636d11e99a", func := "wayfinder/wayfinderlaw31.SearchBounds", spec := "searchBounds", unfollowed := true, recurses := true, apart := false, narrowed := true }
def SearchBoundsUptoSaid : Prop := searchBoundsUptoRow.holds Try.pinned (OpenSpec.upto searchBoundsSpec)

/-- 'wayfinderlaw04.LabelDoes', WHERE WHAT IT READS IS OF BULK AT MOST 1048576: true; the input reads as it did. -/
def labelDoesUptoRow : OpenClaim := { program := "ytnelaegjcpkmdaa", sum := "c42c17780faa56ebd8c4330232e6990c83fc7609ef4049741696ad636d11e99a", func := "wayfinder/wayfinderlaw04.LabelDoes", spec := "labelDoes", apart := false, narrowed := true }
def LabelDoesUptoSaid : Prop := labelDoesUptoRow.holds Try.pinned (OpenSpec.upto labelDoesSpec)

/-- 'wayfinderlaw04.LabelFixed', WHERE WHAT IT READS IS OF BULK AT MOST 1048576: true; the input reads as it did. -/
def labelFixedUptoRow : OpenClaim := { program := "ytnelaegjcpkmdaa", sum := "c42c17780faa56ebd8c4330232e6990c83fc7609ef4049741696ad636d11e99a", func := "wayfinder/wayfinderlaw04.LabelFixed", spec := "labelFixed", apart := false, narrowed := true }
def LabelFixedUptoSaid : Prop := labelFixedUptoRow.holds Try.pinned (OpenSpec.upto labelFixedSpec)

/-- 'wayfinderlaw04.LabelBack', WHERE WHAT IT READS IS OF BULK AT MOST 1048576: true; the input reads as it did. -/
def labelBackUptoRow : OpenClaim := { program := "ytnelaegjcpkmdaa", sum := "c42c17780faa56ebd8c4330232e6990c83fc7609ef4049741696ad636d11e99a", func := "wayfinder/wayfinderlaw04.LabelBack", spec := "labelBack", apart := false, narrowed := true }
def LabelBackUptoSaid : Prop := labelBackUptoRow.holds Try.pinned (OpenSpec.upto labelBackSpec)

end Rows
end Go.Proofs.Ytnelaegjcpkmdaa
