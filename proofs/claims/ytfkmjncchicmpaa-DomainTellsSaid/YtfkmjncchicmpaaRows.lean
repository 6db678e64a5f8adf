/-
  No cell of these rows narrows 'for every input' (looked for: loops, veiled, ifaces, maps, wideKeys, modest, calm, conditions, laid).
  DERIVED. THE GIVEN ROWS OF THIS SEAT. 11 by the template 'for every input the law returns true; each argument reads behind the call as it read before'; 0 by the template 'total and deterministic' (their statements: YtfkmjncchicmpaaTotals.lean).
  GIVEN WITH THE SEED: the statements are not yours to turn. If you find one false, say at which input.
  Laid BY PROGRAM, IN A SANDBOX (cutbox-rows.mjs): the forced cells as the released guide's own fill.sh prints them over the translation 854b5d7a75b6231d… (all of the seat's roots in one cut). By AI agents, Wed Nov 11 2026. No macro, syntax, notation, axiom, sorry.
-/
import Derived.Test.YtfkmjncchicmpaaChecked
import GoSem.Claim
import GoSem.ClaimJoined
import GoSem.ClaimMapViews
import Derived.JoinedTies
import Derived.KernelRfl
namespace Go.Proofs.Ytfkmjncchicmpaa
/- THE CELL 'sum', in the pinned program and in every row, IS THE sha256 OF THE DUMP (.gsa) THAT YtfkmjncchicmpaaProg.lean LOADS. Nothing in Lean hashes anything: it is a label: what it is worth is what the hold of that sum in a sandbox is worth. -/
noncomputable def Try.pinned : Pinned := { name := "ytfkmjncchicmpaa", sum := "854b5d7a75b6231de342f091366bbec13e2847e662f49173e1501100896f21aa", checked := Try.checked }
namespace Rows
def none {H : Type} : Left H := { results := [], args := [] }

/-- 'wayfinderlaw02.UtfReads': WHATEVER THE INPUT: true; the input reads as it did. -/
def utfReadsSpec : ChangeSpec := { name := "utfReads", fn := fun _ => fun
  | [d] => { results := [.lit (.bool true)], args := [d] }
  | _ => none }
def utfReadsRow : OpenClaim := { program := "ytfkmjncchicmpaa", sum := "854b5d7a75b6231de342f091366bbec13e2847e662f49173e1501100896f21aa", func := "wayfinder/wayfinderlaw02.UtfReads", spec := "utfReads", apart := false }
def UtfReadsSaid : Prop := utfReadsRow.holds Try.pinned (OpenSpec.ofChange utfReadsSpec)

/-- ITS FALSE NEIGHBOUR: 'it returns false'. Refute it at one input. -/
def utfReadsWrong : ChangeSpec := { name := "utfReads", fn := fun _ => fun
  | [d] => { results := [.lit (.bool false)], args := [d] }
  | _ => none }
def UtfReadsWrongFalsely : Prop := utfReadsRow.holds Try.pinned (OpenSpec.ofChange utfReadsWrong)

/-- 'wayfinderlaw02.UtfWrites': WHATEVER THE INPUT: true; the input reads as it did. -/
def utfWritesSpec : ChangeSpec := { name := "utfWrites", fn := fun _ => fun
  | [d1, d2] => { results := [.lit (.bool true)], args := [d1, d2] }
  | _ => none }
def utfWritesRow : OpenClaim := { program := "ytfkmjncchicmpaa", sum := "854b5d7a75b6231de342f091366bbec13e2847e662f49173e1501100896f21aa", func := "wayfinder/wayfinderlaw02.UtfWrites", spec := "utfWrites", apart := false }
def UtfWritesSaid : Prop := utfWritesRow.holds Try.pinned (OpenSpec.ofChange utfWritesSpec)

/-- ITS FALSE NEIGHBOUR: 'it returns false'. Refute it at one input. -/
def utfWritesWrong : ChangeSpec := { name := "utfWrites", fn := fun _ => fun
  | [d1, d2] => { results := [.lit (.bool false)], args := [d1, d2] }
  | _ => none }
def UtfWritesWrongFalsely : Prop := utfWritesRow.holds Try.pinned (OpenSpec.ofChange utfWritesWrong)

/-- 'wayfinderlaw02.UtfBack': WHATEVER THE INPUT: true; the input reads as it did. -/
def utfBackSpec : ChangeSpec := { name := "utfBack", fn := fun _ => fun
  | [d1, d2] => { results := [.lit (.bool true)], args := [d1, d2] }
  | _ => none }
def utfBackRow : OpenClaim := { program := "ytfkmjncchicmpaa", sum := "854b5d7a75b6231de342f091366bbec13e2847e662f49173e1501100896f21aa", func := "wayfinder/wayfinderlaw02.UtfBack", spec := "utfBack", apart := false }
def UtfBackSaid : Prop := utfBackRow.holds Try.pinned (OpenSpec.ofChange utfBackSpec)

/-- ITS FALSE NEIGHBOUR: 'it returns false'. Refute it at one input. -/
def utfBackWrong : ChangeSpec := { name := "utfBack", fn := fun _ => fun
  | [d1, d2] => { results := [.lit (.bool false)], args := [d1, d2] }
  | _ => none }
def UtfBackWrongFalsely : Prop := utfBackRow.holds Try.pinned (OpenSpec.ofChange utfBackWrong)

/-- 'wayfinderlaw05.DomainParses': WHATEVER THE INPUT: true; the input reads as it did. -/
def domainParsesSpec : ChangeSpec := { name := "domainParses", fn := fun _ => fun
  | [d] => { results := [.lit (.bool true)], args := [d] }
  | _ => none }
def domainParsesRow : OpenClaim := { program := "ytfkmjncchicmpaa", sum := "854b5d7a75b6231de342f091366bbec13e2847e662f49173e1501100896f21aa", func := "wayfinder/wayfinderlaw05.DomainParses", spec := "domainParses", apart := false }
def DomainParsesSaid : Prop := domainParsesRow.holds Try.pinned (OpenSpec.ofChange domainParsesSpec)

/-- ITS FALSE NEIGHBOUR: 'it returns false'. Refute it at one input. -/
def domainParsesWrong : ChangeSpec := { name := "domainParses", fn := fun _ => fun
  | [d] => { results := [.lit (.bool false)], args := [d] }
  | _ => none }
def DomainParsesWrongFalsely : Prop := domainParsesRow.holds Try.pinned (OpenSpec.ofChange domainParsesWrong)

/-- 'wayfinderlaw05.DomainBack': WHATEVER THE INPUT: true; the input reads as it did. -/
def domainBackSpec : ChangeSpec := { name := "domainBack", fn := fun _ => fun
  | [d] => { results := [.lit (.bool true)], args := [d] }
  | _ => none }
def domainBackRow : OpenClaim := { program := "ytfkmjncchicmpaa", sum := "854b5d7a75b6231de342f091366bbec13e2847e662f49173e1501100896f21aa", func := "wayfinder/wayfinderlaw05.DomainBack", spec := "domainBack", apart := false }
def DomainBackSaid : Prop := domainBackRow.holds Try.pinned (OpenSpec.ofChange domainBackSpec)

/-- ITS FALSE NEIGHBOUR: 'it returns false'. Refute it at one input. -/
def domainBackWrong : ChangeSpec := { name := "domainBack", fn := fun _ => fun
  | [d] => { results := [.lit (.bool false)], args := [d] }
  | _ => none }
def DomainBackWrongFalsely : Prop := domainBackRow.holds Try.pinned (OpenSpec.ofChange domainBackWrong)

/-- 'wayfinderlaw05.DomainAgain': WHATEVER THE INPUT: true; the input reads as it did. -/
def domainAgainSpec : ChangeSpec := { name := "domainAgain", fn := fun _ => fun
  | [d] => { results := [.lit (.bool true)], args := [d] }
  | _ => none }
def domainAgainRow : OpenClaim := { program := "ytfkmjncchicmpaa", sum := "854b5d7a75b6231de342f091366bbec13e2847e662f49173e1501100896f21aa", func := "wayfinder/wayfinderlaw05.DomainAgain", spec := "domainAgain", apart := false }
def DomainAgainSaid : Prop := domainAgainRow.holds Try.pinned (OpenSpec.ofChange domainAgainSpec)

/-- ITS FALSE NEIGHBOUR: 'it returns false'. Refute it at one input. -/
def domainAgainWrong : ChangeSpec := { name := "domainAgain", fn := fun _ => fun
  | [d] => { results := [.lit (.bool false)], args := [d] }
  | _ => none }
def DomainAgainWrongFalsely : Prop := domainAgainRow.holds Try.pinned (OpenSpec.ofChange domainAgainWrong)

/-- 'wayfinderlaw01.AsciiNumbers': WHATEVER THE INPUT: true; the input reads as it did. -/
def asciiNumbersSpec : ChangeSpec := { name := "asciiNumbers", fn := fun _ => fun
  | [d1, d2, d3] => { results := [.lit (.bool true)], args := [d1, d2, d3] }
  | _ => none }
def asciiNumbersRow : OpenClaim := { program := "ytfkmjncchicmpaa", sum := "854b5d7a75b6231de342f091366bbec13e2847e662f49173e1501100896f21aa", func := "wayfinder/wayfinderlaw01.AsciiNumbers", spec := "asciiNumbers", inPlace := ["internal/abi.NoEscape", "internal/bytealg.MakeNoZero"], apart := false }
def AsciiNumbersSaid : Prop := asciiNumbersRow.holds Try.pinned (OpenSpec.ofChange asciiNumbersSpec)

/-- ITS FALSE NEIGHBOUR: 'it returns false'. Refute it at one input. -/
def asciiNumbersWrong : ChangeSpec := { name := "asciiNumbers", fn := fun _ => fun
  | [d1, d2, d3] => { results := [.lit (.bool false)], args := [d1, d2, d3] }
  | _ => none }
def AsciiNumbersWrongFalsely : Prop := asciiNumbersRow.holds Try.pinned (OpenSpec.ofChange asciiNumbersWrong)

/-- 'wayfinderlaw01.AsciiJoins': WHATEVER THE INPUT: true; the input reads as it did. -/
def asciiJoinsSpec : ChangeSpec := { name := "asciiJoins", fn := fun _ => fun
  | [d1, d2, d3] => { results := [.lit (.bool true)], args := [d1, d2, d3] }
  | _ => none }
def asciiJoinsRow : OpenClaim := { program := "ytfkmjncchicmpaa", sum := "854b5d7a75b6231de342f091366bbec13e2847e662f49173e1501100896f21aa", func := "wayfinder/wayfinderlaw01.AsciiJoins", spec := "asciiJoins", inPlace := ["internal/abi.NoEscape", "internal/bytealg.MakeNoZero", "internal/bytealg.IndexByteString"], apart := false }
def AsciiJoinsSaid : Prop := asciiJoinsRow.holds Try.pinned (OpenSpec.ofChange asciiJoinsSpec)

/-- ITS FALSE NEIGHBOUR: 'it returns false'. Refute it at one input. -/
def asciiJoinsWrong : ChangeSpec := { name := "asciiJoins", fn := fun _ => fun
  | [d1, d2, d3] => { results := [.lit (.bool false)], args := [d1, d2, d3] }
  | _ => none }
def AsciiJoinsWrongFalsely : Prop := asciiJoinsRow.holds Try.pinned (OpenSpec.ofChange asciiJoinsWrong)

/-- 'wayfinderlaw05.DomainHolds': WHATEVER THE INPUT: true; the input reads as it did. -/
def domainHoldsSpec : ChangeSpec := { name := "domainHolds", fn := fun _ => fun
  | [d1, d2] => { results := [.lit (.bool true)], args := [d1, d2] }
  | _ => none }
def domainHoldsRow : OpenClaim := { program := "ytfkmjncchicmpaa", sum := "854b5d7a75b6231de342f091366bbec13e2847e662f49173e1501100896f21aa", func := "wayfinder/wayfinderlaw05.DomainHolds", spec := "domainHolds", apart := false }
def DomainHoldsSaid : Prop := domainHoldsRow.holds Try.pinned (OpenSpec.ofChange domainHoldsSpec)

/-- ITS FALSE NEIGHBOUR: 'it returns false'. Refute it at one input. -/
def domainHoldsWrong : ChangeSpec := { name := "domainHolds", fn := fun _ => fun
  | [d1, d2] => { results := [.lit (.bool false)], args := [d1, d2] }
  | _ => none }
def DomainHoldsWrongFalsely : Prop := domainHoldsRow.holds Try.pinned (OpenSpec.ofChange domainHoldsWrong)

/-- 'wayfinderlaw01.AsciiTexts': WHATEVER THE INPUT: true; the input reads as it did. -/
def asciiTextsSpec : ChangeSpec := { name := "asciiTexts", fn := fun _ => fun
  | [d1, d2, d3] => { results := [.lit (.bool true)], args := [d1, d2, d3] }
  | _ => none }
def asciiTextsRow : OpenClaim := { program := "ytfkmjncchicmpaa", sum := "854b5d7a75b6231de342f091366bbec13e2847e662f49173e1501100896f21aa", func := "wayfinder/wayfinderlaw01.AsciiTexts", spec := "asciiTexts", inPlace := ["internal/abi.NoEscape", "internal/bytealg.MakeNoZero", "internal/bytealg.IndexByteString"], apart := false }
def AsciiTextsSaid : Prop := asciiTextsRow.holds Try.pinned (OpenSpec.ofChange asciiTextsSpec)

/-- ITS FALSE NEIGHBOUR: 'it returns false'. Refute it at one input. -/
def asciiTextsWrong : ChangeSpec := { name := "asciiTexts", fn := fun _ => fun
  | [d1, d2, d3] => { results := [.lit (.bool false)], args := [d1, d2, d3] }
  | _ => none }
def AsciiTextsWrongFalsely : Prop := asciiTextsRow.holds Try.pinned (OpenSpec.ofChange asciiTextsWrong)

/-- 'wayfinderlaw05.DomainTells': WHATEVER THE INPUT: true; the input reads as it did. -/
def domainTellsSpec : ChangeSpec := { name := "domainTells", fn := fun _ => fun
  | [d] => { results := [.lit (.bool true)], args := [d] }
  | _ => none }
def domainTellsRow : OpenClaim := { program := "ytfkmjncchicmpaa", sum := "854b5d7a75b6231de342f091366bbec13e2847e662f49173e1501100896f21aa", func := "wayfinder/wayfinderlaw05.DomainTells", spec := "domainTells", apart := false }
def DomainTellsSaid : Prop := domainTellsRow.holds Try.pinned (OpenSpec.ofChange domainTellsSpec)

/-- ITS FALSE NEIGHBOUR: 'it returns false'. Refute it at one input. -/
def domainTellsWrong : ChangeSpec := { name := "domainTells", fn := fun _ => fun
  | [d] => { results := [.lit (.bool false)], args := [d] }
  | _ => none }
def DomainTellsWrongFalsely : Prop := domainTellsRow.holds Try.pinned (OpenSpec.ofChange domainTellsWrong)

/- THE SECOND FORM. 'bulk': how many values and letters a reading holds, each counted each time it is reached (what is shared counts as often as it is met; a slice's spare places count too). A statement '..UptoSaid' is the law's where the arguments, and the package variables that the reading takes, are together of bulk at most 1048576: NARROWER than '..Said'. Prove '..Said' where nothing that the law and all that it calls make is longer than what came in: it says more and counts as full. Else prove '..UptoSaid'. A law counts once. -/
mutual
def uptoBulk {H : Type} : DataW H → Nat
  | .lit (.string bytes) => bytes.length + 1
  | .lit _ => 1
  | .nil => 1
  | .ptr d => uptoBulk d + 1
  | .slice elems spare => uptoBulkAll elems + uptoBulkAll spare + 1
  | .agg parts => uptoBulkAll parts + 1
  | .iface _ d => uptoBulk d + 1
  | .map entries => uptoBulkEntries entries + 1
  | .held _ => 1
def uptoBulkAll {H : Type} : List (DataW H) → Nat
  | [] => 0
  | d :: r => uptoBulk d + uptoBulkAll r
def uptoBulkEntries {H : Type} : List (Lit × DataW H) → Nat
  | [] => 0
  | x :: r => uptoBulkEntry x + uptoBulkEntries r
def uptoBulkEntry {H : Type} : Lit × DataW H → Nat
  | (.string bytes, d) => bytes.length + uptoBulk d + 1
  | (_, d) => uptoBulk d + 1
 end
def uptoSmall : (H : Type) → List (DataW H) → Bool := fun _ ds => decide (uptoBulkAll ds ≤ 1048576)
def OpenSpec.upto (s : _root_.Go.ChangeSpec) : _root_.Go.OpenSpec := { _root_.Go.OpenSpec.ofChange s with cond := some uptoSmall }

/-- 'wayfinderlaw02.UtfReads', WHERE WHAT IT READS IS OF BULK AT MOST 1048576: true; the input reads as it did. -/
def utfReadsUptoRow : OpenClaim := { program := "ytfkmjncchicmpaa", sum := "854b5d7a75b6231de342f091366bbec13e2847e662f49173e1501100896f21aa", func := "wayfinder/wayfinderlaw02.UtfReads", spec := "utfReads", apart := false, narrowed := true }
def UtfReadsUptoSaid : Prop := utfReadsUptoRow.holds Try.pinned (OpenSpec.upto utfReadsSpec)

/-- 'wayfinderlaw02.UtfWrites', WHERE WHAT IT READS IS OF BULK AT MOST 1048576: true; the input reads as it did. -/
def utfWritesUptoRow : OpenClaim := { program := "ytfkmjncchicmpaa", sum := "854b5d7a75b6231de342f091366bbec13e2847e662f49173e1501100896f21aa", func := "wayfinder/wayfinderlaw02.UtfWrites", spec := "utfWrites", apart := false, narrowed := true }
def UtfWritesUptoSaid : Prop := utfWritesUptoRow.holds Try.pinned (OpenSpec.upto utfWritesSpec)

/-- 'wayfinderlaw02.UtfBack', WHERE WHAT IT READS IS OF BULK AT MOST 1048576: true; the input reads as it did. -/
def utfBackUptoRow : OpenClaim := { program := "ytfkmjncchicmpaa", sum := "854b5d7a75b6231de342f091366bbec13e2847e662f49173e1501100896f21aa", func := "wayfinder/wayfinderlaw02.UtfBack", spec := "utfBack", apart := false, narrowed := true }
def UtfBackUptoSaid : Prop := utfBackUptoRow.holds Try.pinned (OpenSpec.upto utfBackSpec)

/-- 'wayfinderlaw05.DomainParses', WHERE WHAT IT READS IS OF BULK AT MOST 1048576: true; the input reads as it did. -/
def domainParsesUptoRow : OpenClaim := { program := "ytfkmjncchicmpaa", sum := "854b5d7a75b6231de342f091366bbec13e2847e662f49173e1501100896f21aa", func := "wayfinder/wayfinderlaw05.DomainParses", spec := "domainParses", apart := false, narrowed := true }
def DomainParsesUptoSaid : Prop := domainParsesUptoRow.holds Try.pinned (OpenSpec.upto domainParsesSpec)

/-- 'wayfinderlaw05.DomainBack', WHERE WHAT IT READS IS OF BULK AT MOST 1048576: true; the input reads as it did. -/
def domainBackUptoRow : OpenClaim := { program := "ytfkmjncchicmpaa", sum := "854b5d7a75b6231de342f091366bbec13e2847e662f49173e1501100896f21aa", func := "wayfinder/wayfinderlaw05.DomainBack", spec := "domainBack", apart := false, narrowed := true }
def DomainBackUptoSaid : Prop := domainBackUptoRow.holds Try.pinned (OpenSpec.upto domainBackSpec)

/-- 'wayfinderlaw05.DomainAgain', WHERE WHAT IT READS IS OF BULK AT MOST 1048576: true; the input reads as it did. -/
def domainAgainUptoRow : OpenClaim := { program := "ytfkmjncchicmpaa", sum := "854b5d7a75b6231de342f091366bbec13e2847e662f49173e1501100896f21aa", func := "wayfinder/wayfinderlaw05.DomainAgain", spec := "domainAgain", apart := false, narrowed := true }
def DomainAgainUptoSaid : Prop := domainAgainUptoRow.holds Try.pinned (OpenSpec.upto domainAgainSpec)

/-- 'wayfinderlaw01.AsciiNumbers', WHERE WHAT IT READS IS OF BULK AT MOST 1048576: true; the input reads as it did. -/
def asciiNumbersUptoRow : OpenClaim := { program := "ytfkmjncchicmpaa", sum := "854b5d7a75b6231de342f091366bbec13e2847e662f49173e1501100896f21aa", func := "wayfinder/wayfinderlaw01.AsciiNumbers", spec := "asciiNumbers", inPlace := ["internal/abi.NoEscape", "internal/bytealg.MakeNoZero"], apart := false, narrowed := true }
def AsciiNumbersUptoSaid : Prop := asciiNumbersUptoRow.holds Try.pinned (OpenSpec.upto asciiNumbersSpec)

/-- 'wayfinderlaw01.AsciiJoins', WHERE WHAT IT READS IS OF BULK AT MOST 1048576: true; the input reads as it did. -/
def asciiJoinsUptoRow : OpenClaim := { program := "ytfkmjncchicmpaa", sum := "854b5d7a75b6231de342f091366bbec13e2847e662f49173e1501100896f21aa", func := "wayfinder/wayfinderlaw01.AsciiJoins", spec := "asciiJoins", inPlace := ["internal/abi.NoEscape", "internal/bytealg.MakeNoZero", "internal/bytealg.IndexByteString"], apart := false, narrowed := true }
def AsciiJoinsUptoSaid : Prop := asciiJoinsUptoRow.holds Try.pinned (OpenSpec.upto asciiJoinsSpec)

/-- 'wayfinderlaw05.DomainHolds', WHERE WHAT IT READS IS OF BULK AT MOST 1048576: true; the input reads as it did. -/
def domainHoldsUptoRow : OpenClaim := { program := "ytfkmjncchicmpaa", sum := "854b5d7a75b6231de342f091366bbec13e2847e662f49173e1501100896f21aa", func := "wayfinder/wayfinderlaw05.DomainHolds", spec := "domainHolds", apart := false, narrowed := true }
def DomainHoldsUptoSaid : Prop := domainHoldsUptoRow.holds Try.pinned (OpenSpec.upto domainHoldsSpec)

/-- 'wayfinderlaw01.AsciiTexts', WHERE WHAT IT READS IS OF BULK AT MOST 1048576: true; the input reads as it did. -/
def asciiTextsUptoRow : OpenClaim := { program := "ytfkmjncchicmpaa", sum := "854b5d7a75b6231de342f091366bbec13e2847e662f49173e1501100896f21aa", func := "wayfinder/wayfinderlaw01.AsciiTexts", spec := "asciiTexts", inPlace := ["internal/abi.NoEscape", "internal/bytealg.MakeNoZero", "internal/bytealg.IndexByteString"], apart := false, narrowed := true }
def AsciiTextsUptoSaid : Prop := asciiTextsUptoRow.holds Try.pinned (OpenSpec.upto asciiTextsSpec)

/-- 'wayfinderlaw05.DomainTells', WHERE WHAT IT READS IS OF BULK AT MOST 1048576: true; the input reads as it did. -/
def domainTellsUptoRow : OpenClaim := { program := "ytfkmjncchicmpaa", sum := "854b5d7a75b6231de342f091366bbec13e2847e662f49173e1501100896f21aa", func := "wayfinder/wayfinderlaw05.DomainTells", spec := "domainTells", apart := false, narrowed := true }
def DomainTellsUptoSaid : Prop := domainTellsUptoRow.holds Try.pinned (OpenSpec.upto domainTellsSpec)

end Rows
end Go.Proofs.Ytfkmjncchicmpaa
