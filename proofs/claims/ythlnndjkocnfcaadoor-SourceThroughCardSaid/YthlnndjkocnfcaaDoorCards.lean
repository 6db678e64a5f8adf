/-
  DERIVED. GIVEN WITH THE SEED: THE CARDS: each row of YthlnndjkocnfcaaDoorRows.lean that lists a variable, with what it lists TIED to the program's text (the seventh form; the later family's looks); each row that meets fmt, with fmt's text TOLD by the authors' own Lean function (tested against real Go, not proved from fmt's source: count such statements apart). THE CARD IS WHAT COUNTS. Prove the row's statement (the work); the ties are given (YthlnndjkocnfcaaDoorTie.lean); close each card by the builder's one call (the guide's Derived/Test/ToyasCard.lean, 'card_holds'). Laid BY PROGRAM, IN A SANDBOX (cutbox-door.mjs). By AI agents, Wed Nov 11 2026. No macro, syntax, notation, axiom, sorry.
-/
import Derived.Test.YthlnndjkocnfcaaDoorRows
import GoSem.ClaimSeven
namespace Go.Proofs.YthlnndjkocnfcaaDoor
namespace Rows

/-- THE TIED CARD OF 'wayfinderlaw38.SourceThrough'. -/
def sourceThroughCard : Claim7 := { stood := { row := sourceThroughRow, standIns := [], harness := (true, "d71d79a56d801cbe8dfa9a78a7d392538b0e752a1b6ccc6820bc7298e2e674ee"), looks := false }, kinds := [], alts := [], laidByText := true, laidKinds := [.data, .data, .data, .data], laidTests := true, laidLooks := .later }
def SourceThroughCardSaid : Prop := Claim7.holds Tryd.pinned (.plain (OpenSpec.ofChange sourceThroughSpec)) sourceThroughCard

/-- THE SECOND FORM's CARD OF 'wayfinderlaw38.SourceThrough'. -/
def sourceThroughUptoCard : Claim7 := { stood := { row := sourceThroughUptoRow, standIns := [], harness := (true, "d71d79a56d801cbe8dfa9a78a7d392538b0e752a1b6ccc6820bc7298e2e674ee"), looks := false }, kinds := [], alts := [], laidByText := true, laidKinds := [.data, .data, .data, .data], laidTests := true, laidLooks := .later }
def SourceThroughUptoCardSaid : Prop := Claim7.holds Tryd.pinned (.plain (OpenSpec.upto sourceThroughSpec)) sourceThroughUptoCard
end Rows
end Go.Proofs.YthlnndjkocnfcaaDoor
