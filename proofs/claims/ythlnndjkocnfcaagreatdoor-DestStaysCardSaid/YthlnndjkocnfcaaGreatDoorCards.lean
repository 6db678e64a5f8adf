/-
  DERIVED. GIVEN WITH THE SEED: THE CARDS: each row of YthlnndjkocnfcaaGreatDoorRows.lean that lists a variable, with what it lists TIED to the program's text (the seventh form; the later family's looks); each row that meets fmt, with fmt's text TOLD by the authors' own Lean function (tested against real Go, not proved from fmt's source: count such statements apart). THE CARD IS WHAT COUNTS. Prove the row's statement (the work); the ties are given (YthlnndjkocnfcaaGreatDoorTie.lean); close each card by the builder's one call (the guide's Derived/Test/ToyasCard.lean, 'card_holds'). Laid BY PROGRAM, IN A SANDBOX (cutbox-door.mjs). By AI agents, Wed Nov 11 2026. No macro, syntax, notation, axiom, sorry.
-/
import Derived.Test.YthlnndjkocnfcaaGreatDoorRows
import GoSem.ClaimSeven
namespace Go.Proofs.YthlnndjkocnfcaaGreatDoor
namespace Rows

/-- THE TIED CARD OF 'wayfinderlaw39.DestBetter'. -/
def destBetterCard : Claim7 := { stood := { row := destBetterRow, standIns := [], harness := (true, "fda7e99399e864911e1a0d7c7e6fa81c8b427d837d28c89236764187103f701d"), looks := false }, kinds := [], alts := [], laidByText := true, laidKinds := [.data, .data, .data, .data], laidTests := true, laidLooks := .later }
def DestBetterCardSaid : Prop := Claim7.holds Tryz.pinned (.plain (OpenSpec.ofChange destBetterSpec)) destBetterCard

/-- THE TIED CARD OF 'wayfinderlaw39.DestOrders'. -/
def destOrdersCard : Claim7 := { stood := { row := destOrdersRow, standIns := [], harness := (true, "fda7e99399e864911e1a0d7c7e6fa81c8b427d837d28c89236764187103f701d"), looks := false }, kinds := [], alts := [], laidByText := true, laidKinds := [.data, .data, .data, .data], laidTests := true, laidLooks := .later }
def DestOrdersCardSaid : Prop := Claim7.holds Tryz.pinned (.plain (OpenSpec.ofChange destOrdersSpec)) destOrdersCard

/-- THE TIED CARD OF 'wayfinderlaw39.DestStays'. -/
def destStaysCard : Claim7 := { stood := { row := destStaysRow, standIns := [], harness := (true, "fda7e99399e864911e1a0d7c7e6fa81c8b427d837d28c89236764187103f701d"), looks := false }, kinds := [], alts := [], laidByText := true, laidKinds := [.data, .data, .data, .data], laidTests := true, laidLooks := .later }
def DestStaysCardSaid : Prop := Claim7.holds Tryz.pinned (.plain (OpenSpec.ofChange destStaysSpec)) destStaysCard

/-- THE SECOND FORM's CARD OF 'wayfinderlaw39.DestBetter'. -/
def destBetterUptoCard : Claim7 := { stood := { row := destBetterUptoRow, standIns := [], harness := (true, "fda7e99399e864911e1a0d7c7e6fa81c8b427d837d28c89236764187103f701d"), looks := false }, kinds := [], alts := [], laidByText := true, laidKinds := [.data, .data, .data, .data], laidTests := true, laidLooks := .later }
def DestBetterUptoCardSaid : Prop := Claim7.holds Tryz.pinned (.plain (OpenSpec.upto destBetterSpec)) destBetterUptoCard

/-- THE SECOND FORM's CARD OF 'wayfinderlaw39.DestOrders'. -/
def destOrdersUptoCard : Claim7 := { stood := { row := destOrdersUptoRow, standIns := [], harness := (true, "fda7e99399e864911e1a0d7c7e6fa81c8b427d837d28c89236764187103f701d"), looks := false }, kinds := [], alts := [], laidByText := true, laidKinds := [.data, .data, .data, .data], laidTests := true, laidLooks := .later }
def DestOrdersUptoCardSaid : Prop := Claim7.holds Tryz.pinned (.plain (OpenSpec.upto destOrdersSpec)) destOrdersUptoCard

/-- THE SECOND FORM's CARD OF 'wayfinderlaw39.DestStays'. -/
def destStaysUptoCard : Claim7 := { stood := { row := destStaysUptoRow, standIns := [], harness := (true, "fda7e99399e864911e1a0d7c7e6fa81c8b427d837d28c89236764187103f701d"), looks := false }, kinds := [], alts := [], laidByText := true, laidKinds := [.data, .data, .data, .data], laidTests := true, laidLooks := .later }
def DestStaysUptoCardSaid : Prop := Claim7.holds Tryz.pinned (.plain (OpenSpec.upto destStaysSpec)) destStaysUptoCard
end Rows
end Go.Proofs.YthlnndjkocnfcaaGreatDoor
