/-
  DERIVED. GIVEN WITH THE SEED: THE CARDS: each row of YtgbdhfjblebeiaaDoorRows.lean that lists a variable, with what it lists TIED to the program's text (the seventh form; the later family's looks); each row that meets fmt, with fmt's text TOLD by the authors' own Lean function (tested against real Go, not proved from fmt's source: count such statements apart). THE CARD IS WHAT COUNTS. Prove the row's statement (the work); the ties are given (YtgbdhfjblebeiaaDoorTie.lean); close each card by the builder's one call (the guide's Derived/Test/ToyasCard.lean, 'card_holds'). Laid BY PROGRAM, IN A SANDBOX (cutbox-door.mjs). By AI agents, Wed Nov 11 2026. No macro, syntax, notation, axiom, sorry.
-/
import Derived.Test.YtgbdhfjblebeiaaDoorRows
import GoSem.ClaimSeven
namespace Go.Proofs.YtgbdhfjblebeiaaDoor
namespace Rows

/-- THE TIED CARD OF 'wayfinderlaw08.ColonParses'. -/
def colonParsesCard : Claim7 := { stood := { row := colonParsesRow, standIns := [], harness := (true, "3021e01b544206c4c15be766a9a6d6c4e020a130699148ff8f497b54630ebb60"), looks := false }, kinds := [], alts := [], laidByText := true, laidKinds := [.data, .data, .data], laidTests := true, laidLooks := .later }
def ColonParsesCardSaid : Prop := Claim7.holds Tryd.pinned (.plain (OpenSpec.ofChange colonParsesSpec)) colonParsesCard

/-- THE TIED CARD OF 'wayfinderlaw08.ColonBack'. -/
def colonBackCard : Claim7 := { stood := { row := colonBackRow, standIns := [], harness := (true, "3021e01b544206c4c15be766a9a6d6c4e020a130699148ff8f497b54630ebb60"), looks := false }, kinds := [], alts := [], laidByText := true, laidKinds := [.data, .data, .data], laidTests := true, laidLooks := .later }
def ColonBackCardSaid : Prop := Claim7.holds Tryd.pinned (.plain (OpenSpec.ofChange colonBackSpec)) colonBackCard

/-- THE TIED CARD OF 'wayfinderlaw36.PolicyPlain'. -/
def policyPlainCard : Claim7 := { stood := { row := policyPlainRow, standIns := [], harness := (true, "3021e01b544206c4c15be766a9a6d6c4e020a130699148ff8f497b54630ebb60"), looks := false }, kinds := [], alts := [], laidByText := true, laidKinds := [.data, .data, .data], laidTests := true, laidLooks := .later }
def PolicyPlainCardSaid : Prop := Claim7.holds Tryd.pinned (.plain (OpenSpec.ofChange policyPlainSpec)) policyPlainCard

/-- THE TIED CARD OF 'wayfinderlaw09.AddrAgain'. -/
def addrAgainCard : Claim7 := { stood := { row := addrAgainRow, standIns := [], harness := (true, "3021e01b544206c4c15be766a9a6d6c4e020a130699148ff8f497b54630ebb60"), looks := false }, kinds := [], alts := [], laidByText := true, laidKinds := [.data, .data, .data, .data], laidTests := true, laidLooks := .later }
def AddrAgainCardSaid : Prop := Claim7.holds Tryd.pinned (.plain (OpenSpec.ofChange addrAgainSpec)) addrAgainCard

/-- THE TIED CARD OF 'wayfinderlaw09.AddrReads'. -/
def addrReadsCard : Claim7 := { stood := { row := addrReadsRow, standIns := [], harness := (true, "3021e01b544206c4c15be766a9a6d6c4e020a130699148ff8f497b54630ebb60"), looks := false }, kinds := [], alts := [], laidByText := true, laidKinds := [.data, .data, .data, .data], laidTests := true, laidLooks := .later }
def AddrReadsCardSaid : Prop := Claim7.holds Tryd.pinned (.plain (OpenSpec.ofChange addrReadsSpec)) addrReadsCard

/-- THE SECOND FORM's CARD OF 'wayfinderlaw08.ColonParses'. -/
def colonParsesUptoCard : Claim7 := { stood := { row := colonParsesUptoRow, standIns := [], harness := (true, "3021e01b544206c4c15be766a9a6d6c4e020a130699148ff8f497b54630ebb60"), looks := false }, kinds := [], alts := [], laidByText := true, laidKinds := [.data, .data, .data], laidTests := true, laidLooks := .later }
def ColonParsesUptoCardSaid : Prop := Claim7.holds Tryd.pinned (.plain (OpenSpec.upto colonParsesSpec)) colonParsesUptoCard

/-- THE SECOND FORM's CARD OF 'wayfinderlaw08.ColonBack'. -/
def colonBackUptoCard : Claim7 := { stood := { row := colonBackUptoRow, standIns := [], harness := (true, "3021e01b544206c4c15be766a9a6d6c4e020a130699148ff8f497b54630ebb60"), looks := false }, kinds := [], alts := [], laidByText := true, laidKinds := [.data, .data, .data], laidTests := true, laidLooks := .later }
def ColonBackUptoCardSaid : Prop := Claim7.holds Tryd.pinned (.plain (OpenSpec.upto colonBackSpec)) colonBackUptoCard

/-- THE SECOND FORM's CARD OF 'wayfinderlaw36.PolicyPlain'. -/
def policyPlainUptoCard : Claim7 := { stood := { row := policyPlainUptoRow, standIns := [], harness := (true, "3021e01b544206c4c15be766a9a6d6c4e020a130699148ff8f497b54630ebb60"), looks := false }, kinds := [], alts := [], laidByText := true, laidKinds := [.data, .data, .data], laidTests := true, laidLooks := .later }
def PolicyPlainUptoCardSaid : Prop := Claim7.holds Tryd.pinned (.plain (OpenSpec.upto policyPlainSpec)) policyPlainUptoCard

/-- THE SECOND FORM's CARD OF 'wayfinderlaw09.AddrAgain'. -/
def addrAgainUptoCard : Claim7 := { stood := { row := addrAgainUptoRow, standIns := [], harness := (true, "3021e01b544206c4c15be766a9a6d6c4e020a130699148ff8f497b54630ebb60"), looks := false }, kinds := [], alts := [], laidByText := true, laidKinds := [.data, .data, .data, .data], laidTests := true, laidLooks := .later }
def AddrAgainUptoCardSaid : Prop := Claim7.holds Tryd.pinned (.plain (OpenSpec.upto addrAgainSpec)) addrAgainUptoCard

/-- THE SECOND FORM's CARD OF 'wayfinderlaw09.AddrReads'. -/
def addrReadsUptoCard : Claim7 := { stood := { row := addrReadsUptoRow, standIns := [], harness := (true, "3021e01b544206c4c15be766a9a6d6c4e020a130699148ff8f497b54630ebb60"), looks := false }, kinds := [], alts := [], laidByText := true, laidKinds := [.data, .data, .data, .data], laidTests := true, laidLooks := .later }
def AddrReadsUptoCardSaid : Prop := Claim7.holds Tryd.pinned (.plain (OpenSpec.upto addrReadsSpec)) addrReadsUptoCard
end Rows
end Go.Proofs.YtgbdhfjblebeiaaDoor
