/-
  DERIVED. GIVEN WITH THE SEED: THE CARDS: each row of YtbffkddlkfefoaaDoorRows.lean that lists a variable, with what it lists TIED to the program's text (the seventh form; the later family's looks); each row that meets fmt, with fmt's text TOLD by the authors' own Lean function (tested against real Go, not proved from fmt's source: count such statements apart). THE CARD IS WHAT COUNTS. Prove the row's statement (the work); the ties are given (YtbffkddlkfefoaaDoorTie.lean); close each card by the builder's one call (the guide's Derived/Test/ToyasCard.lean, 'card_holds'). Laid BY PROGRAM, IN A SANDBOX (cutbox-door.mjs). By AI agents, Wed Nov 11 2026. No macro, syntax, notation, axiom, sorry.
-/
import Derived.Test.YtbffkddlkfefoaaDoorRows
import GoSem.ClaimSeven
namespace Go.Proofs.YtbffkddlkfefoaaDoor
namespace Rows

/-- THE TIED CARD OF 'wayfinderlaw07.QuadBack'. -/
def quadBackCard : Claim7 := { stood := { row := quadBackRow, standIns := [], harness := (true, "5d1349542c95b3024004189b83783a0e0ffee87236cea8e4adb36fb65301300f"), looks := false }, kinds := [], alts := [], laidByText := true, laidKinds := [.data, .data, .data], laidTests := true, laidLooks := .later }
def QuadBackCardSaid : Prop := Claim7.holds Tryd.pinned (.plain (OpenSpec.ofChange quadBackSpec)) quadBackCard

/-- THE TIED CARD OF 'wayfinderlaw19.NssBack'. -/
def nssBackCard : Claim7 := { stood := { row := nssBackRow, standIns := [], harness := (true, "5d1349542c95b3024004189b83783a0e0ffee87236cea8e4adb36fb65301300f"), looks := false }, kinds := [], alts := [], laidByText := true, laidKinds := [.data, .pinned], laidTests := true, laidLooks := .later }
def NssBackCardSaid : Prop := Claim7.holds Tryd.pinned (.plain (OpenSpec.ofChange nssBackSpec)) nssBackCard

/-- THE TIED CARD OF 'wayfinderlaw08.ColonParses'. -/
def colonParsesCard : Claim7 := { stood := { row := colonParsesRow, standIns := [], harness := (true, "5d1349542c95b3024004189b83783a0e0ffee87236cea8e4adb36fb65301300f"), looks := false }, kinds := [], alts := [], laidByText := true, laidKinds := [.data, .data, .data], laidTests := true, laidLooks := .later }
def ColonParsesCardSaid : Prop := Claim7.holds Tryd.pinned (.plain (OpenSpec.ofChange colonParsesSpec)) colonParsesCard

/-- THE TIED CARD OF 'wayfinderlaw08.ColonBack'. -/
def colonBackCard : Claim7 := { stood := { row := colonBackRow, standIns := [], harness := (true, "5d1349542c95b3024004189b83783a0e0ffee87236cea8e4adb36fb65301300f"), looks := false }, kinds := [], alts := [], laidByText := true, laidKinds := [.data, .data, .data], laidTests := true, laidLooks := .later }
def ColonBackCardSaid : Prop := Claim7.holds Tryd.pinned (.plain (OpenSpec.ofChange colonBackSpec)) colonBackCard

/-- THE TIED CARD OF 'wayfinderlaw42.HintsChecks'. -/
def hintsChecksCard : Claim7 := { stood := { row := hintsChecksRow, standIns := [], harness := (true, "5d1349542c95b3024004189b83783a0e0ffee87236cea8e4adb36fb65301300f"), looks := false }, kinds := [], alts := [], laidByText := true, laidKinds := [.data, .data, .data], laidTests := true, laidLooks := .later }
def HintsChecksCardSaid : Prop := Claim7.holds Tryd.pinned (.plain (OpenSpec.ofChange hintsChecksSpec)) hintsChecksCard

/-- THE TIED CARD OF 'wayfinderlaw36.PolicyPlain'. -/
def policyPlainCard : Claim7 := { stood := { row := policyPlainRow, standIns := [], harness := (true, "5d1349542c95b3024004189b83783a0e0ffee87236cea8e4adb36fb65301300f"), looks := false }, kinds := [], alts := [], laidByText := true, laidKinds := [.data, .data, .data], laidTests := true, laidLooks := .later }
def PolicyPlainCardSaid : Prop := Claim7.holds Tryd.pinned (.plain (OpenSpec.ofChange policyPlainSpec)) policyPlainCard

/-- THE TIED CARD OF 'wayfinderlaw09.AddrAgain'. -/
def addrAgainCard : Claim7 := { stood := { row := addrAgainRow, standIns := [], harness := (true, "5d1349542c95b3024004189b83783a0e0ffee87236cea8e4adb36fb65301300f"), looks := false }, kinds := [], alts := [], laidByText := true, laidKinds := [.data, .data, .data, .data], laidTests := true, laidLooks := .later }
def AddrAgainCardSaid : Prop := Claim7.holds Tryd.pinned (.plain (OpenSpec.ofChange addrAgainSpec)) addrAgainCard

/-- THE TIED CARD OF 'wayfinderlaw09.AddrReads'. -/
def addrReadsCard : Claim7 := { stood := { row := addrReadsRow, standIns := [], harness := (true, "5d1349542c95b3024004189b83783a0e0ffee87236cea8e4adb36fb65301300f"), looks := false }, kinds := [], alts := [], laidByText := true, laidKinds := [.data, .data, .data, .data], laidTests := true, laidLooks := .later }
def AddrReadsCardSaid : Prop := Claim7.holds Tryd.pinned (.plain (OpenSpec.ofChange addrReadsSpec)) addrReadsCard

/-- THE TIED CARD OF 'wayfinderlaw18.HostsParses'. -/
def hostsParsesCard : Claim7 := { stood := { row := hostsParsesRow, standIns := [], harness := (true, "5d1349542c95b3024004189b83783a0e0ffee87236cea8e4adb36fb65301300f"), looks := false }, kinds := [], alts := [], laidByText := true, laidKinds := [.data, .data, .data], laidTests := true, laidLooks := .later }
def HostsParsesCardSaid : Prop := Claim7.holds Tryd.pinned (.plain (OpenSpec.ofChange hostsParsesSpec)) hostsParsesCard

/-- THE TIED CARD OF 'wayfinderlaw18.HostsJoins'. -/
def hostsJoinsCard : Claim7 := { stood := { row := hostsJoinsRow, standIns := [], harness := (true, "5d1349542c95b3024004189b83783a0e0ffee87236cea8e4adb36fb65301300f"), looks := false }, kinds := [], alts := [], laidByText := true, laidKinds := [.data, .data, .data], laidTests := true, laidLooks := .later }
def HostsJoinsCardSaid : Prop := Claim7.holds Tryd.pinned (.plain (OpenSpec.ofChange hostsJoinsSpec)) hostsJoinsCard

/-- THE TIED CARD OF 'wayfinderlaw06.IdnaFixed'. -/
def idnaFixedCard : Claim7 := { stood := { row := idnaFixedRow, standIns := [], harness := (true, "5d1349542c95b3024004189b83783a0e0ffee87236cea8e4adb36fb65301300f"), looks := false }, kinds := [], alts := [], laidByText := true, laidKinds := [.data, .pinned], laidTests := true, laidLooks := .later }
def IdnaFixedCardSaid : Prop := Claim7.holds Tryd.pinned (.plain (OpenSpec.ofChange idnaFixedSpec)) idnaFixedCard

/-- THE SECOND FORM's CARD OF 'wayfinderlaw07.QuadBack'. -/
def quadBackUptoCard : Claim7 := { stood := { row := quadBackUptoRow, standIns := [], harness := (true, "5d1349542c95b3024004189b83783a0e0ffee87236cea8e4adb36fb65301300f"), looks := false }, kinds := [], alts := [], laidByText := true, laidKinds := [.data, .data, .data], laidTests := true, laidLooks := .later }
def QuadBackUptoCardSaid : Prop := Claim7.holds Tryd.pinned (.plain (OpenSpec.upto quadBackSpec)) quadBackUptoCard

/-- THE SECOND FORM's CARD OF 'wayfinderlaw19.NssBack'. -/
def nssBackUptoCard : Claim7 := { stood := { row := nssBackUptoRow, standIns := [], harness := (true, "5d1349542c95b3024004189b83783a0e0ffee87236cea8e4adb36fb65301300f"), looks := false }, kinds := [], alts := [], laidByText := true, laidKinds := [.data, .pinned], laidTests := true, laidLooks := .later }
def NssBackUptoCardSaid : Prop := Claim7.holds Tryd.pinned (.plain (OpenSpec.upto nssBackSpec)) nssBackUptoCard

/-- THE SECOND FORM's CARD OF 'wayfinderlaw08.ColonParses'. -/
def colonParsesUptoCard : Claim7 := { stood := { row := colonParsesUptoRow, standIns := [], harness := (true, "5d1349542c95b3024004189b83783a0e0ffee87236cea8e4adb36fb65301300f"), looks := false }, kinds := [], alts := [], laidByText := true, laidKinds := [.data, .data, .data], laidTests := true, laidLooks := .later }
def ColonParsesUptoCardSaid : Prop := Claim7.holds Tryd.pinned (.plain (OpenSpec.upto colonParsesSpec)) colonParsesUptoCard

/-- THE SECOND FORM's CARD OF 'wayfinderlaw08.ColonBack'. -/
def colonBackUptoCard : Claim7 := { stood := { row := colonBackUptoRow, standIns := [], harness := (true, "5d1349542c95b3024004189b83783a0e0ffee87236cea8e4adb36fb65301300f"), looks := false }, kinds := [], alts := [], laidByText := true, laidKinds := [.data, .data, .data], laidTests := true, laidLooks := .later }
def ColonBackUptoCardSaid : Prop := Claim7.holds Tryd.pinned (.plain (OpenSpec.upto colonBackSpec)) colonBackUptoCard

/-- THE SECOND FORM's CARD OF 'wayfinderlaw42.HintsChecks'. -/
def hintsChecksUptoCard : Claim7 := { stood := { row := hintsChecksUptoRow, standIns := [], harness := (true, "5d1349542c95b3024004189b83783a0e0ffee87236cea8e4adb36fb65301300f"), looks := false }, kinds := [], alts := [], laidByText := true, laidKinds := [.data, .data, .data], laidTests := true, laidLooks := .later }
def HintsChecksUptoCardSaid : Prop := Claim7.holds Tryd.pinned (.plain (OpenSpec.upto hintsChecksSpec)) hintsChecksUptoCard

/-- THE SECOND FORM's CARD OF 'wayfinderlaw36.PolicyPlain'. -/
def policyPlainUptoCard : Claim7 := { stood := { row := policyPlainUptoRow, standIns := [], harness := (true, "5d1349542c95b3024004189b83783a0e0ffee87236cea8e4adb36fb65301300f"), looks := false }, kinds := [], alts := [], laidByText := true, laidKinds := [.data, .data, .data], laidTests := true, laidLooks := .later }
def PolicyPlainUptoCardSaid : Prop := Claim7.holds Tryd.pinned (.plain (OpenSpec.upto policyPlainSpec)) policyPlainUptoCard

/-- THE SECOND FORM's CARD OF 'wayfinderlaw09.AddrAgain'. -/
def addrAgainUptoCard : Claim7 := { stood := { row := addrAgainUptoRow, standIns := [], harness := (true, "5d1349542c95b3024004189b83783a0e0ffee87236cea8e4adb36fb65301300f"), looks := false }, kinds := [], alts := [], laidByText := true, laidKinds := [.data, .data, .data, .data], laidTests := true, laidLooks := .later }
def AddrAgainUptoCardSaid : Prop := Claim7.holds Tryd.pinned (.plain (OpenSpec.upto addrAgainSpec)) addrAgainUptoCard

/-- THE SECOND FORM's CARD OF 'wayfinderlaw09.AddrReads'. -/
def addrReadsUptoCard : Claim7 := { stood := { row := addrReadsUptoRow, standIns := [], harness := (true, "5d1349542c95b3024004189b83783a0e0ffee87236cea8e4adb36fb65301300f"), looks := false }, kinds := [], alts := [], laidByText := true, laidKinds := [.data, .data, .data, .data], laidTests := true, laidLooks := .later }
def AddrReadsUptoCardSaid : Prop := Claim7.holds Tryd.pinned (.plain (OpenSpec.upto addrReadsSpec)) addrReadsUptoCard

/-- THE SECOND FORM's CARD OF 'wayfinderlaw18.HostsParses'. -/
def hostsParsesUptoCard : Claim7 := { stood := { row := hostsParsesUptoRow, standIns := [], harness := (true, "5d1349542c95b3024004189b83783a0e0ffee87236cea8e4adb36fb65301300f"), looks := false }, kinds := [], alts := [], laidByText := true, laidKinds := [.data, .data, .data], laidTests := true, laidLooks := .later }
def HostsParsesUptoCardSaid : Prop := Claim7.holds Tryd.pinned (.plain (OpenSpec.upto hostsParsesSpec)) hostsParsesUptoCard

/-- THE SECOND FORM's CARD OF 'wayfinderlaw18.HostsJoins'. -/
def hostsJoinsUptoCard : Claim7 := { stood := { row := hostsJoinsUptoRow, standIns := [], harness := (true, "5d1349542c95b3024004189b83783a0e0ffee87236cea8e4adb36fb65301300f"), looks := false }, kinds := [], alts := [], laidByText := true, laidKinds := [.data, .data, .data], laidTests := true, laidLooks := .later }
def HostsJoinsUptoCardSaid : Prop := Claim7.holds Tryd.pinned (.plain (OpenSpec.upto hostsJoinsSpec)) hostsJoinsUptoCard

/-- THE SECOND FORM's CARD OF 'wayfinderlaw06.IdnaFixed'. -/
def idnaFixedUptoCard : Claim7 := { stood := { row := idnaFixedUptoRow, standIns := [], harness := (true, "5d1349542c95b3024004189b83783a0e0ffee87236cea8e4adb36fb65301300f"), looks := false }, kinds := [], alts := [], laidByText := true, laidKinds := [.data, .pinned], laidTests := true, laidLooks := .later }
def IdnaFixedUptoCardSaid : Prop := Claim7.holds Tryd.pinned (.plain (OpenSpec.upto idnaFixedSpec)) idnaFixedUptoCard
end Rows
end Go.Proofs.YtbffkddlkfefoaaDoor
