/-
  DERIVED. GIVEN WITH THE SEED: THE CARDS: each row of YtgebcifkbldfoaaDoorRows.lean that lists a variable, with what it lists TIED to the program's text (the seventh form; the later family's looks); each row that meets fmt, with fmt's text TOLD by the authors' own Lean function (tested against real Go, not proved from fmt's source: count such statements apart). THE CARD IS WHAT COUNTS. Prove the row's statement (the work); the ties are given (YtgebcifkbldfoaaDoorTie.lean); close each card by the builder's one call (the guide's Derived/Test/ToyasCard.lean, 'card_holds'). Laid BY PROGRAM, IN A SANDBOX (cutbox-door.mjs). By AI agents, Wed Nov 11 2026. No macro, syntax, notation, axiom, sorry.
-/
import Derived.Test.YtgebcifkbldfoaaDoorRows
import GoSem.ClaimSeven
namespace Go.Proofs.YtgebcifkbldfoaaDoor
namespace Rows

/-- THE TIED CARD OF 'wayfinderlaw19.NssBack'. -/
def nssBackCard : Claim7 := { stood := { row := nssBackRow, standIns := [], harness := (true, "b7514439bb8989f3293f3827150c50df3ad38a9294b6fcb10fb65e9bc405bcba"), looks := false }, kinds := [], alts := [], laidByText := true, laidKinds := [.data, .pinned], laidTests := true, laidLooks := .later }
def NssBackCardSaid : Prop := Claim7.holds Tryd.pinned (.plain (OpenSpec.ofChange nssBackSpec)) nssBackCard

/-- THE TIED CARD OF 'wayfinderlaw44.ScriptLines'. -/
def scriptLinesCard : Claim7 := { stood := { row := scriptLinesRow, standIns := [], harness := (true, "b7514439bb8989f3293f3827150c50df3ad38a9294b6fcb10fb65e9bc405bcba"), looks := false }, kinds := [], alts := [], laidByText := true, laidKinds := [.data, .data, .data, .data, .pinned], laidTests := true, laidLooks := .later }
def ScriptLinesCardSaid : Prop := Claim7.holds Tryd.pinned (.plain (OpenSpec.ofChange scriptLinesSpec)) scriptLinesCard

/-- THE TIED CARD OF 'wayfinderlaw18.HostsParses'. -/
def hostsParsesCard : Claim7 := { stood := { row := hostsParsesRow, standIns := [], harness := (true, "b7514439bb8989f3293f3827150c50df3ad38a9294b6fcb10fb65e9bc405bcba"), looks := false }, kinds := [], alts := [], laidByText := true, laidKinds := [.data, .data, .data], laidTests := true, laidLooks := .later }
def HostsParsesCardSaid : Prop := Claim7.holds Tryd.pinned (.plain (OpenSpec.ofChange hostsParsesSpec)) hostsParsesCard

/-- THE TIED CARD OF 'wayfinderlaw18.HostsJoins'. -/
def hostsJoinsCard : Claim7 := { stood := { row := hostsJoinsRow, standIns := [], harness := (true, "b7514439bb8989f3293f3827150c50df3ad38a9294b6fcb10fb65e9bc405bcba"), looks := false }, kinds := [], alts := [], laidByText := true, laidKinds := [.data, .data, .data], laidTests := true, laidLooks := .later }
def HostsJoinsCardSaid : Prop := Claim7.holds Tryd.pinned (.plain (OpenSpec.ofChange hostsJoinsSpec)) hostsJoinsCard

/-- THE TIED CARD OF 'wayfinderlaw18.HostsFinds'. -/
def hostsFindsCard : Claim7 := { stood := { row := hostsFindsRow, standIns := [], harness := (true, "b7514439bb8989f3293f3827150c50df3ad38a9294b6fcb10fb65e9bc405bcba"), looks := false }, kinds := [], alts := [], laidByText := true, laidKinds := [.data, .data, .data], laidTests := true, laidLooks := .later }
def HostsFindsCardSaid : Prop := Claim7.holds Tryd.pinned (.plain (OpenSpec.ofChange hostsFindsSpec)) hostsFindsCard

/-- THE TIED CARD OF 'wayfinderlaw17.ResolvSkips'. -/
def resolvSkipsCard : Claim7 := { stood := { row := resolvSkipsRow, standIns := [], harness := (true, "b7514439bb8989f3293f3827150c50df3ad38a9294b6fcb10fb65e9bc405bcba"), looks := false }, kinds := [], alts := [], laidByText := true, laidKinds := [.data, .data, .data], laidTests := true, laidLooks := .later }
def ResolvSkipsCardSaid : Prop := Claim7.holds Tryd.pinned (.plain (OpenSpec.ofChange resolvSkipsSpec)) resolvSkipsCard

/-- THE TIED CARD OF 'wayfinderlaw17.ResolvHeld'. -/
def resolvHeldCard : Claim7 := { stood := { row := resolvHeldRow, standIns := [], harness := (true, "b7514439bb8989f3293f3827150c50df3ad38a9294b6fcb10fb65e9bc405bcba"), looks := false }, kinds := [], alts := [], laidByText := true, laidKinds := [.data, .data, .data], laidTests := true, laidLooks := .later }
def ResolvHeldCardSaid : Prop := Claim7.holds Tryd.pinned (.plain (OpenSpec.ofChange resolvHeldSpec)) resolvHeldCard

/-- THE TIED CARD OF 'wayfinderlaw17.ResolvJoins'. -/
def resolvJoinsCard : Claim7 := { stood := { row := resolvJoinsRow, standIns := [], harness := (true, "b7514439bb8989f3293f3827150c50df3ad38a9294b6fcb10fb65e9bc405bcba"), looks := false }, kinds := [], alts := [], laidByText := true, laidKinds := [.data, .data, .data], laidTests := true, laidLooks := .later }
def ResolvJoinsCardSaid : Prop := Claim7.holds Tryd.pinned (.plain (OpenSpec.ofChange resolvJoinsSpec)) resolvJoinsCard

/-- THE SECOND FORM's CARD OF 'wayfinderlaw19.NssBack'. -/
def nssBackUptoCard : Claim7 := { stood := { row := nssBackUptoRow, standIns := [], harness := (true, "b7514439bb8989f3293f3827150c50df3ad38a9294b6fcb10fb65e9bc405bcba"), looks := false }, kinds := [], alts := [], laidByText := true, laidKinds := [.data, .pinned], laidTests := true, laidLooks := .later }
def NssBackUptoCardSaid : Prop := Claim7.holds Tryd.pinned (.plain (OpenSpec.upto nssBackSpec)) nssBackUptoCard

/-- THE SECOND FORM's CARD OF 'wayfinderlaw44.ScriptLines'. -/
def scriptLinesUptoCard : Claim7 := { stood := { row := scriptLinesUptoRow, standIns := [], harness := (true, "b7514439bb8989f3293f3827150c50df3ad38a9294b6fcb10fb65e9bc405bcba"), looks := false }, kinds := [], alts := [], laidByText := true, laidKinds := [.data, .data, .data, .data, .pinned], laidTests := true, laidLooks := .later }
def ScriptLinesUptoCardSaid : Prop := Claim7.holds Tryd.pinned (.plain (OpenSpec.upto scriptLinesSpec)) scriptLinesUptoCard

/-- THE SECOND FORM's CARD OF 'wayfinderlaw18.HostsParses'. -/
def hostsParsesUptoCard : Claim7 := { stood := { row := hostsParsesUptoRow, standIns := [], harness := (true, "b7514439bb8989f3293f3827150c50df3ad38a9294b6fcb10fb65e9bc405bcba"), looks := false }, kinds := [], alts := [], laidByText := true, laidKinds := [.data, .data, .data], laidTests := true, laidLooks := .later }
def HostsParsesUptoCardSaid : Prop := Claim7.holds Tryd.pinned (.plain (OpenSpec.upto hostsParsesSpec)) hostsParsesUptoCard

/-- THE SECOND FORM's CARD OF 'wayfinderlaw18.HostsJoins'. -/
def hostsJoinsUptoCard : Claim7 := { stood := { row := hostsJoinsUptoRow, standIns := [], harness := (true, "b7514439bb8989f3293f3827150c50df3ad38a9294b6fcb10fb65e9bc405bcba"), looks := false }, kinds := [], alts := [], laidByText := true, laidKinds := [.data, .data, .data], laidTests := true, laidLooks := .later }
def HostsJoinsUptoCardSaid : Prop := Claim7.holds Tryd.pinned (.plain (OpenSpec.upto hostsJoinsSpec)) hostsJoinsUptoCard

/-- THE SECOND FORM's CARD OF 'wayfinderlaw18.HostsFinds'. -/
def hostsFindsUptoCard : Claim7 := { stood := { row := hostsFindsUptoRow, standIns := [], harness := (true, "b7514439bb8989f3293f3827150c50df3ad38a9294b6fcb10fb65e9bc405bcba"), looks := false }, kinds := [], alts := [], laidByText := true, laidKinds := [.data, .data, .data], laidTests := true, laidLooks := .later }
def HostsFindsUptoCardSaid : Prop := Claim7.holds Tryd.pinned (.plain (OpenSpec.upto hostsFindsSpec)) hostsFindsUptoCard

/-- THE SECOND FORM's CARD OF 'wayfinderlaw17.ResolvSkips'. -/
def resolvSkipsUptoCard : Claim7 := { stood := { row := resolvSkipsUptoRow, standIns := [], harness := (true, "b7514439bb8989f3293f3827150c50df3ad38a9294b6fcb10fb65e9bc405bcba"), looks := false }, kinds := [], alts := [], laidByText := true, laidKinds := [.data, .data, .data], laidTests := true, laidLooks := .later }
def ResolvSkipsUptoCardSaid : Prop := Claim7.holds Tryd.pinned (.plain (OpenSpec.upto resolvSkipsSpec)) resolvSkipsUptoCard

/-- THE SECOND FORM's CARD OF 'wayfinderlaw17.ResolvHeld'. -/
def resolvHeldUptoCard : Claim7 := { stood := { row := resolvHeldUptoRow, standIns := [], harness := (true, "b7514439bb8989f3293f3827150c50df3ad38a9294b6fcb10fb65e9bc405bcba"), looks := false }, kinds := [], alts := [], laidByText := true, laidKinds := [.data, .data, .data], laidTests := true, laidLooks := .later }
def ResolvHeldUptoCardSaid : Prop := Claim7.holds Tryd.pinned (.plain (OpenSpec.upto resolvHeldSpec)) resolvHeldUptoCard

/-- THE SECOND FORM's CARD OF 'wayfinderlaw17.ResolvJoins'. -/
def resolvJoinsUptoCard : Claim7 := { stood := { row := resolvJoinsUptoRow, standIns := [], harness := (true, "b7514439bb8989f3293f3827150c50df3ad38a9294b6fcb10fb65e9bc405bcba"), looks := false }, kinds := [], alts := [], laidByText := true, laidKinds := [.data, .data, .data], laidTests := true, laidLooks := .later }
def ResolvJoinsUptoCardSaid : Prop := Claim7.holds Tryd.pinned (.plain (OpenSpec.upto resolvJoinsSpec)) resolvJoinsUptoCard
end Rows
end Go.Proofs.YtgebcifkbldfoaaDoor
