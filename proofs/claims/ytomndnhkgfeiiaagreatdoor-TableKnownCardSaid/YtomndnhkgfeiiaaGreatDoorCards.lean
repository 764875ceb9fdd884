/-
  DERIVED. GIVEN WITH THE SEED: THE CARDS: each row of YtomndnhkgfeiiaaGreatDoorRows.lean that lists a variable, with what it lists TIED to the program's text (the seventh form; the later family's looks); each row that meets fmt, with fmt's text TOLD by the authors' own Lean function (tested against real Go, not proved from fmt's source: count such statements apart). THE CARD IS WHAT COUNTS. Prove the row's statement (the work); the ties are given (YtomndnhkgfeiiaaGreatDoorTie.lean); close each card by the builder's one call (the guide's Derived/Test/ToyasCard.lean, 'card_holds'). Laid BY PROGRAM, IN A SANDBOX (cutbox-door.mjs). By AI agents, Wed Nov 11 2026. No macro, syntax, notation, axiom, sorry.
-/
import Derived.Test.YtomndnhkgfeiiaaGreatDoorRows
import GoSem.ClaimSeven
namespace Go.Proofs.YtomndnhkgfeiiaaGreatDoor
namespace Rows

/-- THE TIED CARD OF 'dragomanlaw16.RunLimits'. -/
def runLimitsCard : Claim7 := { stood := { row := runLimitsRow, standIns := [], harness := (true, "c6ff7038673e1aa843bfd38cb0985a7988ef122ab7587a0e1bf9807861151a8a"), looks := true }, kinds := [], alts := [], laidByText := true, laidKinds := [.data, .data, .data], laidTests := true, laidLooks := .later }
def RunLimitsCardSaid : Prop := Claim7.holds Tryz.pinned (.plain (OpenSpec.ofChange runLimitsSpec)) runLimitsCard

/-- THE TIED CARD OF 'dragomanlaw28.AuditKnown'. -/
def auditKnownCard : Claim7 := { stood := { row := auditKnownRow, standIns := [], harness := (true, "c6ff7038673e1aa843bfd38cb0985a7988ef122ab7587a0e1bf9807861151a8a"), looks := true }, kinds := [], alts := [], laidByText := true, laidKinds := [.data, .data, .data], laidTests := true, laidLooks := .later }
def AuditKnownCardSaid : Prop := Claim7.holds Tryz.pinned (.plain (OpenSpec.ofChange auditKnownSpec)) auditKnownCard

/-- THE TIED CARD OF 'dragomanlaw25.DriverKnown'. -/
def driverKnownCard : Claim7 := { stood := { row := driverKnownRow, standIns := [], harness := (true, "c6ff7038673e1aa843bfd38cb0985a7988ef122ab7587a0e1bf9807861151a8a"), looks := true }, kinds := [], alts := [], laidByText := true, laidKinds := [.data, .data, .data], laidTests := true, laidLooks := .later }
def DriverKnownCardSaid : Prop := Claim7.holds Tryz.pinned (.plain (OpenSpec.ofChange driverKnownSpec)) driverKnownCard

/-- THE TIED CARD OF 'dragomanlaw24.TableKnown'. -/
def tableKnownCard : Claim7 := { stood := { row := tableKnownRow, standIns := [], harness := (true, "c6ff7038673e1aa843bfd38cb0985a7988ef122ab7587a0e1bf9807861151a8a"), looks := true }, kinds := [], alts := [], laidByText := true, laidKinds := [.data, .data, .data], laidTests := true, laidLooks := .later }
def TableKnownCardSaid : Prop := Claim7.holds Tryz.pinned (.plain (OpenSpec.ofChange tableKnownSpec)) tableKnownCard

/-- THE SECOND FORM's CARD OF 'dragomanlaw16.RunLimits'. -/
def runLimitsUptoCard : Claim7 := { stood := { row := runLimitsUptoRow, standIns := [], harness := (true, "c6ff7038673e1aa843bfd38cb0985a7988ef122ab7587a0e1bf9807861151a8a"), looks := true }, kinds := [], alts := [], laidByText := true, laidKinds := [.data, .data, .data], laidTests := true, laidLooks := .later }
def RunLimitsUptoCardSaid : Prop := Claim7.holds Tryz.pinned (.plain (OpenSpec.upto runLimitsSpec)) runLimitsUptoCard

/-- THE SECOND FORM's CARD OF 'dragomanlaw28.AuditKnown'. -/
def auditKnownUptoCard : Claim7 := { stood := { row := auditKnownUptoRow, standIns := [], harness := (true, "c6ff7038673e1aa843bfd38cb0985a7988ef122ab7587a0e1bf9807861151a8a"), looks := true }, kinds := [], alts := [], laidByText := true, laidKinds := [.data, .data, .data], laidTests := true, laidLooks := .later }
def AuditKnownUptoCardSaid : Prop := Claim7.holds Tryz.pinned (.plain (OpenSpec.upto auditKnownSpec)) auditKnownUptoCard

/-- THE SECOND FORM's CARD OF 'dragomanlaw25.DriverKnown'. -/
def driverKnownUptoCard : Claim7 := { stood := { row := driverKnownUptoRow, standIns := [], harness := (true, "c6ff7038673e1aa843bfd38cb0985a7988ef122ab7587a0e1bf9807861151a8a"), looks := true }, kinds := [], alts := [], laidByText := true, laidKinds := [.data, .data, .data], laidTests := true, laidLooks := .later }
def DriverKnownUptoCardSaid : Prop := Claim7.holds Tryz.pinned (.plain (OpenSpec.upto driverKnownSpec)) driverKnownUptoCard

/-- THE SECOND FORM's CARD OF 'dragomanlaw24.TableKnown'. -/
def tableKnownUptoCard : Claim7 := { stood := { row := tableKnownUptoRow, standIns := [], harness := (true, "c6ff7038673e1aa843bfd38cb0985a7988ef122ab7587a0e1bf9807861151a8a"), looks := true }, kinds := [], alts := [], laidByText := true, laidKinds := [.data, .data, .data], laidTests := true, laidLooks := .later }
def TableKnownUptoCardSaid : Prop := Claim7.holds Tryz.pinned (.plain (OpenSpec.upto tableKnownSpec)) tableKnownUptoCard
end Rows
end Go.Proofs.YtomndnhkgfeiiaaGreatDoor
