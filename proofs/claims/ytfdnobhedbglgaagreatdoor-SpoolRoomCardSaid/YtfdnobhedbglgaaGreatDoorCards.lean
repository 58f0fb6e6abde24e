/-
  DERIVED. GIVEN WITH THE SEED: THE CARDS: each row of YtfdnobhedbglgaaGreatDoorRows.lean that lists a variable, with what it lists TIED to the program's text (the seventh form; the later family's looks); each row that meets fmt, with fmt's text TOLD by the authors' own Lean function (tested against real Go, not proved from fmt's source: count such statements apart). THE CARD IS WHAT COUNTS. Prove the row's statement (the work); the ties are given (YtfdnobhedbglgaaGreatDoorTie.lean); close each card by the builder's one call (the guide's Derived/Test/ToyasCard.lean, 'card_holds'). Laid BY PROGRAM, IN A SANDBOX (cutbox-door.mjs). By AI agents, Wed Nov 11 2026. No macro, syntax, notation, axiom, sorry.
-/
import Derived.Test.YtfdnobhedbglgaaGreatDoorRows
import GoSem.ClaimSeven
namespace Go.Proofs.YtfdnobhedbglgaaGreatDoor
namespace Rows

/-- THE TIED CARD OF 'tributarylaw21.SpoolScript'. -/
def spoolScriptCard : Claim7 := { stood := { row := spoolScriptRow, standIns := [], harness := (true, "a209315bec4cc6ae6c80e61e978187a43987a5c57fd577a13e13cd93d849eb48"), looks := false }, kinds := [], alts := [], laidByText := true, laidKinds := [.data, .pinned], laidTests := true, laidLooks := .later }
def SpoolScriptCardSaid : Prop := Claim7.holds Tryz.pinned (.plain (OpenSpec.ofChange spoolScriptSpec)) spoolScriptCard

/-- THE TIED CARD OF 'tributarylaw21.SpoolRoom'. -/
def spoolRoomCard : Claim7 := { stood := { row := spoolRoomRow, standIns := [], harness := (true, "a209315bec4cc6ae6c80e61e978187a43987a5c57fd577a13e13cd93d849eb48"), looks := false }, kinds := [], alts := [], laidByText := true, laidKinds := [.data, .pinned], laidTests := true, laidLooks := .later }
def SpoolRoomCardSaid : Prop := Claim7.holds Tryz.pinned (.plain (OpenSpec.ofChange spoolRoomSpec)) spoolRoomCard

/-- THE SECOND FORM's CARD OF 'tributarylaw21.SpoolScript'. -/
def spoolScriptUptoCard : Claim7 := { stood := { row := spoolScriptUptoRow, standIns := [], harness := (true, "a209315bec4cc6ae6c80e61e978187a43987a5c57fd577a13e13cd93d849eb48"), looks := false }, kinds := [], alts := [], laidByText := true, laidKinds := [.data, .pinned], laidTests := true, laidLooks := .later }
def SpoolScriptUptoCardSaid : Prop := Claim7.holds Tryz.pinned (.plain (OpenSpec.upto spoolScriptSpec)) spoolScriptUptoCard

/-- THE SECOND FORM's CARD OF 'tributarylaw21.SpoolRoom'. -/
def spoolRoomUptoCard : Claim7 := { stood := { row := spoolRoomUptoRow, standIns := [], harness := (true, "a209315bec4cc6ae6c80e61e978187a43987a5c57fd577a13e13cd93d849eb48"), looks := false }, kinds := [], alts := [], laidByText := true, laidKinds := [.data, .pinned], laidTests := true, laidLooks := .later }
def SpoolRoomUptoCardSaid : Prop := Claim7.holds Tryz.pinned (.plain (OpenSpec.upto spoolRoomSpec)) spoolRoomUptoCard
end Rows
end Go.Proofs.YtfdnobhedbglgaaGreatDoor
