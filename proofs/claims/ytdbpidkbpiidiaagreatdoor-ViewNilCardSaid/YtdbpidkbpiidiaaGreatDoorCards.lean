/-
  DERIVED. GIVEN WITH THE SEED: THE CARDS: each row of YtdbpidkbpiidiaaGreatDoorRows.lean that lists a variable, with what it lists TIED to the program's text (the seventh form; the later family's looks); each row that meets fmt, with fmt's text TOLD by the authors' own Lean function (tested against real Go, not proved from fmt's source: count such statements apart). THE CARD IS WHAT COUNTS. Prove the row's statement (the work); the ties are given (YtdbpidkbpiidiaaGreatDoorTie.lean); close each card by the builder's one call (the guide's Derived/Test/ToyasCard.lean, 'card_holds'). Laid BY PROGRAM, IN A SANDBOX (cutbox-door.mjs). By AI agents, Wed Nov 11 2026. No macro, syntax, notation, axiom, sorry.
-/
import Derived.Test.YtdbpidkbpiidiaaGreatDoorRows
import GoSem.ClaimSeven
namespace Go.Proofs.YtdbpidkbpiidiaaGreatDoor
namespace Rows

/-- THE TIED CARD OF 'seepagelaw38.ViewLong'. -/
def viewLongCard : Claim7 := { stood := { row := viewLongRow, standIns := [], harness := (true, "49e03b334bbccd7382e456d623882736c6c0ce025760e47e37d400d3e9dd5169"), looks := true }, kinds := [], alts := [], laidByText := true, laidKinds := [.data, .data], laidTests := true, laidLooks := .later }
def ViewLongCardSaid : Prop := Claim7.holds Tryz.pinned (.plain (OpenSpec.ofChange viewLongSpec)) viewLongCard

/-- THE TIED CARD OF 'seepagelaw38.ViewNil'. -/
def viewNilCard : Claim7 := { stood := { row := viewNilRow, standIns := [], harness := (true, "49e03b334bbccd7382e456d623882736c6c0ce025760e47e37d400d3e9dd5169"), looks := true }, kinds := [], alts := [], laidByText := true, laidKinds := [.data, .data], laidTests := true, laidLooks := .later }
def ViewNilCardSaid : Prop := Claim7.holds Tryz.pinned (.plain (OpenSpec.ofChange viewNilSpec)) viewNilCard

/-- THE SECOND FORM's CARD OF 'seepagelaw38.ViewLong'. -/
def viewLongUptoCard : Claim7 := { stood := { row := viewLongUptoRow, standIns := [], harness := (true, "49e03b334bbccd7382e456d623882736c6c0ce025760e47e37d400d3e9dd5169"), looks := true }, kinds := [], alts := [], laidByText := true, laidKinds := [.data, .data], laidTests := true, laidLooks := .later }
def ViewLongUptoCardSaid : Prop := Claim7.holds Tryz.pinned (.plain (OpenSpec.upto viewLongSpec)) viewLongUptoCard

/-- THE SECOND FORM's CARD OF 'seepagelaw38.ViewNil'. -/
def viewNilUptoCard : Claim7 := { stood := { row := viewNilUptoRow, standIns := [], harness := (true, "49e03b334bbccd7382e456d623882736c6c0ce025760e47e37d400d3e9dd5169"), looks := true }, kinds := [], alts := [], laidByText := true, laidKinds := [.data, .data], laidTests := true, laidLooks := .later }
def ViewNilUptoCardSaid : Prop := Claim7.holds Tryz.pinned (.plain (OpenSpec.upto viewNilSpec)) viewNilUptoCard
end Rows
end Go.Proofs.YtdbpidkbpiidiaaGreatDoor
