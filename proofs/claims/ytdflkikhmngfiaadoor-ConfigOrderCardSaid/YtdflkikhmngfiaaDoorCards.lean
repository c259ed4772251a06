/-
  DERIVED. GIVEN WITH THE SEED: THE CARDS: each row of YtdflkikhmngfiaaDoorRows.lean that lists a variable, with what it lists TIED to the program's text (the seventh form; the later family's looks); each row that meets fmt, with fmt's text TOLD by the authors' own Lean function (tested against real Go, not proved from fmt's source: count such statements apart). THE CARD IS WHAT COUNTS. Prove the row's statement (the work); the ties are given (YtdflkikhmngfiaaDoorTie.lean); close each card by the builder's one call (the guide's Derived/Test/ToyasCard.lean, 'card_holds'). Laid BY PROGRAM, IN A SANDBOX (cutbox-door.mjs). By AI agents, Wed Nov 11 2026. No macro, syntax, notation, axiom, sorry.
-/
import Derived.Test.YtdflkikhmngfiaaDoorRows
import GoSem.ClaimSeven
namespace Go.Proofs.YtdflkikhmngfiaaDoor
namespace Rows

/-- THE TIED CARD OF 'footmanlaw36.ConfigPrints'. -/
def configPrintsCard : Claim7 := { stood := { row := configPrintsRow, standIns := [], harness := (true, "f4d08ca5609287fc8c0d0d77c44c0d34081b75874bb06c1cc9c47f43f4eaef40"), looks := false }, kinds := [], alts := [], laidByText := true, laidKinds := [.data, .data, .data, .data, .pinned], laidTests := true, laidLooks := .later }
def ConfigPrintsCardSaid : Prop := Claim7.holds Tryd.pinned (.plain (OpenSpec.ofChange configPrintsSpec)) configPrintsCard

/-- THE TIED CARD OF 'footmanlaw36.ConfigBack'. -/
def configBackCard : Claim7 := { stood := { row := configBackRow, standIns := [], harness := (true, "f4d08ca5609287fc8c0d0d77c44c0d34081b75874bb06c1cc9c47f43f4eaef40"), looks := false }, kinds := [], alts := [], laidByText := true, laidKinds := [.data, .data, .data, .data, .pinned], laidTests := true, laidLooks := .later }
def ConfigBackCardSaid : Prop := Claim7.holds Tryd.pinned (.plain (OpenSpec.ofChange configBackSpec)) configBackCard

/-- THE TIED CARD OF 'footmanlaw36.ConfigOrder'. -/
def configOrderCard : Claim7 := { stood := { row := configOrderRow, standIns := [], harness := (true, "f4d08ca5609287fc8c0d0d77c44c0d34081b75874bb06c1cc9c47f43f4eaef40"), looks := false }, kinds := [], alts := [], laidByText := true, laidKinds := [.data, .data, .data, .data, .pinned], laidTests := true, laidLooks := .later }
def ConfigOrderCardSaid : Prop := Claim7.holds Tryd.pinned (.plain (OpenSpec.ofChange configOrderSpec)) configOrderCard

/-- THE SECOND FORM's CARD OF 'footmanlaw36.ConfigPrints'. -/
def configPrintsUptoCard : Claim7 := { stood := { row := configPrintsUptoRow, standIns := [], harness := (true, "f4d08ca5609287fc8c0d0d77c44c0d34081b75874bb06c1cc9c47f43f4eaef40"), looks := false }, kinds := [], alts := [], laidByText := true, laidKinds := [.data, .data, .data, .data, .pinned], laidTests := true, laidLooks := .later }
def ConfigPrintsUptoCardSaid : Prop := Claim7.holds Tryd.pinned (.plain (OpenSpec.upto configPrintsSpec)) configPrintsUptoCard

/-- THE SECOND FORM's CARD OF 'footmanlaw36.ConfigBack'. -/
def configBackUptoCard : Claim7 := { stood := { row := configBackUptoRow, standIns := [], harness := (true, "f4d08ca5609287fc8c0d0d77c44c0d34081b75874bb06c1cc9c47f43f4eaef40"), looks := false }, kinds := [], alts := [], laidByText := true, laidKinds := [.data, .data, .data, .data, .pinned], laidTests := true, laidLooks := .later }
def ConfigBackUptoCardSaid : Prop := Claim7.holds Tryd.pinned (.plain (OpenSpec.upto configBackSpec)) configBackUptoCard

/-- THE SECOND FORM's CARD OF 'footmanlaw36.ConfigOrder'. -/
def configOrderUptoCard : Claim7 := { stood := { row := configOrderUptoRow, standIns := [], harness := (true, "f4d08ca5609287fc8c0d0d77c44c0d34081b75874bb06c1cc9c47f43f4eaef40"), looks := false }, kinds := [], alts := [], laidByText := true, laidKinds := [.data, .data, .data, .data, .pinned], laidTests := true, laidLooks := .later }
def ConfigOrderUptoCardSaid : Prop := Claim7.holds Tryd.pinned (.plain (OpenSpec.upto configOrderSpec)) configOrderUptoCard
end Rows
end Go.Proofs.YtdflkikhmngfiaaDoor
