/-
  DERIVED. GIVEN WITH THE SEED: THE CARDS: each row of YtecmccihldjicaaDoorRows.lean that lists a variable, with what it lists TIED to the program's text (the seventh form; the later family's looks); each row that meets fmt, with fmt's text TOLD by the authors' own Lean function (tested against real Go, not proved from fmt's source: count such statements apart). THE CARD IS WHAT COUNTS. Prove the row's statement (the work); the ties are given (YtecmccihldjicaaDoorTie.lean); close each card by the builder's one call (the guide's Derived/Test/ToyasCard.lean, 'card_holds'). Laid BY PROGRAM, IN A SANDBOX (cutbox-door.mjs). By AI agents, Wed Nov 11 2026. No macro, syntax, notation, axiom, sorry.
-/
import Derived.Test.YtecmccihldjicaaDoorRows
import GoSem.ClaimSeven
namespace Go.Proofs.YtecmccihldjicaaDoor
namespace Rows

/-- THE TIED CARD OF 'footmanlaw17.RequestReads'. -/
def requestReadsCard : Claim7 := { stood := { row := requestReadsRow, standIns := [], harness := (true, "3abcace9d825ed8391c7cea47b112bb99a9a03f3d16de8e6461781a075fd2e65"), looks := false }, kinds := [], alts := [], laidByText := true, laidKinds := [.data, .data, .data], laidTests := true, laidLooks := .later }
def RequestReadsCardSaid : Prop := Claim7.holds Tryd.pinned (.plain (OpenSpec.ofChange requestReadsSpec)) requestReadsCard

/-- THE TIED CARD OF 'footmanlaw17.RequestTexts'. -/
def requestTextsCard : Claim7 := { stood := { row := requestTextsRow, standIns := [], harness := (true, "3abcace9d825ed8391c7cea47b112bb99a9a03f3d16de8e6461781a075fd2e65"), looks := false }, kinds := [], alts := [], laidByText := true, laidKinds := [.data, .data, .data], laidTests := true, laidLooks := .later }
def RequestTextsCardSaid : Prop := Claim7.holds Tryd.pinned (.plain (OpenSpec.ofChange requestTextsSpec)) requestTextsCard

/-- THE TIED CARD OF 'footmanlaw17.RequestFields'. -/
def requestFieldsCard : Claim7 := { stood := { row := requestFieldsRow, standIns := [], harness := (true, "3abcace9d825ed8391c7cea47b112bb99a9a03f3d16de8e6461781a075fd2e65"), looks := false }, kinds := [], alts := [], laidByText := true, laidKinds := [.data, .data, .data], laidTests := true, laidLooks := .later }
def RequestFieldsCardSaid : Prop := Claim7.holds Tryd.pinned (.plain (OpenSpec.ofChange requestFieldsSpec)) requestFieldsCard

/-- THE TIED CARD OF 'footmanlaw17.RequestBack'. -/
def requestBackCard : Claim7 := { stood := { row := requestBackRow, standIns := [], harness := (true, "3abcace9d825ed8391c7cea47b112bb99a9a03f3d16de8e6461781a075fd2e65"), looks := false }, kinds := [], alts := [], laidByText := true, laidKinds := [.data, .data, .data], laidTests := true, laidLooks := .later }
def RequestBackCardSaid : Prop := Claim7.holds Tryd.pinned (.plain (OpenSpec.ofChange requestBackSpec)) requestBackCard

/-- THE TIED CARD OF 'footmanlaw17.RequestOrder'. -/
def requestOrderCard : Claim7 := { stood := { row := requestOrderRow, standIns := [], harness := (true, "3abcace9d825ed8391c7cea47b112bb99a9a03f3d16de8e6461781a075fd2e65"), looks := false }, kinds := [], alts := [], laidByText := true, laidKinds := [.data, .data, .data], laidTests := true, laidLooks := .later }
def RequestOrderCardSaid : Prop := Claim7.holds Tryd.pinned (.plain (OpenSpec.ofChange requestOrderSpec)) requestOrderCard

/-- THE SECOND FORM's CARD OF 'footmanlaw17.RequestReads'. -/
def requestReadsUptoCard : Claim7 := { stood := { row := requestReadsUptoRow, standIns := [], harness := (true, "3abcace9d825ed8391c7cea47b112bb99a9a03f3d16de8e6461781a075fd2e65"), looks := false }, kinds := [], alts := [], laidByText := true, laidKinds := [.data, .data, .data], laidTests := true, laidLooks := .later }
def RequestReadsUptoCardSaid : Prop := Claim7.holds Tryd.pinned (.plain (OpenSpec.upto requestReadsSpec)) requestReadsUptoCard

/-- THE SECOND FORM's CARD OF 'footmanlaw17.RequestTexts'. -/
def requestTextsUptoCard : Claim7 := { stood := { row := requestTextsUptoRow, standIns := [], harness := (true, "3abcace9d825ed8391c7cea47b112bb99a9a03f3d16de8e6461781a075fd2e65"), looks := false }, kinds := [], alts := [], laidByText := true, laidKinds := [.data, .data, .data], laidTests := true, laidLooks := .later }
def RequestTextsUptoCardSaid : Prop := Claim7.holds Tryd.pinned (.plain (OpenSpec.upto requestTextsSpec)) requestTextsUptoCard

/-- THE SECOND FORM's CARD OF 'footmanlaw17.RequestFields'. -/
def requestFieldsUptoCard : Claim7 := { stood := { row := requestFieldsUptoRow, standIns := [], harness := (true, "3abcace9d825ed8391c7cea47b112bb99a9a03f3d16de8e6461781a075fd2e65"), looks := false }, kinds := [], alts := [], laidByText := true, laidKinds := [.data, .data, .data], laidTests := true, laidLooks := .later }
def RequestFieldsUptoCardSaid : Prop := Claim7.holds Tryd.pinned (.plain (OpenSpec.upto requestFieldsSpec)) requestFieldsUptoCard

/-- THE SECOND FORM's CARD OF 'footmanlaw17.RequestBack'. -/
def requestBackUptoCard : Claim7 := { stood := { row := requestBackUptoRow, standIns := [], harness := (true, "3abcace9d825ed8391c7cea47b112bb99a9a03f3d16de8e6461781a075fd2e65"), looks := false }, kinds := [], alts := [], laidByText := true, laidKinds := [.data, .data, .data], laidTests := true, laidLooks := .later }
def RequestBackUptoCardSaid : Prop := Claim7.holds Tryd.pinned (.plain (OpenSpec.upto requestBackSpec)) requestBackUptoCard

/-- THE SECOND FORM's CARD OF 'footmanlaw17.RequestOrder'. -/
def requestOrderUptoCard : Claim7 := { stood := { row := requestOrderUptoRow, standIns := [], harness := (true, "3abcace9d825ed8391c7cea47b112bb99a9a03f3d16de8e6461781a075fd2e65"), looks := false }, kinds := [], alts := [], laidByText := true, laidKinds := [.data, .data, .data], laidTests := true, laidLooks := .later }
def RequestOrderUptoCardSaid : Prop := Claim7.holds Tryd.pinned (.plain (OpenSpec.upto requestOrderSpec)) requestOrderUptoCard
end Rows
end Go.Proofs.YtecmccihldjicaaDoor
