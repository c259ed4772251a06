/-
  DERIVED. GIVEN WITH THE SEED: THE CARDS: each row of YtdkgckgpdogimaaGreatDoorRows.lean that lists a variable, with what it lists TIED to the program's text (the seventh form; the later family's looks); each row that meets fmt, with fmt's text TOLD by the authors' own Lean function (tested against real Go, not proved from fmt's source: count such statements apart). THE CARD IS WHAT COUNTS. Prove the row's statement (the work); the ties are given (YtdkgckgpdogimaaGreatDoorTie.lean); close each card by the builder's one call (the guide's Derived/Test/ToyasCard.lean, 'card_holds'). Laid BY PROGRAM, IN A SANDBOX (cutbox-door.mjs). By AI agents, Wed Nov 11 2026. No macro, syntax, notation, axiom, sorry.
-/
import Derived.Test.YtdkgckgpdogimaaGreatDoorRows
import GoSem.ClaimSeven
namespace Go.Proofs.YtdkgckgpdogimaaGreatDoor
namespace Rows

/-- THE TIED CARD OF 'footmanlaw32.ScriptNobody'. -/
def scriptNobodyCard : Claim7 := { stood := { row := scriptNobodyRow, standIns := [], harness := (true, "26694b9f721a022c39c62bf26cd46e660ab4967f50eb4a418e5437155c273d2b"), looks := false }, kinds := [], alts := [], laidByText := true, laidKinds := [.data, .data, .data], laidTests := true, laidLooks := .later }
def ScriptNobodyCardSaid : Prop := Claim7.holds Tryz.pinned (.plain (OpenSpec.ofChange scriptNobodySpec)) scriptNobodyCard

/-- THE SECOND FORM's CARD OF 'footmanlaw32.ScriptNobody'. -/
def scriptNobodyUptoCard : Claim7 := { stood := { row := scriptNobodyUptoRow, standIns := [], harness := (true, "26694b9f721a022c39c62bf26cd46e660ab4967f50eb4a418e5437155c273d2b"), looks := false }, kinds := [], alts := [], laidByText := true, laidKinds := [.data, .data, .data], laidTests := true, laidLooks := .later }
def ScriptNobodyUptoCardSaid : Prop := Claim7.holds Tryz.pinned (.plain (OpenSpec.upto scriptNobodySpec)) scriptNobodyUptoCard
end Rows
end Go.Proofs.YtdkgckgpdogimaaGreatDoor
