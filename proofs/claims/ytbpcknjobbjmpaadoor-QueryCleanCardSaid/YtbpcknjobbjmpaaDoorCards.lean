/-
  DERIVED. GIVEN WITH THE SEED: THE CARDS: each row of YtbpcknjobbjmpaaDoorRows.lean that lists a variable, with what it lists TIED to the program's text (the seventh form; the later family's looks); each row that meets fmt, with fmt's text TOLD by the authors' own Lean function (tested against real Go, not proved from fmt's source: count such statements apart). THE CARD IS WHAT COUNTS. Prove the row's statement (the work); the ties are given (YtbpcknjobbjmpaaDoorTie.lean); close each card by the builder's one call (the guide's Derived/Test/ToyasCard.lean, 'card_holds'). Laid BY PROGRAM, IN A SANDBOX (cutbox-door.mjs). By AI agents, Wed Nov 11 2026. No macro, syntax, notation, axiom, sorry.
-/
import Derived.Test.YtbpcknjobbjmpaaDoorRows
import GoSem.ClaimSeven
namespace Go.Proofs.YtbpcknjobbjmpaaDoor
namespace Rows

/-- THE TIED CARD OF 'footmanlaw34.StatsCounts'. -/
def statsCountsCard : Claim7 := { stood := { row := statsCountsRow, standIns := [], harness := (true, "7d0aaed64f88e63d42f52f1324161f1db8d063fdf4e622d8a1d9bdbaeafa7ee9"), looks := false }, kinds := [], alts := [], laidByText := true, laidKinds := [.data, .data, .data], laidTests := true, laidLooks := .later }
def StatsCountsCardSaid : Prop := Claim7.holds Tryd.pinned (.plain (OpenSpec.ofChange statsCountsSpec)) statsCountsCard

/-- THE TIED CARD OF 'footmanlaw34.StatsNobody'. -/
def statsNobodyCard : Claim7 := { stood := { row := statsNobodyRow, standIns := [], harness := (true, "7d0aaed64f88e63d42f52f1324161f1db8d063fdf4e622d8a1d9bdbaeafa7ee9"), looks := false }, kinds := [], alts := [], laidByText := true, laidKinds := [.data, .data, .data], laidTests := true, laidLooks := .later }
def StatsNobodyCardSaid : Prop := Claim7.holds Tryd.pinned (.plain (OpenSpec.ofChange statsNobodySpec)) statsNobodyCard

/-- THE TIED CARD OF 'footmanlaw34.StatsOrder'. -/
def statsOrderCard : Claim7 := { stood := { row := statsOrderRow, standIns := [], harness := (true, "7d0aaed64f88e63d42f52f1324161f1db8d063fdf4e622d8a1d9bdbaeafa7ee9"), looks := false }, kinds := [], alts := [], laidByText := true, laidKinds := [.data, .data, .data], laidTests := true, laidLooks := .later }
def StatsOrderCardSaid : Prop := Claim7.holds Tryd.pinned (.plain (OpenSpec.ofChange statsOrderSpec)) statsOrderCard

/-- THE TIED CARD OF 'footmanlaw37.QueryBack'. -/
def queryBackCard : Claim7 := { stood := { row := queryBackRow, standIns := [], harness := (true, "7d0aaed64f88e63d42f52f1324161f1db8d063fdf4e622d8a1d9bdbaeafa7ee9"), looks := false }, kinds := [], alts := [], laidByText := true, laidKinds := [.data, .pinned], laidTests := true, laidLooks := .later }
def QueryBackCardSaid : Prop := Claim7.holds Tryd.pinned (.plain (OpenSpec.ofChange queryBackSpec)) queryBackCard

/-- THE TIED CARD OF 'footmanlaw37.QueryClean'. -/
def queryCleanCard : Claim7 := { stood := { row := queryCleanRow, standIns := [], harness := (true, "7d0aaed64f88e63d42f52f1324161f1db8d063fdf4e622d8a1d9bdbaeafa7ee9"), looks := false }, kinds := [], alts := [], laidByText := true, laidKinds := [.data, .pinned], laidTests := true, laidLooks := .later }
def QueryCleanCardSaid : Prop := Claim7.holds Tryd.pinned (.plain (OpenSpec.ofChange queryCleanSpec)) queryCleanCard

/-- THE SECOND FORM's CARD OF 'footmanlaw34.StatsCounts'. -/
def statsCountsUptoCard : Claim7 := { stood := { row := statsCountsUptoRow, standIns := [], harness := (true, "7d0aaed64f88e63d42f52f1324161f1db8d063fdf4e622d8a1d9bdbaeafa7ee9"), looks := false }, kinds := [], alts := [], laidByText := true, laidKinds := [.data, .data, .data], laidTests := true, laidLooks := .later }
def StatsCountsUptoCardSaid : Prop := Claim7.holds Tryd.pinned (.plain (OpenSpec.upto statsCountsSpec)) statsCountsUptoCard

/-- THE SECOND FORM's CARD OF 'footmanlaw34.StatsNobody'. -/
def statsNobodyUptoCard : Claim7 := { stood := { row := statsNobodyUptoRow, standIns := [], harness := (true, "7d0aaed64f88e63d42f52f1324161f1db8d063fdf4e622d8a1d9bdbaeafa7ee9"), looks := false }, kinds := [], alts := [], laidByText := true, laidKinds := [.data, .data, .data], laidTests := true, laidLooks := .later }
def StatsNobodyUptoCardSaid : Prop := Claim7.holds Tryd.pinned (.plain (OpenSpec.upto statsNobodySpec)) statsNobodyUptoCard

/-- THE SECOND FORM's CARD OF 'footmanlaw34.StatsOrder'. -/
def statsOrderUptoCard : Claim7 := { stood := { row := statsOrderUptoRow, standIns := [], harness := (true, "7d0aaed64f88e63d42f52f1324161f1db8d063fdf4e622d8a1d9bdbaeafa7ee9"), looks := false }, kinds := [], alts := [], laidByText := true, laidKinds := [.data, .data, .data], laidTests := true, laidLooks := .later }
def StatsOrderUptoCardSaid : Prop := Claim7.holds Tryd.pinned (.plain (OpenSpec.upto statsOrderSpec)) statsOrderUptoCard

/-- THE SECOND FORM's CARD OF 'footmanlaw37.QueryBack'. -/
def queryBackUptoCard : Claim7 := { stood := { row := queryBackUptoRow, standIns := [], harness := (true, "7d0aaed64f88e63d42f52f1324161f1db8d063fdf4e622d8a1d9bdbaeafa7ee9"), looks := false }, kinds := [], alts := [], laidByText := true, laidKinds := [.data, .pinned], laidTests := true, laidLooks := .later }
def QueryBackUptoCardSaid : Prop := Claim7.holds Tryd.pinned (.plain (OpenSpec.upto queryBackSpec)) queryBackUptoCard

/-- THE SECOND FORM's CARD OF 'footmanlaw37.QueryClean'. -/
def queryCleanUptoCard : Claim7 := { stood := { row := queryCleanUptoRow, standIns := [], harness := (true, "7d0aaed64f88e63d42f52f1324161f1db8d063fdf4e622d8a1d9bdbaeafa7ee9"), looks := false }, kinds := [], alts := [], laidByText := true, laidKinds := [.data, .pinned], laidTests := true, laidLooks := .later }
def QueryCleanUptoCardSaid : Prop := Claim7.holds Tryd.pinned (.plain (OpenSpec.upto queryCleanSpec)) queryCleanUptoCard
end Rows
end Go.Proofs.YtbpcknjobbjmpaaDoor
