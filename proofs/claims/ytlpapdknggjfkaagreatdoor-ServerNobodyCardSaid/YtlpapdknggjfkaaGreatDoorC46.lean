/- SvG2 · SvG: joined by a program, for a claim has at most 60 files. -/
import Derived.Test.YtlpapdknggjfkaaGreatDoorRows
import Derived.Test.YtlpapdknggjfkaaGreatDoorCards
import Derived.KernelRfl
import Derived.SevenTiedAt
import Derived.Test.YtlpapdknggjfkaaGreatDoorC45
/- Closed facts of the card ServerNobody: the others. -/
namespace Go.Proofs.YtlpapdknggjfkaaGreatDoor
theorem serverNobody_named : Tryz.prog.funcNamed "footman/footmanlaw30.ServerNobody" = some 3 := by kernel_rfl
theorem serverNobody_wfText : Rows.serverNobodyRow.wfByText (OpenSpec.ofChange Rows.serverNobodySpec) = true := by kernel_rfl
theorem serverNobody_looks : false = Tryz.prog.looks [] := by kernel_rfl
theorem serverNobody_main : Tryz.prog.mainIs = some (Rows.serverNobodyCard.stood.harness.1, Rows.serverNobodyCard.stood.harness.2.toList) := by kernel_rfl
end Go.Proofs.YtlpapdknggjfkaaGreatDoor


/- Closed facts of the card ServerNobody. -/

