/- SnG2 · SnG: joined by a program, for a claim has at most 60 files. -/
import Derived.Test.YtdkgckgpdogimaaGreatDoorRows
import Derived.Test.YtdkgckgpdogimaaGreatDoorCards
import Derived.KernelRfl
import Derived.SevenTiedAt
import Derived.Test.YtdkgckgpdogimaaGreatDoorC45
/- Closed facts of the card ScriptNobody. -/
namespace Go.Proofs.YtdkgckgpdogimaaGreatDoor
theorem scriptNobody_named : Tryz.prog.funcNamed "footman/footmanlaw32.ScriptNobody" = some 3 := by kernel_rfl
theorem scriptNobody_wfText : Rows.scriptNobodyRow.wfByText (OpenSpec.ofChange Rows.scriptNobodySpec) = true := by kernel_rfl
theorem scriptNobody_looks : false = Tryz.prog.looks [] := by kernel_rfl
theorem scriptNobody_main : Tryz.prog.mainIs = some (Rows.scriptNobodyCard.stood.harness.1, Rows.scriptNobodyCard.stood.harness.2.toList) := by kernel_rfl
end Go.Proofs.YtdkgckgpdogimaaGreatDoor


/- Closed facts of the card ScriptNobody, both texts. -/

