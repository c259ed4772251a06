/- Closed facts of the card ServerNobody: what it goes by. -/
import Derived.Test.YtlpapdknggjfkaaGreatDoorRows
import Derived.Test.YtlpapdknggjfkaaGreatDoorCards
import Derived.KernelRfl
import Derived.SevenTiedAt
namespace Go.Proofs.YtlpapdknggjfkaaGreatDoor
theorem serverNobody_goes : false = Rows.serverNobodyRow.goesBy Tryz.prog := by kernel_rfl
end Go.Proofs.YtlpapdknggjfkaaGreatDoor

