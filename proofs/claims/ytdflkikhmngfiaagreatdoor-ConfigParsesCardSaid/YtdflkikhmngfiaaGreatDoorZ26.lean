/- Closed calls that the kernel has seen to say true. -/
import Derived.Test.YtdflkikhmngfiaaGreatDoorZ19
namespace Go.Proofs.YtdflkikhmngfiaaGreatDoor
open Go.RowKit
set_option linter.unusedVariables false

/-- A closed call that the kernel has seen to say true. -/
theorem closed_true {P : Program} (hN : namesB P = true) (hm : P.follows .mixedOrders = true) {f : FuncId} (n : Nat) (e : saysTrue (callM P noOra (@exec noDc P (fun _ => none) noOra n) f [] 0 .leaf 0 []) = true) (W : World) :
    Calls P f #[] W fun e w' => e = .returned (.bool true) ∧ Below W.heap.size W w' := by
  letI : Sy := bareSy
  letI : Dc := noDc
  haveI : DcOK := noDc_ok
  obtain ⟨h', c', lg', e⟩ := saysTrue_is e
  refine (start_run noGlob (namesB_ok hN) hm noLoc noSnd noTab rfl (Rep.startE trivial (fun _ _ h => by cases h)) (rps_nil.2 rfl) e).mono ?_
  rintro e w' ⟨ρ, v, rfl, h0, h1, h2, h3⟩
  simp only [AV.rp] at h1
  rw [h1]
  exact ⟨rfl, h3⟩
end Go.Proofs.YtdflkikhmngfiaaGreatDoor

