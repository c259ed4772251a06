/- Closed calls that the kernel has seen to say true. -/
import Derived.Test.YtbmpdldbemgdgaaExZ
namespace Go.Proofs.Ytbmpdldbemgdgaa
open Go.RowKit
set_option linter.unusedVariables false

/-- Nothing is unknown. -/
@[reducible] def bareSy : Sy := ⟨fun _ _ => False, fun _ _ h => h.elim, fun _ _ => ⟨.i64, 0, fun _ h => h.elim⟩, fun _ _ => True, fun _ _ => trivial⟩
/-- A closed call that the kernel has seen to say true. -/
theorem closed_true {P : Program} (hN : namesB P = true) (hm : P.follows .mixedOrders = true) {f : FuncId} (n : Nat) (e : saysTrue (callM P noOra (exec P (fun _ => none) noOra n) f [] 0 .leaf 0 []) = true) (W : World) :
    Calls P f #[] W fun e w' => e = .returned (.bool true) ∧ Below W.heap.size W w' := by
  letI : Sy := bareSy
  obtain ⟨h', c', lg', e⟩ := saysTrue_is e
  refine (start_run noGlob (namesB_ok hN) hm noLoc noSnd noTab rfl (Rep.start trivial) (rps_nil.2 rfl) e).mono ?_
  rintro e w' ⟨ρ, v, rfl, h0, h1, h2, h3⟩
  simp only [AV.rp] at h1
  rw [h1]
  exact ⟨rfl, h3⟩
end Go.Proofs.Ytbmpdldbemgdgaa

