/- Closed facts of the card ScriptNobody. -/
import Derived.Test.YtdkgckgpdogimaaGreatDoorRows
import Derived.Test.YtdkgckgpdogimaaGreatDoorCards
import Derived.KernelRfl
import Derived.SevenTiedAt
namespace Go.Proofs.YtdkgckgpdogimaaGreatDoor
theorem scriptNobody_none : Tryz.prog.funcs.any Func.goes = false := by kernel_rfl
theorem scriptNobody_noGoes (P : Program) (c : OpenClaim) (h : P.funcs.any Func.goes = false) : false = c.goesBy P := by
  have hg : ∀ f, P.goes f = false := by
    intro f
    unfold Program.goes
    rw [h, Bool.and_false, Bool.or_false]
    apply List.any_eq_false.2
    intro g _
    cases hp : P.funcs[g]? with
    | none => simp
    | some fn =>
      have := Array.any_eq_false.1 h
      obtain ⟨hlt, rfl⟩ := Array.getElem?_eq_some_iff.1 hp
      simpa using this g hlt
  unfold OpenClaim.goesBy Program.goesAt Program.goesFrom
  have h1 : (P.funcNamed c.func).any P.goes = false := by cases P.funcNamed c.func <;> simp [hg]
  rw [h1, Bool.false_or]
  cases c.start <;> simp [hg]
theorem scriptNobody_goes : false = Rows.scriptNobodyRow.goesBy Tryz.prog := scriptNobody_noGoes _ _ scriptNobody_none
end Go.Proofs.YtdkgckgpdogimaaGreatDoor

