/- SnF0 · SnF1 · SnF2 · SnF3 · SnF4 · SnF5 · SnF6 · SnF7 · SnF8 · SnF9 · SnF10 · SnF11 · SnF: joined by a program, for a claim has at most 60 files. -/
import Derived.Test.YtdkgckgpdogimaaGreatDoorRows
import Derived.KernelRfl
import Derived.JoinedOf
/- Closed facts of the row ScriptNobody (by a program: gen_facts.py). -/
namespace Go.Proofs.YtdkgckgpdogimaaGreatDoor
set_option linter.unusedVariables false
theorem scriptNobody_fact0 : (Rows.scriptNobodyRow.wf (OpenSpec.ofChange Rows.scriptNobodySpec)) = true := by kernel_rfl
theorem scriptNobody_fact3 : (Tryz.f3.params.all (Tryz.prog.readableRec ·)) = true := by kernel_rfl
theorem scriptNobody_fact4 : (namedTie Tryz.prog Rows.scriptNobodyRow.named Rows.scriptNobodySpec.vars) = true := by kernel_rfl
theorem scriptNobody_fact5 : ((Rows.scriptNobodyRow.stops == [])) = true := by kernel_rfl
theorem scriptNobody_fact6 : ((Tryz.prog.stops == [])) = true := by kernel_rfl
theorem scriptNobody_fact7 : ((Rows.scriptNobodyRow.knobs == [])) = true := by kernel_rfl
theorem scriptNobody_fact8 : ((Tryz.prog.stopKnobs == [])) = true := by kernel_rfl
theorem scriptNobody_fact13 : ((Rows.scriptNobodyRow.maps == (Tryz.f3.params.toList ++ Rows.scriptNobodySpec.plain.varTypes Tryz.prog).any (Tryz.prog.mapsRec ·))) = true := by kernel_rfl
theorem scriptNobody_fact14 : ((Rows.scriptNobodyRow.ifaces == (Tryz.f3.params.toList ++ Rows.scriptNobodySpec.plain.varTypes Tryz.prog).any (Tryz.prog.ifacesRec ·))) = true := by kernel_rfl
theorem scriptNobody_fact15 : ((Rows.scriptNobodyRow.mapsOut == Tryz.prog.mapsAmong Tryz.f3.resultTypes.toList)) = true := by kernel_rfl
theorem scriptNobody_fact16 : ((Rows.scriptNobodyRow.loops == (Tryz.f3.params.toList ++ Rows.scriptNobodySpec.plain.varTypes Tryz.prog).any (Tryz.prog.loopsFrom ·))) = true := by kernel_rfl
theorem scriptNobody_fact17 : ((Rows.scriptNobodyRow.wideKeys == (Tryz.f3.params.toList ++ Rows.scriptNobodySpec.plain.varTypes Tryz.prog ++ Tryz.f3.resultTypes.toList).any (Tryz.prog.wideKeysFrom ·))) = true := by kernel_rfl
theorem scriptNobody_fact18 : (Rows.scriptNobodySpec.vars.all (Tryz.prog.varReadable ·)) = true := by kernel_rfl
theorem scriptNobody_fact19 : (Tryz.f3.resultTypes.all (fun t => Tryz.prog.readableRec t && decide (t < Tryz.prog.types.size))) = true := by kernel_rfl
theorem scriptNobody_fact20 : ((Rows.scriptNobodyRow.ifacesOut == Tryz.f3.resultTypes.toList.any (Tryz.prog.ifacesRec ·))) = true := by kernel_rfl
theorem scriptNobody_fact21 : ((Rows.scriptNobodyRow.loopsOut == Tryz.f3.resultTypes.toList.any (Tryz.prog.loopsFrom ·))) = true := by kernel_rfl
theorem scriptNobody_fact23 : (Rows.scriptNobodyRow.shortTexts.isNone) = true := by kernel_rfl
theorem scriptNobody_fact28 : ((Rows.scriptNobodyRow.kinds == (if Rows.scriptNobodyRow.domain.isEmpty then [] else Tryz.f3.params.toList.map fun t => match Tryz.prog.underlying t with | some (.int k) => some k | _ => none))) = true := by kernel_rfl
theorem scriptNobody_fact29 : ((Rows.scriptNobodyRow.pinned == Rows.scriptNobodyRow.pinnedBy)) = true := by kernel_rfl
theorem scriptNobody_fact30 : ((Rows.scriptNobodyRow.veiled == (Tryz.f3.params.toList ++ Rows.scriptNobodySpec.plain.varTypes Tryz.prog ++ Tryz.f3.resultTypes.toList).any (Tryz.prog.veiledRec ·))) = true := by kernel_rfl
theorem scriptNobody_fact31 : (Rows.scriptNobodyRow.veiledFits Tryz.prog Tryz.f3.params.toList (Tryz.f3.params.toList ++ Rows.scriptNobodySpec.plain.varTypes Tryz.prog ++ Tryz.f3.resultTypes.toList)) = true := by kernel_rfl
end Go.Proofs.YtdkgckgpdogimaaGreatDoor


/- Closed facts of the row ScriptNobody (by a program: gen_facts.py). -/
namespace Go.Proofs.YtdkgckgpdogimaaGreatDoor
set_option linter.unusedVariables false
theorem scriptNobody_fact1 : (laidOutB Tryz.prog) = true := by kernel_rfl
end Go.Proofs.YtdkgckgpdogimaaGreatDoor


/- Closed facts of the row ScriptNobody (by a program: gen_facts.py). -/
namespace Go.Proofs.YtdkgckgpdogimaaGreatDoor
set_option linter.unusedVariables false
theorem scriptNobody_fact2 : (mapsRowed Tryz.prog) = true := by kernel_rfl
end Go.Proofs.YtdkgckgpdogimaaGreatDoor


/- Closed facts of the row ScriptNobody (by a program: gen_facts.py). -/
namespace Go.Proofs.YtdkgckgpdogimaaGreatDoor
set_option linter.unusedVariables false
theorem scriptNobody_fact9 : ((Rows.scriptNobodyRow.inPlace == Tryz.prog.inPlace 3)) = true := by kernel_rfl
end Go.Proofs.YtdkgckgpdogimaaGreatDoor


/- Closed facts of the row ScriptNobody (by a program: gen_facts.py). -/
namespace Go.Proofs.YtdkgckgpdogimaaGreatDoor
set_option linter.unusedVariables false
theorem scriptNobody_fact10 : ((Rows.scriptNobodyRow.unfollowed == Tryz.prog.unfollowed 3)) = true := by kernel_rfl
end Go.Proofs.YtdkgckgpdogimaaGreatDoor


/- Closed facts of the row ScriptNobody (by a program: gen_facts.py). -/
namespace Go.Proofs.YtdkgckgpdogimaaGreatDoor
set_option linter.unusedVariables false
theorem scriptNobody_fact11 : ((Rows.scriptNobodyRow.recurses == Tryz.prog.recurses 3)) = true := by kernel_rfl
end Go.Proofs.YtdkgckgpdogimaaGreatDoor


/- Closed facts of the row ScriptNobody (by a program: gen_facts.py). -/
namespace Go.Proofs.YtdkgckgpdogimaaGreatDoor
set_option linter.unusedVariables false
theorem scriptNobody_fact12 : ((Rows.scriptNobodyRow.named == Tryz.prog.varsNamed 3)) = true := by kernel_rfl
end Go.Proofs.YtdkgckgpdogimaaGreatDoor


/- Closed facts of the row ScriptNobody (by a program: gen_facts.py). -/
namespace Go.Proofs.YtdkgckgpdogimaaGreatDoor
set_option linter.unusedVariables false
theorem scriptNobody_fact22 : ((Rows.scriptNobodyRow.plainKeys == Tryz.prog.plainKeys)) = true := by kernel_rfl
end Go.Proofs.YtdkgckgpdogimaaGreatDoor


/- Closed facts of the row ScriptNobody (by a program: gen_facts.py). -/
namespace Go.Proofs.YtdkgckgpdogimaaGreatDoor
set_option linter.unusedVariables false
theorem scriptNobody_fact24 : (Tryz.prog.stopsHeard) = true := by kernel_rfl
end Go.Proofs.YtdkgckgpdogimaaGreatDoor


/- Closed facts of the row ScriptNobody (by a program: gen_facts.py). -/
namespace Go.Proofs.YtdkgckgpdogimaaGreatDoor
set_option linter.unusedVariables false
theorem scriptNobody_fact25 : (Tryz.prog.mayEnter) = true := by kernel_rfl
end Go.Proofs.YtdkgckgpdogimaaGreatDoor


/- Closed facts of the row ScriptNobody (by a program: gen_facts.py). -/
namespace Go.Proofs.YtdkgckgpdogimaaGreatDoor
set_option linter.unusedVariables false
theorem scriptNobody_fact26 : ((Rows.scriptNobodyRow.lifted == Tryz.prog.liftsFinal)) = true := by kernel_rfl
end Go.Proofs.YtdkgckgpdogimaaGreatDoor


/- Closed facts of the row ScriptNobody (by a program: gen_facts.py). -/
namespace Go.Proofs.YtdkgckgpdogimaaGreatDoor
set_option linter.unusedVariables false
theorem scriptNobody_fact27 : ((Tryz.prog.make == some Rows.scriptNobodyRow.make)) = true := by kernel_rfl
end Go.Proofs.YtdkgckgpdogimaaGreatDoor


/- The closed facts of the row ScriptNobody, all together (by a program: gen_facts.py). -/
namespace Go.Proofs.YtdkgckgpdogimaaGreatDoor
theorem scriptNobody_and {a b : Bool} (h : a = true) (k : b = true) : (a && b) = true := by rw [h, k]; rfl
set_option maxRecDepth 100000 in
theorem scriptNobody_closed : joinedFacts Tryz.prog 3 Tryz.f3 Rows.scriptNobodySpec Rows.scriptNobodyRow = true := by
  unfold joinedFacts
  exact (scriptNobody_and (scriptNobody_and (scriptNobody_and (scriptNobody_and (scriptNobody_and (scriptNobody_and (scriptNobody_and (scriptNobody_and (scriptNobody_and (scriptNobody_and (scriptNobody_and (scriptNobody_and (scriptNobody_and (scriptNobody_and (scriptNobody_and (scriptNobody_and (scriptNobody_and (scriptNobody_and (scriptNobody_and (scriptNobody_and (scriptNobody_and (scriptNobody_and (scriptNobody_and (scriptNobody_and (scriptNobody_and (scriptNobody_and (scriptNobody_and (scriptNobody_and (scriptNobody_and (scriptNobody_and (scriptNobody_and scriptNobody_fact0 scriptNobody_fact1) scriptNobody_fact2) scriptNobody_fact3) scriptNobody_fact4) scriptNobody_fact5) scriptNobody_fact6) scriptNobody_fact7) scriptNobody_fact8) scriptNobody_fact9) scriptNobody_fact10) scriptNobody_fact11) scriptNobody_fact12) scriptNobody_fact13) scriptNobody_fact14) scriptNobody_fact15) scriptNobody_fact16) scriptNobody_fact17) scriptNobody_fact18) scriptNobody_fact19) scriptNobody_fact20) scriptNobody_fact21) scriptNobody_fact22) scriptNobody_fact23) scriptNobody_fact24) scriptNobody_fact25) scriptNobody_fact26) scriptNobody_fact27) (by kernel_rfl)) scriptNobody_fact29) scriptNobody_fact30) scriptNobody_fact31)
end Go.Proofs.YtdkgckgpdogimaaGreatDoor

