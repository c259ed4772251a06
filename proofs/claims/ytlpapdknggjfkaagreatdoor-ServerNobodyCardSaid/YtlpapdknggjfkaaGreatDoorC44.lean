/- SvF0 · SvF1 · SvF2 · SvF3 · SvF4 · SvF5 · SvF6 · SvF7 · SvF8 · SvF9 · SvF10 · SvF11 · SvF: joined by a program, for a claim has at most 60 files. -/
import Derived.Test.YtlpapdknggjfkaaGreatDoorRows
import Derived.KernelRfl
import Derived.JoinedOf
/- Closed facts of the row ServerNobody (by a program: gen_facts.py). -/
namespace Go.Proofs.YtlpapdknggjfkaaGreatDoor
set_option linter.unusedVariables false
theorem serverNobody_fact0 : (Rows.serverNobodyRow.wf (OpenSpec.ofChange Rows.serverNobodySpec)) = true := by kernel_rfl
theorem serverNobody_fact3 : (Tryz.f3.params.all (Tryz.prog.readableRec ·)) = true := by kernel_rfl
theorem serverNobody_fact4 : (namedTie Tryz.prog Rows.serverNobodyRow.named Rows.serverNobodySpec.vars) = true := by kernel_rfl
theorem serverNobody_fact5 : ((Rows.serverNobodyRow.stops == [])) = true := by kernel_rfl
theorem serverNobody_fact6 : ((Tryz.prog.stops == [])) = true := by kernel_rfl
theorem serverNobody_fact7 : ((Rows.serverNobodyRow.knobs == [])) = true := by kernel_rfl
theorem serverNobody_fact8 : ((Tryz.prog.stopKnobs == [])) = true := by kernel_rfl
theorem serverNobody_fact13 : ((Rows.serverNobodyRow.maps == (Tryz.f3.params.toList ++ Rows.serverNobodySpec.plain.varTypes Tryz.prog).any (Tryz.prog.mapsRec ·))) = true := by kernel_rfl
theorem serverNobody_fact14 : ((Rows.serverNobodyRow.ifaces == (Tryz.f3.params.toList ++ Rows.serverNobodySpec.plain.varTypes Tryz.prog).any (Tryz.prog.ifacesRec ·))) = true := by kernel_rfl
theorem serverNobody_fact15 : ((Rows.serverNobodyRow.mapsOut == Tryz.prog.mapsAmong Tryz.f3.resultTypes.toList)) = true := by kernel_rfl
theorem serverNobody_fact16 : ((Rows.serverNobodyRow.loops == (Tryz.f3.params.toList ++ Rows.serverNobodySpec.plain.varTypes Tryz.prog).any (Tryz.prog.loopsFrom ·))) = true := by kernel_rfl
theorem serverNobody_fact17 : ((Rows.serverNobodyRow.wideKeys == (Tryz.f3.params.toList ++ Rows.serverNobodySpec.plain.varTypes Tryz.prog ++ Tryz.f3.resultTypes.toList).any (Tryz.prog.wideKeysFrom ·))) = true := by kernel_rfl
theorem serverNobody_fact18 : (Rows.serverNobodySpec.vars.all (Tryz.prog.varReadable ·)) = true := by kernel_rfl
theorem serverNobody_fact19 : (Tryz.f3.resultTypes.all (fun t => Tryz.prog.readableRec t && decide (t < Tryz.prog.types.size))) = true := by kernel_rfl
theorem serverNobody_fact20 : ((Rows.serverNobodyRow.ifacesOut == Tryz.f3.resultTypes.toList.any (Tryz.prog.ifacesRec ·))) = true := by kernel_rfl
theorem serverNobody_fact21 : ((Rows.serverNobodyRow.loopsOut == Tryz.f3.resultTypes.toList.any (Tryz.prog.loopsFrom ·))) = true := by kernel_rfl
theorem serverNobody_fact23 : (Rows.serverNobodyRow.shortTexts.isNone) = true := by kernel_rfl
theorem serverNobody_fact28 : ((Rows.serverNobodyRow.kinds == (if Rows.serverNobodyRow.domain.isEmpty then [] else Tryz.f3.params.toList.map fun t => match Tryz.prog.underlying t with | some (.int k) => some k | _ => none))) = true := by kernel_rfl
theorem serverNobody_fact29 : ((Rows.serverNobodyRow.pinned == Rows.serverNobodyRow.pinnedBy)) = true := by kernel_rfl
theorem serverNobody_fact30 : ((Rows.serverNobodyRow.veiled == (Tryz.f3.params.toList ++ Rows.serverNobodySpec.plain.varTypes Tryz.prog ++ Tryz.f3.resultTypes.toList).any (Tryz.prog.veiledRec ·))) = true := by kernel_rfl
theorem serverNobody_fact31 : (Rows.serverNobodyRow.veiledFits Tryz.prog Tryz.f3.params.toList (Tryz.f3.params.toList ++ Rows.serverNobodySpec.plain.varTypes Tryz.prog ++ Tryz.f3.resultTypes.toList)) = true := by kernel_rfl
end Go.Proofs.YtlpapdknggjfkaaGreatDoor


/- Closed facts of the row ServerNobody (by a program: gen_facts.py). -/
namespace Go.Proofs.YtlpapdknggjfkaaGreatDoor
set_option linter.unusedVariables false
theorem serverNobody_fact1 : (laidOutB Tryz.prog) = true := by kernel_rfl
end Go.Proofs.YtlpapdknggjfkaaGreatDoor


/- Closed facts of the row ServerNobody (by a program: gen_facts.py). -/
namespace Go.Proofs.YtlpapdknggjfkaaGreatDoor
set_option linter.unusedVariables false
theorem serverNobody_fact2 : (mapsRowed Tryz.prog) = true := by kernel_rfl
end Go.Proofs.YtlpapdknggjfkaaGreatDoor


/- Closed facts of the row ServerNobody (by a program: gen_facts.py). -/
namespace Go.Proofs.YtlpapdknggjfkaaGreatDoor
set_option linter.unusedVariables false
theorem serverNobody_fact9 : ((Rows.serverNobodyRow.inPlace == Tryz.prog.inPlace 3)) = true := by kernel_rfl
end Go.Proofs.YtlpapdknggjfkaaGreatDoor


/- Closed facts of the row ServerNobody (by a program: gen_facts.py). -/
namespace Go.Proofs.YtlpapdknggjfkaaGreatDoor
set_option linter.unusedVariables false
theorem serverNobody_fact10 : ((Rows.serverNobodyRow.unfollowed == Tryz.prog.unfollowed 3)) = true := by kernel_rfl
end Go.Proofs.YtlpapdknggjfkaaGreatDoor


/- Closed facts of the row ServerNobody (by a program: gen_facts.py). -/
namespace Go.Proofs.YtlpapdknggjfkaaGreatDoor
set_option linter.unusedVariables false
theorem serverNobody_fact11 : ((Rows.serverNobodyRow.recurses == Tryz.prog.recurses 3)) = true := by kernel_rfl
end Go.Proofs.YtlpapdknggjfkaaGreatDoor


/- Closed facts of the row ServerNobody (by a program: gen_facts.py). -/
namespace Go.Proofs.YtlpapdknggjfkaaGreatDoor
set_option linter.unusedVariables false
theorem serverNobody_fact12 : ((Rows.serverNobodyRow.named == Tryz.prog.varsNamed 3)) = true := by kernel_rfl
end Go.Proofs.YtlpapdknggjfkaaGreatDoor


/- Closed facts of the row ServerNobody (by a program: gen_facts.py). -/
namespace Go.Proofs.YtlpapdknggjfkaaGreatDoor
set_option linter.unusedVariables false
theorem serverNobody_fact22 : ((Rows.serverNobodyRow.plainKeys == Tryz.prog.plainKeys)) = true := by kernel_rfl
end Go.Proofs.YtlpapdknggjfkaaGreatDoor


/- Closed facts of the row ServerNobody (by a program: gen_facts.py). -/
namespace Go.Proofs.YtlpapdknggjfkaaGreatDoor
set_option linter.unusedVariables false
theorem serverNobody_fact24 : (Tryz.prog.stopsHeard) = true := by kernel_rfl
end Go.Proofs.YtlpapdknggjfkaaGreatDoor


/- Closed facts of the row ServerNobody (by a program: gen_facts.py). -/
namespace Go.Proofs.YtlpapdknggjfkaaGreatDoor
set_option linter.unusedVariables false
theorem serverNobody_fact25 : (Tryz.prog.mayEnter) = true := by kernel_rfl
end Go.Proofs.YtlpapdknggjfkaaGreatDoor


/- Closed facts of the row ServerNobody (by a program: gen_facts.py). -/
namespace Go.Proofs.YtlpapdknggjfkaaGreatDoor
set_option linter.unusedVariables false
theorem serverNobody_fact26 : ((Rows.serverNobodyRow.lifted == Tryz.prog.liftsFinal)) = true := by kernel_rfl
end Go.Proofs.YtlpapdknggjfkaaGreatDoor


/- Closed facts of the row ServerNobody (by a program: gen_facts.py). -/
namespace Go.Proofs.YtlpapdknggjfkaaGreatDoor
set_option linter.unusedVariables false
theorem serverNobody_fact27 : ((Tryz.prog.make == some Rows.serverNobodyRow.make)) = true := by kernel_rfl
end Go.Proofs.YtlpapdknggjfkaaGreatDoor


/- The closed facts of the row ServerNobody, all together (by a program: gen_facts.py). -/
namespace Go.Proofs.YtlpapdknggjfkaaGreatDoor
theorem serverNobody_and {a b : Bool} (h : a = true) (k : b = true) : (a && b) = true := by rw [h, k]; rfl
set_option maxRecDepth 100000 in
theorem serverNobody_closed : joinedFacts Tryz.prog 3 Tryz.f3 Rows.serverNobodySpec Rows.serverNobodyRow = true := by
  unfold joinedFacts
  exact (serverNobody_and (serverNobody_and (serverNobody_and (serverNobody_and (serverNobody_and (serverNobody_and (serverNobody_and (serverNobody_and (serverNobody_and (serverNobody_and (serverNobody_and (serverNobody_and (serverNobody_and (serverNobody_and (serverNobody_and (serverNobody_and (serverNobody_and (serverNobody_and (serverNobody_and (serverNobody_and (serverNobody_and (serverNobody_and (serverNobody_and (serverNobody_and (serverNobody_and (serverNobody_and (serverNobody_and (serverNobody_and (serverNobody_and (serverNobody_and (serverNobody_and serverNobody_fact0 serverNobody_fact1) serverNobody_fact2) serverNobody_fact3) serverNobody_fact4) serverNobody_fact5) serverNobody_fact6) serverNobody_fact7) serverNobody_fact8) serverNobody_fact9) serverNobody_fact10) serverNobody_fact11) serverNobody_fact12) serverNobody_fact13) serverNobody_fact14) serverNobody_fact15) serverNobody_fact16) serverNobody_fact17) serverNobody_fact18) serverNobody_fact19) serverNobody_fact20) serverNobody_fact21) serverNobody_fact22) serverNobody_fact23) serverNobody_fact24) serverNobody_fact25) serverNobody_fact26) serverNobody_fact27) (by kernel_rfl)) serverNobody_fact29) serverNobody_fact30) serverNobody_fact31)
end Go.Proofs.YtlpapdknggjfkaaGreatDoor

