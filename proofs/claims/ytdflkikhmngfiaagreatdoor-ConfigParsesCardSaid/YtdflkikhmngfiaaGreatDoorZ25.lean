/- Words and lines: from template to template. -/
import Derived.Test.YtdflkikhmngfiaaGreatDoorZ22
import Derived.Test.YtdflkikhmngfiaaGreatDoorZ24
namespace Go.Proofs.YtdflkikhmngfiaaGreatDoor
open Go.RowKit
set_option linter.unusedVariables false
set_option linter.unusedSimpArgs false
set_option linter.unusedSectionVars false
set_option maxRecDepth 100000

/-- The library's functions by contract: 1 Cut, 2 Split. -/
noncomputable def fsCut : Fs := ⟨30, [.sh .str, .sh .str], [.sh .str, .sh .str, .sh .bool], 1, some 31⟩
noncomputable def fsSplit : Fs := ⟨45, [.sh .str, .sh .str], [.sh (.lst [.str])], 2, some 32⟩
noncomputable def cwL : List Fs := [fsCut, fsSplit]

/-! footman/config.words -/
noncomputable def cw_F : Func := Tryz.f31
noncomputable def cw_C : Code := cw_F.body.getD .skip
noncomputable def cw_c1 : Code := seqR cw_C
noncomputable def cw_c2 : Code := seqR cw_c1
noncomputable def cw_c3 : Code := seqR cw_c2
noncomputable def cw_c4 : Code := seqL cw_c3
noncomputable def cw_c5 : Code := seqR cw_c3
noncomputable def cw_c6 : Code := seqR cw_c4
noncomputable def cw_c7 : Code := blkC cw_c6
noncomputable def cw_c8 : Code := lpC cw_c7
noncomputable def cw_s2 : St := ⟨[(0, .sx (.str) (.cell (.app 1 (.cons (.var 0) (.cons (.str [35]) (.nil)))) 0)), (3, .nils)], [], 0⟩
noncomputable def cw_s4 : St := ⟨[(3, .ol 0 [.str] (.var 2)), (13, .sx (.lst [.str]) (.app 2 (.cons (.cell (.app 1 (.cons (.var 0) (.cons (.str [35]) (.nil)))) 0) (.cons (.str [32]) (.nil))))), (14, .sx (.int .i64) (.lenl (.app 2 (.cons (.cell (.app 1 (.cons (.var 0) (.cons (.str [35]) (.nil)))) 0) (.cons (.str [32]) (.nil)))))), (15, .sx (.int .i64) (.var 1))], [(0, .tok 9 [.str] (.var 2))], 1⟩
noncomputable def cw_s6 : St := ⟨[(3, .ol 0 [.str] (.var 2))], [(0, .tok 9 [.str] (.var 2))], 1⟩
theorem cw_body : cw_F.body = some cw_C := by kernel_rfl
def cw_t1 : Trl := .must (.app 31 (.cons (.var 0) (.cons (.str [35]) (.nil)))) (.leaf (.at 0 [.var 0] []))
theorem cw_k1 : chkP Tryz.prog (oraFs Tryz.prog cwL) 400 cw_F.ntmps 3 cw_C (entS [.sh .str]) cw_F [.sh (.lst [.str])] (headsK [cw_s2] ++ []) cw_t1 [] = true := by kernel_rfl
def cw_t3 : Trl := .must (.app 32 (.cons (.cell (.app 1 (.cons (.var 0) (.cons (.str [35]) (.nil)))) 0) (.cons (.str [32]) (.nil)))) (.leaf (.at 0 [.var 0, .int 0, .lnil] []))
theorem cw_k3 : chkP Tryz.prog (oraFs Tryz.prog cwL) 400 cw_F.ntmps 1 cw_c4 cw_s2 cw_F [.sh (.lst [.str])] (headsK [cw_s4] ++ []) cw_t3 [] = true := by kernel_rfl
def cw_t5 : Trl := .br (.cmpi .lss (.var 1) (.lenl (.app 2 (.cons (.cell (.app 1 (.cons (.var 0) (.cons (.str [35]) (.nil)))) 0) (.cons (.str [32]) (.nil)))))) (.must (.inb (.var 1) (.lenl (.app 2 (.cons (.cell (.app 1 (.cons (.var 0) (.cons (.str [35]) (.nil)))) 0) (.cons (.str [32]) (.nil)))))) (.br (.eqs (.get (.app 2 (.cons (.cell (.app 1 (.cons (.var 0) (.cons (.str [35]) (.nil)))) 0) (.cons (.str [32]) (.nil)))) (.var 1) 1 0) (.str [])) (.leaf (.at 0 [.var 0, .bin .add .i64 (.var 1) (.int 1), .var 2] [(0, 0)])) (.must (.rng (.int 0) (.lenl (.snoc (.var 2) (.get (.app 2 (.cons (.cell (.app 1 (.cons (.var 0) (.cons (.str [35]) (.nil)))) 0) (.cons (.str [32]) (.nil)))) (.var 1) 1 0))) (.int 100000)) (.leaf (.at 0 [.var 0, .bin .add .i64 (.var 1) (.int 1), .snoc (.var 2) (.get (.app 2 (.cons (.cell (.app 1 (.cons (.var 0) (.cons (.str [35]) (.nil)))) 0) (.cons (.str [32]) (.nil)))) (.var 1) 1 0)] [(0, 2)]))))) (.leaf (.at 1 [.var 0, .var 1, .var 2] [(0, 0)]))
theorem cw_k5 : chkP Tryz.prog (oraFs Tryz.prog cwL) 400 cw_F.ntmps 1000 cw_c8 cw_s4 cw_F [.sh (.lst [.str])] (headsK [cw_s4] ++ [(.exit 0, cw_s6)]) cw_t5 [] = true := by kernel_rfl
def cw_B1 [S : Sy] : Rl := (selR cw_t5)
def cw_L1 [S : Sy] : Rl := LoopR 1 1 (fun _ => cw_B1) 0
theorem cw_b1 [S : Sy] (hO : ∀ s ∈ cwL, FnOK Tryz.prog s) : Spec Tryz.prog cw_F.ntmps cw_F [.sh (.lst [.str])] cw_c8 cw_s4 (headsK [cw_s4] ++ [(.exit 0, cw_s6)]) cw_B1 := (spec_ends prog_N prog_mixed (ora_of hO) cw_k5 (by kernel_rfl : dropC 1000 cw_c8 = none))
def cw_t7 : Trl := .leaf (.fin (.var 2))
theorem cw_k7 : chkP Tryz.prog (oraFs Tryz.prog cwL) 400 cw_F.ntmps 1000 cw_c5 cw_s6 cw_F [.sh (.lst [.str])] (headsK [] ++ []) cw_t7 [] = true := by kernel_rfl
def cw_R [S : Sy] : Rl := (ThenE 1 0 (selR cw_t1) fun _ => (ThenE 1 0 (ThenE 1 1 (selR cw_t3) fun _ => cw_L1) fun _ => (selR cw_t7)))
theorem cw_spec [S : Sy] (hO : ∀ s ∈ cwL, FnOK Tryz.prog s) : Spec Tryz.prog cw_F.ntmps cw_F [.sh (.lst [.str])] cw_C (entS [.sh .str]) (headsK [] ++ []) cw_R := (spec_thenE (L := [cw_s2]) (H := []) (E := []) prog_N prog_mixed (ora_of hO) rfl cw_k1 (by kernel_rfl : dropC 3 cw_C = some cw_c3) (one_at (spec_eq (by kernel_rfl : cw_c3 = .seq cw_c4 cw_c5) (spec_seqE (L := [cw_s6]) (H := []) (E := []) rfl (spec_thenE (L := [cw_s4]) (H := [cw_s6]) (E := []) prog_N prog_mixed (ora_of hO) rfl cw_k3 (by kernel_rfl : dropC 1 cw_c4 = some cw_c6) (one_at (spec_eq (by kernel_rfl : cw_c6 = .block 0 (.loop cw_c8)) (spec_bl (H := [cw_s6]) (E := []) rfl (one_at (cw_b1 hO)) (k := 0) rfl)))) (one_at (spec_ends prog_N prog_mixed (ora_of hO) cw_k7 (by kernel_rfl : dropC 1000 cw_c5 = none)))))))
end Go.Proofs.YtdflkikhmngfiaaGreatDoor

