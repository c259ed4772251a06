/- What the script finds when awake: run piece by piece. -/
import Derived.Test.YtdkgckgpdogimaaGreatDoorC32
import Derived.Test.YtdkgckgpdogimaaGreatDoorC40
import Derived.Test.YtdkgckgpdogimaaGreatDoorC41
namespace Go.Proofs.YtdkgckgpdogimaaGreatDoor
open Go.RowKit
set_option linter.unusedVariables false
set_option linter.unusedSimpArgs false

noncomputable def scO (d : Dc) : Ora := @scOra d
theorem sc_ok [S : Sy] (hi : ∀ B w, Sy.inv B w → Tab w) {B : Nat} : OraOK Tryz.prog B scO :=
  ⟨fun d hd f g h args => @scF_loc d S hd f g h args, fun d hd ρ0 f g h args lo hp c lg x h' c' lg' e ρ w vs _ hr hv => @scF_snd d S hd B f g h hi args lo hp c lg x h' c' lg' e ρ w vs hr hv, fun d hd ρ0 => @noTab S d hd Tryz.prog B ρ0⟩
noncomputable def w32F : Func := Tryz.f9
noncomputable def w32B : Code := w32F.body.getD .skip
noncomputable def w08F : Func := Tryz.f8
noncomputable def w08B : Code := w08F.body.getD .skip
def bodyL (c : Option Code) : Code := match c with
  | some (.seq (.block _ (.loop x)) _) => x
  | _ => .skip
def restL (c : Option Code) : Code := match c with
  | some (.seq (.block _ (.loop x)) y) => y
  | _ => .skip
noncomputable def w08X : Code := bodyL (dropC 3 w08B)
noncomputable def w08Y : Code := restL (dropC 3 w08B)
noncomputable def w08S : St := ⟨[(0, .ptr 23 0), (1, .int .i64 9)], w32a.h, w32a.c⟩
noncomputable def w32c : St := ⟨[(1, .ptr 23 0), (3, .os 279 6 0 4), (4, .os 281 1 0 4), (5, .int .i64 45), (6, .int .i64 3)], s4.h, s4.c⟩
theorem w32_1 : chkP Tryz.prog scO 100000 149 5 w32B ⟨[], [], 0⟩ w32F [.sh .bool] [(.normal, w32a)] (.leaf (.at 0 [] w32a_r)) [] = true := by kernel_rfl
theorem w08_0 : chkP Tryz.prog scO 100000 22 3 w08B w08S w08F [.sh (.int .i64)] [(.normal, s0)] (.leaf (.at 0 [] s0_r)) [] = true := by kernel_rfl
theorem w08_1 : chkP Tryz.prog scO 100000 22 1000 w08X s0 w08F [.sh (.int .i64)] [(.normal, s1)] (.leaf (.at 0 [] s1_r)) [] = true := by kernel_rfl
theorem w08_2 : chkP Tryz.prog scO 100000 22 1000 w08X s1 w08F [.sh (.int .i64)] [(.normal, s2)] (.leaf (.at 0 [] s2_r)) [] = true := by kernel_rfl
theorem w08_3 : chkP Tryz.prog scO 100000 22 1000 w08X s2 w08F [.sh (.int .i64)] [(.normal, s3)] (.leaf (.at 0 [] s3_r)) [] = true := by kernel_rfl
theorem w08_4 : chkP Tryz.prog scO 100000 22 1000 w08X s3 w08F [.sh (.int .i64)] [(.exit 0, s4)] (.leaf (.at 0 [] s4_r)) [] = true := by kernel_rfl
theorem w32_2 : chkP Tryz.prog scO 100000 149 1000 ((dropC 6 w32B).getD .skip) w32c w32F [.sh .bool] [] (.leaf (.fin (.bool true))) [] = true := by kernel_rfl
end Go.Proofs.YtdkgckgpdogimaaGreatDoor

