/- The statement ScriptNobody, out of its walk: for every input the call returns true, and the arguments read as they did. -/
import Derived.Test.YtdkgckgpdogimaaGreatDoorRows
import Derived.Test.YtdkgckgpdogimaaGreatDoorCards
import Derived.Test.YtdkgckgpdogimaaGreatDoorTie
import Derived.Test.YtdkgckgpdogimaaGreatDoorC03
import Derived.SevenTiedAt
import Derived.LaidMore
import Derived.Test.YtdkgckgpdogimaaGreatDoorC43
import Derived.Test.YtdkgckgpdogimaaGreatDoorC44
import Derived.Test.YtdkgckgpdogimaaGreatDoorC46
import Derived.Test.YtdkgckgpdogimaaGreatDoorC47
import Derived.WalkKit
import Derived.ProofKit
import Derived.OpenShut
import Derived.ShutString
import Derived.ChangeOld
import Derived.Below







namespace Go.Proofs.YtdkgckgpdogimaaGreatDoor.scriptNobody
open Go.ChangeShapes Go.WideShapes Go.ChangeAt Go.RowKit Go.Joins
open Go.ChangeMaps (open_string shut_string)
set_option linter.unusedVariables false
set_option linter.unusedSimpArgs false

theorem own : ownKnob Tryz.prog.godebug = none := by kernel_rfl
theorem laidOut : laidOutB Tryz.prog = true := by kernel_rfl

set_option maxRecDepth 100000 in
theorem lifted (os : Os) (started : os.Started) (H : Type) (enc : TypeId × Value → H) :
    ReturnsInHanded {} Tryz.checked os 3 .any (fun w args => (Rows.scriptNobodySpec.pre enc Tryz.prog Tryz.f3 [] false w args ∧ laidMetH Tryz.prog laid3 w) ∧ sizedMet enc Tryz.prog Tryz.f3 (OpenSpec.ofChange Rows.scriptNobodySpec) false w args)
      (Rows.scriptNobodySpec.post enc Tryz.prog Tryz.f3 false true false false) := by
  refine returnsInHanded_of_change_and (C := Tryz.checked) (X := fun w _ => laidMetH Tryz.prog laid3 w) (fun _ _ _ hh h => h.of_heap hh) own started (by kernel_rfl) Tryz.func3
    (ChangeSpec.witness_shaped (enc := enc) (C := Tryz.checked) (os := os) (X := fun w _ => laidMetH Tryz.prog laid3 w) false (World.doorLaid Tryz.prog 400 os) #[.agg #[.int .u8 0, .int .i64 0, .string ByteArray.empty, .int .i64 0]] 8 rfl (World.shaped_of_RefB (by kernel_rfl) (by kernel_rfl)) (by kernel_rfl) (by kernel_rfl) (by kernel_rfl) (door_met os _)) ?_
  intro W base args ds gs before hval0 hW _ _ hL _
  have hval : ∀ (j : Nat) t v, Tryz.f3.params[j]? = some t → args[j]? = some v → Value.okWide Tryz.prog W .any base t v := hval0
  have hW' := hW
  obtain ⟨p, q, hA0, hV, rfl, hfz, hnd⟩ := hW
  have hA : DataW.TrodAll enc Tryz.prog W 0 (fun _ => true) true Tryz.f3.params.toList args.toList ds p := hA0
  rw [Tryz.params3] at hA hval
  obtain ⟨v0, vs0, d0, ds0, p0, q0, hargs, rfl, rfl, h0, r0⟩ := trodAll_cons hA
  obtain ⟨rfl, rfl, rfl⟩ := trodAll_nil r0
  obtain rfl : args = #[v0] := by cases args; simp_all
  obtain ⟨rfl, rfl⟩ := trodVars_none hV
  have k0 := h0
  have lt0 : ∀ x ∈ p0, x.block < W.heap.size := by obtain ⟨m, hm⟩ := k0; exact DataW.trod_lt m _ _ _ hm
  obtain ⟨cs0, rfl, fd0⟩ := open_agg Tryz.underlying23 (by kernel_rfl) (by kernel_rfl) (hval 0 23 v0 rfl rfl) h0
  obtain ⟨a0x0, e0x0, w0x0⟩ := fd0.int (j := 0) rfl Tryz.underlying5
  obtain ⟨a0x1, e0x1, w0x1⟩ := fd0.int (j := 1) rfl Tryz.underlying3
  obtain ⟨a0x2, e0x2, w0x2⟩ := fd0.str (j := 2) rfl Tryz.underlying9
  obtain ⟨a0x3, e0x3, w0x3⟩ := fd0.int (j := 3) rfl Tryz.underlying3
  obtain rfl := list_of4 fd0.1 e0x0 e0x1 e0x2 e0x3
  clear hA0 hval0
  refine (scriptNobody_any a0x0 a0x1 a0x2 a0x3 W (tab_of_laid hL) w0x0 w0x1 w0x2 w0x3).mono fun e W' ⟨he, bel⟩ => ?_
  subst he
  exact ⟨_, rfl, _, _, _, [], _, [], hW', trodAll_mk1 (shut_bool Tryz.underlying4 _), (trodAll_cons_mk (Below.trod laidOut (by kernel_rfl) (of_decide_eq_true (by kernel_rfl)) k0 bel lt0) trodAll_mk0), rfl, bel.frame _, fun h => by cases h⟩

theorem holds0 : Rows.scriptNobodyRow.holds Tryz.pinned (OpenSpec.ofChange Rows.scriptNobodySpec) :=
  OpenClaim.holds_of_wide 3 Tryz.f3 rfl rfl rfl rfl rfl rfl rfl ⟨rfl, rfl, rfl, rfl, rfl⟩ rfl rfl rfl rfl rfl scriptNobody_named Tryz.func3 scriptNobody_closed
    (of_decide_eq_true (by kernel_rfl)) (by unfold Func.isWrapper; first | (rw [if_pos (by decide +kernel)]; kernel_rfl) | (rw [if_neg (by decide +kernel)]; exact ⟨rfl, rfl⟩))
    (fun os started H enc _ => lifted os started H enc)

theorem proved : Rows.ScriptNobodyCardSaid :=
  Claim7.holds_tied_plain_at .later [] [.data, .data, .data] true Rows.scriptNobodyCard.stood.harness false
    holds0 (fun _ h => by cases h) scriptNobody_wfText (fun _ h => by cases h) scriptNobody_row_tie rfl ⟨rfl, rfl⟩ scriptNobody_main rfl
    (fun f fn hf hfn => by
      obtain rfl : f = 3 := Option.some.inj (scriptNobody_named.symm.trans hf) |>.symm
      obtain rfl : fn = Tryz.f3 := (Option.some.inj (Tryz.func3.symm.trans hfn)).symm
      exact ⟨scriptNobody_looks, fun j t ht => by
        rw [Tryz.params3] at ht
        have hm : t ∈ [23] := by simpa using Array.mem_of_getElem? ht
        have hall : ([23].all fun u => !Tryz.prog.wantsStandIn u) = true := by kernel_rfl
        exact (show Tryz.prog.wantsStandIn t = false by simpa using List.all_eq_true.1 hall t hm)⟩)
    scriptNobody_goes
end Go.Proofs.YtdkgckgpdogimaaGreatDoor.scriptNobody

