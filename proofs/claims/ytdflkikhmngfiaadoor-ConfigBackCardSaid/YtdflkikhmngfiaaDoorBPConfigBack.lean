/- The statement ConfigBack, out of its walk: for every input the call returns true, and the arguments read as they did. -/
import Derived.Test.YtdflkikhmngfiaaDoorRows
import Derived.Test.YtdflkikhmngfiaaDoorCards
import Derived.Test.YtdflkikhmngfiaaDoorTie
import Derived.Test.YtdflkikhmngfiaaDoorC34
import Derived.SevenTiedAt
import Derived.Lay
import Derived.Stop.Joined
import Derived.LaidMore
import Derived.Test.YtdflkikhmngfiaaDoorB01
import Derived.Test.YtdflkikhmngfiaaDoorC47
import Derived.WalkKit
import Derived.ProofKit
import Derived.OpenShut
import Derived.ShutString
import Derived.ChangeOld
import Derived.Below







namespace Go.Proofs.YtdflkikhmngfiaaDoor.configBack
open Go.ChangeShapes Go.WideShapes Go.ChangeAt Go.RowKit Go.Joins
open Go.ChangeMaps (open_string shut_string)
set_option linter.unusedVariables false
set_option linter.unusedSimpArgs false

theorem own : ownKnob Tryd.prog.godebug = none := by kernel_rfl
theorem laidOut : laidOutB Tryd.prog = true := by kernel_rfl

set_option maxRecDepth 100000 in
theorem lifted (os : Os) (started : os.Started) (H : Type) (enc : TypeId × Value → H) :
    ReturnsInHanded {} Tryd.checked os 4 .any (fun w args => (Rows.configBackSpec.pre enc Tryd.prog Tryd.f4 [] false w args ∧ laidMetH Tryd.prog laidQ w) ∧ sizedMet enc Tryd.prog Tryd.f4 (OpenSpec.ofChange Rows.configBackSpec) false w args)
      (Rows.configBackSpec.post enc Tryd.prog Tryd.f4 false true false false) := by
  refine returnsInHanded_of_change_and_shaped (C := Tryd.checked) (X := fun w _ => laidMetH Tryd.prog laidQ w) (fun _ _ _ hh h => h.of_heap hh) own started (by kernel_rfl) Tryd.func4
    (ChangeSpec.witness_shaped (enc := enc) (C := Tryd.checked) (os := os) (X := fun w _ => laidMetH Tryd.prog laidQ w) false (World.laidAll Tryd.prog os laidQ) #[.agg #[.int .i64 0, .int .i64 0, .int .i64 0, .int .i64 0, .int .i64 0, .int .i64 0, .int .i64 0, .int .i64 0, .int .i64 0, .int .i64 0, .int .i64 0, .int .i64 0, .int .i64 0, .int .i64 0, .int .i64 0]] 8 (World.laidAll_os _ _ _) (World.shaped_of_ZipB (by kernel_rfl) (by kernel_rfl)) (by kernel_rfl) (by kernel_rfl) (by kernel_rfl) (by rw [MakeChecks.laidMetH_plain _ _ _ (by kernel_rfl)]; exact laidMet_laidAll _ (by kernel_rfl) (by kernel_rfl))) ?_
  intro W base args ds gs before hval0 hW _ _ hsh hL _
  have hval : ∀ (j : Nat) t v, Tryd.f4.params[j]? = some t → args[j]? = some v → Value.okWide Tryd.prog W .any base t v := hval0
  have hW' := hW
  obtain ⟨p, q, hA0, hV, rfl, hfz, hnd⟩ := hW
  have hA : DataW.TrodAll enc Tryd.prog W 0 (fun _ => true) true Tryd.f4.params.toList args.toList ds p := hA0
  rw [Tryd.params4] at hA hval
  obtain ⟨v0, vs0, d0, ds0, p0, q0, hargs, rfl, rfl, h0, r0⟩ := trodAll_cons hA
  obtain ⟨rfl, rfl, rfl⟩ := trodAll_nil r0
  obtain rfl : args = #[v0] := by cases args; simp_all
  obtain ⟨rfl, rfl⟩ := trodVars_none hV
  have k0 := h0
  have lt0 : ∀ x ∈ p0, x.block < W.heap.size := by obtain ⟨m, hm⟩ := k0; exact DataW.trod_lt m _ _ _ hm
  obtain ⟨cs0, rfl, fd0⟩ := open_agg Tryd.underlying23 (by kernel_rfl) (by kernel_rfl) (hval 0 23 v0 rfl rfl) h0
  obtain ⟨a0x0, e0x0, w0x0⟩ := fd0.int (j := 0) rfl Tryd.underlying3
  obtain ⟨a0x1, e0x1, w0x1⟩ := fd0.int (j := 1) rfl Tryd.underlying3
  obtain ⟨a0x2, e0x2, w0x2⟩ := fd0.int (j := 2) rfl Tryd.underlying3
  obtain ⟨a0x3, e0x3, w0x3⟩ := fd0.int (j := 3) rfl Tryd.underlying3
  obtain ⟨a0x4, e0x4, w0x4⟩ := fd0.int (j := 4) rfl Tryd.underlying3
  obtain ⟨a0x5, e0x5, w0x5⟩ := fd0.int (j := 5) rfl Tryd.underlying3
  obtain ⟨a0x6, e0x6, w0x6⟩ := fd0.int (j := 6) rfl Tryd.underlying3
  obtain ⟨a0x7, e0x7, w0x7⟩ := fd0.int (j := 7) rfl Tryd.underlying3
  obtain ⟨a0x8, e0x8, w0x8⟩ := fd0.int (j := 8) rfl Tryd.underlying3
  obtain ⟨a0x9, e0x9, w0x9⟩ := fd0.int (j := 9) rfl Tryd.underlying3
  obtain ⟨a0x10, e0x10, w0x10⟩ := fd0.int (j := 10) rfl Tryd.underlying3
  obtain ⟨a0x11, e0x11, w0x11⟩ := fd0.int (j := 11) rfl Tryd.underlying3
  obtain ⟨a0x12, e0x12, w0x12⟩ := fd0.int (j := 12) rfl Tryd.underlying3
  obtain ⟨a0x13, e0x13, w0x13⟩ := fd0.int (j := 13) rfl Tryd.underlying3
  obtain ⟨a0x14, e0x14, w0x14⟩ := fd0.int (j := 14) rfl Tryd.underlying3
  obtain rfl := list_of15 fd0.1 e0x0 e0x1 e0x2 e0x3 e0x4 e0x5 e0x6 e0x7 e0x8 e0x9 e0x10 e0x11 e0x12 e0x13 e0x14
  clear hA0 hval0
  refine (configBack_walk a0x0 a0x1 a0x2 a0x3 a0x4 a0x5 a0x6 a0x7 a0x8 a0x9 a0x10 a0x11 a0x12 a0x13 a0x14 W (tab_of_laid hL) (maxC_of hsh) w0x0 w0x1 w0x2 w0x3 w0x4 w0x5 w0x6 w0x7 w0x8 w0x9 w0x10 w0x11 w0x12 w0x13 w0x14).mono fun e W' ⟨he, bel⟩ => ?_
  subst he
  exact ⟨_, rfl, _, _, _, [], _, [], hW', trodAll_mk1 (shut_bool Tryd.underlying4 _), (trodAll_cons_mk (Below.trod laidOut (by kernel_rfl) (of_decide_eq_true (by kernel_rfl)) k0 bel lt0) trodAll_mk0), rfl, bel.frame _, fun h => by cases h⟩

theorem holds0 : Rows.configBackRow.holds Tryd.pinned (OpenSpec.ofChange Rows.configBackSpec) :=
  OpenClaim.holds_of_wide 4 Tryd.f4 rfl rfl rfl rfl rfl rfl rfl ⟨rfl, rfl, rfl, rfl, rfl⟩ rfl rfl rfl rfl rfl (by kernel_rfl) Tryd.func4 (by kernel_rfl)
    (of_decide_eq_true (by kernel_rfl)) (by unfold Func.isWrapper; first | (rw [if_pos (by decide +kernel)]; kernel_rfl) | (rw [if_neg (by decide +kernel)]; exact ⟨rfl, rfl⟩))
    (fun os started H enc _ => lifted os started H enc)

theorem proved : Rows.ConfigBackCardSaid :=
  Claim7.holds_tied_plain_at .later [] [.data, .data, .data, .data, .pinned] true Rows.configBackCard.stood.harness false
    holds0 (fun _ h => by cases h) (by kernel_rfl) (fun _ h => by cases h) configBack_row_tie rfl ⟨rfl, rfl⟩ (by kernel_rfl) rfl
    (fun f fn hf hfn => by
      obtain rfl : f = 4 := Option.some.inj ((show Tryd.prog.funcNamed "footman/footmanlaw36.ConfigBack" = some 4 by kernel_rfl).symm.trans hf) |>.symm
      obtain rfl : fn = Tryd.f4 := (Option.some.inj (Tryd.func4.symm.trans hfn)).symm
      exact ⟨by kernel_rfl, fun j t ht => by
        rw [Tryd.params4] at ht
        have hm : t ∈ [23] := by simpa using Array.mem_of_getElem? ht
        have hall : ([23].all fun u => !Tryd.prog.wantsStandIn u) = true := by kernel_rfl
        exact (show Tryd.prog.wantsStandIn t = false by simpa using List.all_eq_true.1 hall t hm)⟩)
    (by kernel_rfl)
end Go.Proofs.YtdflkikhmngfiaaDoor.configBack

