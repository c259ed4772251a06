/- The statement ConfigPrints, out of its walk: for every input the call returns true, and the arguments read as they did. -/
import Derived.Test.YtdflkikhmngfiaaDoorRows
import Derived.Test.YtdflkikhmngfiaaDoorCards
import Derived.Test.YtdflkikhmngfiaaDoorTie
import Derived.Test.YtdflkikhmngfiaaDoorC34
import Derived.SevenTiedAt
import Derived.Lay
import Derived.Stop.Joined
import Derived.LaidMore
import Derived.Test.YtdflkikhmngfiaaDoorC46
import Derived.Test.YtdflkikhmngfiaaDoorC47
import Derived.WalkKit
import Derived.ProofKit
import Derived.OpenShut
import Derived.ShutString
import Derived.ChangeOld
import Derived.Below







namespace Go.Proofs.YtdflkikhmngfiaaDoor.configPrints
open Go.ChangeShapes Go.WideShapes Go.ChangeAt Go.RowKit Go.Joins
open Go.ChangeMaps (open_string shut_string)
set_option linter.unusedVariables false
set_option linter.unusedSimpArgs false

theorem own : ownKnob Tryd.prog.godebug = none := by kernel_rfl
theorem laidOut : laidOutB Tryd.prog = true := by kernel_rfl

set_option maxRecDepth 100000 in
theorem lifted (os : Os) (started : os.Started) (H : Type) (enc : TypeId × Value → H) :
    ReturnsInHanded {} Tryd.checked os 3 .any (fun w args => (Rows.configPrintsSpec.pre enc Tryd.prog Tryd.f3 [] false w args ∧ laidMetH Tryd.prog laidQ w) ∧ sizedMet enc Tryd.prog Tryd.f3 (OpenSpec.ofChange Rows.configPrintsSpec) false w args)
      (Rows.configPrintsSpec.post enc Tryd.prog Tryd.f3 false true false false) := by
  refine returnsInHanded_of_change_and_shaped (C := Tryd.checked) (X := fun w _ => laidMetH Tryd.prog laidQ w) (fun _ _ _ hh h => h.of_heap hh) own started (by kernel_rfl) Tryd.func3
    (ChangeSpec.witness_shaped (enc := enc) (C := Tryd.checked) (os := os) (X := fun w _ => laidMetH Tryd.prog laidQ w) false (World.laidAll Tryd.prog os laidQ) #[.agg #[.int .i64 0, .int .i64 0, .int .i64 0, .int .i64 0, .int .i64 0, .int .i64 0, .int .i64 0, .int .i64 0, .int .i64 0, .int .i64 0, .int .i64 0, .int .i64 0, .int .i64 0, .int .i64 0, .int .i64 0], .agg #[.int .i64 0, .int .i64 0, .int .i64 0, .int .i64 0, .int .i64 0, .int .i64 0, .int .i64 0, .int .i64 0, .int .i64 0, .int .i64 0, .int .i64 0, .int .i64 0, .int .i64 0, .int .i64 0, .int .i64 0], .string ByteArray.empty] 8 (World.laidAll_os _ _ _) (World.shaped_of_ZipB (by kernel_rfl) (by kernel_rfl)) (by kernel_rfl) (by kernel_rfl) (by kernel_rfl) (by rw [MakeChecks.laidMetH_plain _ _ _ (by kernel_rfl)]; exact laidMet_laidAll _ (by kernel_rfl) (by kernel_rfl))) ?_
  intro W base args ds gs before hval0 hW _ _ hsh hL _
  have hval : ∀ (j : Nat) t v, Tryd.f3.params[j]? = some t → args[j]? = some v → Value.okWide Tryd.prog W .any base t v := hval0
  have hW' := hW
  obtain ⟨p, q, hA0, hV, rfl, hfz, hnd⟩ := hW
  have hA : DataW.TrodAll enc Tryd.prog W 0 (fun _ => true) true Tryd.f3.params.toList args.toList ds p := hA0
  rw [Tryd.params3] at hA hval
  obtain ⟨v0, vs0, d0, ds0, p0, q0, hargs, rfl, rfl, h0, r0⟩ := trodAll_cons hA
  obtain ⟨v1, vs1, d1, ds1, p1, q1, rfl, rfl, rfl, h1, r1⟩ := trodAll_cons r0
  obtain ⟨v2, vs2, d2, ds2, p2, q2, rfl, rfl, rfl, h2, r2⟩ := trodAll_cons r1
  obtain ⟨rfl, rfl, rfl⟩ := trodAll_nil r2
  obtain rfl : args = #[v0, v1, v2] := by cases args; simp_all
  obtain ⟨rfl, rfl⟩ := trodVars_none hV
  have k0 := h0
  have lt0 : ∀ x ∈ p0, x.block < W.heap.size := by obtain ⟨m, hm⟩ := k0; exact DataW.trod_lt m _ _ _ hm
  have k1 := h1
  have lt1 : ∀ x ∈ p1, x.block < W.heap.size := by obtain ⟨m, hm⟩ := k1; exact DataW.trod_lt m _ _ _ hm
  have k2 := h2
  have lt2 : ∀ x ∈ p2, x.block < W.heap.size := by obtain ⟨m, hm⟩ := k2; exact DataW.trod_lt m _ _ _ hm
  obtain ⟨cs0, rfl, fd0⟩ := open_agg Tryd.underlying23 (by kernel_rfl) (by kernel_rfl) (hval 0 23 v0 rfl rfl) h0
  obtain ⟨a0x0, e0x0, w0x0⟩ := fd0.int (j := 0) rfl Tryd.underlying3
  obtain ⟨a0x1, e0x1, w0x1⟩ := fd0.int (j := 1) rfl Tryd.underlying3
  obtain ⟨a0x2, e0x2, w0x2⟩ := fd0.int (j := 2) rfl Tryd.underlying3
  obtain ⟨a0x3, e0x3, w0x3⟩ := fd0.int (j := 3) rfl Tryd.underlying3
  obtain ⟨a0x4, e0x4, w0x4⟩ := fd0.int (j := 4) rfl Tryd.underlying3
  obtain ⟨a0x5, e0x5, w0x5⟩ := fd0.int (j := 5) rfl Tryd.underlying3
  obtain ⟨a0x6, e0x6, w0x6⟩ := fd0.int (j := 6) rfl Tryd.underlying3
  obtain ⟨a0x7, e0x7, w0x7⟩ := fd0.int (j := 7) rfl Tryd.underlying3
  obtain ⟨a0x8, e0x8, w0x8⟩ := fd0.int (j := 8) rfl Tryd.underlying3
  obtain ⟨a0x9, e0x9, w0x9⟩ := fd0.int (j := 9) rfl Tryd.underlying3
  obtain ⟨a0x10, e0x10, w0x10⟩ := fd0.int (j := 10) rfl Tryd.underlying3
  obtain ⟨a0x11, e0x11, w0x11⟩ := fd0.int (j := 11) rfl Tryd.underlying3
  obtain ⟨a0x12, e0x12, w0x12⟩ := fd0.int (j := 12) rfl Tryd.underlying3
  obtain ⟨a0x13, e0x13, w0x13⟩ := fd0.int (j := 13) rfl Tryd.underlying3
  obtain ⟨a0x14, e0x14, w0x14⟩ := fd0.int (j := 14) rfl Tryd.underlying3
  obtain rfl := list_of15 fd0.1 e0x0 e0x1 e0x2 e0x3 e0x4 e0x5 e0x6 e0x7 e0x8 e0x9 e0x10 e0x11 e0x12 e0x13 e0x14
  obtain ⟨cs1, rfl, fd1⟩ := open_agg Tryd.underlying23 (by kernel_rfl) (by kernel_rfl) (hval 1 23 v1 rfl rfl) h1
  obtain ⟨a1x0, e1x0, w1x0⟩ := fd1.int (j := 0) rfl Tryd.underlying3
  obtain ⟨a1x1, e1x1, w1x1⟩ := fd1.int (j := 1) rfl Tryd.underlying3
  obtain ⟨a1x2, e1x2, w1x2⟩ := fd1.int (j := 2) rfl Tryd.underlying3
  obtain ⟨a1x3, e1x3, w1x3⟩ := fd1.int (j := 3) rfl Tryd.underlying3
  obtain ⟨a1x4, e1x4, w1x4⟩ := fd1.int (j := 4) rfl Tryd.underlying3
  obtain ⟨a1x5, e1x5, w1x5⟩ := fd1.int (j := 5) rfl Tryd.underlying3
  obtain ⟨a1x6, e1x6, w1x6⟩ := fd1.int (j := 6) rfl Tryd.underlying3
  obtain ⟨a1x7, e1x7, w1x7⟩ := fd1.int (j := 7) rfl Tryd.underlying3
  obtain ⟨a1x8, e1x8, w1x8⟩ := fd1.int (j := 8) rfl Tryd.underlying3
  obtain ⟨a1x9, e1x9, w1x9⟩ := fd1.int (j := 9) rfl Tryd.underlying3
  obtain ⟨a1x10, e1x10, w1x10⟩ := fd1.int (j := 10) rfl Tryd.underlying3
  obtain ⟨a1x11, e1x11, w1x11⟩ := fd1.int (j := 11) rfl Tryd.underlying3
  obtain ⟨a1x12, e1x12, w1x12⟩ := fd1.int (j := 12) rfl Tryd.underlying3
  obtain ⟨a1x13, e1x13, w1x13⟩ := fd1.int (j := 13) rfl Tryd.underlying3
  obtain ⟨a1x14, e1x14, w1x14⟩ := fd1.int (j := 14) rfl Tryd.underlying3
  obtain rfl := list_of15 fd1.1 e1x0 e1x1 e1x2 e1x3 e1x4 e1x5 e1x6 e1x7 e1x8 e1x9 e1x10 e1x11 e1x12 e1x13 e1x14
  obtain ⟨a2, rfl, rfl, rfl, w2⟩ := open_string Tryd.underlying9 (hval 2 9 v2 rfl rfl) h2
  clear hA0 hval0
  refine (configPrints_walk a0x0 a0x1 a0x2 a0x3 a0x4 a0x5 a0x6 a0x7 a0x8 a0x9 a0x10 a0x11 a0x12 a0x13 a0x14 a1x0 a1x1 a1x2 a1x3 a1x4 a1x5 a1x6 a1x7 a1x8 a1x9 a1x10 a1x11 a1x12 a1x13 a1x14 a2 W (tab_of_laid hL) (maxC_of hsh) w0x0 w0x1 w0x2 w0x3 w0x4 w0x5 w0x6 w0x7 w0x8 w0x9 w0x10 w0x11 w0x12 w0x13 w0x14 w1x0 w1x1 w1x2 w1x3 w1x4 w1x5 w1x6 w1x7 w1x8 w1x9 w1x10 w1x11 w1x12 w1x13 w1x14 w2).mono fun e W' ⟨he, bel⟩ => ?_
  subst he
  exact ⟨_, rfl, _, _, _, [], _, [], hW', trodAll_mk1 (shut_bool Tryd.underlying4 _), (trodAll_cons_mk (Below.trod laidOut (by kernel_rfl) (of_decide_eq_true (by kernel_rfl)) k0 bel lt0) (trodAll_cons_mk (Below.trod laidOut (by kernel_rfl) (of_decide_eq_true (by kernel_rfl)) k1 bel lt1) (trodAll_cons_mk (Below.trod laidOut (by kernel_rfl) (of_decide_eq_true (by kernel_rfl)) k2 bel lt2) trodAll_mk0))), rfl, bel.frame _, fun h => by cases h⟩

theorem holds0 : Rows.configPrintsRow.holds Tryd.pinned (OpenSpec.ofChange Rows.configPrintsSpec) :=
  OpenClaim.holds_of_wide 3 Tryd.f3 rfl rfl rfl rfl rfl rfl rfl ⟨rfl, rfl, rfl, rfl, rfl⟩ rfl rfl rfl rfl rfl (by kernel_rfl) Tryd.func3 (by kernel_rfl)
    (of_decide_eq_true (by kernel_rfl)) (by unfold Func.isWrapper; first | (rw [if_pos (by decide +kernel)]; kernel_rfl) | (rw [if_neg (by decide +kernel)]; exact ⟨rfl, rfl⟩))
    (fun os started H enc _ => lifted os started H enc)

theorem proved : Rows.ConfigPrintsCardSaid :=
  Claim7.holds_tied_plain_at .later [] [.data, .data, .data, .data, .pinned] true Rows.configPrintsCard.stood.harness false
    holds0 (fun _ h => by cases h) (by kernel_rfl) (fun _ h => by cases h) configPrints_row_tie rfl ⟨rfl, rfl⟩ (by kernel_rfl) rfl
    (fun f fn hf hfn => by
      obtain rfl : f = 3 := Option.some.inj ((show Tryd.prog.funcNamed "footman/footmanlaw36.ConfigPrints" = some 3 by kernel_rfl).symm.trans hf) |>.symm
      obtain rfl : fn = Tryd.f3 := (Option.some.inj (Tryd.func3.symm.trans hfn)).symm
      exact ⟨by kernel_rfl, fun j t ht => by
        rw [Tryd.params3] at ht
        have hm : t ∈ [23, 23, 9] := by simpa using Array.mem_of_getElem? ht
        have hall : ([23, 23, 9].all fun u => !Tryd.prog.wantsStandIn u) = true := by kernel_rfl
        exact (show Tryd.prog.wantsStandIn t = false by simpa using List.all_eq_true.1 hall t hm)⟩)
    (by kernel_rfl)
end Go.Proofs.YtdflkikhmngfiaaDoor.configPrints

