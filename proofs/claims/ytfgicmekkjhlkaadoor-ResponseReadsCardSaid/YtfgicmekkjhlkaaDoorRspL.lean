/- ResponseReads: the walk. -/
import Derived.Test.YtfgicmekkjhlkaaDoorRspJ
import Derived.Deep.RegionHeld
namespace Go.Proofs.YtfgicmekkjhlkaaDoor
open Go.RowKit
set_option linter.unusedVariables false
set_option linter.unusedSimpArgs false

theorem light_facts {L : List Fld} (h : light L = true) : L.length ≤ 30 ∧ ∀ f ∈ L, f.name.size ≤ 200 ∧ f.value.size ≤ 200 := by
  unfold light at h
  simp only [Bool.and_eq_true, decide_eq_true_eq, List.all_eq_true] at h
  refine ⟨h.1, fun f hf => ?_⟩
  have := h.2 f hf
  unfold lightF at this
  simpa using this
set_option maxRecDepth 100000 in
set_option maxHeartbeats 4000000 in
theorem respReads_any (oa : Option Addr) (n cap : Nat) (L : List Fld) (hn : L.length = n) (hnc : n ≤ cap) (f m : Int) (w : World) (hT : Tab w) (hf : FieldsN w oa L) (_ : (Lit.int .i64 f).wf = true) (_ : (Lit.int .i64 m).wf = true) :
    Calls Tryd.prog 4 #[.slice oa n cap, .int .i64 f, .int .i64 m] w fun e w' => e = .returned (.bool true) ∧ Below w.heap.size w w' := by
  have HT := Lib.hid hT
  have HLI := Lib.hid (light_any oa n cap L hn w hf)
  have HAW := Lib.hid (fun W hW => awake18_any W hW)
  cases hl : light L
  · rw [hl] at HLI
    clear hf hn hT
    go_enter Tryd.func4, Tryd.ntmps4
    go_wp2_with fail
    refine HLI.out.mono ?_
    rintro e w1 ⟨rfl, hw⟩
    subst hw
    go_wp2_with fail
    refine (HAW.out _ HT.out).mono ?_
    rintro e w2 ⟨rfl, hb⟩
    go_wp2_with fail
    go_ret
    exact ⟨rfl, hb⟩
  · rw [hl] at HLI
    obtain ⟨h30, hsm⟩ := light_facts hl
    have hvs : ∀ x ∈ L, x.value.size ≤ maxLen := fun x hx => by have := (hsm x hx).2; unfold maxLen; omega
    have HR1 := Lib.hid (fun W (hW : Below w.heap.size w W) => read_any oa n cap L hn hnc (by omega) hvs W (hf.below hW))
    have HR2 := Lib.hid (fun W (hW : Below w.heap.size w W) => dread_any oa n cap L hn (by omega) hvs W (hf.below hW))
    unfold ReadPost at HR1 HR2
    generalize readR L = R at HR1 HR2
    obtain ⟨⟨r1, r2, r3⟩, r4⟩ := R
    simp only at HR1 HR2
    clear hf hn hT hvs hsm h30
    by_cases hm : 2000 < m
    · have q1 : decide ((2000 : Int) < m) = true := decide_eq_true hm
      go_enter Tryd.func4, Tryd.ntmps4
      go_wp2_with fail
      refine HLI.out.mono ?_
      rintro e w1 ⟨rfl, hw⟩
      subst hw
      go_wp2_with fail
      refine (HAW.out _ HT.out).mono ?_
      rintro e w2 ⟨rfl, hb⟩
      go_wp2_with fail
      go_ret
      exact ⟨rfl, hb⟩
    · have q1 : decide ((2000 : Int) < m) = false := decide_eq_false hm
      have HB1 := Lib.hid (fun W => body_any f m W)
      have HB2 := Lib.hid (fun W => dbody_any f m (by omega) W)
      unfold BodyPost at HB1 HB2
      have HBB := Lib.hid (getD_all (bodyI_byte f m))
      generalize bodyI f m = V at HB1 HB2 HBB
      go_enter Tryd.func4, Tryd.ntmps4
      go_wp2_with fail
      refine HLI.out.mono ?_
      rintro e w1 ⟨rfl, hw⟩
      subst hw
      go_wp2_with fail
      refine (HR1.out _ (Below.refl _ _)).mono ?_
      rintro e w2 ⟨rfl, hb⟩
      have HBL := Lib.hid hb
      clear hb
      go_wp2_with fail
      have HXA := Lib.hid (XRow.new 28 w2 r1 r2 r3)
      have HB3 := Lib.hid (HBL.out.alloc HBL.out.size (.cells #[.int .i64 r1, .int .i64 r2, .int .i64 r3] 28))
      generalize w2.alloc (.cells #[.int .i64 r1, .int .i64 r2, .int .i64 r3] 28) = w3 at HXA HB3 ⊢
      generalize w2.heap.size = qa at HXA ⊢
      refine (HR2.out _ HB3.out).mono ?_
      rintro e w4 ⟨rfl, hb⟩
      have HXA4 := Lib.hid (HXA.out.step hb)
      have HB4 := Lib.hid (HB3.out.trans (hb.mono HB3.out.size))
      clear hb HXA HB3 HBL
      go_wp2_with fail
      have HXB := Lib.hid (XRow.new 23 w4 r1 r2 r3)
      have HXA6 := Lib.hid (HXA4.out.step ((Below.refl w4.heap.size w4).alloc (Nat.le_refl _) (.cells #[.int .i64 r1, .int .i64 r2, .int .i64 r3] 23)))
      have HB6 := Lib.hid (HB4.out.alloc HB4.out.size (.cells #[.int .i64 r1, .int .i64 r2, .int .i64 r3] 23))
      generalize w4.alloc (.cells #[.int .i64 r1, .int .i64 r2, .int .i64 r3] 23) = w6 at HXB HXA6 HB6 ⊢
      generalize w4.heap.size = qb at HXB ⊢
      clear HXA4 HB4
      have HF := Lib.hid (show ∀ W, Below w6.heap.size w6 W → (Below w6.heap.size w6 W ∧ W.cell? ⟨qa, 0, none⟩ = some (.int .i64 r1) ∧ W.cell? ⟨qa, 1, none⟩ = some (.int .i64 r2) ∧ W.cell? ⟨qa, 2, none⟩ = some (.int .i64 r3) ∧ W.cell? ⟨qb, 0, none⟩ = some (.int .i64 r1) ∧ W.cell? ⟨qb, 1, none⟩ = some (.int .i64 r2) ∧ W.cell? ⟨qb, 2, none⟩ = some (.int .i64 r3)) from fun W hW => ⟨hW, (HXA6.out.step hW).c0, (HXA6.out.step hW).c1, (HXA6.out.step hW).c2, (HXB.out.step hW).c0, (HXB.out.step hW).c1, (HXB.out.step hW).c2⟩)
      have H0 := Lib.hid (HF.out w6.drew (Below.refl _ _).drew)
      have HTW := Lib.hid (show ∀ W, Below w6.heap.size w6 W → Tab W from fun W hW => HT.out.below (HB6.out.trans (hW.mono HB6.out.size)))
      have HEND := Lib.hid (show ∀ W, Below w6.heap.size w6 W → Below w1.heap.size w1 W from fun W hW => HB6.out.trans (hW.mono HB6.out.size))
      clear HXA6 HXB HB6
      go_region_held (fun W => Below w6.heap.size w6 W ∧ W.cell? ⟨qa, 0, none⟩ = some (.int .i64 r1) ∧ W.cell? ⟨qa, 1, none⟩ = some (.int .i64 r2) ∧ W.cell? ⟨qa, 2, none⟩ = some (.int .i64 r3) ∧ W.cell? ⟨qb, 0, none⟩ = some (.int .i64 r1) ∧ W.cell? ⟨qb, 1, none⟩ = some (.int .i64 r2) ∧ W.cell? ⟨qb, 2, none⟩ = some (.int .i64 r3)) (first | exact HBN | exact H0.out) (first
        | (go_at_call 22; refine (HB1.out _).mono ?_; rintro e w' ⟨o1, p1, rfl, hby1, _, _, hb⟩; have hcv1 := conv_bytes w' o1 _ p1 V rfl hby1 HBB.out; (try have hcv2 := conv_bytes w' o2 _ p2 V rfl (BytesN.below hby2 hb) HBB.out); have HBN := HF.out _ (bs_step hb (by assumption)))
        | (go_at_call 23; refine (HB2.out _).mono ?_; rintro e w' ⟨o2, p2, rfl, hby2, _, _, hb⟩; have hcv3 := conv_bytes w' o2 _ p2 V rfl hby2 HBB.out; (try have hcv4 := conv_bytes w' o1 _ p1 V rfl (BytesN.below hby1 hb) HBB.out); have HBN := HF.out _ (bs_step hb (by assumption)))
        | (go_at_call 18; refine (HAW.out _ (HTW.out _ (And.left (by assumption)))).mono ?_; rintro e w' ⟨rfl, hb⟩; have HBN := HF.out _ (bs_step hb (by assumption))))
      all_goals
        go_wp2_with fail
        go_ret
        exact ⟨rfl, HEND.out _ HBN.1⟩
#print axioms respReads_any
end Go.Proofs.YtfgicmekkjhlkaaDoor
