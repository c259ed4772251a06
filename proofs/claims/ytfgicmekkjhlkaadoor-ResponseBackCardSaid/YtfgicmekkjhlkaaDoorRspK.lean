/- ResponseFields: the walk. -/
import Derived.Test.YtfgicmekkjhlkaaDoorRspJ
import Derived.Deep.RegionHeld
namespace Go.Proofs.YtfgicmekkjhlkaaDoor
open Go.RowKit
set_option linter.unusedVariables false
set_option linter.unusedSimpArgs false

theorem eqF_refl (f : Fld) : eqF f f = true := by simp [eqF]
theorem sameL_refl : ∀ L : List Fld, sameL L L = true
  | [] => rfl
  | f :: l => by simp [sameL, eqF_refl, sameL_refl l]
def FL (s l r : Int) : List Fld := if respE s l r = 0 then fieldsR s.toNat l.toNat r.toNat else []
theorem FL_len (s l r : Int) : (FL s l r).length ≤ 3 := by
  unfold FL fieldsR
  split
  · split <;> simp
  · simp
theorem respE_8 {s l r : Int} (h : respE s l r ≠ 0) : respE s l r = 8 := by
  unfold respE at h ⊢
  split at h
  · exact absurd rfl h
  · rename_i h2; rw [if_neg h2]
def FPost (c : Int) (L : List Fld) (n : Nat) (w : World) (e : Ending) (w' : World) : Prop := ∃ oa cap, e = .returned (.tuple #[.slice oa n cap, .int .i64 c]) ∧ FieldsN w' oa L ∧ n ≤ cap ∧ Below w.heap.size w w'
theorem fields_post {s l r : Int} {w : World} {e : Ending} {w' : World} (h : FieldsPost s l r w e w') : FPost (respE s l r) (FL s l r) (FL s l r).length w e w' := by
  rcases h with ⟨h, rfl, hb⟩ | ⟨h, v, rfl, ho, hb⟩
  · refine ⟨none, 0, ?_, ?_, ?_, hb⟩
    · rw [respE_8 h]; unfold FL; rw [if_neg h]; rfl
    · unfold FL; rw [if_neg h]; exact fun i f hf => by simp at hf
    · unfold FL; rw [if_neg h]; exact Nat.le_refl _
  · obtain ⟨oa, cap, rfl, hf, hc, _⟩ := ho.form
    have e : FL s l r = fieldsR s.toNat l.toNat r.toNat := if_pos h
    exact ⟨oa, cap, by rw [h, e], by rw [e]; exact hf, by rw [e]; exact hc, hb⟩
set_option maxRecDepth 100000 in
set_option maxHeartbeats 4000000 in
theorem respFields_any (s l r t p : Int) (w : World) (hT : Tab w) (_ : (Lit.int .i64 s).wf = true) (_ : (Lit.int .i64 l).wf = true) (_ : (Lit.int .i64 r).wf = true) (ht : (Lit.int .i64 t).wf = true) (hp : (Lit.int .i64 p).wf = true) :
    Calls Tryd.prog 3 #[.agg #[.int .i64 s, .int .i64 l, .int .i64 r], .int .i64 t, .int .i64 p] w fun e w' => e = .returned (.bool true) ∧ Below w.heap.size w w' := by
  have HT := Lib.hid hT
  have HW1 := Lib.hid (fun W => wait_any t p ht hp W)
  have HW2 := Lib.hid (fun W => dwait_any t p ht hp W)
  have HC1 := Lib.hid (fun W => check_any s l r W)
  have HC2 := Lib.hid (fun W => dcheck_any s l r W)
  have HP1 := Lib.hid (fun W hW => (fields_any s l r W hW).mono (fun e w' h => fields_post h))
  have HP2 := Lib.hid (fun W => (dfields_any s l r W).mono (fun e w' h => fields_post h))
  have HAW := Lib.hid (fun W hW => awake18_any W hW)
  have hfl := FL_len s l r
  have HSF := Lib.hid (fun oa ob cap cap' W hf hg => sameFields_any oa ob _ _ cap cap' (FL s l r) (FL s l r) rfl rfl (by omega) (by omega) W hf hg)
  rw [sameL_refl] at HSF
  generalize waitI t p = q at HW1 HW2
  unfold FPost at HP1 HP2
  generalize FL s l r = L at HP1 HP2 HSF hfl
  generalize L.length = n at HP1 HP2 HSF hfl
  generalize respE s l r = c at HP1 HP2 HC1 HC2
  clear hT ht hp
  have HX := Lib.hid (XRow.new 23 w s l r)
  have HB := Lib.hid ((Below.refl w.heap.size w).alloc (Nat.le_refl _) (.cells #[.int .i64 s, .int .i64 l, .int .i64 r] 23))
  go_enter Tryd.func3, Tryd.ntmps3
  go_upto_region 1 with fail
  generalize w.alloc (.cells #[.int .i64 s, .int .i64 l, .int .i64 r] 23) = w1 at HX HB ⊢
  have x0 := HX.out.c0
  have x1 := HX.out.c1
  have x2 := HX.out.c2
  go_wp2_with fail
  refine (HP1.out _ (HT.out.below HB.out)).mono ?_
  rintro e w2 ⟨oa, ca, rfl, hfa, _, hb⟩
  have HX2 := Lib.hid (HX.out.step hb)
  have HB2 := Lib.hid (HB.out.trans (hb.mono HB.out.size))
  have HFA := Lib.hid hfa
  clear hb hfa HX HB x0 x1 x2
  have x0 := HX2.out.c0
  have x1 := HX2.out.c1
  have x2 := HX2.out.c2
  go_wp2_with fail
  refine (HP2.out _).mono ?_
  rintro e w3 ⟨ob, cb, rfl, hfb, _, hb⟩
  have HX3 := Lib.hid (HX2.out.step hb)
  have HB3 := Lib.hid (HB2.out.trans (hb.mono HB2.out.size))
  have HFA3 := Lib.hid (HFA.out.below hb)
  have HFB3 := Lib.hid hfb
  clear hb hfb HX2 HB2 HFA x0 x1 x2
  have HF := Lib.hid (show ∀ W, Below w3.heap.size w3 W → (Below w3.heap.size w3 W ∧ W.cell? ⟨w.heap.size, 0, none⟩ = some (.int .i64 s) ∧ W.cell? ⟨w.heap.size, 1, none⟩ = some (.int .i64 l) ∧ W.cell? ⟨w.heap.size, 2, none⟩ = some (.int .i64 r)) from fun W hW => ⟨hW, (HX3.out.step hW).c0, (HX3.out.step hW).c1, (HX3.out.step hW).c2⟩)
  have H0 := Lib.hid (HF.out w3.drew (Below.refl _ _).drew)
  have HTW := Lib.hid (show ∀ W, Below w3.heap.size w3 W → Tab W from fun W hW => HT.out.below (HB3.out.trans (hW.mono HB3.out.size)))
  have HEND := Lib.hid (show ∀ W, Below w3.heap.size w3 W → Below w.heap.size w W from fun W hW => HB3.out.trans (hW.mono HB3.out.size))
  have HSF2 := Lib.hid (fun W (hW : Below w3.heap.size w3 W) => HSF.out oa ob ca cb W (HFA3.out.below hW) (HFB3.out.below hW))
  clear HSF HX3 HB3
  go_wp2_with fail
  go_region_held (fun W => Below w3.heap.size w3 W ∧ W.cell? ⟨w.heap.size, 0, none⟩ = some (.int .i64 s) ∧ W.cell? ⟨w.heap.size, 1, none⟩ = some (.int .i64 l) ∧ W.cell? ⟨w.heap.size, 2, none⟩ = some (.int .i64 r)) (first | exact HBN | exact H0.out) (first
    | (go_at_call 13; refine (HSF2.out _ (And.left (by assumption))).mono ?_; rintro e w' ⟨rfl, hb⟩; have HBN := HF.out _ (bs_step hb (by assumption)))
    | (go_at_call 14; refine (HC1.out _).mono ?_; rintro e w' ⟨rfl, hb⟩; have HBN := HF.out _ (bs_step hb (by assumption)))
    | (go_at_call 15; refine (HC2.out _).mono ?_; rintro e w' ⟨rfl, hb⟩; have HBN := HF.out _ (bs_step hb (by assumption)))
    | (go_at_call 16; refine (HW1.out _).mono ?_; rintro e w' ⟨rfl, rfl⟩)
    | (go_at_call 17; refine (HW2.out _).mono ?_; rintro e w' ⟨rfl, rfl⟩)
    | (go_at_call 18; refine (HAW.out _ (HTW.out _ (And.left (by assumption)))).mono ?_; rintro e w' ⟨rfl, hb⟩; have HBN := HF.out _ (bs_step hb (by assumption))))
  all_goals
    go_wp2_with fail
    go_ret
    exact ⟨rfl, HEND.out _ HBN.1⟩
#print axioms respFields_any
end Go.Proofs.YtfgicmekkjhlkaaDoor
