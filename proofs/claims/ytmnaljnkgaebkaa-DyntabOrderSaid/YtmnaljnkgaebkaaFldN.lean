/- dyntab.New; (dyntab.Table).own. -/
import Derived.Test.YtmnaljnkgaebkaaFldL
namespace Go.Proofs.Ytmnaljnkgaebkaa
open Go.RowKit
set_option linter.unusedVariables false
set_option linter.unusedSimpArgs false

theorem OwnF.set {w : World} {B : Nat} {v : Value} {L : List Fld} (h : OwnF w B v L) (q a : Nat) (x : Value) (hq : q < B) : OwnF (w.setCell ⟨q, a, none⟩ x) B v L :=
  World.ownsRow.kept h (row := some q) ⟨rfl, rfl, rfl, by simp, fun k _ hk => Below.heap_setCell _ _ _ _ (fun e => hk (by simp [e]))⟩ (by
    cases hv : v.ownBlock with
    | none => exact .inl rfl
    | some g =>
      have := (h.lt g hv).1
      exact .inr (fun e => by simp at e; omega))
def OwnPost (mx : Int) (L : List Fld) (w : World) (e : Ending) (w' : World) : Prop := ∃ v, e = .returned (.agg #[.int .i64 mx, v]) ∧ OwnF w' w.heap.size v L ∧ Below w.heap.size w w'
set_option maxRecDepth 100000 in
set_option maxHeartbeats 1000000 in
theorem own_any (mx : Int) (oa : Option Addr) (n cap : Nat) (L : List Fld) (hn : L.length = n) (hn100 : n ≤ 1000) (w : World) (hf : FieldsN w oa L) :
    Calls Try.prog 71 #[.agg #[.int .i64 mx, .slice oa n cap]] w (OwnPost mx L w) := by
  have HCL := Lib.hid (fun W hW => clone_any oa n cap L hn hn100 W hW)
  have HF := Lib.hid hf
  clear hn hf
  have HT := Lib.hid (two0 w (.cells #[.int .i64 mx, .slice oa n cap] 48) (.cells #[.int .i64 0, .slice none 0 0] 48))
  have HR := Lib.hid (two1 w (.cells #[.int .i64 mx, .slice oa n cap] 48) (.cells #[.int .i64 0, .slice none 0 0] 48))
  have HB := Lib.hid (((Below.refl w.heap.size w).alloc (Nat.le_refl _) (.cells #[.int .i64 mx, .slice oa n cap] 48)).alloc (by simp) (.cells #[.int .i64 0, .slice none 0 0] 48))
  go_enter Try.func71, Try.ntmps71
  go_upto_region 1 with fail
  generalize hW : (w.alloc (.cells #[.int .i64 mx, .slice oa n cap] 48)).alloc (.cells #[.int .i64 0, .slice none 0 0] 48) = W at HT HR HB ⊢
  have HFW := Lib.hid (HF.out.below HB.out)
  have c0 : W.cell? ⟨w.heap.size, 0, none⟩ = some (.int .i64 mx) := cell_of_row _ _ _ _ _ _ HT.out
  have HQ := Lib.hid (show w.heap.size + 1 < W.heap.size from World.block_lt_of_cell? W ⟨w.heap.size + 1, 0, none⟩ (cell_of_row _ _ _ _ _ _ HR.out))
  have c1 : W.cell? ⟨w.heap.size, 1, none⟩ = some (.slice oa n cap) := cell_of_row _ _ _ _ _ _ HT.out
  go_region_with (go_at_call 93; refine (HCL.out _ (FieldsN.below HFW.out (Below.refl _ _).drew)).mono ?_; rintro e w1 ⟨v, rfl, ho, hb⟩; obtain ⟨oa', cap', rfl, _⟩ := ho.form; have HO := Lib.hid ho; have HBB := Lib.hid hb; have d0 : w1.cell? ⟨w.heap.size, 0, none⟩ = some (.int .i64 mx) := (hb.cell (p := ⟨w.heap.size, 0, none⟩) (World.block_lt_of_cell? W _ c0)).trans c0; have hR1 : w1.heap[w.heap.size + 1]? = some (.cells #[.int .i64 0, .slice none 0 0] 48 (0, 0)) := (hb.block _ HQ.out).trans HR.out; have e0 : w1.cell? ⟨w.heap.size + 1, 0, none⟩ = some (.int .i64 0) := cell_of_row _ _ _ _ _ _ hR1; have e1 : w1.cell? ⟨w.heap.size + 1, 1, none⟩ = some (.slice none 0 0) := cell_of_row _ _ _ _ _ _ hR1; have f0 := frozen_of_row _ _ 0 _ _ hR1; have f1 := frozen_of_row _ _ 1 _ _ hR1; have HR1 := Lib.hid hR1; clear ho hb hR1)
  all_goals
    have hB3 : Below w.heap.size w ((w1.setCell ⟨w.heap.size + 1, 0, none⟩ (.int .i64 mx)).setCell ⟨w.heap.size + 1, 1, none⟩ (.slice oa' L.length cap')) :=
      ((HB.out.drew.trans (Below.mono HBB.out (show w.heap.size ≤ W.drew.heap.size from HB.out.size))).setCell (show w.heap.size ≤ (⟨w.heap.size + 1, 0, none⟩ : Addr).block from Nat.le_succ _) _).setCell (show w.heap.size ≤ (⟨w.heap.size + 1, 1, none⟩ : Addr).block from Nat.le_succ _) _
    have hO3 : OwnF ((w1.setCell ⟨w.heap.size + 1, 0, none⟩ (.int .i64 mx)).setCell ⟨w.heap.size + 1, 1, none⟩ (.slice oa' L.length cap')) w.heap.size (.slice oa' L.length cap') L :=
      ((HO.out.set _ _ _ HQ.out).set _ _ _ HQ.out).mono HB.out.size
    have HB3 := Lib.hid hB3
    have HO3 := Lib.hid hO3
    clear hB3 hO3
    go_wp2_with fail
    refine bodyPost_ret (v := .agg #[.int .i64 mx, .slice oa' L.length cap']) (by simp [results, Try.results71, go_sem, e0, e1]) rfl ⟨_, rfl, HO3.out, HB3.out⟩
set_option maxRecDepth 100000 in
set_option maxHeartbeats 1000000 in
theorem new_yes (m : Int) (h : 0 ≤ m ∧ m ≤ 4096) (w : World) : Calls Try.prog 37 #[.int .i64 m] w fun e w' => e = .returned (.tuple #[.agg #[.int .i64 m, .slice none 0 0], .int .i64 0]) ∧ Below w.heap.size w w' := by
  have HI := Lib.hid (in_yes m h)
  clear h
  go_enter Try.func37, Try.ntmps37
  go_wp2_with fail
  refine (HI.out _).mono ?_
  rintro e w1 ⟨rfl, hw⟩
  subst hw
  go_wp2_with fail
  have HB := Lib.hid ((Below.refl w.heap.size w).alloc (Nat.le_refl _) (.cells #[.int .i64 m, .slice none 0 0] 48))
  refine bodyPost_ret (v := .tuple #[.agg #[.int .i64 m, .slice none 0 0], .int .i64 0]) (by simp [results, Try.results37, go_sem]) rfl ⟨rfl, HB.out⟩
set_option maxRecDepth 100000 in
set_option maxHeartbeats 1000000 in
theorem new_no (m : Int) (h : m < 0 ∨ 4096 < m) (w : World) : Calls Try.prog 37 #[.int .i64 m] w fun e w' => e = .returned (.tuple #[.agg #[.int .i64 0, .slice none 0 0], .int .i64 8]) ∧ Below w.heap.size w w' := by
  have HI := Lib.hid (in_no m h)
  clear h
  go_enter Try.func37, Try.ntmps37
  go_wp2_with fail
  refine (HI.out _).mono ?_
  rintro e w1 ⟨rfl, hw⟩
  subst hw
  go_wp2_with fail
  have HB := Lib.hid ((Below.refl w.heap.size w).alloc (Nat.le_refl _) (.cells #[.int .i64 0, .slice none 0 0] 48))
  refine bodyPost_ret (v := .tuple #[.agg #[.int .i64 0, .slice none 0 0], .int .i64 8]) (by simp [results, Try.results37, go_sem]) rfl ⟨rfl, HB.out⟩
#print axioms own_any
#print axioms new_no
end Go.Proofs.Ytmnaljnkgaebkaa
