/- A path's parts, at the path that every right program is asked: the walk. -/
import Derived.Test.YtbpcknjobbjmpaaDoorQryJ
import Derived.Maps.AppendAt
namespace Go.Proofs.YtbpcknjobbjmpaaDoor
open Go.RowKit Go.Shelf
set_option linter.unusedVariables false
set_option linter.unusedSimpArgs false
attribute [local go_sem] Oper.semAt_some

def sP : ByteArray := ⟨#[47, 97, 37, 50, 70, 98, 47, 47, 99, 63, 100]⟩
def hP : ByteArray := ⟨#[47, 97, 37, 50, 70, 98, 47, 47, 99]⟩
def dP : ByteArray := ⟨#[100]⟩
theorem sP_cut : cutS sP 63 = (hP, dP, true) := by kernel_rfl
theorem hP_cut : (ByteArray.mk (Lib.trimPrefix hP.data.toList [47]).toArray) = rP ∧ Lib.hasPrefix hP.data.toList [47] = true := by constructor <;> kernel_rfl
def PartsPost (w : World) (e : Ending) (W' : World) : Prop := ∃ g cap, e = .returned (.tuple #[.slice (some ⟨g, 0, none⟩) 3 cap, .int .i64 0]) ∧ W'.cell? ⟨g, 0, none⟩ = some (.string t0) ∧ g < W'.heap.size ∧ Below w.heap.size w W'
def vals (pre : List TxA) : List Value := pre.map fun x => Value.string x.1
theorem row_not {W : World} {B : Nat} {v : Value} {pre : List TxA} (hrow : W.ownsRow B 9 1 v pre.length (vals pre)) (hnil : v = .slice none 0 0 ↔ pre = []) {j : Nat} (hj : W.heap[j]? = some (.cells prow 9 (0, 0))) : some j ≠ v.ownBlock := by
  rcases hrow.2 with ⟨rfl, _⟩ | ⟨g, cap, cur, rfl, _, hgb, _, _, _, htake⟩
  · simp [Value.ownBlock]
  · intro e
    obtain rfl : j = g := by simpa [Value.ownBlock] using e
    rw [hj] at hgb
    obtain rfl : prow = cur := by cases hgb; rfl
    cases pre with
    | nil => exact absurd (hnil.2 rfl) (by simp)
    | cons y l =>
      have h1 : (prow.toList.take ((y :: l).length * 1))[0]? = (vals (y :: l))[0]? := by rw [htake]
      rw [List.getElem?_take_of_lt (by simp)] at h1
      have h2 : some (Value.string q0) = some (Value.string y.1) := h1
      exact y.2 (by injection h2 with h3; injection h3 with h4; exact h4.symm)
theorem kpR_store {W w' : World} {B : Nat} {v v' u : Value} {tmp : Obj} (hv : Boxed W B 47 u) (hrow : ∀ j, W.heap[j]? = some (.cells prow 9 (0, 0)) → some j ≠ v.ownBlock) (hgrow : (W.alloc tmp).grownBy w' v.ownBlock) : KpR W (w'.setCell ⟨B, 0, none⟩ v') := fun j hj => by
  have hlt : j < W.heap.size := (Array.getElem?_eq_some_iff.1 hj).1
  have hne : j ≠ B := fun e => by subst e; have := (show W.heap[j]? = _ from hv).symm.trans hj; cases this
  exact (Below.heap_setCell _ _ _ j (fun e => hne (by first | exact e | exact e.symm))).trans ((hgrow.block j (by simp; omega) (hrow j hj)).trans ((Below.heap_alloc _ _ j hlt).trans hj))
set_option maxRecDepth 100000 in
set_option maxHeartbeats 8000000 in
theorem parts_awake (w : World) (hM : MaxC w) : Calls Tryd.prog 49 #[.string sP] w (PartsPost w) := by
  have HB0 := Lib.hid (((Below.refl w.heap.size w).alloc (Nat.le_refl _) (.cells #[.slice none 0 0] 47)).alloc (by simp) (.cells #[.int .i64 0] 26))
  have hS := split_any sP (by decide) _ (hM.below HB0.out)
  rw [sP_cut] at hS
  have HS := Lib.hid hS
  have hC := fun W => Tryd.strings_CutPrefix hP ⟨#[47]⟩ W
  have e47 : (ByteArray.mk #[47]).data.toList = [47] := rfl
  rw [e47, hP_cut.1, hP_cut.2] at hC
  have HC := Lib.hid hC
  have HM := Lib.hid hM
  clear hS hC e47 hM
  refine (callsIn_wide (n := 3)).1 ?_
  refine callsIn_of_wp_marks Tryd.func49 rfl trivial ?_ rfl
  simp only [Tryd.ntmps49, List.size_toArray, List.length_cons, List.length_nil, Nat.reduceAdd, Nat.reduceSub, Array.replicate_succ, Array.replicate_zero, List.push_toArray, List.append_toArray, List.nil_append, List.cons_append]
  gi_wp2_with (first
    | (refine ⟨trivial, ?_⟩; gi_at_call 31; refine (callsIn_wide.2 HS.out).mono ?_; rintro e w1 ⟨rfl, hb1⟩; have HB1 := Lib.hid hb1; clear hb1)
    | (refine ⟨trivial, ?_⟩; gi_at_call 52; refine (callsIn_wide.2 (HC.out _)).mono ?_; rintro e w2 ⟨rfl, hw⟩; obtain rfl := hw.symm)
    | (refine ⟨trivial, ?_⟩; gi_at_call 66; refine (callsIn_wide.2 (decoded_any rP ⟨#[47]⟩ _)).mono ?_; rintro e w3 ⟨rfl, rfl⟩))
  obtain ⟨i0, hi0, hz0, hz1, hz2⟩ := info_parts string_info
  have hbox := Boxed.new w1 47 (.slice none 0 0)
  have hb1 := Boxed.new (w1.alloc (.cells #[.slice none 0 0] 47)) 9 (.string rP)
  have hb2 := Boxed.new ((w1.alloc (.cells #[.slice none 0 0] 47)).alloc (.cells #[.string rP] 9)) 9 (.string ⟨#[47]⟩)
  simp only [World.size_alloc] at hb1 hb2
  have c1 := (hb1.alloc (.cells #[.string ⟨#[47]⟩] 9)).cell
  have c2 := hb2.cell
  have hBw : Below w1.heap.size w1 (((w1.alloc (.cells #[.slice none 0 0] 47)).alloc (.cells #[.string rP] 9)).alloc (.cells #[.string ⟨#[47]⟩] 9)) := (((Below.refl _ w1).alloc (Nat.le_refl _) _).alloc (by simp) _).alloc (by simp; omega) _
  refine wpIn_rangeFunc_ownF rfl (by omega) (gf := 80) (lb := #[.pointer (some ⟨w1.heap.size + 1, 0, none⟩), .pointer (some ⟨w1.heap.size + 1 + 1, 0, none⟩)]) rfl trivial (enters_of Tryd.func80 (by kernel_rfl) rfl)
    (decoded_stops (3 - 1) (by omega) _ (HM.out.below (HB0.out.trans ((HB1.out.mono (by simp; omega)).trans (hBw.mono (by have := HB1.out.size; simp at this; omega))))) (w1.heap.size + 1) (w1.heap.size + 1 + 1) (by simp) (by simp) c1 c2)
    (fun h k j hj => k j (h j hj)) (fun W l o o' hle hl hc hw j hj => (World.putObj_heap_other (fun e => by subst e; rw [hj] at hl; cases hl; cases hc)).trans hj) (Below.refl _ _) (fun _ => rfl)
    (fun pre W => (∃ v, Boxed W w1.heap.size 47 v ∧ W.ownsRow w1.heap.size 9 1 v pre.length (vals pre) ∧ (v = .slice none 0 0 ↔ pre = [])) ∧ Below w1.heap.size w1 W)
    (fun _ _ _ => False)
    (OwnFrom.and (Own.from (holdsRow_own w1.heap.size w1.heap.size 47 9 1 (fun pre : List TxA => pre.length) vals (fun pre v => (v = .slice none 0 0 ↔ pre = []))) _) (ownFrom_below (Nat.le_refl _) (by simp; omega)))
    (fun _ _ _ _ _ hs _ _ => hs)
    ⟨⟨_, (hbox.alloc _).alloc _, World.ownsRow_nil _ _ _ _, by simp⟩, hBw⟩
    (fun x => { tmps := #[.string sP, undef, .pointer (some ⟨w.heap.size, 0, none⟩), .pointer (some ⟨w.heap.size + 1, 0, none⟩), .string hP, .string dP, .bool true, .string rP, .bool true, .pointer (some ⟨w1.heap.size, 0, none⟩), .string x.1, .int .i64 0, .tuple #[.string hP, .string dP, .bool true], .string sP, .tuple #[.string hP, .string dP, .bool true], .string hP, .string dP, .bool true, .tuple #[.string rP, .bool true], .string hP, .tuple #[.string rP, .bool true], .string rP, .bool true, .bool true, .bool false, .string rP, .func (.func 80) #[] #[.pointer (some ⟨w1.heap.size + 1, 0, none⟩), .pointer (some ⟨w1.heap.size + 1 + 1, 0, none⟩)], .string x.1, .int .i64 0, undef, undef, undef, undef, undef, undef, undef, undef], defers := [] }) ?assign ?body ?done ?stop
  case assign =>
    intro l x W K hK
    gi_wp2
    exact hK
  case body =>
    rintro l pre x W ⟨⟨v, hv, hrow, hnil⟩, hB⟩ hlen
    have hvc := hv.cell
    have hle : w1.heap.size ≤ W.heap.size := hB.size
    have hc2 : pre.length + 1 ≤ maxLen := by unfold maxLen; omega
    have hone : ∀ u ∈ [Value.string x.1], u.oneCell' = true := by intro u hu; simp at hu; subst hu; rfl
    gi_wp2_with (gi_at_builtin; refine wpListIn_append_own _ rfl _ _ 47 rfl w1.heap.size 9 i0 _ 1 16 Tryd.underlying47 hi0 hz0 hz1 hz2 rfl (by decide) _ _ _ rfl (hrow.alloc _) ⟨W.heap.size, 0, none⟩ 1 1 [Value.string x.1] rfl rfl (cell_one_new _ _ _) hone hc2 (by omega) (by simp; omega) ?_; intro v' w5 hown' hgrow _; obtain ⟨g', cap', rfl⟩ := ownsRow_succ hown'; obtain ⟨hv1, hv2, hr2, hk2, hb2⟩ := hv.appended (by decide) hrow hle (Nat.le_refl _) hown' hgrow; have hc1 := hv1.cell; have hf1 := hv1.frozen)
    refine ⟨hk2, kpR_store (v := v) hv (fun j hj => row_not hrow hnil hj) hgrow, ⟨_, hv2, ?_, by simp⟩, hB.trans hb2⟩
    have e1 : vals (pre ++ [x]) = vals pre ++ [Value.string x.1] := by simp [vals]
    rw [e1, List.length_append]
    exact hr2
  case done =>
    rintro D ys W hD rfl ⟨⟨v, hv, hrow, _⟩, hB⟩ hK
    have hsz01 : w.heap.size + 1 + 1 ≤ w1.heap.size := by have := HB1.out.size; simp at this; exact this
    have hrow3 : W.ownsRow w1.heap.size 9 1 v (2 + 1) (vals xs3) := hrow
    obtain ⟨g, cap, rfl⟩ := ownsRow_succ hrow3
    have hvc := hv.cell
    have bx2 : Boxed W w.heap.size 47 (.slice none 0 0) := (hB.block _ (by omega)).trans ((HB1.out.block _ (by simp; omega)).trans ((Boxed.new w 47 (.slice none 0 0)).alloc _))
    have bx3' := Boxed.new (w.alloc (.cells #[.slice none 0 0] 47)) 26 (.int .i64 0)
    simp only [World.size_alloc] at bx3'
    have bx3 : Boxed W (w.heap.size + 1) 26 (.int .i64 0) := (hB.block _ (by omega)).trans ((HB1.out.block _ (by simp)).trans bx3')
    have k2 := bx2.cell
    have k3 := bx3.cell
    have z2 := bx2.frozen
    have z3 := bx3.frozen
    have hK' := ((KeepsOthers.setCell W ⟨w.heap.size, 0, none⟩ (.slice (some ⟨g, 0, none⟩) (2 + 1) cap)).trans (KeepsOthers.setCell _ ⟨w.heap.size + 1, 0, none⟩ (.int .i64 0))).same D _ hK rfl
    have hDs : w1.heap.size ≤ D := by simp at hD; omega
    have b2a := (bx2.set (.slice (some ⟨g, 0, none⟩) (2 + 1) cap)).kept (grownBy_setCell' (W.setCell ⟨w.heap.size, 0, none⟩ (.slice (some ⟨g, 0, none⟩) (2 + 1) cap)) (w.heap.size + 1) (.int .i64 0)) (by simp)
    have b3a := ((bx3.kept (grownBy_setCell' W w.heap.size (.slice (some ⟨g, 0, none⟩) (2 + 1) cap)) (by simp)).set (.int .i64 0))
    have b2b := (b2a.kept (grownBy_putObj' _ D (.deferred none)) (by simp; omega)).cell
    have b3b := (b3a.kept (grownBy_putObj' _ D (.deferred none)) (by simp; omega)).cell
    have hbf := ((((HB0.out.trans (HB1.out.mono (by simp; omega))).trans (hB.mono (by omega))).setCell (p := ⟨w.heap.size, 0, none⟩) (Nat.le_refl _) (.slice (some ⟨g, 0, none⟩) (2 + 1) cap)).setCell (p := ⟨w.heap.size + 1, 0, none⟩) (by simp) (.int .i64 0)).trans (belowK_b (w := w) (Nat.le_refl _) _ D _ (.deferred none) (by omega) hK' rfl rfl)
    have hgr : ∃ cur, W.heap[g]? = some (.cells cur 9 (0, 0)) ∧ w1.heap.size ≤ g := by
      rcases hrow3.2 with ⟨e, _⟩ | ⟨g', cap', cur, e, hbg, hg, _⟩
      · cases e
      · cases e; exact ⟨cur, hg, hbg⟩
    obtain ⟨cur, hgr, hgb⟩ := hgr
    have hc0 := World.ownsRow.cells hrow3 (g := g) rfl 0 (.string t0) rfl
    rw [addr_add0] at hc0
    have hgD : g ≠ D := fun e => by subst e; rw [hgr] at hK; cases hK
    have hfin : (((W.setCell ⟨w.heap.size, 0, none⟩ (.slice (some ⟨g, 0, none⟩) (2 + 1) cap)).setCell ⟨w.heap.size + 1, 0, none⟩ (.int .i64 0)).putObj D (.deferred none)).heap[g]? = W.heap[g]? :=
      (World.putObj_heap_other (fun e => hgD (by first | exact e | exact e.symm))).trans ((heap_setCell_other _ _ _ _ (by simp; omega)).trans (heap_setCell_other _ _ _ _ (by simp; omega)))
    have HFIN := Lib.hid (show PartsPost w (.returned (.tuple #[.slice (some ⟨g, 0, none⟩) 3 cap, .int .i64 0])) _ from ⟨g, cap, rfl, (cell_eq (a := ⟨g, 0, none⟩) hfin).trans hc0, (Array.getElem?_eq_some_iff.1 (hfin.trans hgr)).1, hbf⟩)
    clear hfin hbf bx2 bx3 b2a b3a bx3' hrow hrow3
    gi_wp2
    refine ⟨by simp, .inl ⟨_, _, rfl, run_takeDeferred hK', ?_⟩⟩
    refine ⟨_, ?_, HFIN.out⟩
    simp [results, Tryd.results49, go_sem, b2b, b3b]
  case stop =>
    rintro D c pre W _ _ h _
    exact h.elim
end Go.Proofs.YtbpcknjobbjmpaaDoor
