/- FldL · FldN: joined by a program, for a claim has at most 60 files. -/
import Derived.Test.YteceinojmdgmeaaC22
import Derived.Test.YteceinojmdgmeaaC06
/- A table without its oldest fields: (dyntab.Table).less. -/
namespace Go.Proofs.Yteceinojmdgmeaa
open Go.RowKit
set_option linter.unusedVariables false
set_option linter.unusedSimpArgs false

/-- How many of the first k fields count at most so much together. -/
def fitN (L : List Fld) (most : Int) : Nat → Nat
  | 0 => 0
  | k + 1 => if most < (sumF (L.take (k + 1)) : Nat) then fitN L most k else k + 1
theorem fitN_le (L : List Fld) (most : Int) : ∀ k, fitN L most k ≤ k
  | 0 => Nat.le_refl _
  | k + 1 => by
    unfold fitN
    split
    · exact Nat.le_succ_of_le (fitN_le L most k)
    · exact Nat.le_refl _
theorem two0 (w : World) (o1 o2 : Obj) : ((w.alloc o1).alloc o2).heap[w.heap.size]? = some o1 :=
  (((Below.refl (w.alloc o1).heap.size (w.alloc o1)).alloc (Nat.le_refl _) o2).block w.heap.size (by simp)).trans (heap_alloc_new w o1)
theorem two1 (w : World) (o1 o2 : Obj) : ((w.alloc o1).alloc o2).heap[w.heap.size + 1]? = some o2 := by
  have h := heap_alloc_new (w.alloc o1) o2
  rwa [show (w.alloc o1).heap.size = w.heap.size + 1 from by simp] at h
set_option maxRecDepth 100000 in
set_option maxHeartbeats 1000000 in
theorem less_any (mx most : Int) (oa : Option Addr) (n cap : Nat) (L : List Fld) (hn : L.length = n) (hl : ∀ f ∈ L, lightF f = true) (hn30 : n ≤ 1000) (hnc : n ≤ cap) (w : World) (hf : FieldsN w oa L) :
    Calls Try.prog 56 #[.agg #[.int .i64 mx, .slice oa n cap], .int .i64 most] w fun e w' => e = .returned (.agg #[.int .i64 mx, .slice oa (fitN L most n) cap]) ∧ Below w.heap.size w w' := by
  have HSZ := Lib.hid (fun W hW => size_tab mx oa n cap L hn hl hn30 W hW)
  have HN := Lib.hid hn
  have HLI := Lib.hid hl
  have HF := Lib.hid hf
  clear hn hf hl
  go_enter Try.func56, Try.ntmps56
  go_wp2_with fail
  refine (HSZ.out _ (HF.out.below (((Below.refl _ _).alloc (Nat.le_refl _) _).alloc (by simp) _))).mono ?_
  rintro e w1 ⟨rfl, hb⟩
  have HT := Lib.hid (show w1.heap[w.heap.size]? = some (.cells #[.int .i64 mx, .slice oa n cap] 28 (0, 0)) from (hb.block _ (by simp; omega)).trans (two0 w _ _))
  have HR := Lib.hid (show w1.heap[w.heap.size + 1]? = some (.cells #[.int .i64 0, .slice none 0 0] 28 (0, 0)) from (hb.block _ (by simp)).trans (two1 w _ _))
  have HB := Lib.hid ((((Below.refl w.heap.size w).alloc (Nat.le_refl _) (.cells #[.int .i64 mx, .slice oa n cap] 28)).alloc (by simp) (.cells #[.int .i64 0, .slice none 0 0] 28)).trans (hb.mono (by simp; omega)))
  clear hb
  have hbs := HB.out.size
  have hq1 : w.heap.size < w1.heap.size := by
    have := World.block_lt_of_cell? w1 ⟨w.heap.size, 0, none⟩ (cell_of_row _ _ _ _ _ _ HT.out); exact this
  have hq2 : w.heap.size + 1 < w1.heap.size := by
    have := World.block_lt_of_cell? w1 ⟨w.heap.size + 1, 0, none⟩ (cell_of_row _ _ _ _ _ _ HR.out); exact this
  have HQ1 := Lib.hid hq1
  have HQ2 := Lib.hid hq2
  clear hbs hq1 hq2
  have hfull : L.take n = L := by rw [← HN.out]; exact List.take_length
  have HFU := Lib.hid (show sumF L = sumF (L.take n) from by rw [hfull])
  clear hfull
  go_wp2_with fail
  go_loopw [5] (fun s wr => ∃ k : Nat, k ≤ n ∧ s = .int .i64 (sumF (L.take k) : Nat) ∧ fitN L most k = fitN L most n ∧ FieldsN wr oa L ∧ wr.heap[w.heap.size]? = some (.cells #[.int .i64 mx, .slice oa k cap] 28 (0, 0)) ∧ wr.heap[w.heap.size + 1]? = some (.cells #[.int .i64 0, .slice none 0 0] 28 (0, 0)) ∧ Below w.heap.size w wr) (fun _ wr => match wr.cell? ⟨w.heap.size, 1, none⟩ with | some (.slice _ k _) => k | _ => 0)
  case atStart => exact ⟨n, Nat.le_refl _, by rw [HFU.out], rfl, HF.out.below HB.out, HT.out, HR.out, HB.out⟩
  case round =>
    obtain ⟨k, hk, rfl, hfit, hfw, hT, hR, hB⟩ := hrel
    have HFIT := Lib.hid hfit
    have HFW := Lib.hid hfw
    have HTT := Lib.hid hT
    have HRR := Lib.hid hR
    have HBB := Lib.hid hB
    have c0 : wr.cell? ⟨w.heap.size, 0, none⟩ = some (.int .i64 mx) := cell_of_row _ _ _ _ _ _ hT
    have c1 : wr.cell? ⟨w.heap.size, 1, none⟩ = some (.slice oa k cap) := cell_of_row _ _ _ _ _ _ hT
    clear hfit hfw hT hR hB
    by_cases hmost : most < (sumF (L.take k) : Nat)
    · cases k with
      | zero =>
        have hm1 : decide (most < ((sumF (L.take 0) : Nat) : Int)) = true := decide_eq_true hmost
        have HF0 := Lib.hid (show fitN L most n = 0 from by rw [← HFIT.out]; rfl)
        clear hmost
        generalize sumF (L.take 0) = S at hm1 ⊢
        have hRR := HRR.out
        have HB2 := Lib.hid (below_setRow HBB.out (show w.heap.size ≤ w.heap.size + 1 from by omega) #[.int .i64 mx, .slice oa 0 cap])
        have HR2 := Lib.hid (show (wr.setRow (w.heap.size + 1) #[.int .i64 mx, .slice oa 0 cap]).heap[w.heap.size + 1]? = some (.cells #[.int .i64 mx, .slice oa 0 cap] 28 (0, 0)) from setRow_heap _ _ _ _ _ _ hRR)
        have q : ∀ j : Nat, (wr.setRow (w.heap.size + 1) #[.int .i64 mx, .slice oa 0 cap]).cell? ⟨w.heap.size + 1, j, none⟩ = #[Value.int .i64 mx, .slice oa 0 cap][j]? := fun j => cell_of_row _ _ _ _ _ _ HR2.out
        have q0 := q 0
        have q1 := q 1
        clear q
        simp at q0 q1
        go_wp2_with (refine wpList_store_row rfl _ _ _ rfl (w.heap.size + 1) #[.int .i64 mx, .slice oa 0 cap] rfl rfl _ _ hRR (by kernel_rfl) (by kernel_rfl) (by kernel_rfl) ?_)
        refine bodyPost_ret (v := .agg #[.int .i64 mx, .slice oa 0 cap]) (by simp [results, Try.results56, go_sem, q0, q1]) rfl ⟨by rw [HF0.out], HB2.out⟩
      | succ j =>
        have hjL : j < L.length := by rw [HN.out]; omega
        obtain ⟨b, o, rfl, h1, h2, h3⟩ := HFW.out j L[j] (List.getElem?_eq_getElem hjL)
        have hm1 : decide (most < ((sumF (L.take (j + 1)) : Nat) : Int)) = true := decide_eq_true hmost
        have hj1 : decide ((0 : Int) < ((j + 1 : Nat) : Int)) = true := decide_eq_true (by omega)
        have hw1 : IntKind.i64.wrap (((j + 1 : Nat) : Int) - 1) = (j : Int) := by rw [show ((j + 1 : Nat) : Int) - 1 = (j : Int) from by omega]; exact IntWalk.i64_in _ (by omega)
        have hF1 : fitN L most (j + 1) = fitN L most j := by
          show (if most < (sumF (L.take (j + 1)) : Nat) then fitN L most j else j + 1) = _
          rw [if_pos hmost]
        have HF1 := Lib.hid (hF1.symm.trans HFIT.out)
        have hle := sumF_le L (j + 1) HLI.out
        have hst := sumF_take L j hjL
        have hlf := HLI.out L[j] (List.getElem_mem hjL)
        have hb0 : (0 : Int) ≤ (j : Int) := by omega
        have hb1 : (j : Int) < ((j + 1 : Nat) : Int) := by omega
        clear hmost hF1
        generalize L[j] = f at h1 h2 h3 hst hlf
        obtain ⟨nm, vl, nv⟩ := f
        simp only [lightF, Bool.and_eq_true, decide_eq_true_eq] at hlf
        simp only [Fld.sz] at hst
        simp only at h1 h2 h3
        have hsub : IntKind.i64.wrap (((sumF (L.take (j + 1)) : Nat) : Int) - ((nm.size : Int) + (vl.size : Int) + 32)) = ((sumF (L.take j) : Nat) : Int) := by
          rw [show ((sumF (L.take (j + 1)) : Nat) : Int) - ((nm.size : Int) + (vl.size : Int) + 32) = ((sumF (L.take j) : Nat) : Int) from by omega]
          exact IntWalk.i64_in _ (by omega)
        have HSI := Lib.hid (fun W => field_size nm vl nv (by omega) (by omega) W)
        generalize sumF (L.take (j + 1)) = S1 at hm1 hsub ⊢
        clear hle hst hlf
        go_wp2_with fail
        refine (HSI.out _).mono ?_
        rintro e w2 ⟨rfl, hb⟩
        have hq1 : w.heap.size < wr.heap.size := World.block_lt_of_cell? wr ⟨w.heap.size, 0, none⟩ c0
        have hq2 : w.heap.size + 1 < wr.heap.size := World.block_lt_of_cell? wr ⟨w.heap.size + 1, 0, none⟩ (cell_of_row _ _ _ _ _ _ HRR.out)
        have hT2 : w2.heap[w.heap.size]? = some (.cells #[.int .i64 mx, .slice (some ⟨b, o, none⟩) (j + 1) cap] 28 (0, 0)) := (hb.block _ hq1).trans HTT.out
        have hR2 : w2.heap[w.heap.size + 1]? = some (.cells #[.int .i64 0, .slice none 0 0] 28 (0, 0)) := (hb.block _ hq2).trans HRR.out
        have d1 : w2.cell? ⟨w.heap.size, 1, none⟩ = some (.slice (some ⟨b, o, none⟩) (j + 1) cap) := cell_of_row _ _ _ _ _ _ hT2
        have HF2 := Lib.hid (HFW.out.below hb)
        have hbw : b < w.heap.size := by
          obtain ⟨f', hf'⟩ : ∃ f', L[0]? = some f' := ⟨_, List.getElem?_eq_getElem (by omega)⟩
          obtain ⟨b', o', e, k1, _⟩ := HF.out 0 f' hf'
          simp at e
          obtain ⟨rfl, rfl⟩ := e
          exact World.block_lt_of_cell? _ _ k1
        have HTN := Lib.hid (show (w2.setCell ⟨w.heap.size, 1, none⟩ (.slice (some ⟨b, o, none⟩) j cap)).heap[w.heap.size]? = some (.cells #[.int .i64 mx, .slice (some ⟨b, o, none⟩) j cap] 28 (0, 0)) from heap_setCell_same w2 _ 1 _ _ _ hT2)
        have HRN := Lib.hid (show (w2.setCell ⟨w.heap.size, 1, none⟩ (.slice (some ⟨b, o, none⟩) j cap)).heap[w.heap.size + 1]? = some (.cells #[.int .i64 0, .slice none 0 0] 28 (0, 0)) from (Below.heap_setCell _ _ _ _ (fun e => by simp only at e; omega)).trans hR2)
        have HBN := Lib.hid ((HBB.out.trans (hb.mono HBB.out.size)).setCell (show w.heap.size ≤ (⟨w.heap.size, 1, none⟩ : Addr).block from Nat.le_refl _) (.slice (some ⟨b, o, none⟩) j cap))
        have HFN := Lib.hid (show FieldsN (w2.setCell ⟨w.heap.size, 1, none⟩ (.slice (some ⟨b, o, none⟩) j cap)) (some ⟨b, o, none⟩) L from HF.out.below HBN.out)
        have hjc : j ≤ cap := by omega
        have hT2' := hT2
        clear hb hq1 hq2 hT2 hR2 hbw
        have z1 : w2.frozen? ⟨w.heap.size, 1, none⟩ = false := by unfold World.frozen?; rw [hT2']; rfl
        clear hT2'
        go_wp2_with fail
        go_roundw
        case rel => exact ⟨j, by omega, rfl, HF1.out, HFN.out, HTN.out, HRN.out, HBN.out⟩
        case measure =>
          have e1 : (w2.setCell ⟨w.heap.size, 1, none⟩ (.slice (some ⟨b, o, none⟩) j cap)).cell? ⟨w.heap.size, 1, none⟩ = some (.slice (some ⟨b, o, none⟩) j cap) := cell_of_row _ _ _ _ _ _ HTN.out
          rw [e1, c1]
          simp
    · have hm1 : decide (most < ((sumF (L.take k) : Nat) : Int)) = false := decide_eq_false hmost
      have HF0 := Lib.hid (show fitN L most n = k from by
        rw [← HFIT.out]
        cases k with
        | zero => rfl
        | succ k =>
          show (if most < (sumF (L.take (k + 1)) : Nat) then fitN L most k else k + 1) = _
          rw [if_neg hmost])
      clear hmost
      generalize sumF (L.take k) = S at hm1 ⊢
      have hRR := HRR.out
      have HB2 := Lib.hid (below_setRow HBB.out (show w.heap.size ≤ w.heap.size + 1 from by omega) #[.int .i64 mx, .slice oa k cap])
      have HR2 := Lib.hid (show (wr.setRow (w.heap.size + 1) #[.int .i64 mx, .slice oa k cap]).heap[w.heap.size + 1]? = some (.cells #[.int .i64 mx, .slice oa k cap] 28 (0, 0)) from setRow_heap _ _ _ _ _ _ hRR)
      have q : ∀ j : Nat, (wr.setRow (w.heap.size + 1) #[.int .i64 mx, .slice oa k cap]).cell? ⟨w.heap.size + 1, j, none⟩ = #[Value.int .i64 mx, .slice oa k cap][j]? := fun j => cell_of_row _ _ _ _ _ _ HR2.out
      have q0 := q 0
      have q1 := q 1
      clear q
      simp at q0 q1
      go_wp2_with (refine wpList_store_row rfl _ _ _ rfl (w.heap.size + 1) #[.int .i64 mx, .slice oa k cap] rfl rfl _ _ hRR (by kernel_rfl) (by kernel_rfl) (by kernel_rfl) ?_)
      refine bodyPost_ret (v := .agg #[.int .i64 mx, .slice oa k cap]) (by simp [results, Try.results56, go_sem, q0, q1]) rfl ⟨by rw [HF0.out], HB2.out⟩
end Go.Proofs.Yteceinojmdgmeaa


/- dyntab.New; (dyntab.Table).own. -/
namespace Go.Proofs.Yteceinojmdgmeaa
open Go.RowKit
set_option linter.unusedVariables false
set_option linter.unusedSimpArgs false

theorem OwnF.set {w : World} {B : Nat} {v : Value} {L : List Fld} (h : OwnF w B v L) (q a : Nat) (x : Value) (hq : q < B) : OwnF (w.setCell ⟨q, a, none⟩ x) B v L :=
  World.ownsRow.kept h (row := some q) ⟨rfl, rfl, rfl, by simp, fun k _ hk => Below.heap_setCell _ _ _ _ (fun e => hk (by simp [e]))⟩ (by
    cases hv : v.ownBlock with
    | none => exact .inl rfl
    | some g =>
      have := (h.lt g hv).1
      exact .inr (fun e => by simp at e; omega))
def OwnPost (mx : Int) (L : List Fld) (w : World) (e : Ending) (w' : World) : Prop := ∃ v, e = .returned (.agg #[.int .i64 mx, v]) ∧ OwnF w' w.heap.size v L ∧ Below w.heap.size w w'
set_option maxRecDepth 100000 in
set_option maxHeartbeats 1000000 in
theorem own_any (mx : Int) (oa : Option Addr) (n cap : Nat) (L : List Fld) (hn : L.length = n) (hn100 : n ≤ 1000) (w : World) (hf : FieldsN w oa L) :
    Calls Try.prog 55 #[.agg #[.int .i64 mx, .slice oa n cap]] w (OwnPost mx L w) := by
  have HCL := Lib.hid (fun W hW => clone_any oa n cap L hn hn100 W hW)
  have HF := Lib.hid hf
  clear hn hf
  have HT := Lib.hid (two0 w (.cells #[.int .i64 mx, .slice oa n cap] 28) (.cells #[.int .i64 0, .slice none 0 0] 28))
  have HR := Lib.hid (two1 w (.cells #[.int .i64 mx, .slice oa n cap] 28) (.cells #[.int .i64 0, .slice none 0 0] 28))
  have HB := Lib.hid (((Below.refl w.heap.size w).alloc (Nat.le_refl _) (.cells #[.int .i64 mx, .slice oa n cap] 28)).alloc (by simp) (.cells #[.int .i64 0, .slice none 0 0] 28))
  go_enter Try.func55, Try.ntmps55
  go_upto_region 1 with fail
  generalize hW : (w.alloc (.cells #[.int .i64 mx, .slice oa n cap] 28)).alloc (.cells #[.int .i64 0, .slice none 0 0] 28) = W at HT HR HB ⊢
  have HFW := Lib.hid (HF.out.below HB.out)
  have c0 : W.cell? ⟨w.heap.size, 0, none⟩ = some (.int .i64 mx) := cell_of_row _ _ _ _ _ _ HT.out
  have HQ := Lib.hid (show w.heap.size + 1 < W.heap.size from World.block_lt_of_cell? W ⟨w.heap.size + 1, 0, none⟩ (cell_of_row _ _ _ _ _ _ HR.out))
  have c1 : W.cell? ⟨w.heap.size, 1, none⟩ = some (.slice oa n cap) := cell_of_row _ _ _ _ _ _ HT.out
  go_region_with (go_at_call 81; refine (HCL.out _ (FieldsN.below HFW.out (Below.refl _ _).drew)).mono ?_; rintro e w1 ⟨v, rfl, ho, hb⟩; obtain ⟨oa', cap', rfl, _⟩ := ho.form; have HO := Lib.hid ho; have HBB := Lib.hid hb; have d0 : w1.cell? ⟨w.heap.size, 0, none⟩ = some (.int .i64 mx) := (hb.cell (p := ⟨w.heap.size, 0, none⟩) (World.block_lt_of_cell? W _ c0)).trans c0; have hR1 : w1.heap[w.heap.size + 1]? = some (.cells #[.int .i64 0, .slice none 0 0] 28 (0, 0)) := (hb.block _ HQ.out).trans HR.out; have e0 : w1.cell? ⟨w.heap.size + 1, 0, none⟩ = some (.int .i64 0) := cell_of_row _ _ _ _ _ _ hR1; have e1 : w1.cell? ⟨w.heap.size + 1, 1, none⟩ = some (.slice none 0 0) := cell_of_row _ _ _ _ _ _ hR1; have f0 := frozen_of_row _ _ 0 _ _ hR1; have f1 := frozen_of_row _ _ 1 _ _ hR1; have HR1 := Lib.hid hR1; clear ho hb hR1)
  all_goals
    have hB3 : Below w.heap.size w ((w1.setCell ⟨w.heap.size + 1, 0, none⟩ (.int .i64 mx)).setCell ⟨w.heap.size + 1, 1, none⟩ (.slice oa' L.length cap')) :=
      ((HB.out.drew.trans (Below.mono HBB.out (show w.heap.size ≤ W.drew.heap.size from HB.out.size))).setCell (show w.heap.size ≤ (⟨w.heap.size + 1, 0, none⟩ : Addr).block from Nat.le_succ _) _).setCell (show w.heap.size ≤ (⟨w.heap.size + 1, 1, none⟩ : Addr).block from Nat.le_succ _) _
    have hO3 : OwnF ((w1.setCell ⟨w.heap.size + 1, 0, none⟩ (.int .i64 mx)).setCell ⟨w.heap.size + 1, 1, none⟩ (.slice oa' L.length cap')) w.heap.size (.slice oa' L.length cap') L :=
      ((HO.out.set _ _ _ HQ.out).set _ _ _ HQ.out).mono HB.out.size
    have HB3 := Lib.hid hB3
    have HO3 := Lib.hid hO3
    clear hB3 hO3
    go_wp2_with fail
    refine bodyPost_ret (v := .agg #[.int .i64 mx, .slice oa' L.length cap']) (by simp [results, Try.results55, go_sem, e0, e1]) rfl ⟨_, rfl, HO3.out, HB3.out⟩
set_option maxRecDepth 100000 in
set_option maxHeartbeats 1000000 in
theorem new_yes (m : Int) (h : 0 ≤ m ∧ m ≤ 4096) (w : World) : Calls Try.prog 44 #[.int .i64 m] w fun e w' => e = .returned (.tuple #[.agg #[.int .i64 m, .slice none 0 0], .int .i64 0]) ∧ Below w.heap.size w w' := by
  have HI := Lib.hid (in_yes m h)
  clear h
  go_enter Try.func44, Try.ntmps44
  go_wp2_with fail
  refine (HI.out _).mono ?_
  rintro e w1 ⟨rfl, hw⟩
  subst hw
  go_wp2_with fail
  have HB := Lib.hid ((Below.refl w.heap.size w).alloc (Nat.le_refl _) (.cells #[.int .i64 m, .slice none 0 0] 28))
  refine bodyPost_ret (v := .tuple #[.agg #[.int .i64 m, .slice none 0 0], .int .i64 0]) (by simp [results, Try.results44, go_sem]) rfl ⟨rfl, HB.out⟩
set_option maxRecDepth 100000 in
set_option maxHeartbeats 1000000 in
theorem new_no (m : Int) (h : m < 0 ∨ 4096 < m) (w : World) : Calls Try.prog 44 #[.int .i64 m] w fun e w' => e = .returned (.tuple #[.agg #[.int .i64 0, .slice none 0 0], .int .i64 8]) ∧ Below w.heap.size w w' := by
  have HI := Lib.hid (in_no m h)
  clear h
  go_enter Try.func44, Try.ntmps44
  go_wp2_with fail
  refine (HI.out _).mono ?_
  rintro e w1 ⟨rfl, hw⟩
  subst hw
  go_wp2_with fail
  have HB := Lib.hid ((Below.refl w.heap.size w).alloc (Nat.le_refl _) (.cells #[.int .i64 0, .slice none 0 0] 28))
  refine bodyPost_ret (v := .tuple #[.agg #[.int .i64 0, .slice none 0 0], .int .i64 8]) (by simp [results, Try.results44, go_sem]) rfl ⟨rfl, HB.out⟩
end Go.Proofs.Yteceinojmdgmeaa

