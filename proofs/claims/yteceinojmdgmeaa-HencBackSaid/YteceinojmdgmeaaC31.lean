/- hdec: step, all but an item that adds. -/
import Derived.Test.YteceinojmdgmeaaC30
import Derived.RegionTactic
namespace Go.Proofs.Yteceinojmdgmeaa
open Go.RowKit
set_option linter.unusedVariables false
set_option linter.unusedSimpArgs false

set_option maxRecDepth 100000 in
set_option maxHeartbeats 4000000 in
theorem step_rest (mx cp : Int) (oa : Option Addr) (n cap : Nat) (L : List Fld) (hn : L.length = n) (hnc : n ≤ cap) (hl : ∀ f ∈ L, lightF f = true) (hn30 : n ≤ 1000) (k : Nat) (hk : k < 256) (i : Int) (nm vl : ByteArray) (hi : (Lit.int .i64 i).wf = true) (hvl : vl.size ≤ 40000) (hna : (hNamed L ⟨k, i, nm, vl⟩).1.name.size ≤ 40000) (w : World) (hf : FieldsN w oa L) (h4 : ¬ k = 4) (h1 : (hNamed L ⟨k, i, nm, vl⟩).2 = true → ¬ k = 1) :
    Calls Try.prog 39 #[.agg #[.int .i64 mx, .slice oa n cap, .int .i64 cp], .agg #[.int .u8 (k : Int), .int .i64 i, .string nm, .string vl]] w (StepPost oa mx cp L ⟨k, i, nm, vl⟩ w) := by
  have HH := Lib.hid (Hd.new w mx cp (.slice oa n cap) k i nm vl)
  have HFW := Lib.hid (show ∀ W, Below w.heap.size w W → FieldsN W oa L from fun W hW => hf.below hW)
  have HRZ := Lib.hid (fun W (hW : Below w.heap.size w W) => resize_any mx i oa n cap L hn hl hn30 W (hf.below hW))
  have HNM := Lib.hid (fun W (hW : Below w.heap.size w W) => named_any mx cp oa n cap L hn k i nm vl hi W (hf.below hW))
  have HAD := Lib.hid (fun (f : Fld) (hlf : lightF f = true) W (hW : Below w.heap.size w W) => add_any mx oa n cap L hn hl hn30 f hlf W (hf.below hW))
  have HN := Lib.hid hn
  obtain ⟨R, hR⟩ : ∃ R, hSt mx cp L ⟨k, i, nm, vl⟩ = R := ⟨_, rfl⟩
  unfold StepPost
  rw [hR]
  have HS : Hid (R = if k = 4 then (if cp < i then (mx, L, zFl, false, 8) else (resM mx i L, resL mx i L, zFl, false, resE mx i L)) else if (hNamed L ⟨k, i, nm, vl⟩).2 = false then (mx, L, zFl, false, 6) else if k = 0 then (mx, L, (hNamed L ⟨k, i, nm, vl⟩).1, true, 0) else if k = 1 then (mx, addL mx L ⟨(hNamed L ⟨k, i, nm, vl⟩).1.name, vl, false⟩, ⟨(hNamed L ⟨k, i, nm, vl⟩).1.name, vl, false⟩, true, 0) else (mx, L, ⟨(hNamed L ⟨k, i, nm, vl⟩).1.name, vl, decide (k = 3)⟩, true, 0)) := Lib.hid hR.symm
  unfold NamedPost at HNM
  obtain ⟨⟨⟨a1, a2, a3⟩, a4⟩, hN⟩ : ∃ Q, hNamed L ⟨k, i, nm, vl⟩ = Q := ⟨_, rfl⟩
  rw [hN] at HNM HS hna h1
  simp only at HNM HS hna h1
  clear hR hN hf hn
  · have q4 : ((k : Int) == 4) = false := beq_eq_false_iff_ne.2 (by omega)
    rw [if_neg h4] at HS
    cases a4
    · rw [if_pos rfl] at HS
      have e := HS.out
      clear HS
      subst e
      dsimp only
      go_enter Try.func39, Try.ntmps39
      go_upto_region 1 with fail
      change Hid (Hd w ((((w.alloc (.cells #[.int .i64 mx, .slice oa n cap, .int .i64 cp] 45)).alloc (.cells #[.int .u8 (k : Int), .int .i64 i, .string nm, .string vl] 49)).alloc (.cells #[.int .i64 0, .slice none 0 0, .int .i64 0] 45)).alloc (.cells #[.string ⟨#[]⟩, .string ⟨#[]⟩, .bool false] 25)) mx cp (.slice oa n cap) k i nm vl) at HH
      generalize ((((w.alloc (.cells #[.int .i64 mx, .slice oa n cap, .int .i64 cp] 45)).alloc (.cells #[.int .u8 (k : Int), .int .i64 i, .string nm, .string vl] 49)).alloc (.cells #[.int .i64 0, .slice none 0 0, .int .i64 0] 45)).alloc (.cells #[.string ⟨#[]⟩, .string ⟨#[]⟩, .bool false] 25)) = w1 at HH ⊢
      have c0 := HH.out.st.c0
      have c1 := HH.out.st.c1
      have c2 := HH.out.st.c2
      have x0 := HH.out.it.c0
      have x1 := HH.out.it.c1
      have x2 := HH.out.it.c2
      have x3 := HH.out.it.c3
      go_upto_region 7 with (first | (go_at_call 65; refine (HNM.out _ HH.out.below).mono ?_; rintro e w2 ⟨rfl, hb⟩; replace HH := Lib.hid (HH.out.step hb); clear hb))
      replace HH := Lib.hid (HH.out.step ((Below.refl _ w2).alloc (Nat.le_refl _) (.cells #[.string a1, .string a2, .bool a3] 25)))
      generalize w2.alloc (.cells #[.string a1, .string a2, .bool a3] 25) = w3 at HH ⊢
      clear c0 c1 c2 x0 x1 x2 x3
      have c0 := HH.out.st.c0
      have c1 := HH.out.st.c1
      have c2 := HH.out.st.c2
      have HF2 : Hid ((w3.setRow (w.heap.size + 2) #[.int .i64 mx, .slice oa n cap, .int .i64 cp]).heap[w.heap.size + 3]? = some (.cells zF 25 (0, 0))) := Lib.hid ((setRow_other _ _ _ _ (by omega)).trans HH.out.rf)
      have HR2 := Lib.hid (setRow_heap _ _ _ #[.int .i64 mx, .slice oa n cap, .int .i64 cp] _ _ HH.out.rs)
      go_wp2_with (first | (refine wpList_store_row rfl _ _ _ rfl (w.heap.size + 2) #[.int .i64 mx, .slice oa n cap, .int .i64 cp] rfl rfl _ _ HH.out.rs (by kernel_rfl) rfl (by kernel_rfl) ?_) | (refine wpList_store_row rfl _ _ _ rfl (w.heap.size + 3) #[.string ⟨#[]⟩, .string ⟨#[]⟩, .bool false] rfl rfl _ _ HF2.out (by kernel_rfl) rfl (by kernel_rfl) ?_))
      exact bodyPost_ret (v := .tuple #[.agg #[.int .i64 mx, .slice oa n cap, .int .i64 cp], .agg #[.string ⟨#[]⟩, .string ⟨#[]⟩, .bool false], .bool false, .int .i64 6]) (res_cell22 rfl _ _ (w.heap.size + 2) (w.heap.size + 3) _ _ _ _ (0, 0) (0, 0) _ _ rfl ((setRow_other _ _ _ _ (by omega)).trans HR2.out) Try.underlying45 rfl (by kernel_rfl) rfl (setRow_heap _ _ _ _ _ _ HF2.out) Try.underlying25 rfl (by kernel_rfl) _ _ rfl rfl) rfl ⟨oa, n, cap, rfl, HN.out, hnc, HFW.out _ (below_row (below_row HH.out.below (by omega) _) (by omega) _), .inl ⟨rfl, by trivial⟩, below_row (below_row HH.out.below (by omega) _) (by omega) _⟩
    · rw [if_neg (by decide)] at HS
      go_enter Try.func39, Try.ntmps39
      go_upto_region 1 with fail
      change Hid (Hd w ((((w.alloc (.cells #[.int .i64 mx, .slice oa n cap, .int .i64 cp] 45)).alloc (.cells #[.int .u8 (k : Int), .int .i64 i, .string nm, .string vl] 49)).alloc (.cells #[.int .i64 0, .slice none 0 0, .int .i64 0] 45)).alloc (.cells #[.string ⟨#[]⟩, .string ⟨#[]⟩, .bool false] 25)) mx cp (.slice oa n cap) k i nm vl) at HH
      generalize ((((w.alloc (.cells #[.int .i64 mx, .slice oa n cap, .int .i64 cp] 45)).alloc (.cells #[.int .u8 (k : Int), .int .i64 i, .string nm, .string vl] 49)).alloc (.cells #[.int .i64 0, .slice none 0 0, .int .i64 0] 45)).alloc (.cells #[.string ⟨#[]⟩, .string ⟨#[]⟩, .bool false] 25)) = w1 at HH ⊢
      have c0 := HH.out.st.c0
      have c1 := HH.out.st.c1
      have c2 := HH.out.st.c2
      have x0 := HH.out.it.c0
      have x1 := HH.out.it.c1
      have x2 := HH.out.it.c2
      have x3 := HH.out.it.c3
      go_upto_region 7 with (first | (go_at_call 65; refine (HNM.out _ HH.out.below).mono ?_; rintro e w2 ⟨rfl, hb⟩; replace HH := Lib.hid (HH.out.step hb); clear hb))
      have HFR := Lib.hid (show FRow (w2.alloc (.cells #[.string a1, .string a2, .bool a3] 25)) w2.heap.size ⟨a1, a2, a3⟩ from heap_alloc_new w2 _)
      have HGT := Lib.hid HH.out.lt
      replace HH := Lib.hid (HH.out.step ((Below.refl _ w2).alloc (Nat.le_refl _) (.cells #[.string a1, .string a2, .bool a3] 25)))
      generalize w2.alloc (.cells #[.string a1, .string a2, .bool a3] 25) = w3 at HH HFR ⊢
      generalize w2.heap.size = g at HFR HGT ⊢
      clear c0 c1 c2 x0 x1 x2 x3
      have c0 := HH.out.st.c0
      have c1 := HH.out.st.c1
      have c2 := HH.out.st.c2
      have x0 := HH.out.it.c0
      have x3 := HH.out.it.c3
      have y0 := HFR.out.c0
      have y1 := HFR.out.c1
      have y2 := HFR.out.c2
      have s0 : w3.cell? ⟨w.heap.size + 1 + 1, 0, none⟩ = some (.int .i64 0) := cell_of_row _ _ 0 _ _ _ HH.out.rs
      have s1 : w3.cell? ⟨w.heap.size + 1 + 1, 1, none⟩ = some (.slice none 0 0) := cell_of_row _ _ 1 _ _ _ HH.out.rs
      have s2 : w3.cell? ⟨w.heap.size + 1 + 1, 2, none⟩ = some (.int .i64 0) := cell_of_row _ _ 2 _ _ _ HH.out.rs
      have t0 : w3.cell? ⟨w.heap.size + 1 + 1 + 1, 0, none⟩ = some (.string ⟨#[]⟩) := cell_of_row _ _ 0 _ _ _ HH.out.rf
      have t1 : w3.cell? ⟨w.heap.size + 1 + 1 + 1, 1, none⟩ = some (.string ⟨#[]⟩) := cell_of_row _ _ 1 _ _ _ HH.out.rf
      have t2 : w3.cell? ⟨w.heap.size + 1 + 1 + 1, 2, none⟩ = some (.bool false) := cell_of_row _ _ 2 _ _ _ HH.out.rf
      have sz0 : w3.frozen? ⟨w.heap.size + 1 + 1, 0, none⟩ = false := frozen_of_row _ _ 0 _ _ HH.out.rs
      have sz1 : w3.frozen? ⟨w.heap.size + 1 + 1, 1, none⟩ = false := frozen_of_row _ _ 1 _ _ HH.out.rs
      have sz2 : w3.frozen? ⟨w.heap.size + 1 + 1, 2, none⟩ = false := frozen_of_row _ _ 2 _ _ HH.out.rs
      have tz0 : w3.frozen? ⟨w.heap.size + 1 + 1 + 1, 0, none⟩ = false := frozen_of_row _ _ 0 _ _ HH.out.rf
      have tz1 : w3.frozen? ⟨w.heap.size + 1 + 1 + 1, 1, none⟩ = false := frozen_of_row _ _ 1 _ _ HH.out.rf
      have tz2 : w3.frozen? ⟨w.heap.size + 1 + 1 + 1, 2, none⟩ = false := frozen_of_row _ _ 2 _ _ HH.out.rf
      have n1 : ¬ g = w.heap.size + 1 + 1 := by have := HGT.out; omega
      have n2 : ¬ w.heap.size + 1 + 1 = g := by have := HGT.out; omega
      have n3 : ¬ g = w.heap.size + 1 + 1 + 1 := by have := HGT.out; omega
      have n4 : ¬ w.heap.size + 1 + 1 + 1 = g := by have := HGT.out; omega
      by_cases h0 : k = 0
      · have q0 : ((k : Int) == 0) = true := by rw [h0]; rfl
        rw [if_pos h0] at HS
        have HE := Lib.hid HS.out
        have HX := Lib.hid (six_drew (W := w3) (g2 := w.heap.size + 1 + 1) (g3 := w.heap.size + 1 + 1 + 1) (.int .i64 mx) (.slice oa n cap) (.int .i64 cp) (.string a1) (.string a2) (.bool a3) HH.out.rs HH.out.rf (by omega))
        have HBB := Lib.hid (six_below HH.out.below (g2 := w.heap.size + 1 + 1) (g3 := w.heap.size + 1 + 1 + 1) (by omega) (by omega) (.int .i64 mx) (.slice oa n cap) (.int .i64 cp) (.string a1) (.string a2) (.bool a3))
        go_upto_region 11 with fail
        go_region
        go_wp2_with fail
        exact bodyPost_ret (v := .tuple #[.agg #[.int .i64 mx, .slice oa n cap, .int .i64 cp], .agg #[.string a1, .string a2, .bool a3], .bool true, .int .i64 0]) (res_cell22 rfl _ _ (w.heap.size + 1 + 1) (w.heap.size + 1 + 1 + 1) _ _ _ _ (0, 0) (0, 0) _ _ rfl HX.out.1 Try.underlying45 rfl (by kernel_rfl) rfl HX.out.2 Try.underlying25 rfl (by kernel_rfl) _ _ rfl rfl) rfl ⟨oa, n, cap, by rw [HE.out], by rw [HE.out]; exact HN.out, hnc, by rw [HE.out]; exact HFW.out _ HBB.out.drew, .inl ⟨rfl, by rw [HE.out]⟩, HBB.out.drew⟩
      have q0 : ((k : Int) == 0) = false := beq_eq_false_iff_ne.2 (by omega)
      rw [if_neg h0] at HS
      have h1' : ¬ k = 1 := h1 trivial
      have q1 : ((k : Int) == 1) = false := beq_eq_false_iff_ne.2 (by omega)
      rw [if_neg h1'] at HS
      have HE := Lib.hid HS.out
      have q3 : ((k : Int) == 3) = decide (k = 3) := by rw [Bool.eq_iff_iff]; simp; omega
      generalize decide (k = 3) = b3 at q3 HE
      have HX := Lib.hid (six_drew (W := w3) (g2 := w.heap.size + 1 + 1) (g3 := w.heap.size + 1 + 1 + 1) (.int .i64 mx) (.slice oa n cap) (.int .i64 cp) (.string a1) (.string vl) (.bool b3) HH.out.rs HH.out.rf (by omega))
      have HBB := Lib.hid (six_below HH.out.below (g2 := w.heap.size + 1 + 1) (g3 := w.heap.size + 1 + 1 + 1) (by omega) (by omega) (.int .i64 mx) (.slice oa n cap) (.int .i64 cp) (.string a1) (.string vl) (.bool b3))
      go_upto_region 15 with fail
      go_region
      go_wp2_with fail
      exact bodyPost_ret (v := .tuple #[.agg #[.int .i64 mx, .slice oa n cap, .int .i64 cp], .agg #[.string a1, .string vl, .bool b3], .bool true, .int .i64 0]) (res_cell22 rfl _ _ (w.heap.size + 1 + 1) (w.heap.size + 1 + 1 + 1) _ _ _ _ (0, 0) (0, 0) _ _ rfl HX.out.1 Try.underlying45 rfl (by kernel_rfl) rfl HX.out.2 Try.underlying25 rfl (by kernel_rfl) _ _ rfl rfl) rfl ⟨oa, n, cap, by rw [HE.out], by rw [HE.out]; exact HN.out, hnc, by rw [HE.out]; exact HFW.out _ HBB.out.drew, .inl ⟨rfl, by rw [HE.out]⟩, HBB.out.drew⟩
end Go.Proofs.Yteceinojmdgmeaa

