/- What every right program counts. -/
import Derived.Test.YtbpcknjobbjmpaaDoorStaK
namespace Go.Proofs.YtbpcknjobbjmpaaDoor
open Go.RowKit
set_option linter.unusedVariables false
set_option linter.unusedSimpArgs false

def AW1 : Nat → Int := countA A0 0 3
def AW : Nat → Int := countA AW1 3 12
theorem countA_le {A : Nat → Int} {K : Int} (h : ∀ i, 0 ≤ A i ∧ A i ≤ K) (k : Nat) (x : Int) (hx : 0 ≤ x ∧ x ≤ 2047) (i : Nat) : 0 ≤ countA A k x i ∧ countA A k x i ≤ K + 5000 := by
  have hK : 0 ≤ K := by have := h 0; omega
  have h3 : ∀ (B : Nat → Int) (L : Int), 0 ≤ L → (∀ i, 0 ≤ B i ∧ B i ≤ L) → ∀ o j, 0 ≤ add3 B o x j ∧ add3 B o x j ≤ L + 2047 := by
    intro B L hL hB o j
    have b1 := hB j
    have b2 := hB o
    have b3 := hB (o + 1)
    have b4 := hB (o + 2)
    unfold add3 upd
    repeat' split
    all_goals omega
  have a1 := h3 _ _ (by omega) (h3 _ _ hK h 0) (3 + 3 * k) i
  have a2 := h (18 + szI x)
  unfold countA upd
  split <;> omega
theorem A0_le (i : Nat) : 0 ≤ A0 i ∧ A0 i ≤ 300000 := by simp [A0]
theorem AW1_le (i : Nat) : 0 ≤ AW1 i ∧ AW1 i ≤ 300000 := by
  have := countA_le (A := A0) (K := 0) (fun i => by simp [A0]) 0 3 (by omega) i; unfold AW1; omega
theorem AW_le (i : Nat) : 0 ≤ AW i ∧ AW i ≤ 300000 := by
  have := countA_le (A := AW1) (K := 5000) (fun i => by have := countA_le (A := A0) (K := 0) (fun i => by simp [A0]) 0 3 (by omega) i; unfold AW1; omega) 3 12 (by omega) i
  unfold AW; omega
theorem AW_vals : AW 0 = 2 ∧ AW 1 = 15 ∧ AW 2 = 12 ∧ kn AW 0 = 1 ∧ kc AW 0 = 3 ∧ km AW 0 = 3 ∧ kn AW 3 = 1 ∧ shareA AW 3 = 500 ∧ AW 20 = 1 ∧ AW 22 = 1 := by
  refine ⟨?_, ?_, ?_, ?_, ?_, ?_, ?_, ?_, ?_, ?_⟩ <;> kernel_rfl
theorem AW_nat : natA AW 0 = (1, 3) ∧ natA AW 1 = (0, 0) ∧ natA AW 3 = (1, 12) := by
  refine ⟨?_, ?_, ?_⟩ <;> kernel_rfl
theorem lines_at (f : Nat → Nat × Nat) (m k : Nat) (h : k < m) : (linesL f m)[k]? = some (lineS k (f k).1 (f k).2) := by
  unfold linesL; simp [h]
theorem AW_lines : (linesL (natA AW) 5)[0]? = some ⟨#[97, 100, 109, 105, 116, 32, 49, 32, 51]⟩ ∧ (linesL (natA AW) 5)[1]? = some ⟨#[114, 101, 102, 117, 115, 101, 32, 48, 32, 48]⟩ ∧ (linesL (natA AW) 5)[3]? = some ⟨#[98, 117, 115, 121, 32, 49, 32, 49, 50]⟩ := by
  obtain ⟨h0, h1, h3⟩ := AW_nat
  have d12 : decS 12 = ⟨#[49, 50]⟩ := by rw [decS_more (by omega), decS_one (by omega), decS_one (by omega)]; rfl
  refine ⟨?_, ?_, ?_⟩
  · rw [lines_at _ _ _ (by omega), h0]; unfold lineS; rw [decS_one (by omega), decS_one (by omega)]; rfl
  · rw [lines_at _ _ _ (by omega), h1]; unfold lineS; rw [decS_one (by omega)]; rfl
  · rw [lines_at _ _ _ (by omega), h3]; unfold lineS; rw [decS_one (by omega), d12]; rfl
theorem err_vals : errC ⟨0, 0, 0, 3⟩ = 0 ∧ errC ⟨0, 0, 3, 12⟩ = 0 ∧ errC ⟨0, 0, 5, 0⟩ = 11 ∧ errC ⟨0, 0, 0, 2048⟩ = 8 := by
  refine ⟨?_, ?_, ?_, ?_⟩ <;> kernel_rfl
theorem sz_vals : szI 1 = 1 ∧ szI 2047 = 11 ∧ szI 0 = 0 := by
  refine ⟨?_, ?_, ?_⟩ <;> kernel_rfl
theorem i64c (n : Int) (h : -9223372036854775808 ≤ n ∧ n ≤ 9223372036854775807) : (Lit.int .i64 n).wf = true := i64_wf h.1 h.2
theorem OwnS.form1 {w : World} {B : Nat} {v : Value} {L : List ByteArray} (h : OwnS w B v L) (hn : 0 < L.length) : ∃ g cap, v = .slice (some ⟨g, 0, none⟩) L.length cap ∧ g < w.heap.size ∧ ∀ i s, L[i]? = some s → w.cell? ⟨g, i, none⟩ = some (.string s) := by
  obtain ⟨g, cap, rfl, _, hlt⟩ := World.ownsRow.form h hn
  refine ⟨g, cap, rfl, hlt, fun i s hi => ?_⟩
  have := World.ownsRow.cells h rfl i _ (by rw [List.getElem?_map, hi]; rfl)
  have e2 : (⟨g, 0, none⟩ : Addr).add i = ⟨g, i, none⟩ := by unfold Addr.add; split <;> simp_all
  rwa [e2] at this
theorem Twelve.cellsG {W : World} {B : Nat} {v : Value} {H : Nat → Int} (h : Twelve W B v H) : ∃ g, v = .slice (some ⟨g, 0, none⟩) 12 12 ∧ ∀ i, i < 12 → W.cell? ⟨g, i, none⟩ = some (.int .i64 (H i)) := by
  obtain ⟨g, e, hr, _⟩ := h
  exact ⟨g, e, fun i hi => (cell_of_row _ _ _ _ _ _ hr).trans (nrow_at 12 H i hi)⟩
set_option maxRecDepth 100000 in
set_option maxHeartbeats 20000000 in
theorem awake_any (w : World) (hT : Tab w) : Calls Tryd.prog 8 #[] w fun e w' => e = .returned (.bool true) ∧ Below w.heap.size w w' := by
  have HT := Lib.hid hT
  clear hT
  obtain ⟨ev0, ev1, ev2, ev3⟩ := err_vals
  obtain ⟨va0, va1, va2, vk0, vk1, vk2, va3, vash, va20, va22⟩ := AW_vals
  obtain ⟨al0, al1, al3⟩ := AW_lines
  obtain ⟨sz1, sz2, sz3⟩ := sz_vals
  have C1 := Lib.hid (show ∀ (p : Nat) (W : World), Brd p W 0 0 (.slice none 0 0) 0 A0 → Calls Tryd.prog 10 #[.pointer (some ⟨p, 0, none⟩), .agg #[.int .i64 0, .int .i64 0, .int .i64 0, .int .i64 3]] W (fun e w' => e = .returned (.int .i64 0) ∧ Brd p w' 0 0 (.slice none 0 0) 0 AW1 ∧ Near p W.heap.size W w') from fun p W h => (count_any p ⟨0, 0, 0, 3⟩ 0 0 (.slice none 0 0) 0 A0 W h A0_le).mono (fun e w' h => by obtain ⟨h1, h2, h3⟩ := h; exact ⟨by rw [h1, ev0], h2, h3⟩))
  have C2 := Lib.hid (show ∀ (p : Nat) (W : World), Brd p W 0 0 (.slice none 0 0) 0 AW1 → Calls Tryd.prog 10 #[.pointer (some ⟨p, 0, none⟩), .agg #[.int .i64 0, .int .i64 0, .int .i64 3, .int .i64 12]] W (fun e w' => e = .returned (.int .i64 0) ∧ Brd p w' 0 0 (.slice none 0 0) 0 AW ∧ Near p W.heap.size W w') from fun p W h => (count_any p ⟨0, 0, 3, 12⟩ 0 0 (.slice none 0 0) 0 AW1 W h AW1_le).mono (fun e w' h => by obtain ⟨h1, h2, h3⟩ := h; exact ⟨by rw [h1, ev1], h2, h3⟩))
  have C3 := Lib.hid (show ∀ (p : Nat) (W : World), Brd p W 0 0 (.slice none 0 0) 0 AW → Calls Tryd.prog 10 #[.pointer (some ⟨p, 0, none⟩), .agg #[.int .i64 0, .int .i64 0, .int .i64 5, .int .i64 0]] W (fun e w' => e = .returned (.int .i64 11) ∧ Brd p w' 0 0 (.slice none 0 0) 0 AW ∧ Near p W.heap.size W w') from fun p W h => (count_any p ⟨0, 0, 5, 0⟩ 0 0 (.slice none 0 0) 0 AW W h AW_le).mono (fun e w' h => by obtain ⟨h1, h2, h3⟩ := h; exact ⟨by rw [h1, ev2], h2, h3⟩))
  have C4 := Lib.hid (show ∀ (p : Nat) (W : World), Brd p W 0 0 (.slice none 0 0) 0 AW → Calls Tryd.prog 10 #[.pointer (some ⟨p, 0, none⟩), .agg #[.int .i64 0, .int .i64 0, .int .i64 0, .int .i64 2048]] W (fun e w' => e = .returned (.int .i64 8) ∧ Brd p w' 0 0 (.slice none 0 0) 0 AW ∧ Near p W.heap.size W w') from fun p W h => (count_any p ⟨0, 0, 0, 2048⟩ 0 0 (.slice none 0 0) 0 AW W h AW_le).mono (fun e w' h => by obtain ⟨h1, h2, h3⟩ := h; exact ⟨by rw [h1, ev3], h2, h3⟩))
  go_enter Tryd.func8, Tryd.ntmps8
  go_wp2_with (first
    | (go_at_call 9; refine (new_any _).mono ?_; rintro e w1 ⟨rfl, hB1, hb1⟩; have HB1 := Lib.hid hB1; have HL1 := Lib.hid hb1; clear hB1 hb1; generalize hpp : w.heap.size = p at HB1 HL1 ⊢)
    | (go_at_call 10; first
        | ((with_reducible refine (C1.out p _ HB1.out).mono ?_); rintro e w2 ⟨rfl, hB, hN⟩; have HB2 := Lib.hid (show Brd p w2 0 0 (.slice none 0 0) 0 AW1 from hB); have HL2 := Lib.hid (HL1.out.trans (hN.below HB1.out.lt)); clear hB hN HL1)
        | ((with_reducible refine (C2.out p _ HB2.out).mono ?_); rintro e w3 ⟨rfl, hB, hN⟩; have HB3 := Lib.hid (show Brd p w3 0 0 (.slice none 0 0) 0 AW from hB); have HL3 := Lib.hid (HL2.out.trans (hN.below HB2.out.lt)); clear hB hN HL2)
        | ((with_reducible refine (C3.out p _ HB3.out).mono ?_); rintro e w4 ⟨rfl, hB, hN⟩; have HB4 := Lib.hid (show Brd p w4 0 0 (.slice none 0 0) 0 AW from hB); have HL4 := Lib.hid (HL3.out.trans (hN.below HB3.out.lt)); clear hB hN HL3)
        | ((with_reducible refine (C4.out p _ HB4.out).mono ?_); rintro e w5 ⟨rfl, hB, hN⟩; have HB5 := Lib.hid (show Brd p w5 0 0 (.slice none 0 0) 0 AW from hB); have HL5 := Lib.hid (HL4.out.trans (hN.below HB4.out.lt)); clear hB hN HL4))
    | (go_at_call 24; refine (built_any p 0 0 _ 0 AW _ HB5.out).mono ?_; rintro e w6 ⟨rfl, rfl⟩)
    | (go_at_call 22; refine (lines_first p AW AW_le _ 0 (by omega) _ ((TabB.of HT.out (by rw [hpp]; exact HL5.out)).mono (Nat.le_of_eq hpp)) HB5.out).mono ?_; rintro e w6 ⟨v, nv, rfl, hO, hB, hNV, hN⟩; obtain ⟨g6, lc, rfl, hlt6, hS⟩ := hO.form1 (by rw [linesL_len]; omega); rw [linesL_len]; have HB6 := Lib.hid (show Brd p w6 1 0 nv 1 AW from hB); have HL6 := Lib.hid (HL5.out.trans (hN.below HB5.out.lt)); have HS6 := Lib.hid hS; clear hB hN hNV hO hS HL5)
    | (go_at_call 17; refine (hist_any p 1 0 nv 1 AW _ HB6.out).mono ?_; rintro e w7 ⟨v7, rfl, hT7, hb⟩; obtain ⟨g7, rfl, hc7⟩ := hT7.cellsG; have HB7 := Lib.hid (HB6.out.below HB6.out.lt hb); have HL7 := Lib.hid (HL6.out.trans (hb.mono (Nat.le_of_lt HB6.out.lt))); have c0 := (cell_eq (hb.block g6 hlt6)).trans (HS6.out 0 _ al0); have c1 := (cell_eq (hb.block g6 hlt6)).trans (HS6.out 1 _ al1); have c3 := (cell_eq (hb.block g6 hlt6)).trans (HS6.out 3 _ al3); have x2 := hc7 2 (by omega); have x4 := hc7 4 (by omega); simp only [Nat.reduceAdd, va20, va22] at x2 x4; clear hb hT7 hc7 HS6 HL6 HB6)
    | (go_at_call 24; refine (built_any p 1 0 nv 1 AW _ HB7.out).mono ?_; rintro e w8 ⟨rfl, rfl⟩)
    | (go_at_call 19; refine (share_any p 3 1 0 nv 1 AW _ HB7.out (by rw [va0]; omega) (by rw [va3]; omega)).mono ?_; rintro e w8 ⟨rfl, hb⟩; rw [vash]; have HB8 := Lib.hid (HB7.out.below HB7.out.lt hb); have HL8 := Lib.hid (HL7.out.trans (hb.mono (Nat.le_of_lt HB7.out.lt))); clear hb c0 c1 c3 x2 x4)
    | (go_at_call 14; refine (all_any p 1 0 nv 1 AW _ HB8.out).mono ?_; rintro e w9 ⟨rfl, hb⟩; unfold sumV; rw [va0, va1, va2]; have HB9 := Lib.hid (HB8.out.below HB8.out.lt hb); have HL9 := Lib.hid (HL8.out.trans (hb.mono (Nat.le_of_lt HB8.out.lt))); clear hb)
    | (go_at_call 13; refine (of_any p 0 1 0 nv 1 AW _ HB9.out).mono ?_; rintro e w10 ⟨rfl, hb⟩; rw [kindA_eq, vk0, vk1, vk2]; have HL10 := Lib.hid (HL9.out.trans (hb.mono (Nat.le_of_lt HB9.out.lt))); clear hb)
    | (go_at_call 25; first
        | (refine (size_any 1 (by kernel_rfl) _).mono ?_; rintro e w8 ⟨rfl, rfl⟩; rw [sz1])
        | (refine (size_any 2047 (by kernel_rfl) _).mono ?_; rintro e w8 ⟨rfl, rfl⟩; rw [sz2])
        | (refine (size_any 0 (by kernel_rfl) _).mono ?_; rintro e w8 ⟨rfl, rfl⟩; rw [sz3])))
  go_ret
  refine ⟨rfl, ?_⟩
  rw [hpp]
  exact HL10.out
#print axioms awake_any
end Go.Proofs.YtbpcknjobbjmpaaDoor
