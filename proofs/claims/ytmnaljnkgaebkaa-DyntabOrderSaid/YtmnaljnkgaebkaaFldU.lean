/- What the document's Sum and Size return. -/
import Derived.Test.YtmnaljnkgaebkaaFldF
namespace Go.Proofs.Ytmnaljnkgaebkaa
open Go.RowKit
set_option linter.unusedVariables false
set_option linter.unusedSimpArgs false

set_option maxRecDepth 100000 in
set_option maxHeartbeats 1000000 in
theorem sum_any (oa : Option Addr) (n cap : Nat) (L : List Fld) (hn : L.length = n) (hl : ∀ f ∈ L, lightF f = true) (hn30 : n ≤ 100) (w : World) (hf : FieldsN w oa L) :
    Calls Try.prog 66 #[.slice oa n cap] w fun e w' => e = .returned (.int .i64 (sumF L : Nat)) ∧ Below w.heap.size w w' := by
  have HN := Lib.hid hn
  have HF := Lib.hid hf
  have HL := Lib.hid hl
  clear hn hf hl
  go_enter Try.func66, Try.ntmps66
  go_wp2_with fail
  go_loopw [3, 4] (fun s i wr => ∃ k : Nat, k ≤ n ∧ i = .int .i64 k ∧ s = .int .i64 (sumF (L.take k) : Nat) ∧ Below w.heap.size w wr) (fun _ i _ => n - (intOf i).toNat)
  case atStart => exact ⟨0, Nat.zero_le _, rfl, rfl, Below.refl _ _⟩
  case round =>
    obtain ⟨k, hk, rfl, rfl, bk⟩ := hrel
    have BK := Lib.hid bk
    clear bk
    by_cases hlt : k < n
    · have hki : (k : Int) < (n : Int) := by omega
      have hkL : k < L.length := by rw [HN.out]; exact hlt
      have hsl := sumF_le L k HL.out
      have HT := Lib.hid (sumF_take L k hkL)
      have hlf := HL.out L[k] (List.getElem_mem hkL)
      obtain ⟨b, o, rfl, h1, h2, h3⟩ := (HF.out.below BK.out) k L[k] (List.getElem?_eq_getElem hkL)
      generalize L[k] = f at h1 h2 h3 HT hlf
      obtain ⟨nm, vl, nv⟩ := f
      simp only [Fld.sz, lightF, Bool.and_eq_true, decide_eq_true_eq] at h1 h2 h3 HT hlf
      generalize sumF (L.take k) = S at hsl HT ⊢
      go_wp2_with fail
      refine (refField_size nm vl nv (by omega) (by omega) _).mono ?_
      rintro e w5 ⟨rfl, hb⟩
      have B5 := Lib.hid (BK.out.trans (hb.mono BK.out.size))
      clear hb
      have hw : IntKind.i64.wrap ((S : Int) + ((nm.size : Int) + (vl.size : Int) + 32)) = ((S + (nm.size + vl.size + 32) : Nat) : Int) := by
        rw [show (S : Int) + ((nm.size : Int) + (vl.size : Int) + 32) = ((S + (nm.size + vl.size + 32) : Nat) : Int) from by simp]
        exact IntWalk.i64_in _ (by omega)
      go_wp2_with fail
      go_roundw
      case rel => exact ⟨k + 1, by omega, by go_num, by rw [HT.out]; simp, B5.out⟩
      case measure => simp [intOf]; omega
    · obtain rfl : k = n := by omega
      rw [List.take_of_length_le (by rw [HN.out]; exact Nat.le_refl _)]
      go_wp2_with fail
      go_ret
      exact ⟨rfl, BK.out⟩
set_option maxRecDepth 100000 in
theorem refSize_tab (m : Int) (oa : Option Addr) (n cap : Nat) (L : List Fld) (hn : L.length = n) (hl : ∀ f ∈ L, lightF f = true) (hn30 : n ≤ 100) (w : World) (hf : FieldsN w oa L) :
    Calls Try.prog 32 #[.agg #[.int .i64 m, .slice oa n cap]] w fun e w' => e = .returned (.int .i64 (sumF L : Nat)) ∧ Below w.heap.size w w' := by
  have HS := Lib.hid (fun W hW => sum_any oa n cap L hn hl hn30 W hW)
  have HF := Lib.hid hf
  clear hn hf hl
  go_enter Try.func32, Try.ntmps32
  go_wp2_with fail
  refine (HS.out _ (HF.out.below ((Below.refl _ _).alloc (Nat.le_refl _) _))).mono ?_
  rintro e w1 ⟨rfl, hb⟩
  have HB := Lib.hid (((Below.refl w.heap.size w).alloc (Nat.le_refl _) _).trans (hb.mono (by simp)))
  clear hb
  go_wp2_with fail
  go_ret
  exact ⟨rfl, HB.out⟩
end Go.Proofs.Ytmnaljnkgaebkaa
