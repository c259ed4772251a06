/- What a table's fields count: dyntab.Size and the document's Sum and Size. -/
import Derived.Test.YtmnaljnkgaebkaaFlds
namespace Go.Proofs.Ytmnaljnkgaebkaa
open Go.RowKit
set_option linter.unusedVariables false
set_option linter.unusedSimpArgs false

def Fld.sz (f : Fld) : Nat := f.name.size + f.value.size + 32
def sumF : List Fld → Nat
  | [] => 0
  | f :: l => f.sz + sumF l
theorem sumF_append (a b : List Fld) : sumF (a ++ b) = sumF a + sumF b := by
  induction a with
  | nil => simp [sumF]
  | cons x l ih => simp only [List.cons_append, sumF, ih]; omega
theorem sumF_take (L : List Fld) (k : Nat) (h : k < L.length) : sumF (L.take (k + 1)) = sumF (L.take k) + L[k].sz := by
  rw [List.take_succ_eq_append_getElem h, sumF_append]
  simp [sumF]
theorem sumF_le (L : List Fld) (k : Nat) (hl : ∀ f ∈ L, lightF f = true) : sumF (L.take k) ≤ 432 * k := by
  induction k with
  | zero => simp [sumF]
  | succ k ih =>
    by_cases h : k < L.length
    · have := hl L[k] (List.getElem_mem h)
      simp only [lightF, Bool.and_eq_true, decide_eq_true_eq] at this
      rw [sumF_take L k h]
      unfold Fld.sz
      omega
    · rw [List.take_of_length_le (by omega)]
      rw [List.take_of_length_le (by omega)] at ih
      omega
def tabV (m : Int) (oa : Option Addr) (n cap : Nat) : Value := .agg #[.int .i64 m, .slice oa n cap]
set_option maxRecDepth 100000 in
set_option maxHeartbeats 1000000 in
theorem size_tab (m : Int) (oa : Option Addr) (n cap : Nat) (L : List Fld) (hn : L.length = n) (hl : ∀ f ∈ L, lightF f = true) (hn30 : n ≤ 100) (w : World) (hf : FieldsN w oa L) :
    Calls Try.prog 31 #[.agg #[.int .i64 m, .slice oa n cap]] w fun e w' => e = .returned (.int .i64 (sumF L : Nat)) ∧ Below w.heap.size w w' := by
  have HN := Lib.hid hn
  have HF := Lib.hid hf
  have HL := Lib.hid hl
  clear hn hf hl
  go_enter Try.func31, Try.ntmps31
  go_wp2_with fail
  go_loopw [3, 9] (fun s i wr => ∃ k : Nat, k ≤ n ∧ i = .int .i64 k ∧ s = .int .i64 (sumF (L.take k) : Nat) ∧ Below w.heap.size w wr) (fun _ i _ => n - (intOf i).toNat)
  case atStart => exact ⟨0, Nat.zero_le _, rfl, rfl, (Below.refl _ _).alloc (Nat.le_refl _) _⟩
  case round =>
    obtain ⟨k, hk, rfl, rfl, bk⟩ := hrel
    have BK := Lib.hid bk
    clear bk
    by_cases hlt : k < n
    · have hki : (k : Int) < (n : Int) := by omega
      have hkL : k < L.length := by rw [HN.out]; exact hlt
      have hsl := sumF_le L k HL.out
      have HT := Lib.hid (sumF_take L k hkL)
      have hlf := HL.out L[k] (List.getElem_mem hkL)
      obtain ⟨b, o, rfl, h1, h2, h3⟩ := (HF.out.below BK.out) k L[k] (List.getElem?_eq_getElem hkL)
      generalize L[k] = f at h1 h2 h3 HT hlf
      obtain ⟨nm, vl, nv⟩ := f
      simp only [Fld.sz, lightF, Bool.and_eq_true, decide_eq_true_eq] at h1 h2 h3 HT hlf
      generalize sumF (L.take k) = S at hsl HT ⊢
      go_wp2_with fail
      refine (field_size nm vl nv (by omega) (by omega) _).mono ?_
      rintro e w5 ⟨rfl, hb⟩
      have B5 := Lib.hid ((BK.out.alloc BK.out.size _).trans (hb.mono (by have := BK.out.size; simp; omega)))
      clear hb
      have hw : IntKind.i64.wrap ((S : Int) + ((nm.size : Int) + (vl.size : Int) + 32)) = ((S + (nm.size + vl.size + 32) : Nat) : Int) := by
        rw [show (S : Int) + ((nm.size : Int) + (vl.size : Int) + 32) = ((S + (nm.size + vl.size + 32) : Nat) : Int) from by simp]
        exact IntWalk.i64_in _ (by omega)
      go_wp2_with fail
      go_roundw
      case rel => exact ⟨k + 1, by omega, by go_num, by rw [HT.out]; simp, B5.out⟩
      case measure => simp [intOf]; omega
    · obtain rfl : k = n := by omega
      rw [List.take_of_length_le (by rw [HN.out]; exact Nat.le_refl _)]
      go_wp2_with fail
      go_ret
      exact ⟨rfl, BK.out⟩
end Go.Proofs.Ytmnaljnkgaebkaa
