/- No code begins another one's; all together leave no room: closed facts about the codes. -/
import Derived.Test.YtmnaljnkgaebkaaHuffD
namespace Go.Proofs.Ytmnaljnkgaebkaa
open Go.RowKit
set_option linter.unusedVariables false
set_option linter.unusedSimpArgs false

def pairOk (x y : Nat × Nat) : Bool := decide (x = y) || decide (y.2 < x.2) || decide (y.1 / 2 ^ (y.2 - x.2) ≠ x.1)
def allPairs (l : List (Nat × Nat)) : Bool := l.all fun x => l.all fun y => pairOk x y
def nodupB : List (Nat × Nat) → Bool
  | [] => true
  | x :: l => l.all (fun y => decide (x ≠ y)) && nodupB l
theorem nodupB_get : ∀ (l : List (Nat × Nat)), nodupB l = true → ∀ i j, i < j → (hj : j < l.length) → (hi : i < l.length) → l[i] ≠ l[j]
  | [], _, i, j, _, hj, _ => absurd hj (Nat.not_lt_zero _)
  | x :: l, h, 0, 0, hij, _, _ => absurd hij (Nat.lt_irrefl _)
  | x :: l, h, 0, j + 1, hij, hj, hi => by
    simp only [nodupB, Bool.and_eq_true] at h
    have := List.all_eq_true.1 h.1 (l[j]'(by simpa using hj)) (List.getElem_mem _)
    simpa using this
  | x :: l, h, i + 1, 0, hij, _, _ => absurd hij (Nat.not_lt_zero _)
  | x :: l, h, i + 1, j + 1, hij, hj, hi => by
    simp only [nodupB, Bool.and_eq_true] at h
    simpa using nodupB_get l h.2 i j (by omega) (by simpa using hj) (by simpa using hi)
set_option maxRecDepth 100000 in
theorem codes_ok : allPairs (codeL.zip lenL) = true := by decide +kernel
set_option maxRecDepth 100000 in
theorem codes_nodup : nodupB (codeL.zip lenL) = true := by decide +kernel
theorem zip_get (c : Nat) (h : c < 256) : ∃ hc : c < (codeL.zip lenL).length, (codeL.zip lenL)[c] = (codeOf c, lenOf c) := by
  have h1 : c < codeL.length := by rw [codeL_len]; exact h
  have h2 : c < lenL.length := by rw [lenL_len]; exact h
  refine ⟨by rw [List.length_zip]; omega, ?_⟩
  rw [List.getElem_zip]
  simp [codeOf, lenOf, List.getD_eq_getElem?_getD, List.getElem?_eq_getElem h1, List.getElem?_eq_getElem h2]
theorem code_ne (a b : Nat) (ha : a < 256) (hb : b < 256) (h : a ≠ b) : (codeOf a, lenOf a) ≠ (codeOf b, lenOf b) := by
  obtain ⟨h1, e1⟩ := zip_get a ha
  obtain ⟨h2, e2⟩ := zip_get b hb
  rw [← e1, ← e2]
  rcases Nat.lt_or_gt_of_ne h with h | h
  · exact nodupB_get _ codes_nodup a b h h2 h1
  · exact (nodupB_get _ codes_nodup b a h h1 h2).symm
theorem prefix_ok (a b : Nat) (ha : a < 256) (hb : b < 256) (h : a ≠ b) (hl : lenOf a ≤ lenOf b) : codeOf b / 2 ^ (lenOf b - lenOf a) ≠ codeOf a := by
  have hn := code_ne a b ha hb h
  obtain ⟨h1, e1⟩ := zip_get a ha
  obtain ⟨h2, e2⟩ := zip_get b hb
  have := List.all_eq_true.1 (List.all_eq_true.1 codes_ok _ (List.getElem_mem h1)) _ (List.getElem_mem h2)
  rw [e1, e2] at this
  simp only [pairOk, Bool.or_eq_true, decide_eq_true_eq] at this
  rcases this with (h | h) | h
  · exact absurd h hn
  · omega
  · exact h
def sumK : Nat → Nat
  | 0 => 1
  | k + 1 => sumK k + 2 ^ (30 - lenOf k)
set_option maxRecDepth 100000 in
theorem sumK_all : sumK 256 = 1073741824 := by decide +kernel
theorem sumK_mono (k j : Nat) : sumK k ≤ sumK (k + j) := by
  induction j with
  | zero => exact Nat.le_refl _
  | succ j ih => exact Nat.le_trans ih (Nat.le_add_right _ _)
theorem sumK_le (k : Nat) (h : k ≤ 256) : sumK k ≤ 1073741824 := by
  have := sumK_mono k (256 - k)
  rw [show k + (256 - k) = 256 from by omega, sumK_all] at this
  exact this

end Go.Proofs.Ytmnaljnkgaebkaa
