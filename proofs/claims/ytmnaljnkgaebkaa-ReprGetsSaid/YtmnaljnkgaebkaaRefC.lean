/- The document's way to a byte's code, in plain words: all bytes of one length, then those of the next. No program in sight. -/
import Derived.Test.YtmnaljnkgaebkaaHuffQ
namespace Go.Proofs.Ytmnaljnkgaebkaa
set_option linter.unusedVariables false
set_option linter.unusedSimpArgs false

/-- Code, how many bits it has, whether it is the first. -/
abbrev CSt := Nat × Nat × Bool
def cUp (n : Nat) (s : CSt) : CSt := ((if s.2.2 then s.1 else s.1 + 1) * 2 ^ (n - s.2.1), n, false)
def cRow (n : Nat) (s : CSt) : Nat → CSt
  | 0 => s
  | x + 1 => if lenOf x = n then cUp n (cRow n s x) else cRow n s x
/-- Ahead of the row n + 1. -/
def cStart : Nat → CSt
  | 0 => (0, 0, true)
  | n + 1 => cRow (n + 1) (cStart n) 256
def chkRow (n : Nat) : List (Nat × Nat) → CSt → Option CSt
  | [], s => some s
  | (c, l) :: t, s => if l = n then (if (cUp n s).1 = c ∧ s.2.1 ≤ n then chkRow n t (cUp n s) else none) else chkRow n t s
def chkAll (t : List (Nat × Nat)) : Nat → Nat → CSt → Bool
  | 0, _, _ => true
  | f + 1, n, s => match chkRow n t s with
    | none => false
    | some s' => decide (s'.2.1 ≤ n) && chkAll t f (n + 1) s'
set_option maxRecDepth 100000 in
theorem chk_okC : chkAll (codeL.zip lenL) 30 1 (0, 0, true) = true := by decide +kernel
theorem zipAt (x : Nat) (h : x < 256) : (codeL.zip lenL).drop x = (codeOf x, lenOf x) :: (codeL.zip lenL).drop (x + 1) := by
  have h1 : x < codeL.length := by rw [codeL_len]; exact h
  have h2 : x < lenL.length := by rw [lenL_len]; exact h
  have hz : x < (codeL.zip lenL).length := by rw [List.length_zip]; omega
  rw [List.drop_eq_getElem_cons hz, List.getElem_zip]
  simp [codeOf, lenOf, List.getD_eq_getElem?_getD, List.getElem?_eq_getElem h1, List.getElem?_eq_getElem h2]
theorem zipLen : (codeL.zip lenL).length = 256 := by rw [List.length_zip, codeL_len, lenL_len]; rfl
theorem chkRow_at (n : Nat) (s t : CSt) : ∀ (d x : Nat), x + d = 256 → chkRow n ((codeL.zip lenL).drop x) (cRow n s x) = some t →
    t = cRow n s 256 ∧ ∀ y, x ≤ y → y < 256 → lenOf y = n → (cUp n (cRow n s y)).1 = codeOf y ∧ (cRow n s y).2.1 ≤ n
  | 0, x, hx, h => by
    obtain rfl : x = 256 := by omega
    rw [List.drop_of_length_le (by rw [zipLen]; exact Nat.le_refl _)] at h
    exact ⟨(Option.some.inj h).symm, fun y h1 h2 _ => by omega⟩
  | d + 1, x, hx, h => by
    rw [zipAt x (by omega)] at h
    simp only [chkRow] at h
    by_cases hl : lenOf x = n
    · rw [if_pos hl] at h
      split at h
      · rename_i hc
        have e : cRow n s (x + 1) = cUp n (cRow n s x) := by simp only [cRow, if_pos hl]
        rw [← e] at h
        obtain ⟨h1, h2⟩ := chkRow_at n s t d (x + 1) (by omega) h
        refine ⟨h1, fun y hy1 hy2 hy3 => ?_⟩
        by_cases e2 : y = x
        · subst e2; exact hc
        · exact h2 y (by omega) hy2 hy3
      · cases h
    · rw [if_neg hl] at h
      have e : cRow n s (x + 1) = cRow n s x := by simp only [cRow, if_neg hl]
      rw [← e] at h
      obtain ⟨h1, h2⟩ := chkRow_at n s t d (x + 1) (by omega) h
      refine ⟨h1, fun y hy1 hy2 hy3 => ?_⟩
      by_cases e2 : y = x
      · subst e2; exact absurd hy3 hl
      · exact h2 y (by omega) hy2 hy3
theorem chkAll_at : ∀ (f n : Nat), chkAll (codeL.zip lenL) f (n + 1) (cStart n) = true → ∀ m, n ≤ m → m < n + f →
    (∀ y, y < 256 → lenOf y = m + 1 → (cUp (m + 1) (cRow (m + 1) (cStart m) y)).1 = codeOf y ∧ (cRow (m + 1) (cStart m) y).2.1 ≤ m + 1)
  | 0, n, _, m, h1, h2 => by omega
  | f + 1, n, h, m, h1, h2 => by
    simp only [chkAll] at h
    cases hr : chkRow (n + 1) (codeL.zip lenL) (cStart n) with
    | none => rw [hr] at h; cases h
    | some t =>
      rw [hr] at h
      simp only [Bool.and_eq_true, decide_eq_true_eq] at h
      obtain ⟨e, h3⟩ := chkRow_at (n + 1) (cStart n) t 256 0 rfl hr
      by_cases e2 : m = n
      · subst e2
        exact fun y hy1 hy2 => h3 y (Nat.zero_le _) hy1 hy2
      · have e4 : cStart (n + 1) = t := e.symm
        rw [← e4] at h
        exact chkAll_at f (n + 1) h.2 m (by omega) (by omega)
/-- The state when the byte x is looked at for the length n. -/
def cAt (n x : Nat) : CSt := cRow n (cStart (n - 1)) x
theorem cAt_code (n x : Nat) (h1 : 1 ≤ n) (h2 : n ≤ 30) (hx : x < 256) (hl : lenOf x = n) : (cUp n (cAt n x)).1 = codeOf x ∧ (cAt n x).2.1 ≤ n := by
  obtain ⟨m, rfl⟩ : ∃ m, n = m + 1 := ⟨n - 1, by omega⟩
  exact chkAll_at 30 0 chk_okC m (Nat.zero_le _) (by omega) x hx hl
theorem cAt_zero : cAt 1 0 = (0, 0, true) := rfl
theorem cAt_next (n : Nat) (h : 1 ≤ n) : cAt n 256 = cAt (n + 1) 0 := by
  obtain ⟨m, rfl⟩ : ∃ m, n = m + 1 := ⟨n - 1, by omega⟩
  rfl
theorem cAt_up (n x : Nat) (h : lenOf x = n) : cAt n (x + 1) = cUp n (cAt n x) := by simp only [cAt, cRow, if_pos h]
theorem cAt_skip (n x : Nat) (h : ¬ lenOf x = n) : cAt n (x + 1) = cAt n x := by simp only [cAt, cRow, if_neg h]
end Go.Proofs.Ytmnaljnkgaebkaa
