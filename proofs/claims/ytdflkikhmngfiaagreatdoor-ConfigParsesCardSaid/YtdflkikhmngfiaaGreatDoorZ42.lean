/- The document's lines and words, sign by sign, in plain Lean: the same as the program's. -/
import Derived.Test.YtdflkikhmngfiaaGreatDoorZ35
import Derived.Test.YtdflkikhmngfiaaGreatDoorZ30
namespace Go.Proofs.YtdflkikhmngfiaaGreatDoor
open Go.RowKit
set_option linter.unusedVariables false
set_option linter.unusedSimpArgs false

/-- A text's lines: the line so far, and the rest. -/
def lnA : List UInt8 → List UInt8 → List (List UInt8)
  | acc, [] => if acc.isEmpty then [] else [acc]
  | acc, b :: t => if b = 10 then acc :: lnA [] t else lnA (acc ++ [b]) t
/-- A line's words, up to the sign: the word so far, and the rest. -/
def wsA : List UInt8 → List UInt8 → List (List UInt8)
  | w, [] => if w.isEmpty then [] else [w]
  | w, b :: t => if b = 35 then (if w.isEmpty then [] else [w]) else if b = 32 then (if w.isEmpty then wsA [] t else w :: wsA [] t) else wsA (w ++ [b]) t
theorem lnA_cut : ∀ (t acc : List UInt8), lnA acc t = if (cutL 10 t).2.2 = true then (acc ++ (cutL 10 t).1) :: lnA [] (cutL 10 t).2.1 else if (acc ++ t).isEmpty then [] else [acc ++ t]
  | [], acc => by
    rw [if_neg (by simp [cutL]), List.append_nil]
    rfl
  | b :: t, acc => by
    rw [cutL_cons]
    by_cases hb : b = 10
    · rw [if_pos hb]
      show (if b = 10 then acc :: lnA [] t else _) = _
      rw [if_pos hb]
      simp
    · rw [if_neg hb]
      show (if b = 10 then acc :: lnA [] t else lnA (acc ++ [b]) t) = _
      rw [if_neg hb, lnA_cut t (acc ++ [b])]
      simp only [List.append_assoc, List.singleton_append]
theorem lnA_lines : ∀ (f n : Nat) (t : List UInt8), t.length ≤ f → (linesN f n t).map (·.2) = (lnA [] t).map strL
  | f, n, t, hf => by
    by_cases ht : t = []
    · subst ht
      rw [linesN_nil]
      rfl
    · obtain ⟨g, rfl, hg, hl⟩ := linesN_cons (n := n) ht hf
      rw [hl, List.map_cons, lnA_lines g (n + 1) _ hg, lnA_cut t []]
      cases hc : (cutL 10 t).2.2 with
      | true => simp
      | false =>
        obtain ⟨_, h2, h3⟩ := cutL_miss 10 t hc
        rw [h2, h3, if_neg (by simp), List.nil_append, if_neg (by simpa using ht)]
        rfl
theorem lnA_linesF (s : ByteArray) : (linesF s).map (·.2) = (lnA [] (LL s)).map strL := lnA_lines _ _ _ (by rw [LL_len]; exact Nat.le_refl _)
theorem linesN_num : ∀ (f n : Nat) (t : List UInt8) (i : Nat) (x : Nat × ByteArray), (linesN f n t)[i]? = some x → x.1 = n + i
  | 0, n, t, i, x, h => by cases h
  | f + 1, n, t, i, x, h => by
    have h : (if t = [] then [] else (n, strL (cutL 10 t).1) :: linesN f (n + 1) (cutL 10 t).2.1)[i]? = some x := h
    split at h
    · cases h
    · cases i with
      | zero => injection h with h; rw [← h]; rfl
      | succ i =>
        have := linesN_num f (n + 1) _ i x h
        omega
theorem wsA_cut : ∀ (t w : List UInt8), wsA w t = wdA w (cutL 35 t).1
  | [], w => rfl
  | b :: t, w => by
    rw [cutL_cons]
    by_cases hb : b = 35
    · rw [if_pos hb]
      show (if b = 35 then _ else _) = _
      rw [if_pos hb]
      rfl
    · rw [if_neg hb]
      show (if b = 35 then _ else if b = 32 then (if w.isEmpty then wsA [] t else w :: wsA [] t) else wsA (w ++ [b]) t) = (if b = 32 then (if w.isEmpty then wdA [] (cutL 35 t).1 else w :: wdA [] (cutL 35 t).1) else wdA (w ++ [b]) (cutL 35 t).1)
      rw [if_neg hb, wsA_cut t [], wsA_cut t (w ++ [b])]
theorem wsA_words (s : ByteArray) : (wsA [] (LL s)).map strL = wordsB s := by
  rw [wsA_cut, wdA_wdL, wdL, wordsB]
  have h := parts_LL (strL (cutL 35 (LL s)).1) 32
  rw [LL_strL] at h
  rw [← h, List.filter_map, List.map_map]
  have e1 : (strL ∘ LL) = id := by funext x; exact strL_LL x
  rw [e1, List.map_id]
  refine List.filter_congr fun x hx => ?_
  show (!(LL x).isEmpty) = decide (x ≠ ⟨#[]⟩)
  by_cases h : x = ⟨#[]⟩
  · subst h; rfl
  · rw [decide_eq_true h]
    have : LL x ≠ [] := fun e => h (by rw [← strL_LL x, e]; rfl)
    cases hl : LL x with
    | nil => exact absurd hl this
    | cons _ _ => rfl
end Go.Proofs.YtdflkikhmngfiaaGreatDoor

