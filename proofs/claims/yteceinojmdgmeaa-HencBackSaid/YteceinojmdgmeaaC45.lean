/- HdecGreat, plain: a block in two parts. -/
import Derived.Test.YteceinojmdgmeaaC18
import Derived.Test.YteceinojmdgmeaaC41
namespace Go.Proofs.Yteceinojmdgmeaa
open Go.RowKit
set_option linter.unusedVariables false
set_option linter.unusedSimpArgs false

/-- No item tells a size. -/
def noR (its : List Itm) : Prop := ∀ x ∈ its, x.kind ≠ 4
theorem sumF_app (a b : List Fld) : sumF (a ++ b) = sumF a + sumF b := by
  induction a with
  | nil => simp [sumF]
  | cons f t ih => simp only [List.cons_append, sumF, ih]; omega
theorem hRun_cons (cp : Int) (x : Itm) (t : List Itm) (mx : Int) (L : List Fld) (bg : Bool) (out : List Fld) (hx : x.kind ≠ 4) : hRun cp (x :: t) mx L bg out =
    if (hSt mx cp L x).2.2.2.2 ≠ 0 then (mx, L, out, (hSt mx cp L x).2.2.2.2)
    else if (hSt mx cp L x).2.2.2.1 = true then hRun cp t (hSt mx cp L x).1 (hSt mx cp L x).2.1 true (out ++ [(hSt mx cp L x).2.2.1])
    else hRun cp t (hSt mx cp L x).1 (hSt mx cp L x).2.1 bg out := by
  have c : ¬ (x.kind = 4 ∧ bg = true) := fun h => hx h.1
  show (if x.kind = 4 ∧ bg = true then (mx, L, out, 10) else _) = _
  rw [if_neg c]
theorem hRun_bg (cp : Int) : ∀ (its : List Itm) (mx : Int) (L : List Fld) (bg bg' : Bool) (out : List Fld), noR its → hRun cp its mx L bg out = hRun cp its mx L bg' out
  | [], mx, L, bg, bg', out, _ => rfl
  | x :: t, mx, L, bg, bg', out, h => by
    have hx := h x (by simp)
    have ht : noR t := fun y hy => h y (by simp [hy])
    rw [hRun_cons cp x t mx L bg out hx, hRun_cons cp x t mx L bg' out hx, hRun_bg cp t _ _ bg bg' out ht]
theorem hRun_out (cp : Int) : ∀ (its : List Itm) (mx : Int) (L : List Fld) (bg : Bool) (out : List Fld), hRun cp its mx L bg out = ((hRun cp its mx L bg []).1, (hRun cp its mx L bg []).2.1, out ++ (hRun cp its mx L bg []).2.2.1, (hRun cp its mx L bg []).2.2.2)
  | [], mx, L, bg, out => by simp [hRun]
  | x :: t, mx, L, bg, out => by
    unfold hRun
    split
    · simp
    · split
      · simp
      · split
        · rw [hRun_out cp t _ _ true (out ++ [(hSt mx cp L x).2.2.1]), hRun_out cp t _ _ true ([] ++ [(hSt mx cp L x).2.2.1])]
          simp
        · exact hRun_out cp t _ _ bg out
theorem hRun_app (cp : Int) : ∀ (a b : List Itm) (mx : Int) (L : List Fld) (bg : Bool) (out : List Fld), noR a → noR b →
    hRun cp (a ++ b) mx L bg out = if (hRun cp a mx L bg out).2.2.2 ≠ 0 then hRun cp a mx L bg out else hRun cp b (hRun cp a mx L bg out).1 (hRun cp a mx L bg out).2.1 false (hRun cp a mx L bg out).2.2.1
  | [], b, mx, L, bg, out, _, hb => by simp only [List.nil_append, hRun, ne_eq, not_true_eq_false, ↓reduceIte]; exact hRun_bg cp b mx L bg false out hb
  | x :: t, b, mx, L, bg, out, ha, hb => by
    have hx := ha x (by simp)
    have ht : noR t := fun y hy => ha y (by simp [hy])
    rw [List.cons_append]
    rw [hRun_cons cp x (t ++ b) mx L bg out hx, hRun_cons cp x t mx L bg out hx]
    by_cases h1 : (hSt mx cp L x).2.2.2.2 ≠ 0
    · rw [if_pos h1, if_pos h1, if_pos h1]
    · rw [if_neg h1, if_neg h1]
      by_cases h2 : (hSt mx cp L x).2.2.2.1 = true
      · rw [if_pos h2, if_pos h2]
        exact hRun_app cp t b _ _ _ _ ht hb
      · rw [if_neg h2, if_neg h2]
        exact hRun_app cp t b _ _ _ _ ht hb
theorem hRun_chk (cp : Int) : ∀ (its : List Itm) (mx : Int) (L : List Fld) (bg : Bool) (out : List Fld), hchk mx cp L = 0 → (hRun cp its mx L bg out).2.2.2 = 0 → hchk (hRun cp its mx L bg out).1 cp (hRun cp its mx L bg out).2.1 = 0
  | [], mx, L, bg, out, h, _ => h
  | x :: t, mx, L, bg, out, h, he => by
    unfold hRun at he ⊢
    split at he
    · cases he
    · rename_i c1
      rw [if_neg c1]
      split at he
      · rename_i c2; exact absurd he c2
      · rename_i c2
        rw [if_neg c2]
        have hc := hSt_chk x h (by omega)
        split at he
        · rename_i c3; rw [if_pos c3]; exact hRun_chk cp t _ _ _ _ hc he
        · rename_i c3; rw [if_neg c3]; exact hRun_chk cp t _ _ _ _ hc he
theorem hBlk_cat (mx cp : Int) (L : List Fld) (l : List Itm) (h0 : hchk mx cp L = 0) (hl : ∀ x ∈ l, OkI x) :
    hBlk mx cp L (catI l) = if (hRun cp l mx L false []).2.2.2 ≠ 0 then (mx, L, [], false, (hRun cp l mx L false []).2.2.2) else if 1024 < sumF (hRun cp l mx L false []).2.2.1 then ((hRun cp l mx L false []).1, (hRun cp l mx L false []).2.1, [], false, 0) else ((hRun cp l mx L false []).1, (hRun cp l mx L false []).2.1, (hRun cp l mx L false []).2.2.1, true, 0) := by
  unfold hBlk
  rw [allG_cat l hl, if_neg (by omega), if_neg (by simp)]
/-- A block, and the same in two parts. -/
theorem great_law (mx cp : Int) (L : List Fld) (a b : List Itm) (h0 : hchk mx cp L = 0) (ha : ∀ x ∈ a, OkI x) (hb : ∀ x ∈ b, OkI x) (na : noR a) (nb : noR b) (X Y Z : Int × List Fld × List Fld × Bool × Int)
    (hX : hBlk mx cp L (catI a ++ catI b) = X) (hY : hBlk mx cp L (catI a) = Y) (hZ : hBlk Y.1 cp Y.2.1 (catI b) = Z) :
    (X.2.2.2.2 ≠ 0 → (X.1 = mx ∧ X.2.1 = L) ∧ (Y.2.2.2.2 ≠ 0 ∨ Z.2.2.2.2 ≠ 0)) ∧
    (X.2.2.2.2 = 0 → Y.2.2.2.2 = 0 ∧ Z.2.2.2.2 = 0 ∧ X.1 = Z.1 ∧ X.2.1 = Z.2.1 ∧ hchk X.1 cp X.2.1 = 0 ∧
      ((Y.2.2.2.1 = true ∧ Z.2.2.2.1 = true ∧ sumF Y.2.2.1 + sumF Z.2.2.1 ≤ 1024) → X.2.2.2.1 = true ∧ X.2.2.1.length = Y.2.2.1.length + Z.2.2.1.length) ∧
      (¬(Y.2.2.2.1 = true ∧ Z.2.2.2.1 = true ∧ sumF Y.2.2.1 + sumF Z.2.2.1 ≤ 1024) → X.2.2.2.1 = false ∧ X.2.2.1 = [])) := by
  have hab : ∀ x ∈ a ++ b, OkI x := fun x hx => by rcases List.mem_append.1 hx with h | h; exact ha x h; exact hb x h
  rw [← catI_append, hBlk_cat mx cp L _ h0 hab, hRun_app cp a b mx L false [] na nb] at hX
  rw [hBlk_cat mx cp L _ h0 ha] at hY
  have hc := hRun_chk cp a mx L false [] h0
  generalize hRun cp a mx L false [] = r at hX hY hc
  obtain ⟨m1, L1, o1, e1⟩ := r
  dsimp only at hX hY hc
  by_cases c1 : e1 = 0
  · subst c1
    have hck := hc rfl
    simp only [ne_eq, not_true_eq_false, ↓reduceIte] at hX hY
    rw [hRun_out cp b m1 L1 false o1] at hX
    have hY12 : Y.1 = m1 ∧ Y.2.1 = L1 ∧ Y.2.2.2.2 = 0 ∧ ((1024 < sumF o1 ∧ Y.2.2.1 = [] ∧ Y.2.2.2.1 = false) ∨ (¬ 1024 < sumF o1 ∧ Y.2.2.1 = o1 ∧ Y.2.2.2.1 = true)) := by
      by_cases h : 1024 < sumF o1
      · rw [if_pos h] at hY; subst hY; exact ⟨rfl, rfl, rfl, .inl ⟨h, rfl, rfl⟩⟩
      · rw [if_neg h] at hY; subst hY; exact ⟨rfl, rfl, rfl, .inr ⟨h, rfl, rfl⟩⟩
    obtain ⟨y1, y2, y3, y4⟩ := hY12
    rw [y1, y2, hBlk_cat m1 cp L1 _ hck hb] at hZ
    have hc2 := hRun_chk cp b m1 L1 false [] hck
    generalize hRun cp b m1 L1 false [] = s at hX hZ hc2
    obtain ⟨m2, L2, o2, e2⟩ := s
    dsimp only at hX hZ hc2
    by_cases c2 : e2 = 0
    · subst c2
      simp only [ne_eq, not_true_eq_false, ↓reduceIte, sumF_app] at hX hZ
      have hck2 := hc2 rfl
      by_cases h : 1024 < sumF o2
      · rw [if_pos h] at hZ
        rw [if_pos (by omega)] at hX
        subst hZ; subst hX
        dsimp only
        refine ⟨fun h => absurd rfl h, fun _ => ⟨y3, rfl, rfl, rfl, hck2, fun hh => absurd hh.2.1 (by simp), fun _ => ⟨rfl, rfl⟩⟩⟩
      · rw [if_neg h] at hZ
        subst hZ
        rcases y4 with ⟨g, g1, g2⟩ | ⟨g, g1, g2⟩
        · rw [if_pos (by omega)] at hX
          subst hX
          dsimp only
          refine ⟨fun h => absurd rfl h, fun _ => ⟨y3, rfl, rfl, rfl, hck2, fun hh => absurd hh.1 (by rw [g2]; simp), fun _ => ⟨rfl, rfl⟩⟩⟩
        · rw [g1, g2]
          by_cases hs : 1024 < sumF o1 + sumF o2
          · rw [if_pos hs] at hX
            subst hX
            dsimp only
            refine ⟨fun h => absurd rfl h, fun _ => ⟨y3, rfl, rfl, rfl, hck2, fun hh => absurd hh.2.2 (by omega), fun _ => ⟨rfl, rfl⟩⟩⟩
          · rw [if_neg hs] at hX
            subst hX
            dsimp only
            refine ⟨fun h => absurd rfl h, fun _ => ⟨y3, rfl, rfl, rfl, hck2, fun _ => ⟨rfl, by rw [List.length_append]⟩, fun hh => absurd ⟨rfl, rfl, by omega⟩ hh⟩⟩
    · simp only [ne_eq, c2, not_false_eq_true, ↓reduceIte] at hX hZ
      subst hX; subst hZ
      dsimp only
      exact ⟨fun _ => ⟨⟨rfl, rfl⟩, .inr c2⟩, fun h => absurd h c2⟩
  · simp only [ne_eq, c1, not_false_eq_true, ↓reduceIte] at hX hY
    subst hX; subst hY
    dsimp only
    exact ⟨fun _ => ⟨⟨rfl, rfl⟩, .inl c1⟩, fun h => absurd h c1⟩
theorem hBlk_err (mx cp : Int) (L : List Fld) (bs : List Nat) : (hBlk mx cp L bs).2.2.2.2 = 0 ∨ (hBlk mx cp L bs).1 = mx ∧ (hBlk mx cp L bs).2.1 = L := by
  unfold hBlk
  split
  · exact .inr ⟨rfl, rfl⟩
  · split
    · exact .inr ⟨rfl, rfl⟩
    · split
      · exact .inr ⟨rfl, rfl⟩
      · split
        · exact .inl rfl
        · exact .inl rfl
theorem hBlk_chk (mx cp : Int) (L : List Fld) (bs : List Nat) (h : hchk mx cp L = 0) : hchk (hBlk mx cp L bs).1 cp (hBlk mx cp L bs).2.1 = 0 := by
  have hc := hRun_chk cp (allG bs).1 mx L false [] h
  unfold hBlk
  split
  · exact h
  · split
    · exact h
    · split
      · exact h
      · rename_i c
        split
        · exact hc (by omega)
        · exact hc (by omega)
end Go.Proofs.Yteceinojmdgmeaa

