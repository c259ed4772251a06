/- Items of texts of up to 100 bytes: items from all their bytes; with a byte fewer. -/
import Derived.Test.YteceinojmdgmeaaC17
namespace Go.Proofs.Yteceinojmdgmeaa
open Go.RowKit
set_option linter.unusedVariables false
set_option linter.unusedSimpArgs false

theorem getGo_mono (bs r : List Nat) : ∀ j i n, (getGo bs j i n).2.2 = 0 → getGo (bs ++ r) j i n = getGo bs j i n
  | 0, i, n, h => rfl
  | j + 1, i, n, h => by
    unfold getGo at h ⊢
    cases hc : bs[i + 1]? with
    | none => rw [hc] at h; simp at h
    | some c =>
      have hl : i + 1 < bs.length := (List.getElem?_eq_some_iff.1 hc).1
      rw [hc] at h
      rw [List.getElem?_append_left hl, hc]
      simp only at h ⊢
      split at h
      · rename_i h1
        rw [if_pos h1, if_pos h1, getGo_mono bs r j (i + 1) _ h]
      · rename_i h1
        rw [if_neg h1, if_neg h1]
theorem getN_mono (bs r : List Nat) (k : Nat) (h : (getN bs k).2.2 = 0) : getN (bs ++ r) k = getN bs k := by
  cases bs with
  | nil => simp [getN] at h
  | cons b l =>
    unfold getN at h ⊢
    simp only [List.cons_append] at h ⊢
    split at h
    · rename_i h1
      rw [if_pos h1, if_pos h1]
    · rename_i h1
      rw [if_neg h1, if_neg h1]
      exact getGo_mono (b :: l) r 5 0 _ h
theorem getD_app (bs r : List Nat) (h : bs ≠ []) : (bs ++ r).getD 0 0 = bs.getD 0 0 := by
  cases bs with
  | nil => exact absurd rfl h
  | cons b l => rfl
theorem textG_mono (bs r : List Nat) (h : (textG bs).2.2 = 0) : textG (bs ++ r) = textG bs := by
  have hne : bs ≠ [] := by intro e; subst e; simp [textG, getN] at h
  unfold textG at h ⊢
  by_cases h1 : (getN bs 7).2.2 = 0
  · have hok := getN_ok bs 7 (by unfold K4; decide) h1
    rw [getN_mono bs r 7 h1]
    have h1' : ¬ ((getN bs 7).2.2 ≠ 0) := fun h => h h1
    rw [if_neg h1'] at h
    rw [if_neg h1', if_neg h1']
    by_cases h2 : 4096 < (getN bs 7).1
    · rw [if_pos h2] at h; simp at h
    · rw [if_neg h2] at h
      rw [if_neg h2, if_neg h2]
      by_cases h3 : bs.length < (getN bs 7).2.1 + (getN bs 7).1
      · rw [if_pos h3] at h; simp at h
      · rw [if_neg h3] at h
        have h3' : ¬ ((bs ++ r).length < (getN bs 7).2.1 + (getN bs 7).1) := by rw [List.length_append]; omega
        rw [if_neg h3, if_neg h3', getD_app bs r hne, List.drop_append_of_le_length (by omega), List.take_append_of_le_length (by rw [List.length_drop]; omega)]
  · rw [if_pos h1] at h
    exact absurd h h1
theorem goParts_mono (bs r : List Nat) : ∀ (ps : List Bool) (x : Itm) (a : Nat), a ≤ bs.length → (goParts bs ps x a).2.2 = 0 → goParts (bs ++ r) ps x a = goParts bs ps x a
  | [], x, a, ha, h => rfl
  | p :: ps, x, a, ha, h => by
    unfold goParts at h ⊢
    by_cases he : (textG (bs.drop a)).2.2 = 0
    · have hk := textG_ok _ he
      rw [List.length_drop] at hk
      rw [if_neg (by simpa using he)] at h
      rw [List.drop_append_of_le_length ha, textG_mono _ r he, if_neg (by simpa using he), if_neg (by simpa using he)]
      exact goParts_mono bs r ps _ _ (by omega) h
    · rw [if_pos he] at h
      exact absurd h he
theorem itemG_mono (bs r : List Nat) (h : (itemG bs).2.2 = 0) : itemG (bs ++ r) = itemG bs := by
  have hne : bs ≠ [] := by intro e; subst e; simp [itemG] at h
  have hne2 : bs ++ r ≠ [] := by simp [hne]
  rw [itemG_eq bs hne] at h ⊢
  rw [itemG_eq _ hne2, getD_app bs r hne]
  by_cases h1 : (getN bs (formB (kindN (bs.getD 0 0)))).2.2 = 0
  · have hok := getN_ok bs _ (form_k4 (kindN (bs.getD 0 0)) (kind_le _)).2 h1
    rw [getN_mono bs r _ h1]
    have h1' : ¬ ((getN bs (formB (kindN (bs.getD 0 0)))).2.2 ≠ 0) := fun h => h h1
    rw [if_neg h1'] at h
    rw [if_neg h1', if_neg h1']
    by_cases h2 : kindN (bs.getD 0 0) = 0 ∧ (getN bs (formB (kindN (bs.getD 0 0)))).1 = 0
    · rw [if_pos h2] at h; simp at h
    · rw [if_neg h2] at h
      rw [if_neg h2, if_neg h2]
      exact goParts_mono bs r _ _ _ hok.2.1 h
  · rw [if_pos h1] at h
    exact absurd h h1
/-- Items that may be, with texts of up to 100 bytes. -/
def OkI (x : Itm) : Prop := chkI x = 0 ∧ x.name.size ≤ 100 ∧ x.value.size ≤ 100
def catI (l : List Itm) : List Nat := l.flatMap itemN
theorem catI_cons (x : Itm) (l : List Itm) : catI (x :: l) = itemN x ++ catI l := by simp [catI]
theorem catI_append (a b : List Itm) : catI (a ++ b) = catI a ++ catI b := by simp [catI]
theorem allA_cat : ∀ (l : List Itm) (f : Nat) (L : List Itm) (r : List Nat), (∀ x ∈ l, OkI x) → allA (f + l.length) L (catI l ++ r) = allA f (L ++ l) r
  | [], f, L, r, _ => by simp [catI]
  | x :: l, f, L, r, h => by
    have hx := h x (by simp)
    have hp := itemG_put x hx.1 hx.2.1 hx.2.2 (catI l ++ r)
    rw [catI_cons, List.append_assoc, List.length_cons, ← Nat.add_assoc, allA_step _ _ _ (by simp [itemN_pos]), hp]
    simp only
    rw [if_neg (by simp), List.drop_left, allA_cat l f (L ++ [x]) r (fun y hy => h y (by simp [hy]))]
    simp
theorem catI_len (l : List Itm) : l.length ≤ (catI l).length := by
  induction l with
  | nil => simp
  | cons x l ih =>
    have : 0 < (itemN x).length := List.length_pos_iff.2 (itemN_pos x)
    rw [catI_cons, List.length_append, List.length_cons]
    omega
theorem allG_cat (l : List Itm) (h : ∀ x ∈ l, OkI x) : allG (catI l) = (l, 0) := by
  have hl := catI_len l
  unfold allG
  obtain ⟨f, hf⟩ : ∃ f, (catI l).length = f + l.length := ⟨(catI l).length - l.length, by omega⟩
  have := allA_cat l f [] [] h
  rw [List.append_nil] at this
  rw [hf, this, allA_nil]
  simp
theorem itemG_short (x : Itm) (h : OkI x) (P : List Nat) (c : Nat) (hP : itemN x = P ++ [c]) : (itemG P).2.2 ≠ 0 := by
  intro h0
  have h1 := itemG_mono P [c] h0
  have h2 := itemG_put x h.1 h.2.1 h.2.2 []
  have h3 := itemG_ok P h0
  rw [List.append_nil, hP, h1] at h2
  rw [h2] at h3
  simp at h3
  omega
theorem cutI (l : List Itm) (hl : l ≠ []) (h : ∀ x ∈ l, OkI x) : ((allG ((catI l).take ((catI l).length - 1))).2 ≠ 0 ∧ (allG ((catI l).take ((catI l).length - 1))).1 = []) ∨ ((allG ((catI l).take ((catI l).length - 1))).1.length = l.length - 1) := by
  obtain ⟨l, x, rfl⟩ : ∃ l' x, l = l' ++ [x] := ⟨l.dropLast, l.getLast hl, (List.dropLast_concat_getLast hl).symm⟩
  have hx := h x (by simp)
  obtain ⟨P, c, hP⟩ : ∃ P c, itemN x = P ++ [c] := ⟨(itemN x).dropLast, (itemN x).getLast (itemN_pos x), (List.dropLast_concat_getLast (itemN_pos x)).symm⟩
  have hc : catI (l ++ [x]) = (catI l ++ P) ++ [c] := by rw [catI_append, catI_cons, hP]; simp [catI]
  have ht : (catI (l ++ [x])).take ((catI (l ++ [x])).length - 1) = catI l ++ P := by
    rw [hc, show (catI l ++ P ++ [c]).length - 1 = (catI l ++ P).length from by simp only [List.length_append, List.length_cons, List.length_nil]; omega, List.take_left]
  rw [ht]
  have hlen := catI_len l
  unfold allG
  rw [List.length_append]
  obtain ⟨f, hf⟩ : ∃ f, (catI l).length + P.length = f + P.length + l.length := ⟨(catI l).length - l.length, by omega⟩
  rw [hf, allA_cat l _ [] P (fun y hy => h y (by simp [hy]))]
  by_cases hp : P = []
  · subst hp
    rw [allA_nil]
    right
    simp
  · have hlp : 0 < P.length := List.length_pos_iff.2 hp
    obtain ⟨f2, hf2⟩ : ∃ f2, f + P.length = f2 + 1 := ⟨f + P.length - 1, by omega⟩
    have he := itemG_short x hx P c hP
    left
    rw [hf2, allA_step _ _ _ hp, if_pos he]
    exact ⟨he, rfl⟩
theorem catI_bytes (l : List Itm) (h : ∀ x ∈ l, OkI x) : ∀ y ∈ catI l, y < 256 := by
  intro y hy
  obtain ⟨x, hx, hy⟩ := List.mem_flatMap.1 hy
  exact itemN_bytes x (h x hx).1 y hy
theorem catI_big (l : List Itm) (h : ∀ x ∈ l, OkI x) : (catI l).length ≤ 208 * l.length := by
  induction l with
  | nil => simp [catI]
  | cons x l ih =>
    have hx := h x (by simp)
    have h1 := itemN_len100 x hx.1 hx.2.1 hx.2.2
    have h2 := ih (fun y hy => h y (by simp [hy]))
    have h3 := hx.2.1
    have h4 := hx.2.2
    rw [catI_cons, List.length_append, List.length_cons]
    omega
end Go.Proofs.Yteceinojmdgmeaa

