/- A machine of the kernel's own for closed runs: a trie by numbers. -/
import Derived.Calls
namespace Go.Proofs.YtdkgckgpdogimaaGreatDoor
set_option linter.unusedVariables false

inductive Tr (α : Type) where
  | leaf
  | node (v : Option α) (l r : Tr α)
theorem nb {n : Nat} (h : ¬ n = 0) : Nat.beq n 0 = false := by
  cases n with
  | zero => exact absurd rfl h
  | succ n => rfl
namespace Tr
variable {α : Type}
/-- What stands at a number. -/
noncomputable def get (t : Tr α) : Nat → Option α :=
  Tr.rec (motive := fun _ => Nat → Option α) (fun _ => none)
    (fun v _ _ il ir k => Nat.rec (motive := fun _ => Option α) v (fun k _ => Bool.rec (motive := fun _ => Option α) (ir (k / 2)) (il (k / 2)) (Nat.beq (k % 2) 0)) k) t
theorem get_leaf (k : Nat) : (leaf : Tr α).get k = none := rfl
theorem get_zero (v : Option α) (l r : Tr α) : (node v l r).get 0 = v := rfl
theorem get_succ (v : Option α) (l r : Tr α) (k : Nat) : (node v l r).get (k + 1) = if k % 2 = 0 then l.get (k / 2) else r.get (k / 2) := by
  show Bool.rec (motive := fun _ => Option α) (r.get (k / 2)) (l.get (k / 2)) (Nat.beq (k % 2) 0) = _
  by_cases h : k % 2 = 0
  · rw [if_pos h, h]; rfl
  · rw [if_neg h, nb h]
/-- A node whose left side is t, t made ready first. -/
noncomputable def lft (v : Option α) (t r : Tr α) : Tr α := Tr.rec (motive := fun _ => Tr α) (node v leaf r) (fun a b c _ _ => node v (node a b c) r) t
noncomputable def rgt (v : Option α) (l t : Tr α) : Tr α := Tr.rec (motive := fun _ => Tr α) (node v l leaf) (fun a b c _ _ => node v l (node a b c)) t
theorem lft_eq (v : Option α) (t r : Tr α) : lft v t r = node v t r := by cases t <;> rfl
theorem rgt_eq (v : Option α) (l t : Tr α) : rgt v l t = node v l t := by cases t <;> rfl
/-- A value at a number. -/
noncomputable def setF (x : Option α) (f : Nat) : Tr α → Nat → Tr α :=
  Nat.rec (motive := fun _ => Tr α → Nat → Tr α) (fun t _ => t)
    (fun _ ih t k => Tr.rec (motive := fun _ => Tr α)
      (Nat.rec (motive := fun _ => Tr α) (node x leaf leaf) (fun k _ => Bool.rec (motive := fun _ => Tr α) (rgt none leaf (ih leaf (k / 2))) (lft none (ih leaf (k / 2)) leaf) (Nat.beq (k % 2) 0)) k)
      (fun v l r _ _ => Nat.rec (motive := fun _ => Tr α) (node x l r) (fun k _ => Bool.rec (motive := fun _ => Tr α) (rgt v l (ih r (k / 2))) (lft v (ih l (k / 2)) r) (Nat.beq (k % 2) 0)) k) t) f
noncomputable def put (t : Tr α) (k : Nat) (x : Option α) : Tr α := setF x (k + 1) t k
noncomputable def set (t : Tr α) (k : Nat) (x : α) : Tr α := put t k (some x)
theorem setF_leaf_zero (x : Option α) (f : Nat) : setF x (f + 1) leaf 0 = node x leaf leaf := rfl
theorem setF_node_zero (x : Option α) (f : Nat) (v : Option α) (l r : Tr α) : setF x (f + 1) (node v l r) 0 = node x l r := rfl
theorem setF_leaf_succ (x : Option α) (f k : Nat) : setF x (f + 1) leaf (k + 1) = if k % 2 = 0 then node none (setF x f leaf (k / 2)) leaf else node none leaf (setF x f leaf (k / 2)) := by
  show Bool.rec (motive := fun _ => Tr α) (rgt none leaf (setF x f leaf (k / 2))) (lft none (setF x f leaf (k / 2)) leaf) (Nat.beq (k % 2) 0) = _
  rw [lft_eq, rgt_eq]
  by_cases h : k % 2 = 0
  · rw [if_pos h, h]; rfl
  · rw [if_neg h, nb h]
theorem setF_node_succ (x : Option α) (f k : Nat) (v : Option α) (l r : Tr α) : setF x (f + 1) (node v l r) (k + 1) = if k % 2 = 0 then node v (setF x f l (k / 2)) r else node v l (setF x f r (k / 2)) := by
  show Bool.rec (motive := fun _ => Tr α) (rgt v l (setF x f r (k / 2))) (lft v (setF x f l (k / 2)) r) (Nat.beq (k % 2) 0) = _
  rw [lft_eq, rgt_eq]
  by_cases h : k % 2 = 0
  · rw [if_pos h, h]; rfl
  · rw [if_neg h, nb h]
theorem half_eq {j k : Nat} (h : j / 2 = k / 2) (h2 : j % 2 = k % 2) : j = k := by omega
theorem get_setF (x : Option α) : ∀ (f : Nat) (t : Tr α) (k j : Nat), k < f → (setF x f t k).get j = if j = k then x else t.get j := by
  intro f
  induction f with
  | zero => intro t k j h; omega
  | succ f ih =>
    intro t k j h
    cases k with
    | zero =>
      cases t with
      | leaf =>
        rw [setF_leaf_zero]
        cases j with
        | zero => rfl
        | succ j => rw [get_succ]; simp [get_leaf]
      | node v l r =>
        rw [setF_node_zero]
        cases j with
        | zero => rfl
        | succ j => rw [if_neg (Nat.succ_ne_zero j), get_succ, get_succ]
    | succ k =>
      have hk : k / 2 < f := by omega
      cases t with
      | leaf =>
        rw [setF_leaf_succ]
        cases j with
        | zero => rw [if_neg (Nat.succ_ne_zero k).symm]; split <;> rfl
        | succ j =>
          by_cases hp : k % 2 = 0
          · rw [if_pos hp, get_succ]
            by_cases hj : j % 2 = 0
            · rw [if_pos hj, ih _ _ _ hk]
              by_cases e : j = k
              · rw [if_pos (by rw [e]), if_pos (by omega)]
              · rw [if_neg (fun h => e (half_eq h (by omega))), if_neg (by omega)]; rfl
            · rw [if_neg hj, if_neg (by omega)]; rfl
          · rw [if_neg hp, get_succ]
            by_cases hj : j % 2 = 0
            · rw [if_pos hj, if_neg (by omega)]; rfl
            · rw [if_neg hj, ih _ _ _ hk]
              by_cases e : j = k
              · rw [if_pos (by rw [e]), if_pos (by omega)]
              · rw [if_neg (fun h => e (half_eq h (by omega))), if_neg (by omega)]; rfl
      | node v l r =>
        rw [setF_node_succ]
        cases j with
        | zero => rw [if_neg (Nat.succ_ne_zero k).symm]; split <;> rfl
        | succ j =>
          rw [get_succ v l r]
          by_cases hp : k % 2 = 0
          · rw [if_pos hp, get_succ]
            by_cases hj : j % 2 = 0
            · rw [if_pos hj, if_pos hj, ih _ _ _ hk]
              by_cases e : j = k
              · rw [if_pos (by rw [e]), if_pos (by omega)]
              · rw [if_neg (fun h => e (half_eq h (by omega))), if_neg (by omega)]
            · rw [if_neg hj, if_neg hj, if_neg (by omega)]
          · rw [if_neg hp, get_succ]
            by_cases hj : j % 2 = 0
            · rw [if_pos hj, if_pos hj, if_neg (by omega)]
            · rw [if_neg hj, if_neg hj, ih _ _ _ hk]
              by_cases e : j = k
              · rw [if_pos (by rw [e]), if_pos (by omega)]
              · rw [if_neg (fun h => e (half_eq h (by omega))), if_neg (by omega)]
theorem get_put (t : Tr α) (k j : Nat) (x : Option α) : (t.put k x).get j = if j = k then x else t.get j := get_setF x (k + 1) t k j (by omega)
theorem get_set (t : Tr α) (k j : Nat) (x : α) : (t.set k x).get j = if j = k then some x else t.get j := get_put t k j (some x)
/-- The values of a list, from a number on. -/
noncomputable def fill (l : List α) : Nat → Tr α → Tr α :=
  List.rec (motive := fun _ => Nat → Tr α → Tr α) (fun _ t => t) (fun x _ ih k t => ih (k + 1) (t.set k x)) l
theorem fill_nil (k : Nat) (t : Tr α) : fill [] k t = t := rfl
theorem fill_cons (x : α) (l : List α) (k : Nat) (t : Tr α) : fill (x :: l) k t = fill l (k + 1) (t.set k x) := rfl
theorem get_fill : ∀ (l : List α) (k : Nat) (t : Tr α) (j : Nat), (fill l k t).get j = if k ≤ j ∧ j < k + l.length then l[j - k]? else t.get j := by
  intro l
  induction l with
  | nil => intro k t j; rw [fill_nil, if_neg (by simp)]
  | cons x l ih =>
    intro k t j
    rw [fill_cons, ih, get_set]
    by_cases h : j = k
    · subst h
      rw [if_neg (by omega), if_pos rfl, if_pos (by simp)]
      simp
    · rw [if_neg h]
      by_cases h2 : k + 1 ≤ j ∧ j < k + 1 + l.length
      · rw [if_pos h2, if_pos (by simp only [List.length_cons]; omega), show j - k = (j - (k + 1)) + 1 from by omega, List.getElem?_cons_succ]
      · rw [if_neg h2, if_neg (by simp only [List.length_cons]; omega)]
noncomputable def ofList (l : List α) : Tr α := fill l 0 leaf
theorem get_ofList (l : List α) (j : Nat) : (ofList l).get j = l[j]? := by
  unfold ofList
  rw [get_fill]
  by_cases h : j < l.length
  · rw [if_pos (by omega)]; rfl
  · rw [if_neg (by omega), get_leaf, List.getElem?_eq_none (by omega)]
/-- The values from k on, n of them; none if one lacks. -/
noncomputable def list (t : Tr α) (n : Nat) : Nat → Option (List α) :=
  Nat.rec (motive := fun _ => Nat → Option (List α)) (fun _ => some [])
    (fun _ ih k => Option.rec (motive := fun _ => Option (List α)) none (fun x => Option.rec (motive := fun _ => Option (List α)) none (fun l => some (x :: l)) (ih (k + 1))) (t.get k)) n
theorem list_zero (t : Tr α) (k : Nat) : t.list 0 k = some [] := rfl
theorem list_succ (t : Tr α) (n k : Nat) : t.list (n + 1) k = (match t.get k with | none => none | some x => match t.list n (k + 1) with | none => none | some l => some (x :: l)) := by
  show Option.rec (motive := fun _ => Option (List α)) none (fun x => Option.rec (motive := fun _ => Option (List α)) none (fun l => some (x :: l)) (t.list n (k + 1))) (t.get k) = _
  cases t.get k <;> cases t.list n (k + 1) <;> rfl
theorem list_spec (t : Tr α) : ∀ (n k : Nat) (l : List α), t.list n k = some l → l.length = n ∧ ∀ i, i < n → t.get (k + i) = l[i]? := by
  intro n
  induction n with
  | zero => intro k l h; rw [list_zero] at h; cases h; exact ⟨rfl, fun i hi => by omega⟩
  | succ n ih =>
    intro k l h
    rw [list_succ] at h
    split at h
    · cases h
    · rename_i x hx
      split at h
      · cases h
      · rename_i l2 h2
        cases h
        obtain ⟨h3, h4⟩ := ih _ _ h2
        refine ⟨by simp [h3], fun i hi => ?_⟩
        cases i with
        | zero => simpa using hx
        | succ i => rw [show k + (i + 1) = k + 1 + i by omega, h4 i (by omega)]; simp
theorem list_of (t : Tr α) : ∀ (n k : Nat) (l : List α), l.length = n → (∀ i, i < n → t.get (k + i) = l[i]?) → t.list n k = some l := by
  intro n
  induction n with
  | zero => intro k l h _; rw [list_zero, List.length_eq_zero_iff.1 h]
  | succ n ih =>
    intro k l h h2
    cases l with
    | nil => simp at h
    | cons x l =>
      rw [list_succ]
      have h0 := h2 0 (by omega)
      simp only [Nat.add_zero, List.getElem?_cons_zero] at h0
      have h1 := ih (k + 1) l (by simpa using h) (fun i hi => by
        have := h2 (i + 1) (by omega)
        rw [show k + (i + 1) = k + 1 + i by omega] at this
        simpa using this)
      rw [h0, h1]
end Tr
end Go.Proofs.YtdkgckgpdogimaaGreatDoor

