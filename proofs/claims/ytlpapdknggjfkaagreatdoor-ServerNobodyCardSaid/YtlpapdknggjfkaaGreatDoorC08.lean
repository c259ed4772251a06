/- Any order that keeps what must come first ends alike. -/
import Derived.Test.YtlpapdknggjfkaaGreatDoorC07
import Derived.Orders
namespace Go.Proofs.YtlpapdknggjfkaaGreatDoor
open Go.RowKit
set_option linter.unusedVariables false
set_option linter.unusedSimpArgs false
set_option linter.unusedSectionVars false
variable [Sy]

theorem last_or (P : Nat → Prop) : ∀ i, (∀ j, j < i → ¬ P j) ∨ ∃ j, j < i ∧ P j ∧ ∀ k, j < k → k < i → ¬ P k := by
  intro i
  induction i with
  | zero => exact .inl (fun j h => by omega)
  | succ i ih =>
    by_cases h : P i
    · exact .inr ⟨i, by omega, h, fun k h1 h2 => by omega⟩
    · rcases ih with ih | ⟨j, h1, h2, h3⟩
      · refine .inl fun j hj => ?_
        by_cases e : j = i
        · subst e; exact h
        · exact ih j (by omega)
      · refine .inr ⟨j, by omega, h2, fun k h4 h5 => ?_⟩
        by_cases e : k = i
        · subst e; exact h
        · exact h3 k h4 (by omega)
section inter
variable {Λ V : Type} {n : Nat} {v : Nat → Λ → V} {R W : Nat → Λ → Prop} {ord : Nat → Nat → Prop}
/-- What stands when the steps of D are done. -/
def InvD (n : Nat) (v : Nat → Λ → V) (W : Nat → Λ → Prop) (D : Nat → Prop) (u : Λ → V) : Prop := ∀ L, ((∀ j, j < n → D j → ¬ W j L) → u L = v 0 L) ∧ ∀ j, j < n → D j → W j L → (∀ k, j < k → k < n → D k → ¬ W k L) → u L = v (j + 1) L
theorem text_none (T : ∀ i, i < n → ∀ L, ¬ W i L → v (i + 1) L = v i L) {L : Λ} : ∀ i, i ≤ n → (∀ j, j < i → ¬ W j L) → v i L = v 0 L := by
  intro i
  induction i with
  | zero => intro _ _; rfl
  | succ i ih => intro hi h; rw [T i (by omega) L (h i (by omega))]; exact ih (by omega) (fun j hj => h j (by omega))
theorem text_last (T : ∀ i, i < n → ∀ L, ¬ W i L → v (i + 1) L = v i L) {L : Λ} {j : Nat} : ∀ i, j < i → i ≤ n → (∀ k, j < k → k < i → ¬ W k L) → v i L = v (j + 1) L := by
  intro i
  induction i with
  | zero => intro h _ _; omega
  | succ i ih =>
    intro h1 h2 h3
    by_cases e : j = i
    · subst e; rfl
    · rw [T i (by omega) L (h3 i (by omega) (by omega))]
      exact ih (by omega) (by omega) (fun k h4 h5 => h3 k h4 (by omega))
theorem inv_agree (T : ∀ i, i < n → ∀ L, ¬ W i L → v (i + 1) L = v i L) (con : ∀ j i, j < i → i < n → ¬ ord i j → ∀ L, (W j L → ¬ R i L ∧ ¬ W i L) ∧ (W i L → ¬ R j L)) {D : Nat → Prop} {u : Λ → V} (hD : InvD n v W D u)
    {i : Nat} (hi : i < n) (hni : ¬ D i) (hp : ∀ j, j < i → ord i j → D j) (hcl : ∀ k, k < n → D k → ∀ j, j < n → ord k j → D j) : ∀ L, R i L → u L = v i L := by
  intro L hR
  have hlate : ∀ k, i < k → k < n → D k → ¬ W k L := fun k h1 h2 h3 h4 => by
    by_cases ho : ord k i
    · exact hni (hcl k h2 h3 i hi ho)
    · exact (con i k h1 h2 ho L).2 h4 hR
  rcases last_or (fun j => W j L) i with h | ⟨j, h1, h2, h3⟩
  · rw [text_none T i (by omega) h]
    refine (hD L).1 fun j hj hd hw => ?_
    rcases Nat.lt_trichotomy j i with h4 | h4 | h4
    · exact h j h4 hw
    · subst h4; exact hni hd
    · exact hlate j h4 hj hd hw
  · rw [text_last T i h1 (by omega) h3]
    have hdj : D j := by
      by_cases ho : ord i j
      · exact hp j h1 ho
      · exact absurd hR ((con j i h1 hi ho L).1 h2).1
    refine (hD L).2 j (by omega) hdj h2 fun k h4 h5 h6 h7 => ?_
    rcases Nat.lt_trichotomy k i with h8 | h8 | h8
    · exact h3 k h4 h8 h7
    · subst h8; exact hni h6
    · exact hlate k h8 h5 h6 h7
theorem inv_step (con : ∀ j i, j < i → i < n → ¬ ord i j → ∀ L, (W j L → ¬ R i L ∧ ¬ W i L) ∧ (W i L → ¬ R j L)) {D D' : Nat → Prop} {u u' : Λ → V} (hD : InvD n v W D u)
    {i : Nat} (hi : i < n) (hni : ¬ D i) (hcl : ∀ k, k < n → D k → ∀ j, j < n → ord k j → D j) (hD' : ∀ j, j < n → (D' j ↔ D j ∨ j = i)) (h1 : ∀ L, W i L → u' L = v (i + 1) L) (h2 : ∀ L, ¬ W i L → u' L = u L) : InvD n v W D' u' := by
  intro L
  refine ⟨fun h => ?_, fun j hj hd hw h => ?_⟩
  · rw [h2 L (h i hi ((hD' i hi).2 (.inr rfl)))]
    exact (hD L).1 fun j hj hd => h j hj ((hD' j hj).2 (.inl hd))
  · rcases (hD' j hj).1 hd with hd | rfl
    · by_cases hwi : W i L
      · exfalso
        have hij : i < j := by
          rcases Nat.lt_trichotomy i j with h4 | h4 | h4
          · exact h4
          · subst h4; exact absurd hd hni
          · exact absurd hwi (h i h4 hi ((hD' i hi).2 (.inr rfl)))
        by_cases ho : ord j i
        · exact hni (hcl j hj hd i hi ho)
        · exact ((con i j hij hj ho L).1 hwi).2 hw
      · rw [h2 L hwi]
        exact (hD L).2 j hj hd hw fun k h4 h5 h6 => h k h4 h5 ((hD' k h5).2 (.inl h6))
    · exact h1 L hw
theorem inv_end (T : ∀ i, i < n → ∀ L, ¬ W i L → v (i + 1) L = v i L) {D : Nat → Prop} {u : Λ → V} (hD : InvD n v W D u) (hall : ∀ j, j < n → D j) : ∀ L, u L = v n L := by
  intro L
  rcases last_or (fun j => W j L) n with h | ⟨j, h1, h2, h3⟩
  · rw [text_none T n (Nat.le_refl _) h]
    exact (hD L).1 fun j hj _ => h j hj
  · rw [text_last T n h1 (Nat.le_refl _) h3]
    exact (hD L).2 j h1 (hall j h1) h2 fun k h4 h5 _ => h3 k h4 h5
theorem inv_start {D : Nat → Prop} (hnone : ∀ j, j < n → ¬ D j) : InvD n v W D (v 0) := fun L => ⟨fun _ => rfl, fun j hj hd => absurd hd (hnone j hj)⟩
end inter

/-- What must come ahead of an operation: numbers as bits. -/
noncomputable def edges (acc : Tr Nat) (es : List Edge) : Nat :=
  List.rec (motive := fun _ => Nat) 0 (fun e _ m => Bool.rec (motive := fun _ => Nat) m (Nat.lor (Nat.lor m (2 ^ e.on)) (Option.rec (motive := fun _ => Nat) 0 (fun x => x) (acc.get e.on))) (Region.binds .any e)) es
noncomputable def masks (l : List Oper) : Nat → Tr Nat → Tr Nat :=
  List.rec (motive := fun _ => Nat → Tr Nat → Tr Nat) (fun _ acc => acc) (fun o _ ih i acc => ih (i + 1) (acc.set i (edges acc o.after.toList))) l
theorem masks_nil (i : Nat) (acc : Tr Nat) : masks [] i acc = acc := rfl
theorem masks_cons (o : Oper) (l : List Oper) (i : Nat) (acc : Tr Nat) : masks (o :: l) i acc = masks l (i + 1) (acc.set i (edges acc o.after.toList)) := rfl
theorem edges_bit {acc : Tr Nat} {D : Nat → Prop} : ∀ {es : List Edge} {j : Nat}, (edges acc es).testBit j = true → (∀ e ∈ es, Region.binds .any e = true → D e.on ∧ ∀ m, acc.get e.on = some m → ∀ k, m.testBit k = true → D k) → D j := by
  intro es
  induction es with
  | nil => intro j h _; simp [edges] at h
  | cons e es ih =>
    intro j h hD
    have hrec : edges acc (e :: es) = Bool.rec (motive := fun _ => Nat) (edges acc es) (Nat.lor (Nat.lor (edges acc es) (2 ^ e.on)) (Option.rec (motive := fun _ => Nat) 0 (fun x => x) (acc.get e.on))) (Region.binds .any e) := rfl
    rw [hrec] at h
    cases hb : Region.binds .any e with
    | false =>
      rw [hb] at h
      exact ih h (fun x hx => hD x (by simp [hx]))
    | true =>
      rw [hb] at h
      obtain ⟨d1, d2⟩ := hD e (by simp) hb
      have h : (Nat.lor (Nat.lor (edges acc es) (2 ^ e.on)) (Option.rec (motive := fun _ => Nat) 0 (fun x => x) (acc.get e.on))).testBit j = true := h
      change (((edges acc es) ||| (2 ^ e.on)) ||| _).testBit j = true at h
      rw [Nat.testBit_or, Nat.testBit_or, Bool.or_eq_true, Bool.or_eq_true] at h
      rcases h with (h | h) | h
      · exact ih h (fun x hx => hD x (by simp [hx]))
      · rw [Nat.testBit_two_pow] at h
        have : e.on = j := by simpa using h
        exact this ▸ d1
      · cases hg : acc.get e.on with
        | none => rw [hg] at h; simp at h
        | some m => rw [hg] at h; exact d2 m hg j h
/-- What stands in the row of numbers is behind the direct edges. -/
theorem masks_spec {ops : List Oper} : ∀ (l : List Oper) (i : Nat) (acc : Tr Nat), ops.drop i = l → (∀ k m, acc.get k = some m → k < i ∧ ∀ D : Nat → Prop, (∀ x o, ops[x]? = some o → D x → ∀ e ∈ o.after.toList, Region.binds .any e = true → D e.on) → D k → ∀ j, m.testBit j = true → D j) →
    ∀ k m, (masks l i acc).get k = some m → ∀ D : Nat → Prop, (∀ x o, ops[x]? = some o → D x → ∀ e ∈ o.after.toList, Region.binds .any e = true → D e.on) → D k → ∀ j, m.testBit j = true → D j := by
  intro l
  induction l with
  | nil => intro i acc _ h k m hk; rw [masks_nil] at hk; exact (h k m hk).2
  | cons o l ih =>
    intro i acc hd h
    rw [masks_cons]
    have ho : ops[i]? = some o := by
      have := congrArg (fun l => l[0]?) hd
      simpa using this
    refine ih (i + 1) _ (by rw [← List.drop_drop, hd]; rfl) fun k m hk => ?_
    rw [Tr.get_set] at hk
    by_cases e : k = i
    · rw [if_pos e] at hk
      injection hk with hk
      subst hk
      refine ⟨by omega, fun D hcl hDk j hj => edges_bit (D := D) hj fun x hx hb => ?_⟩
      have d1 := hcl k o (e ▸ ho) hDk x hx hb
      exact ⟨d1, fun m hm k2 hk2 => (h _ m hm).2 D hcl d1 k2 hk2⟩
    · rw [if_neg e] at hk
      exact ⟨by have := (h k m hk).1; omega, (h k m hk).2⟩
end Go.Proofs.YtlpapdknggjfkaaGreatDoor

