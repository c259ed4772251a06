/- Values as expressions, by their shapes. -/
import Derived.Test.YtdflkikhmngfiaaDoorC11
namespace Go.Proofs.YtdflkikhmngfiaaDoor
open Go.RowKit
set_option linter.unusedVariables false
set_option linter.unusedSimpArgs false
set_option linter.unusedSectionVars false
variable [Sy] [Dc] [DcOK]
section
variable {ρ : Pm}
theorem xl_rp {x : AV} {p : List Sh × Xp} (e : xl x = some p) {v : Value} (h : x.rp ρ v) : Sh.rp ρ.fz (.lst p.1) p.2.den v := by
  unfold xl at e
  split at e
  · injection e with e; subst e; simpa only [AV.rp] using h
  · injection e with e; subst e; simp only [AV.rp] at h; exact h.1
  · cases e
end
mutual
theorem eqSh_eq : ∀ {s t : Sh}, eqSh s t = true → s = t
  | .int k, t, h => by cases t <;> first | (have h : decide (k = _) = true := h; rw [of_decide_eq_true h]) | cases h
  | .bool, t, h => by cases t <;> first | rfl | cases h
  | .str, t, h => by cases t <;> first | rfl | cases h
  | .lst l, t, h => by
    cases t with
    | lst m => rw [eqShs_eq' (l := l) (m := m) h]
    | _ => cases h
theorem eqShs_eq' : ∀ {l m : List Sh}, (Sh.rec_1 (motive_1 := fun _ => Sh → Bool) (motive_2 := fun _ => List Sh → Bool)
    (fun k t => match t with | .int k' => decide (k = k') | _ => false)
    (fun t => match t with | .bool => true | _ => false)
    (fun t => match t with | .str => true | _ => false)
    (fun _ ih t => match t with | .lst m => ih m | _ => false)
    (fun m => match m with | [] => true | _ => false)
    (fun _ _ ih1 ih2 m => match m with | y :: m => ih1 y && ih2 m | _ => false) l) m = true → l = m
  | [], m, h => by cases m <;> first | rfl | cases h
  | x :: l, m, h => by
    cases m with
    | nil => cases h
    | cons y m =>
      have h : (eqSh x y && _) = true := h
      rw [Bool.and_eq_true] at h
      rw [eqSh_eq h.1, eqShs_eq' h.2]
end
theorem eqShs_eq : ∀ {l m : List Sh}, eqShs l m = true → l = m
  | [], m, h => by cases m <;> first | rfl | cases h
  | x :: l, m, h => by
    cases m with
    | nil => cases h
    | cons y m =>
      have h : (eqSh x y && eqShs l m) = true := h
      rw [Bool.and_eq_true] at h
      rw [eqSh_eq h.1, eqShs_eq h.2]
theorem matS_rp {ρ : Pm} {s : Sh} {x : AV} {e : Xp} (h : matS s x = some e) {v : Value} (hx : x.rp ρ v) : s.rp ρ.fz e.den v := by
  cases s with
  | int k =>
    obtain ⟨p, h1, h2⟩ := bind_some' h
    obtain ⟨h3, h4⟩ := bif_some h2
    injection h4 with h4
    have h3 : p.1 = k := of_decide_eq_true h3
    simp only [Sh.rp]
    rw [xi_rp h1 hx, h3, h4]
  | str => simp only [Sh.rp]; exact xs_rp h hx
  | bool => simp only [Sh.rp]; exact xb_rp h hx
  | lst el =>
    unfold matS at h
    dsimp only at h
    split at h
    · injection h with h
      subst h
      simp only [AV.rp] at hx
      simp only [Sh.rp]
      exact ⟨none, 0, hx, Nat.le_refl _, .inl rfl⟩
    · injection h with h
      subst h
      simp only [AV.rp] at hx
      obtain ⟨a, c, hx⟩ := hx
      simp only [Sh.rp]
      exact ⟨some a, c, hx, Nat.zero_le _, .inl rfl⟩
    · obtain ⟨p, h1, h2⟩ := bind_some' h
      obtain ⟨h3, h4⟩ := bif_some h2
      injection h4 with h4
      rw [← eqShs_eq h3, ← h4]
      exact xl_rp h1 hx
end Go.Proofs.YtdflkikhmngfiaaDoor

