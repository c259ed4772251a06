/- Unknown values by lists: exact numbers below 1000, others by what is known of them. -/
import Derived.Test.YtlpapdknggjfkaaGreatDoorC38
namespace Go.Proofs.YtlpapdknggjfkaaGreatDoor
open Go.RowKit
set_option linter.unusedVariables false
set_option linter.unusedSimpArgs false

def mkP (ints : Nat → Option (IntKind × Int)) (rest : Nat → Value → Prop) (j : Nat) (v : Value) : Prop := if j < 1000 then ∃ p, ints j = some p ∧ v = .int p.1 p.2 else rest j v
theorem mkP_low {ints : Nat → Option (IntKind × Int)} {rest : Nat → Value → Prop} {j : Nat} (hj : j < 1000) {v : Value} : mkP ints rest j v ↔ ∃ p, ints j = some p ∧ v = .int p.1 p.2 := by
  unfold mkP
  rw [if_pos hj]
theorem mkP_high {ints : Nat → Option (IntKind × Int)} {rest : Nat → Value → Prop} {j : Nat} (hj : ¬ j < 1000) {v : Value} : mkP ints rest j v ↔ rest j v := by
  unfold mkP
  rw [if_neg hj]
@[reducible] def mkSy (ints : Nat → Option (IntKind × Int)) (rest : Nat → Value → Prop) (hrest : ∀ i v, rest i v → (∀ a, v ≠ .agg a) ∧ (∀ a, v ≠ .tuple a)) (inv : Nat → World → Prop) (keep : ∀ {B : Nat} {w w' : World}, inv B w → Below B w w' → inv B w') : Sy :=
  ⟨mkP ints rest, fun j v h => by
    by_cases hj : j < 1000
    · obtain ⟨p, _, rfl⟩ := (mkP_low hj).1 h
      exact ⟨fun _ h => (by cases h), fun _ h => (by cases h)⟩
    · exact hrest j v ((mkP_high hj).1 h),
  fun j hj => by
    cases hp : ints j with
    | none => exact ⟨.i64, 0, fun v h => by
        obtain ⟨p, h, _⟩ := (mkP_low hj).1 h
        rw [hp] at h
        cases h⟩
    | some p => exact ⟨p.1, p.2, fun v h => by
        obtain ⟨q, h, h2⟩ := (mkP_low hj).1 h
        rw [hp] at h
        injection h with h
        subst h
        exact h2⟩,
  inv, keep⟩
section
variable {ints : Nat → Option (IntKind × Int)} {rest : Nat → Value → Prop} {hrest : ∀ i v, rest i v → (∀ a, v ≠ .agg a) ∧ (∀ a, v ≠ .tuple a)} {inv : Nat → World → Prop} {keep : ∀ {B : Nat} {w w' : World}, inv B w → Below B w w' → inv B w'}
theorem mk_is {j : Nat} {k : IntKind} {x : Int} (hj : j < 1000) (h : ints j = some (k, x)) : @Is (mkSy ints rest hrest inv keep) (.un j) (.int k x) := fun ρ u hu => by
  letI : Sy := mkSy ints rest hrest inv keep
  simp only [AV.rp] at hu
  obtain ⟨q, h1, h2⟩ := (mkP_low (ints := ints) (rest := rest) hj).1 hu
  rw [h] at h1
  injection h1 with h1
  subst h1
  exact h2
theorem mk_tells {j : Nat} {k : IntKind} {x : Int} (hj : j < 1000) (h : ints j = some (k, x)) (ρ : Pm) : @AV.rp (mkSy ints rest hrest inv keep) ρ (.un j) (.int k x) := by
  letI : Sy := mkSy ints rest hrest inv keep
  simp only [AV.rp]
  exact (mkP_low (ints := ints) (rest := rest) hj).2 ⟨_, h, rfl⟩
theorem mk_rest {j : Nat} (hj : ¬ j < 1000) {ρ : Pm} {v : Value} : @AV.rp (mkSy ints rest hrest inv keep) ρ (.un j) v ↔ rest j v := by
  letI : Sy := mkSy ints rest hrest inv keep
  simp only [AV.rp]
  exact mkP_high (ints := ints) (rest := rest) hj
end
/-- A text's bytes. -/
theorem cnv_bytes [Sy] {P : Program} {s d e : TypeId} {x z : AV} (hs : P.underlying s = some .string) (hd : P.underlying d = some (.slice e)) (he : P.underlying e = some (.int .u8)) (hx : ∀ ρ v, x.rp ρ v → ∃ t, v = .string t) (hz : ∀ ρ a l c, z.rp ρ (.slice a l c)) : CnvOK P (s, d, x, z) := by
  intro ρ w v h
  obtain ⟨t, rfl⟩ := hx _ _ h
  refine ⟨_, _, Lib.run_convert_string_bytes w s d e t hs hd he, hz _ _ _ _, ?_⟩
  refine ⟨?_, ?_, ?_, by rw [Lib.bytesWorld_size]; exact Nat.le_succ _, fun k hk => Lib.bytesWorld_at_old w e t k hk⟩
  all_goals
    unfold Lib.bytesWorld World.freeze
    split <;> rfl
end Go.Proofs.YtlpapdknggjfkaaGreatDoor

