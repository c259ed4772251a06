/- What response.Check returns: whether an answer's three numbers lie where they may. -/
import Derived.Test.YtdkgckgpdogimaaGreatDoorC00
namespace Go.Proofs.YtdkgckgpdogimaaGreatDoor
open Go.RowKit
set_option linter.unusedVariables false
set_option linter.unusedSimpArgs false

/-- Does a number lie between two others? -/
def inB (n a b : Int) : Bool := decide (a ≤ n ∧ n ≤ b)
theorem inB_yes {n a b : Int} (h1 : a ≤ n) (h2 : n ≤ b) : inB n a b = true := by unfold inB; exact decide_eq_true ⟨h1, h2⟩
theorem inB_no {n a b : Int} (h : ¬ (a ≤ n ∧ n ≤ b)) : inB n a b = false := by unfold inB; exact decide_eq_false h
theorem inB_iff {n a b : Int} : inB n a b = true ↔ a ≤ n ∧ n ≤ b := by unfold inB; exact decide_eq_true_iff
theorem retB {a b : Bool} (h : a = b) : Ending.returned (.bool a) = .returned (.bool b) := by rw [h]

theorem in_any (n a b : Int) (w : World) : Calls Tryz.prog 279 #[.int .i64 n, .int .i64 a, .int .i64 b] w fun e w' => e = .returned (.bool (inB n a b)) ∧ w = w' := by
  by_cases h1 : a ≤ n
  · by_cases h2 : n ≤ b
    · have HR := Lib.hid (inB_yes h1 h2)
      go_enter Tryz.func279, Tryz.ntmps279
      go_wp2
      go_ret
      exact ⟨retB HR.out.symm, rfl⟩
    · have HR := Lib.hid (inB_no (a := a) (fun h => h2 h.2))
      go_enter Tryz.func279, Tryz.ntmps279
      go_wp2
      go_ret
      exact ⟨retB HR.out.symm, rfl⟩
  · have HR := Lib.hid (inB_no (b := b) (fun h => h1 h.1))
    go_enter Tryz.func279, Tryz.ntmps279
    go_wp2
    go_ret
    exact ⟨retB HR.out.symm, rfl⟩

/-- May an answer be? -/
def respOk (s l r : Int) : Bool := inB s 100 599 && inB l 0 999999999 && inB r 0 999999999
def respE (s l r : Int) : Int := if respOk s l r then 0 else 8
theorem respE_yes {s l r : Int} (h1 : inB s 100 599 = true) (h2 : inB l 0 999999999 = true) (h3 : inB r 0 999999999 = true) : respE s l r = 0 := by simp [respE, respOk, h1, h2, h3]
theorem respE_no {s l r : Int} (h : ¬ (inB s 100 599 = true ∧ inB l 0 999999999 = true ∧ inB r 0 999999999 = true)) : respE s l r = 8 := by
  unfold respE
  rw [if_neg]
  simp only [respOk, Bool.and_eq_true]
  rintro ⟨⟨a, b⟩, c⟩
  exact h ⟨a, b, c⟩
theorem retI {a b : Int} (h : a = b) : Ending.returned (.int .i64 a) = .returned (.int .i64 b) := by rw [h]

set_option maxHeartbeats 1000000 in
theorem check_any (s l r : Int) (w : World) : Calls Tryz.prog 217 #[.agg #[.int .i64 s, .int .i64 l, .int .i64 r]] w fun e w' => e = .returned (.int .i64 (respE s l r)) ∧ Below w.heap.size w w' := by
  obtain ⟨b1, h1⟩ : ∃ b, inB s 100 599 = b := ⟨_, rfl⟩
  obtain ⟨b2, h2⟩ : ∃ b, inB l 0 999999999 = b := ⟨_, rfl⟩
  obtain ⟨b3, h3⟩ : ∃ b, inB r 0 999999999 = b := ⟨_, rfl⟩
  have k1 := fun W => in_any s 100 599 W
  have k2 := fun W => in_any l 0 999999999 W
  have k3 := fun W => in_any r 0 999999999 W
  rw [h1] at k1
  rw [h2] at k2
  rw [h3] at k3
  have K1 := Lib.hid k1
  have K2 := Lib.hid k2
  have K3 := Lib.hid k3
  have H1 := Lib.hid h1
  have H2 := Lib.hid h2
  have H3 := Lib.hid h3
  clear h1 h2 h3 k1 k2 k3
  cases b1
  · have HR := Lib.hid (respE_no (s := s) (l := l) (r := r) (fun h => by have := H1.out.symm.trans h.1; cases this))
    go_enter Tryz.func217, Tryz.ntmps217
    go_wp2_with fail
    refine (K1.out _).mono ?_
    rintro e w' ⟨rfl, rfl⟩
    go_wp2_with fail
    go_ret
    exact ⟨retI HR.out.symm, (Below.refl _ _).alloc (Nat.le_refl _) _⟩
  cases b2
  · have HR := Lib.hid (respE_no (s := s) (l := l) (r := r) (fun h => by have := H2.out.symm.trans h.2.1; cases this))
    go_enter Tryz.func217, Tryz.ntmps217
    go_wp2_with fail
    refine (K1.out _).mono ?_
    rintro e w' ⟨rfl, rfl⟩
    go_wp2_with fail
    refine (K2.out _).mono ?_
    rintro e w' ⟨rfl, rfl⟩
    go_wp2_with fail
    go_ret
    exact ⟨retI HR.out.symm, (Below.refl _ _).alloc (Nat.le_refl _) _⟩
  cases b3
  · have HR := Lib.hid (respE_no (s := s) (l := l) (r := r) (fun h => by have := H3.out.symm.trans h.2.2; cases this))
    go_enter Tryz.func217, Tryz.ntmps217
    go_wp2_with fail
    refine (K1.out _).mono ?_
    rintro e w' ⟨rfl, rfl⟩
    go_wp2_with fail
    refine (K2.out _).mono ?_
    rintro e w' ⟨rfl, rfl⟩
    go_wp2_with fail
    refine (K3.out _).mono ?_
    rintro e w' ⟨rfl, rfl⟩
    go_wp2_with fail
    go_ret
    exact ⟨retI HR.out.symm, (Below.refl _ _).alloc (Nat.le_refl _) _⟩
  have HR := Lib.hid (respE_yes H1.out H2.out H3.out)
  go_enter Tryz.func217, Tryz.ntmps217
  go_wp2_with fail
  refine (K1.out _).mono ?_
  rintro e w' ⟨rfl, rfl⟩
  go_wp2_with fail
  refine (K2.out _).mono ?_
  rintro e w' ⟨rfl, rfl⟩
  go_wp2_with fail
  refine (K3.out _).mono ?_
  rintro e w' ⟨rfl, rfl⟩
  go_wp2_with fail
  go_ret
  exact ⟨retI HR.out.symm, (Below.refl _ _).alloc (Nat.le_refl _) _⟩
end Go.Proofs.YtdkgckgpdogimaaGreatDoor

