/- Bytes that stand for themselves, digits: query's small functions. -/
import Derived.Test.YtbpcknjobbjmpaaDoorStaA
import Derived.Deep.RegionHeld
namespace Go.Proofs.YtbpcknjobbjmpaaDoor
open Go.RowKit
set_option linter.unusedVariables false
set_option linter.unusedSimpArgs false

/-- Does a byte stand for itself? -/
def itN (c : Nat) : Bool := decide (65 ≤ c ∧ c ≤ 90) || decide (97 ≤ c ∧ c ≤ 122) || decide (48 ≤ c ∧ c ≤ 57) || decide (c = 45) || decide (c = 46) || decide (c = 95) || decide (c = 126)
set_option maxHeartbeats 4000000 in
theorem itself_any (c : Nat) (w : World) : Calls Tryd.prog 50 #[.int .u8 (c : Int)] w fun e w' => e = .returned (.bool (itN c)) ∧ w' = w := by
  by_cases hA1 : (65 : Int) ≤ (c : Int)
  · have qA1 : decide ((65 : Int) ≤ (c : Int)) = true := decide_eq_true hA1
    by_cases hA2 : (c : Int) ≤ 90
    · have qA2 : decide ((c : Int) ≤ 90) = true := decide_eq_true hA2
      have hv : itN c = true := by unfold itN; simp; omega
      rw [hv]
      go_enter Tryd.func50, Tryd.ntmps50
      go_wp2
      go_ret
      exact ⟨rfl, rfl⟩
    · have qA2 : decide ((c : Int) ≤ 90) = false := decide_eq_false hA2
      by_cases hB1 : (97 : Int) ≤ (c : Int)
      · have qB1 : decide ((97 : Int) ≤ (c : Int)) = true := decide_eq_true hB1
        by_cases hB2 : (c : Int) ≤ 122
        · have qB2 : decide ((c : Int) ≤ 122) = true := decide_eq_true hB2
          have hv : itN c = true := by unfold itN; simp; omega
          rw [hv]
          go_enter Tryd.func50, Tryd.ntmps50
          go_wp2
          go_ret
          exact ⟨rfl, rfl⟩
        · have qB2 : decide ((c : Int) ≤ 122) = false := decide_eq_false hB2
          by_cases hD1 : (48 : Int) ≤ (c : Int)
          · have qD1 : decide ((48 : Int) ≤ (c : Int)) = true := decide_eq_true hD1
            by_cases hD2 : (c : Int) ≤ 57
            · have qD2 : decide ((c : Int) ≤ 57) = true := decide_eq_true hD2
              have hv : itN c = true := by unfold itN; simp; omega
              rw [hv]
              go_enter Tryd.func50, Tryd.ntmps50
              go_wp2
              go_ret
              exact ⟨rfl, rfl⟩
            · have qD2 : decide ((c : Int) ≤ 57) = false := decide_eq_false hD2
              by_cases hE1 : (c : Int) = 45
              · have qE1 : ((c : Int) == 45) = true := by rw [hE1]; rfl
                have hv : itN c = true := by unfold itN; simp; omega
                rw [hv]
                go_enter Tryd.func50, Tryd.ntmps50
                go_wp2
                go_ret
                exact ⟨rfl, rfl⟩
              · have qE1 : ((c : Int) == 45) = false := beq_eq_false_iff_ne.2 hE1
                by_cases hE2 : (c : Int) = 46
                · have qE2 : ((c : Int) == 46) = true := by rw [hE2]; rfl
                  have hv : itN c = true := by unfold itN; simp; omega
                  rw [hv]
                  go_enter Tryd.func50, Tryd.ntmps50
                  go_wp2
                  go_ret
                  exact ⟨rfl, rfl⟩
                · have qE2 : ((c : Int) == 46) = false := beq_eq_false_iff_ne.2 hE2
                  by_cases hE3 : (c : Int) = 95
                  · have qE3 : ((c : Int) == 95) = true := by rw [hE3]; rfl
                    have hv : itN c = true := by unfold itN; simp; omega
                    rw [hv]
                    go_enter Tryd.func50, Tryd.ntmps50
                    go_wp2
                    go_ret
                    exact ⟨rfl, rfl⟩
                  · have qE3 : ((c : Int) == 95) = false := beq_eq_false_iff_ne.2 hE3
                    by_cases hE4 : (c : Int) = 126
                    · have qE4 : ((c : Int) == 126) = true := by rw [hE4]; rfl
                      have hv : itN c = true := by unfold itN; simp; omega
                      rw [hv]
                      go_enter Tryd.func50, Tryd.ntmps50
                      go_wp2
                      go_ret
                      exact ⟨rfl, rfl⟩
                    · have qE4 : ((c : Int) == 126) = false := beq_eq_false_iff_ne.2 hE4
                      have hv : itN c = false := by unfold itN; simp; omega
                      rw [hv]
                      go_enter Tryd.func50, Tryd.ntmps50
                      go_wp2
                      go_ret
                      exact ⟨rfl, rfl⟩
          · have qD1 : decide ((48 : Int) ≤ (c : Int)) = false := decide_eq_false hD1
            by_cases hE1 : (c : Int) = 45
            · have qE1 : ((c : Int) == 45) = true := by rw [hE1]; rfl
              have hv : itN c = true := by unfold itN; simp; omega
              rw [hv]
              go_enter Tryd.func50, Tryd.ntmps50
              go_wp2
              go_ret
              exact ⟨rfl, rfl⟩
            · have qE1 : ((c : Int) == 45) = false := beq_eq_false_iff_ne.2 hE1
              by_cases hE2 : (c : Int) = 46
              · have qE2 : ((c : Int) == 46) = true := by rw [hE2]; rfl
                have hv : itN c = true := by unfold itN; simp; omega
                rw [hv]
                go_enter Tryd.func50, Tryd.ntmps50
                go_wp2
                go_ret
                exact ⟨rfl, rfl⟩
              · have qE2 : ((c : Int) == 46) = false := beq_eq_false_iff_ne.2 hE2
                by_cases hE3 : (c : Int) = 95
                · have qE3 : ((c : Int) == 95) = true := by rw [hE3]; rfl
                  have hv : itN c = true := by unfold itN; simp; omega
                  rw [hv]
                  go_enter Tryd.func50, Tryd.ntmps50
                  go_wp2
                  go_ret
                  exact ⟨rfl, rfl⟩
                · have qE3 : ((c : Int) == 95) = false := beq_eq_false_iff_ne.2 hE3
                  by_cases hE4 : (c : Int) = 126
                  · have qE4 : ((c : Int) == 126) = true := by rw [hE4]; rfl
                    have hv : itN c = true := by unfold itN; simp; omega
                    rw [hv]
                    go_enter Tryd.func50, Tryd.ntmps50
                    go_wp2
                    go_ret
                    exact ⟨rfl, rfl⟩
                  · have qE4 : ((c : Int) == 126) = false := beq_eq_false_iff_ne.2 hE4
                    have hv : itN c = false := by unfold itN; simp; omega
                    rw [hv]
                    go_enter Tryd.func50, Tryd.ntmps50
                    go_wp2
                    go_ret
                    exact ⟨rfl, rfl⟩
      · have qB1 : decide ((97 : Int) ≤ (c : Int)) = false := decide_eq_false hB1
        by_cases hD1 : (48 : Int) ≤ (c : Int)
        · have qD1 : decide ((48 : Int) ≤ (c : Int)) = true := decide_eq_true hD1
          by_cases hD2 : (c : Int) ≤ 57
          · have qD2 : decide ((c : Int) ≤ 57) = true := decide_eq_true hD2
            have hv : itN c = true := by unfold itN; simp; omega
            rw [hv]
            go_enter Tryd.func50, Tryd.ntmps50
            go_wp2
            go_ret
            exact ⟨rfl, rfl⟩
          · have qD2 : decide ((c : Int) ≤ 57) = false := decide_eq_false hD2
            by_cases hE1 : (c : Int) = 45
            · have qE1 : ((c : Int) == 45) = true := by rw [hE1]; rfl
              have hv : itN c = true := by unfold itN; simp; omega
              rw [hv]
              go_enter Tryd.func50, Tryd.ntmps50
              go_wp2
              go_ret
              exact ⟨rfl, rfl⟩
            · have qE1 : ((c : Int) == 45) = false := beq_eq_false_iff_ne.2 hE1
              by_cases hE2 : (c : Int) = 46
              · have qE2 : ((c : Int) == 46) = true := by rw [hE2]; rfl
                have hv : itN c = true := by unfold itN; simp; omega
                rw [hv]
                go_enter Tryd.func50, Tryd.ntmps50
                go_wp2
                go_ret
                exact ⟨rfl, rfl⟩
              · have qE2 : ((c : Int) == 46) = false := beq_eq_false_iff_ne.2 hE2
                by_cases hE3 : (c : Int) = 95
                · have qE3 : ((c : Int) == 95) = true := by rw [hE3]; rfl
                  have hv : itN c = true := by unfold itN; simp; omega
                  rw [hv]
                  go_enter Tryd.func50, Tryd.ntmps50
                  go_wp2
                  go_ret
                  exact ⟨rfl, rfl⟩
                · have qE3 : ((c : Int) == 95) = false := beq_eq_false_iff_ne.2 hE3
                  by_cases hE4 : (c : Int) = 126
                  · have qE4 : ((c : Int) == 126) = true := by rw [hE4]; rfl
                    have hv : itN c = true := by unfold itN; simp; omega
                    rw [hv]
                    go_enter Tryd.func50, Tryd.ntmps50
                    go_wp2
                    go_ret
                    exact ⟨rfl, rfl⟩
                  · have qE4 : ((c : Int) == 126) = false := beq_eq_false_iff_ne.2 hE4
                    have hv : itN c = false := by unfold itN; simp; omega
                    rw [hv]
                    go_enter Tryd.func50, Tryd.ntmps50
                    go_wp2
                    go_ret
                    exact ⟨rfl, rfl⟩
        · have qD1 : decide ((48 : Int) ≤ (c : Int)) = false := decide_eq_false hD1
          by_cases hE1 : (c : Int) = 45
          · have qE1 : ((c : Int) == 45) = true := by rw [hE1]; rfl
            have hv : itN c = true := by unfold itN; simp; omega
            rw [hv]
            go_enter Tryd.func50, Tryd.ntmps50
            go_wp2
            go_ret
            exact ⟨rfl, rfl⟩
          · have qE1 : ((c : Int) == 45) = false := beq_eq_false_iff_ne.2 hE1
            by_cases hE2 : (c : Int) = 46
            · have qE2 : ((c : Int) == 46) = true := by rw [hE2]; rfl
              have hv : itN c = true := by unfold itN; simp; omega
              rw [hv]
              go_enter Tryd.func50, Tryd.ntmps50
              go_wp2
              go_ret
              exact ⟨rfl, rfl⟩
            · have qE2 : ((c : Int) == 46) = false := beq_eq_false_iff_ne.2 hE2
              by_cases hE3 : (c : Int) = 95
              · have qE3 : ((c : Int) == 95) = true := by rw [hE3]; rfl
                have hv : itN c = true := by unfold itN; simp; omega
                rw [hv]
                go_enter Tryd.func50, Tryd.ntmps50
                go_wp2
                go_ret
                exact ⟨rfl, rfl⟩
              · have qE3 : ((c : Int) == 95) = false := beq_eq_false_iff_ne.2 hE3
                by_cases hE4 : (c : Int) = 126
                · have qE4 : ((c : Int) == 126) = true := by rw [hE4]; rfl
                  have hv : itN c = true := by unfold itN; simp; omega
                  rw [hv]
                  go_enter Tryd.func50, Tryd.ntmps50
                  go_wp2
                  go_ret
                  exact ⟨rfl, rfl⟩
                · have qE4 : ((c : Int) == 126) = false := beq_eq_false_iff_ne.2 hE4
                  have hv : itN c = false := by unfold itN; simp; omega
                  rw [hv]
                  go_enter Tryd.func50, Tryd.ntmps50
                  go_wp2
                  go_ret
                  exact ⟨rfl, rfl⟩
  · have qA1 : decide ((65 : Int) ≤ (c : Int)) = false := decide_eq_false hA1
    by_cases hB1 : (97 : Int) ≤ (c : Int)
    · have qB1 : decide ((97 : Int) ≤ (c : Int)) = true := decide_eq_true hB1
      by_cases hB2 : (c : Int) ≤ 122
      · have qB2 : decide ((c : Int) ≤ 122) = true := decide_eq_true hB2
        have hv : itN c = true := by unfold itN; simp; omega
        rw [hv]
        go_enter Tryd.func50, Tryd.ntmps50
        go_wp2
        go_ret
        exact ⟨rfl, rfl⟩
      · have qB2 : decide ((c : Int) ≤ 122) = false := decide_eq_false hB2
        by_cases hD1 : (48 : Int) ≤ (c : Int)
        · have qD1 : decide ((48 : Int) ≤ (c : Int)) = true := decide_eq_true hD1
          by_cases hD2 : (c : Int) ≤ 57
          · have qD2 : decide ((c : Int) ≤ 57) = true := decide_eq_true hD2
            have hv : itN c = true := by unfold itN; simp; omega
            rw [hv]
            go_enter Tryd.func50, Tryd.ntmps50
            go_wp2
            go_ret
            exact ⟨rfl, rfl⟩
          · have qD2 : decide ((c : Int) ≤ 57) = false := decide_eq_false hD2
            by_cases hE1 : (c : Int) = 45
            · have qE1 : ((c : Int) == 45) = true := by rw [hE1]; rfl
              have hv : itN c = true := by unfold itN; simp; omega
              rw [hv]
              go_enter Tryd.func50, Tryd.ntmps50
              go_wp2
              go_ret
              exact ⟨rfl, rfl⟩
            · have qE1 : ((c : Int) == 45) = false := beq_eq_false_iff_ne.2 hE1
              by_cases hE2 : (c : Int) = 46
              · have qE2 : ((c : Int) == 46) = true := by rw [hE2]; rfl
                have hv : itN c = true := by unfold itN; simp; omega
                rw [hv]
                go_enter Tryd.func50, Tryd.ntmps50
                go_wp2
                go_ret
                exact ⟨rfl, rfl⟩
              · have qE2 : ((c : Int) == 46) = false := beq_eq_false_iff_ne.2 hE2
                by_cases hE3 : (c : Int) = 95
                · have qE3 : ((c : Int) == 95) = true := by rw [hE3]; rfl
                  have hv : itN c = true := by unfold itN; simp; omega
                  rw [hv]
                  go_enter Tryd.func50, Tryd.ntmps50
                  go_wp2
                  go_ret
                  exact ⟨rfl, rfl⟩
                · have qE3 : ((c : Int) == 95) = false := beq_eq_false_iff_ne.2 hE3
                  by_cases hE4 : (c : Int) = 126
                  · have qE4 : ((c : Int) == 126) = true := by rw [hE4]; rfl
                    have hv : itN c = true := by unfold itN; simp; omega
                    rw [hv]
                    go_enter Tryd.func50, Tryd.ntmps50
                    go_wp2
                    go_ret
                    exact ⟨rfl, rfl⟩
                  · have qE4 : ((c : Int) == 126) = false := beq_eq_false_iff_ne.2 hE4
                    have hv : itN c = false := by unfold itN; simp; omega
                    rw [hv]
                    go_enter Tryd.func50, Tryd.ntmps50
                    go_wp2
                    go_ret
                    exact ⟨rfl, rfl⟩
        · have qD1 : decide ((48 : Int) ≤ (c : Int)) = false := decide_eq_false hD1
          by_cases hE1 : (c : Int) = 45
          · have qE1 : ((c : Int) == 45) = true := by rw [hE1]; rfl
            have hv : itN c = true := by unfold itN; simp; omega
            rw [hv]
            go_enter Tryd.func50, Tryd.ntmps50
            go_wp2
            go_ret
            exact ⟨rfl, rfl⟩
          · have qE1 : ((c : Int) == 45) = false := beq_eq_false_iff_ne.2 hE1
            by_cases hE2 : (c : Int) = 46
            · have qE2 : ((c : Int) == 46) = true := by rw [hE2]; rfl
              have hv : itN c = true := by unfold itN; simp; omega
              rw [hv]
              go_enter Tryd.func50, Tryd.ntmps50
              go_wp2
              go_ret
              exact ⟨rfl, rfl⟩
            · have qE2 : ((c : Int) == 46) = false := beq_eq_false_iff_ne.2 hE2
              by_cases hE3 : (c : Int) = 95
              · have qE3 : ((c : Int) == 95) = true := by rw [hE3]; rfl
                have hv : itN c = true := by unfold itN; simp; omega
                rw [hv]
                go_enter Tryd.func50, Tryd.ntmps50
                go_wp2
                go_ret
                exact ⟨rfl, rfl⟩
              · have qE3 : ((c : Int) == 95) = false := beq_eq_false_iff_ne.2 hE3
                by_cases hE4 : (c : Int) = 126
                · have qE4 : ((c : Int) == 126) = true := by rw [hE4]; rfl
                  have hv : itN c = true := by unfold itN; simp; omega
                  rw [hv]
                  go_enter Tryd.func50, Tryd.ntmps50
                  go_wp2
                  go_ret
                  exact ⟨rfl, rfl⟩
                · have qE4 : ((c : Int) == 126) = false := beq_eq_false_iff_ne.2 hE4
                  have hv : itN c = false := by unfold itN; simp; omega
                  rw [hv]
                  go_enter Tryd.func50, Tryd.ntmps50
                  go_wp2
                  go_ret
                  exact ⟨rfl, rfl⟩
    · have qB1 : decide ((97 : Int) ≤ (c : Int)) = false := decide_eq_false hB1
      by_cases hD1 : (48 : Int) ≤ (c : Int)
      · have qD1 : decide ((48 : Int) ≤ (c : Int)) = true := decide_eq_true hD1
        by_cases hD2 : (c : Int) ≤ 57
        · have qD2 : decide ((c : Int) ≤ 57) = true := decide_eq_true hD2
          have hv : itN c = true := by unfold itN; simp; omega
          rw [hv]
          go_enter Tryd.func50, Tryd.ntmps50
          go_wp2
          go_ret
          exact ⟨rfl, rfl⟩
        · have qD2 : decide ((c : Int) ≤ 57) = false := decide_eq_false hD2
          by_cases hE1 : (c : Int) = 45
          · have qE1 : ((c : Int) == 45) = true := by rw [hE1]; rfl
            have hv : itN c = true := by unfold itN; simp; omega
            rw [hv]
            go_enter Tryd.func50, Tryd.ntmps50
            go_wp2
            go_ret
            exact ⟨rfl, rfl⟩
          · have qE1 : ((c : Int) == 45) = false := beq_eq_false_iff_ne.2 hE1
            by_cases hE2 : (c : Int) = 46
            · have qE2 : ((c : Int) == 46) = true := by rw [hE2]; rfl
              have hv : itN c = true := by unfold itN; simp; omega
              rw [hv]
              go_enter Tryd.func50, Tryd.ntmps50
              go_wp2
              go_ret
              exact ⟨rfl, rfl⟩
            · have qE2 : ((c : Int) == 46) = false := beq_eq_false_iff_ne.2 hE2
              by_cases hE3 : (c : Int) = 95
              · have qE3 : ((c : Int) == 95) = true := by rw [hE3]; rfl
                have hv : itN c = true := by unfold itN; simp; omega
                rw [hv]
                go_enter Tryd.func50, Tryd.ntmps50
                go_wp2
                go_ret
                exact ⟨rfl, rfl⟩
              · have qE3 : ((c : Int) == 95) = false := beq_eq_false_iff_ne.2 hE3
                by_cases hE4 : (c : Int) = 126
                · have qE4 : ((c : Int) == 126) = true := by rw [hE4]; rfl
                  have hv : itN c = true := by unfold itN; simp; omega
                  rw [hv]
                  go_enter Tryd.func50, Tryd.ntmps50
                  go_wp2
                  go_ret
                  exact ⟨rfl, rfl⟩
                · have qE4 : ((c : Int) == 126) = false := beq_eq_false_iff_ne.2 hE4
                  have hv : itN c = false := by unfold itN; simp; omega
                  rw [hv]
                  go_enter Tryd.func50, Tryd.ntmps50
                  go_wp2
                  go_ret
                  exact ⟨rfl, rfl⟩
      · have qD1 : decide ((48 : Int) ≤ (c : Int)) = false := decide_eq_false hD1
        by_cases hE1 : (c : Int) = 45
        · have qE1 : ((c : Int) == 45) = true := by rw [hE1]; rfl
          have hv : itN c = true := by unfold itN; simp; omega
          rw [hv]
          go_enter Tryd.func50, Tryd.ntmps50
          go_wp2
          go_ret
          exact ⟨rfl, rfl⟩
        · have qE1 : ((c : Int) == 45) = false := beq_eq_false_iff_ne.2 hE1
          by_cases hE2 : (c : Int) = 46
          · have qE2 : ((c : Int) == 46) = true := by rw [hE2]; rfl
            have hv : itN c = true := by unfold itN; simp; omega
            rw [hv]
            go_enter Tryd.func50, Tryd.ntmps50
            go_wp2
            go_ret
            exact ⟨rfl, rfl⟩
          · have qE2 : ((c : Int) == 46) = false := beq_eq_false_iff_ne.2 hE2
            by_cases hE3 : (c : Int) = 95
            · have qE3 : ((c : Int) == 95) = true := by rw [hE3]; rfl
              have hv : itN c = true := by unfold itN; simp; omega
              rw [hv]
              go_enter Tryd.func50, Tryd.ntmps50
              go_wp2
              go_ret
              exact ⟨rfl, rfl⟩
            · have qE3 : ((c : Int) == 95) = false := beq_eq_false_iff_ne.2 hE3
              by_cases hE4 : (c : Int) = 126
              · have qE4 : ((c : Int) == 126) = true := by rw [hE4]; rfl
                have hv : itN c = true := by unfold itN; simp; omega
                rw [hv]
                go_enter Tryd.func50, Tryd.ntmps50
                go_wp2
                go_ret
                exact ⟨rfl, rfl⟩
              · have qE4 : ((c : Int) == 126) = false := beq_eq_false_iff_ne.2 hE4
                have hv : itN c = false := by unfold itN; simp; omega
                rw [hv]
                go_enter Tryd.func50, Tryd.ntmps50
                go_wp2
                go_ret
                exact ⟨rfl, rfl⟩
def numL : List UInt8 := [48, 49, 50, 51, 52, 53, 54, 55, 56, 57, 65, 66, 67, 68, 69, 70]
def upN (c : Nat) : Nat := if 97 ≤ c ∧ c ≤ 102 then c - 32 else c
/-- A digit's number; below 0: it is none. -/
def digI (c : Nat) : Int := Lib.indexByte numL (upN c).toUInt8
def dgN (c : Nat) : Nat := (max 0 (digI c)).toNat
def dgOk (c : Nat) : Bool := decide (0 ≤ digI c)
set_option maxRecDepth 100000 in
theorem dig_all : ∀ c : Fin 256, (-1 ≤ digI c.val ∧ digI c.val ≤ 15) := by decide +kernel
theorem dgN_lt (c : Nat) (h : c < 256) : dgN c < 16 := by
  have := dig_all ⟨c, h⟩
  unfold dgN
  simp only at this
  omega
set_option maxHeartbeats 4000000 in
theorem digit_any (c : Nat) (hc : c < 256) (w : World) : Calls Tryd.prog 51 #[.int .u8 (c : Int)] w fun e w' => e = .returned (.tuple #[.int .u8 (dgN c : Nat), .bool (dgOk c)]) ∧ w' = w := by
  have hd := dig_all ⟨c, hc⟩
  simp only at hd
  have C := Lib.hid (Tryd.strings_IndexByte ⟨#[48, 49, 50, 51, 52, 53, 54, 55, 56, 57, 65, 66, 67, 68, 69, 70]⟩ ((upN c : Nat) : Int) w)
  have e : Lib.indexByte (ByteArray.mk #[48, 49, 50, 51, 52, 53, 54, 55, 56, 57, 65, 66, 67, 68, 69, 70]).data.toList ((upN c : Nat) : Int).toNat.toUInt8 = digI c := rfl
  rw [e] at C
  have hv : ((dgN c : Nat) : Int) = max 0 (digI c) := by unfold dgN; omega
  unfold dgOk
  rw [hv]
  generalize digI c = i at hd C
  have hw2 : IntKind.u8.wrap (max 0 i) = max 0 i := IntWalk.u8_in _ (by omega)
  unfold upN at C
  by_cases h1 : (97 : Int) ≤ (c : Int)
  · have q1 : decide ((97 : Int) ≤ (c : Int)) = true := decide_eq_true h1
    by_cases h2 : (c : Int) ≤ 102
    · have q2 : decide ((c : Int) ≤ 102) = true := decide_eq_true h2
      have hw1 : IntKind.u8.wrap ((c : Int) - 32) = ((c - 32 : Nat) : Int) := by rw [IntWalk.u8_in _ (by omega)]; omega
      rw [if_pos (by omega)] at C
      go_enter Tryd.func51, Tryd.ntmps51
      go_wp2_with (first | (go_at_call 67; refine C.out.mono ?_; rintro e w' ⟨rfl, rfl⟩))
      refine bodyPost_ret (v := .tuple #[.int .u8 (max 0 i), .bool (decide (0 ≤ i))]) (by simp [results, Tryd.results51, go_sem]) rfl ⟨rfl, rfl⟩
    · have q2 : decide ((c : Int) ≤ 102) = false := decide_eq_false h2
      rw [if_neg (by omega)] at C
      go_enter Tryd.func51, Tryd.ntmps51
      go_wp2_with (first | (go_at_call 67; refine C.out.mono ?_; rintro e w' ⟨rfl, rfl⟩))
      refine bodyPost_ret (v := .tuple #[.int .u8 (max 0 i), .bool (decide (0 ≤ i))]) (by simp [results, Tryd.results51, go_sem]) rfl ⟨rfl, rfl⟩
  · have q1 : decide ((97 : Int) ≤ (c : Int)) = false := decide_eq_false h1
    rw [if_neg (by omega)] at C
    go_enter Tryd.func51, Tryd.ntmps51
    go_wp2_with (first | (go_at_call 67; refine C.out.mono ?_; rintro e w' ⟨rfl, rfl⟩))
    refine bodyPost_ret (v := .tuple #[.int .u8 (max 0 i), .bool (decide (0 ≤ i))]) (by simp [results, Tryd.results51, go_sem]) rfl ⟨rfl, rfl⟩
end Go.Proofs.YtbpcknjobbjmpaaDoor
