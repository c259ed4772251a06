/- The document's numbers with a prefix (footmanref01): pow, Rest. -/
import Derived.Test.YtmnaljnkgaebkaaPreP
namespace Go.Proofs.Ytmnaljnkgaebkaa
open Go.RowKit
set_option linter.unusedVariables false
set_option linter.unusedSimpArgs false

set_option maxRecDepth 100000 in
theorem refPow_any (k : Nat) (hk : k ≤ 8) (w : World) : Calls Try.prog 99 #[.int .i64 (k : Int)] w fun e w' => e = .returned (.int .i64 ((2 ^ k : Nat) : Int)) ∧ w' = w := by
  go_enter Try.func99, Try.ntmps99
  go_wp2_with fail
  go_loopw [3, 4] (fun nn ii wr => ∃ j m : Nat, nn = .int .i64 m ∧ ii = .int .i64 j ∧ j ≤ k ∧ m = 2 ^ j ∧ wr = w) (fun _ ii _ => k - (intOf ii).toNat)
  case atStart => exact ⟨0, 1, rfl, rfl, by omega, rfl, rfl⟩
  case round =>
    obtain ⟨j, m, rfl, rfl, hj, hm, hw⟩ := hrel
    obtain rfl := hw.symm
    have hmb : m ≤ 256 := by
      rw [hm]
      have h8 : (2 : Nat) ^ 8 = 256 := by decide
      rw [← h8]
      exact Nat.pow_le_pow_right (by decide) (by omega)
    have HM := Lib.hid hm
    clear hm
    by_cases hlt : j < k
    · have hc : decide ((j : Int) < (k : Int)) = true := decide_eq_true (by omega)
      have hw1 : IntKind.i64.wrap (2 * (m : Int)) = ((2 * m : Nat) : Int) := IntWalk.i64_in _ (by omega)
      have hw2 : IntKind.i64.wrap ((j : Int) + 1) = (j : Int) + 1 := IntWalk.i64_in _ (by omega)
      go_wp2_with fail
      go_roundw
      case rel => exact ⟨j + 1, 2 * m, by go_num, by go_num, by omega, by have := HM.out; rw [this, Nat.pow_succ]; omega, trivial⟩
      case measure => simp [intOf]; omega
    · obtain rfl : j = k := by omega
      have hc : decide ((j : Int) < (j : Int)) = false := decide_eq_false (by omega)
      go_wp2_with fail
      go_ret
      have e : ((m : Nat) : Int) = 2 ^ j := by rw [HM.out]; simp
      exact ⟨by rw [← e]; rfl, rfl⟩
theorem refRest_any (f k : Nat) (hf : f < 256) (hk : K4 k) (w : World) : Calls Try.prog 100 #[.int .u8 (f : Int), .int .i64 (k : Int)] w fun e w' => e = .returned (.int .u8 ((restN f k : Nat) : Int)) ∧ w' = w := by
  have h1 : max 1 (k : Int) = (k : Int) := by rcases hk with rfl | rfl | rfl | rfl <;> decide
  have h2 : min 8 (k : Int) = (k : Int) := by rcases hk with rfl | rfl | rfl | rfl <;> decide
  have hrl := rest_lt f k hf
  have HP := Lib.hid (fun W => refPow_any k (by rcases hk with rfl | rfl | rfl | rfl <;> decide) W)
  have HR := Lib.hid (show restN f k = f / 2 ^ k * 2 ^ k from rfl)
  have hp0 : 0 < 2 ^ k := Nat.two_pow_pos k
  generalize restN f k = R at hrl HR ⊢
  generalize 2 ^ k = P at HP HR hp0
  go_enter Try.func100, Try.ntmps100
  go_wp2_with fail
  refine (HP.out _).mono ?_
  rintro e w1 ⟨rfl, hw⟩
  subst hw
  have hw1 : IntKind.i64.wrap (f : Int) = (f : Int) := IntWalk.i64_in _ (by omega)
  have hq : f / P ≤ f := Nat.div_le_self _ _
  have hB : wrap64 ((f : Int) / (P : Int) * (P : Int)) = (R : Int) := (IntWalk.i64_left _).symm.trans (by rw [show (f : Int) / (P : Int) * (P : Int) = (R : Int) from by rw [HR.out]; rfl]; exact IntWalk.i64_in _ (by omega))
  have hA : wrap64 ((f : Int) / (P : Int)) = (f : Int) / (P : Int) := (IntWalk.i64_left _).symm.trans (by rw [show (f : Int) / (P : Int) = ((f / P : Nat) : Int) from rfl]; generalize f / P = q at hq ⊢; exact IntWalk.i64_in _ (by omega))
  have hC : (R : Int) % 256 = (R : Int) := by omega
  go_wp2_with fail
  refine bodyPost_ret (v := .int .u8 (R : Int)) (by simp [results, Try.results100, go_sem, hA, hB, hC]) rfl ⟨rfl, rfl⟩
#print axioms refRest_any
end Go.Proofs.Ytmnaljnkgaebkaa
