/- DocA · DocB: joined by a program, for a claim has at most 60 files. -/
import Derived.Test.YteceinojmdgmeaaGreatC17
/- The document's numbers with a prefix (footmanref01): pow, Rest. -/
namespace Go.Proofs.YteceinojmdgmeaaGreat
open Go.RowKit
set_option linter.unusedVariables false
set_option linter.unusedSimpArgs false

set_option maxRecDepth 100000 in
theorem refPow_any (k : Nat) (hk : k ≤ 8) (w : World) : Calls Tryz.prog 73 #[.int .i64 (k : Int)] w fun e w' => e = .returned (.int .i64 ((2 ^ k : Nat) : Int)) ∧ w' = w := by
  go_enter Tryz.func73, Tryz.ntmps73
  go_wp2_with fail
  go_loopw [3, 4] (fun nn ii wr => ∃ j m : Nat, nn = .int .i64 m ∧ ii = .int .i64 j ∧ j ≤ k ∧ m = 2 ^ j ∧ wr = w) (fun _ ii _ => k - (intOf ii).toNat)
  case atStart => exact ⟨0, 1, rfl, rfl, by omega, rfl, rfl⟩
  case round =>
    obtain ⟨j, m, rfl, rfl, hj, hm, hw⟩ := hrel
    obtain rfl := hw.symm
    have hmb : m ≤ 256 := by
      rw [hm]
      have h8 : (2 : Nat) ^ 8 = 256 := by decide
      rw [← h8]
      exact Nat.pow_le_pow_right (by decide) (by omega)
    have HM := Lib.hid hm
    clear hm
    by_cases hlt : j < k
    · have hc : decide ((j : Int) < (k : Int)) = true := decide_eq_true (by omega)
      have hw1 : IntKind.i64.wrap (2 * (m : Int)) = ((2 * m : Nat) : Int) := IntWalk.i64_in _ (by omega)
      have hw2 : IntKind.i64.wrap ((j : Int) + 1) = (j : Int) + 1 := IntWalk.i64_in _ (by omega)
      go_wp2_with fail
      go_roundw
      case rel => exact ⟨j + 1, 2 * m, by go_num, by go_num, by omega, by have := HM.out; rw [this, Nat.pow_succ]; omega, trivial⟩
      case measure => simp [intOf]; omega
    · obtain rfl : j = k := by omega
      have hc : decide ((j : Int) < (j : Int)) = false := decide_eq_false (by omega)
      go_wp2_with fail
      go_ret
      have e : ((m : Nat) : Int) = 2 ^ j := by rw [HM.out]; simp
      exact ⟨by rw [← e]; rfl, rfl⟩
end Go.Proofs.YteceinojmdgmeaaGreat


/- The document's numbers with a prefix: footmanref01.Put. -/
namespace Go.Proofs.YteceinojmdgmeaaGreat
open Go.RowKit
set_option linter.unusedVariables false
set_option linter.unusedSimpArgs false

end Go.Proofs.YteceinojmdgmeaaGreat

