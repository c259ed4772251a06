/- HuffCodes: every byte, every text. -/
import Derived.Test.YtmnaljnkgaebkaaRefH
namespace Go.Proofs.Ytmnaljnkgaebkaa
open Go.RowKit
set_option linter.unusedVariables false
set_option linter.unusedSimpArgs false

theorem codes_all (a0 : Int) (s : ByteArray) (w : World) (h0 : (Lit.int .u8 a0).wf = true) (_ : s.size ≤ maxLen) : Calls Try.prog 3 #[.int .u8 a0, .string s] w fun e w' => e = .returned (.bool true) ∧ Below w.heap.size w w' := by
  by_cases hs : s.size ≤ 40
  · have e1 : IntKind.u8.min = 0 := rfl
    have e2 : IntKind.u8.max = 255 := rfl
    simp only [Lit.wf, Bool.and_eq_true, decide_eq_true_eq, e1, e2] at h0
    obtain ⟨a, rfl⟩ : ∃ a : Nat, a0 = (a : Int) := ⟨a0.toNat, by omega⟩
    exact codes_law a (by omega) s hs w
  · have hsi : (40 : Int) < ((s.size : Nat) : Int) := by omega
    go_enter Try.func3, Try.ntmps3
    go_wp2_with fail
    refine (awake_any _).mono ?_
    rintro e w' ⟨rfl, hb⟩
    go_wp2_with fail
    go_ret
    exact ⟨rfl, hb⟩
end Go.Proofs.Ytmnaljnkgaebkaa
