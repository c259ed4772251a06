/- repr's small functions: form, texts, extra, Check, kind; prefint.Size. -/
import Derived.Test.YtmnaljnkgaebkaaPreG
namespace Go.Proofs.Ytmnaljnkgaebkaa
open Go.RowKit
set_option linter.unusedVariables false
set_option linter.unusedSimpArgs false

def formF : Nat → Nat
  | 0 => 128
  | 1 => 64
  | 3 => 16
  | 4 => 32
  | _ => 0
def formB : Nat → Nat
  | 0 => 7
  | 1 => 6
  | 4 => 5
  | _ => 4
theorem form_k4 (k : Nat) (hk : k ≤ 4) : formF k < 256 ∧ K4 (formB k) := by
  rcases (show k = 0 ∨ k = 1 ∨ k = 2 ∨ k = 3 ∨ k = 4 from by omega) with rfl | rfl | rfl | rfl | rfl <;> (unfold K4; decide)
theorem form_any (k : Nat) (hk : k ≤ 4) (w : World) : Calls Try.prog 74 #[.int .u8 (k : Int)] w fun e w' => e = .returned (.tuple #[.int .u8 ((formF k : Nat) : Int), .int .i64 ((formB k : Nat) : Int)]) ∧ w' = w := by
  rcases (show k = 0 ∨ k = 1 ∨ k = 2 ∨ k = 3 ∨ k = 4 from by omega) with rfl | rfl | rfl | rfl | rfl
  · go_enter Try.func74, Try.ntmps74
    go_wp2_with fail
    exact bodyPost_ret (v := .tuple #[.int .u8 128, .int .i64 7]) (by simp [results, Try.results74, go_sem]) rfl ⟨rfl, rfl⟩
  · go_enter Try.func74, Try.ntmps74
    go_wp2_with fail
    exact bodyPost_ret (v := .tuple #[.int .u8 64, .int .i64 6]) (by simp [results, Try.results74, go_sem]) rfl ⟨rfl, rfl⟩
  · go_enter Try.func74, Try.ntmps74
    go_wp2_with fail
    exact bodyPost_ret (v := .tuple #[.int .u8 0, .int .i64 4]) (by simp [results, Try.results74, go_sem]) rfl ⟨rfl, rfl⟩
  · go_enter Try.func74, Try.ntmps74
    go_wp2_with fail
    exact bodyPost_ret (v := .tuple #[.int .u8 16, .int .i64 4]) (by simp [results, Try.results74, go_sem]) rfl ⟨rfl, rfl⟩
  · go_enter Try.func74, Try.ntmps74
    go_wp2_with fail
    exact bodyPost_ret (v := .tuple #[.int .u8 32, .int .i64 5]) (by simp [results, Try.results74, go_sem]) rfl ⟨rfl, rfl⟩
/-- Has a kind texts? -/
def litK (k : Nat) : Bool := decide (1 ≤ k) && decide (k ≤ 3)
theorem texts_any (k : Nat) (hk : k < 256) (w : World) : Calls Try.prog 76 #[.int .u8 (k : Int)] w fun e w' => e = .returned (.bool (litK k)) ∧ w' = w := by
  by_cases h1 : k = 1
  · subst h1
    go_enter Try.func76, Try.ntmps76
    go_wp2_with fail
    go_ret
    exact ⟨rfl, rfl⟩
  by_cases h2 : k = 2
  · subst h2
    go_enter Try.func76, Try.ntmps76
    go_wp2_with fail
    go_ret
    exact ⟨rfl, rfl⟩
  by_cases h3 : k = 3
  · subst h3
    go_enter Try.func76, Try.ntmps76
    go_wp2_with fail
    go_ret
    exact ⟨rfl, rfl⟩
  have q1 : ((k : Int) == 1) = false := by simp; omega
  have q2 : ((k : Int) == 2) = false := by simp; omega
  have q3 : ((k : Int) == 3) = false := by simp; omega
  have HL := Lib.hid (show litK k = false from by
    unfold litK
    rw [Bool.and_eq_false_iff]
    by_cases h : 1 ≤ k
    · exact .inr (decide_eq_false (by omega))
    · exact .inl (decide_eq_false h))
  clear h1 h2 h3
  go_enter Try.func76, Try.ntmps76
  go_wp2_with fail
  go_ret
  exact ⟨by rw [HL.out]; rfl, rfl⟩
theorem psize_any (n : Nat) (hn : n ≤ 268435455) (w : World) : Calls Try.prog 81 #[.int .i64 7, .int .i64 (n : Int)] w fun e w' => e = .returned (.int .i64 (((putN 0 7 n).length : Nat) : Int)) ∧ Below w.heap.size w w' := by
  have HP := Lib.hid (show ∀ W, Calls Try.prog 75 #[.int .u8 0, .int .i64 7, .int .i64 (n : Int)] W (PutPost 0 7 n W) from fun W => put_any 0 7 n (by omega) (by unfold K4; decide) hn W)
  go_enter Try.func81, Try.ntmps81
  go_wp2_with fail
  refine (HP.out _).mono ?_
  rintro e w1 ⟨v, rfl, ho, hb⟩
  have HB := Lib.hid hb
  obtain ⟨oa, cap, rfl, _⟩ := ownB_bytes ho
  clear hb ho
  go_wp2_with fail
  go_ret
  exact ⟨rfl, HB.out⟩
#print axioms psize_any
end Go.Proofs.Ytmnaljnkgaebkaa
