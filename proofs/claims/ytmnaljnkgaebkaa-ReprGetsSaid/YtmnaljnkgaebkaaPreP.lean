/- Numbers with a prefix (prefint): plain, and the small functions. -/
import Derived.Test.YtmnaljnkgaebkaaDecB
namespace Go.Proofs.Ytmnaljnkgaebkaa
open Go.RowKit
set_option linter.unusedVariables false
set_option linter.unusedSimpArgs false

/-- The bits of a first byte that are not the number's. -/
def restN (f k : Nat) : Nat := f / 2 ^ k * 2 ^ k
/-- The groups of seven bits, the least first. -/
def groupsN (m : Nat) : List Nat := if h : m < 128 then [m] else (m % 128 + 128) :: groupsN (m / 128)
termination_by m
decreasing_by omega
/-- A number behind a first byte's bits. -/
def putN (f k n : Nat) : List Nat := if n < 2 ^ k - 1 then [restN f k + n] else (restN f k + (2 ^ k - 1)) :: groupsN (n - (2 ^ k - 1))
theorem groupsN_lo (m : Nat) (h : m < 128) : groupsN m = [m] := by rw [groupsN, dif_pos h]
theorem groupsN_hi (m : Nat) (h : ¬ m < 128) : groupsN m = (m % 128 + 128) :: groupsN (m / 128) := by rw [groupsN, dif_neg h]
theorem groupsN_len : ∀ m : Nat, (groupsN m).length ≤ m / 128 + 1 := by
  intro m
  induction m using Nat.strongRecOn with
  | _ m ih =>
    by_cases h : m < 128
    · rw [groupsN_lo m h]; simp
    · rw [groupsN_hi m h]
      have := ih (m / 128) (by omega)
      simp only [List.length_cons]
      omega
theorem groupsN_byte : ∀ m : Nat, ∀ x ∈ groupsN m, x < 256 := by
  intro m
  induction m using Nat.strongRecOn with
  | _ m ih =>
    intro x hx
    by_cases h : m < 128
    · rw [groupsN_lo m h] at hx; simp at hx; omega
    · rw [groupsN_hi m h] at hx
      rcases List.mem_cons.1 hx with rfl | hx
      · omega
      · exact ih _ (by omega) x hx
def K4 (k : Nat) : Prop := k = 4 ∨ k = 5 ∨ k = 6 ∨ k = 7
theorem or128 : ∀ x : Nat, x < 256 → x ||| 128 = x % 128 + 128 := by decide +kernel
theorem andNot_rest (f k : Nat) (hf : f < 256) (hk : K4 k) : bits BinOp.andNot IntKind.u8 (f : Int) ((2 ^ k - 1 : Nat) : Int) = ((restN f k : Nat) : Int) := by
  have h : ∀ k : Fin 4, ∀ f, f < 256 → f &&& (255 - (2 ^ (k.val + 4) - 1)) = restN f (k.val + 4) := by decide +kernel
  rw [u8_andNot_nat _ _ hf (by rcases hk with rfl | rfl | rfl | rfl <;> decide)]
  rcases hk with rfl | rfl | rfl | rfl
  · exact congrArg (fun n : Nat => (n : Int)) (h 0 f hf)
  · exact congrArg (fun n : Nat => (n : Int)) (h 1 f hf)
  · exact congrArg (fun n : Nat => (n : Int)) (h 2 f hf)
  · exact congrArg (fun n : Nat => (n : Int)) (h 3 f hf)
theorem rest_lt (f k : Nat) (hf : f < 256) : restN f k < 256 := Nat.lt_of_le_of_lt (Nat.div_mul_le_self f (2 ^ k)) hf
theorem or_rest (f k x : Nat) (hf : f < 256) (hk : K4 k) (hx : x ≤ 2 ^ k - 1) : bits BinOp.or IntKind.u8 ((restN f k : Nat) : Int) (x : Int) = ((restN f k + x : Nat) : Int) ∧ restN f k + x < 256 := by
  have hp : 2 ^ k ≤ 128 ∧ 0 < 2 ^ k := by rcases hk with rfl | rfl | rfl | rfl <;> decide
  have hlt := rest_lt f k hf
  constructor
  · rw [u8_or_nat _ _ hlt (by omega)]
    unfold restN
    rw [Nat.mul_comm, Nat.two_pow_add_eq_or_of_lt (by omega)]
  · have h1 := Nat.div_add_mod f (2 ^ k)
    have h2 : ∃ q, restN f k = 2 ^ k * q ∧ q = f / 2 ^ k := ⟨_, by unfold restN; rw [Nat.mul_comm], rfl⟩
    rcases hk with rfl | rfl | rfl | rfl <;> simp only [restN] at * <;> omega
theorem ones_any (k : Nat) (hk : K4 k) (w : World) : Calls Try.prog 97 #[.int .i64 (k : Int)] w fun e w' => e = .returned (.int .i64 ((2 ^ k - 1 : Nat) : Int)) ∧ w' = w := by
  rcases hk with rfl | rfl | rfl | rfl
  all_goals
    go_enter Try.func97, Try.ntmps97
    go_wp2_with fail
    go_ret
    exact ⟨rfl, rfl⟩
theorem wide_any (k : Nat) (hk : K4 k) (w : World) : Calls Try.prog 96 #[.int .i64 (k : Int)] w fun e w' => e = .returned (.bool true) ∧ w' = w := by
  rcases hk with rfl | rfl | rfl | rfl
  all_goals
    go_enter Try.func96, Try.ntmps96
    go_wp2_with fail
    go_ret
    exact ⟨rfl, rfl⟩
theorem rest_any (f k : Nat) (hf : f < 256) (hk : K4 k) (w : World) : Calls Try.prog 98 #[.int .u8 (f : Int), .int .i64 (k : Int)] w fun e w' => e = .returned (.int .u8 ((restN f k : Nat) : Int)) ∧ w' = w := by
  have HA := Lib.hid (andNot_rest f k hf hk)
  have HO := Lib.hid (fun W => ones_any k hk W)
  have hw : IntKind.u8.wrap ((2 ^ k - 1 : Nat) : Int) = ((2 ^ k - 1 : Nat) : Int) := by rcases hk with rfl | rfl | rfl | rfl <;> rfl
  generalize hm : (2 ^ k - 1 : Nat) = m at HA HO hw
  clear hm
  have hk1 : (k : Int) ≤ 8 := by rcases hk with rfl | rfl | rfl | rfl <;> decide
  have hk2 : (1 : Int) ≤ (k : Int) := by rcases hk with rfl | rfl | rfl | rfl <;> decide
  have hk3 : min (k : Int) 8 = k := Int.min_eq_left hk1
  have hk4 : max 1 (k : Int) = k := Int.max_eq_right hk2
  clear hf hk
  have ha := HA.out
  go_enter Try.func98, Try.ntmps98
  go_wp2_with fail
  refine (HO.out _).mono ?_
  rintro e w1 ⟨rfl, hw'⟩
  subst hw'
  go_wp2_with fail
  go_ret
  exact ⟨rfl, rfl⟩
#print axioms rest_any
end Go.Proofs.Ytmnaljnkgaebkaa
