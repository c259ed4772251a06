/- What is put is got (numbers), plain. -/
import Derived.Test.YtmnaljnkgaebkaaRepJ
namespace Go.Proofs.Ytmnaljnkgaebkaa
open Go.RowKit
set_option linter.unusedVariables false
set_option linter.unusedSimpArgs false

theorem groupsN_le : ∀ (j m : Nat), m < 128 ^ (j + 1) → (groupsN m).length ≤ j + 1 := by
  intro j
  induction j with
  | zero => intro m h; rw [groupsN_lo m (by simpa using h)]; simp
  | succ j ih =>
    intro m h
    by_cases hm : m < 128
    · rw [groupsN_lo m hm]; simp
    · rw [groupsN_hi m hm]
      have := ih (m / 128) (by rw [Nat.div_lt_iff_lt_mul (by omega)]; rw [Nat.pow_succ] at h; exact h)
      simp only [List.length_cons]
      omega
theorem getGo_groups (r : List Nat) : ∀ (m : Nat) (pre : List Nat) (j i n : Nat), pre.length = i + 1 → (groupsN m).length ≤ j → n + m * 128 ^ i ≤ 268435455 → getGo (pre ++ groupsN m ++ r) j i n = (n + m * 128 ^ i, i + 1 + (groupsN m).length, 0) := by
  intro m
  induction m using Nat.strongRecOn with
  | _ m ih =>
    intro pre j i n hp hj hb
    by_cases h : m < 128
    · rw [groupsN_lo m h] at hj ⊢
      obtain ⟨j, rfl⟩ : ∃ j', j = j' + 1 := ⟨j - 1, by simp at hj; omega⟩
      unfold getGo
      have he : (pre ++ [m] ++ r)[i + 1]? = some m := by
        rw [List.append_assoc, List.getElem?_append_right (by omega), hp]; simp
      rw [he]
      simp only
      rw [if_neg (by omega), Nat.mod_eq_of_lt h, if_neg (by omega)]
      simp
    · rw [groupsN_hi m h] at hj ⊢
      obtain ⟨j, rfl⟩ : ∃ j', j = j' + 1 := ⟨j - 1, by simp at hj; omega⟩
      unfold getGo
      have he : (pre ++ (m % 128 + 128) :: groupsN (m / 128) ++ r)[i + 1]? = some (m % 128 + 128) := by
        rw [List.append_assoc, List.getElem?_append_right (by omega), hp]; simp
      rw [he]
      simp only
      rw [if_pos (by omega), show (m % 128 + 128) % 128 = m % 128 from by omega]
      have hm : m % 128 * 128 ^ i + m / 128 * 128 ^ (i + 1) = m * 128 ^ i := by
        rw [Nat.pow_succ, Nat.mul_comm (128 ^ i) 128, ← Nat.mul_assoc, ← Nat.add_mul]
        congr 1
        omega
      have h2 := ih (m / 128) (by omega) (pre ++ [m % 128 + 128]) j (i + 1) (n + m % 128 * 128 ^ i) (by simp [hp]) (by simp at hj; omega) (by omega)
      rw [show pre ++ (m % 128 + 128) :: groupsN (m / 128) ++ r = pre ++ [m % 128 + 128] ++ groupsN (m / 128) ++ r from by simp, h2]
      simp only [List.length_cons]
      rw [Nat.add_assoc, hm]
      congr 2
      omega
theorem rest_mod (f k x : Nat) (hx : x < 2 ^ k) : (restN f k + x) % 2 ^ k = x := by
  unfold restN
  rw [Nat.mul_comm, Nat.mul_add_mod, Nat.mod_eq_of_lt hx]
theorem getN_put (f k n : Nat) (hk : K4 k) (hn : n ≤ 268435455) (r : List Nat) : getN (putN f k n ++ r) k = (n, (putN f k n).length, 0) := by
  have hp : 16 ≤ 2 ^ k := by rcases hk with rfl | rfl | rfl | rfl <;> decide
  unfold putN
  by_cases h : n < 2 ^ k - 1
  · rw [if_pos h]
    unfold getN
    simp only [List.cons_append]
    rw [rest_mod f k n (by omega), if_pos h]
    rfl
  · rw [if_neg h]
    unfold getN
    simp only [List.cons_append]
    rw [rest_mod f k (2 ^ k - 1) (by omega), if_neg (by omega)]
    have := getGo_groups r (n - (2 ^ k - 1)) [restN f k + (2 ^ k - 1)] 5 0 (2 ^ k - 1) rfl (Nat.le_trans (groupsN_le 3 _ (by omega)) (by omega)) (by simp; omega)
    simp only [List.cons_append, List.nil_append] at this
    rw [this]
    simp only [List.length_cons, Nat.pow_zero, Nat.mul_one]
    congr 1
    · omega
    · congr 1; omega
theorem textG_long (f n : Nat) (hn : n ≤ 268435455) (h : 4096 < n) : (textG (putN f 7 n)).2.2 = 5 := by
  have hg := getN_put f 7 n (by unfold K4; decide) hn []
  rw [List.append_nil] at hg
  unfold textG
  rw [hg]
  simp only
  rw [if_neg (by simp), if_pos h]
theorem textG_cut (f n : Nat) (h0 : 1 ≤ n) (h : n ≤ 4096) : (textG (putN f 7 n)).2.2 = 3 := by
  have hg := getN_put f 7 n (by unfold K4; decide) (by omega) []
  rw [List.append_nil] at hg
  unfold textG
  rw [hg]
  simp only
  rw [if_neg (by simp), if_neg (by omega), if_pos (by omega)]
#print axioms textG_cut
end Go.Proofs.Ytmnaljnkgaebkaa
