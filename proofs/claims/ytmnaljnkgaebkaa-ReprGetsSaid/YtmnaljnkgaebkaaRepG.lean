/- repr.kind. -/
import Derived.Test.YtmnaljnkgaebkaaRepA

namespace Go.Proofs.Ytmnaljnkgaebkaa
open Go.RowKit
set_option linter.unusedVariables false
set_option linter.unusedSimpArgs false

/-- The kind that a first byte tells. -/
def kindN (c : Nat) : Nat := if 128 ≤ c then 0 else if 64 ≤ c then 1 else if 32 ≤ c then 4 else if 16 ≤ c then 3 else 2
def kindAt : Nat → Nat
  | 0 => 0
  | 1 => 1
  | 2 => 4
  | _ => 3
theorem kind_le (c : Nat) : kindN c ≤ 4 := by
  unfold kindN
  split
  · omega
  split
  · omega
  split
  · omega
  split <;> omega
theorem kind_and : ∀ c, c < 256 → ∀ i, i < 4 → c < 2 ^ (8 - i) → ((c &&& formF (kindAt i) == 0) = decide (c < 2 ^ (7 - i))) := by decide +kernel
theorem kind_hit : ∀ c, c < 256 → ∀ i, i < 4 → c < 2 ^ (8 - i) → 2 ^ (7 - i) ≤ c → kindN c = kindAt i := by decide +kernel
theorem kind_end : ∀ c, c < 16 → kindN c = 2 := by decide +kernel
def kArr : Array Value := #[.int .u8 0, .int .u8 1, .int .u8 4, .int .u8 3]
theorem kind_index (i : Nat) (h : i < 4) (w : World) : (Instr.index 159 (.agg kArr) (.int .i64 (i : Int))).run Try.prog w = .ok (.int .u8 ((kindAt i : Nat) : Int)) w := by
  have hb : 0 ≤ (i : Int) ∧ (i : Int) < ((4 : Nat) : Int) := by omega
  rcases (show i = 0 ∨ i = 1 ∨ i = 2 ∨ i = 3 from by omega) with rfl | rfl | rfl | rfl <;>
    simp [Instr.index, run_underlying Try.underlying159, asIntOf, part, Try.isAgg5, Try.sizeOf5, go_sem, kArr, kindAt]
theorem form_at (i : Nat) (h : i < 4) : kindAt i ≤ 4 := by
  rcases (show i = 0 ∨ i = 1 ∨ i = 2 ∨ i = 3 from by omega) with rfl | rfl | rfl | rfl <;> decide
set_option maxRecDepth 100000 in
set_option maxHeartbeats 1000000 in
theorem kind_any (c : Nat) (hc : c < 256) (w : World) : Calls Try.prog 82 #[.int .u8 (c : Int)] w fun e w' => e = .returned (.int .u8 ((kindN c : Nat) : Int)) ∧ w' = w := by
  go_enter Try.func82, Try.ntmps82
  go_wp2_with fail
  go_loopw [8] (fun r wr => ∃ i : Nat, r = .int .i64 i ∧ i ≤ 4 ∧ c < 2 ^ (8 - i) ∧ wr = w) (fun r _ => 5 - (intOf r).toNat)
  case atStart => exact ⟨0, rfl, by omega, by simpa using hc, by trivial⟩
  case round =>
    obtain ⟨i, rfl, hi, hlt, rfl⟩ := hrel
    by_cases hi4 : i < 4
    · have q1 : decide ((i : Int) < 4) = true := decide_eq_true (by omega)
      have hidx := fun W => kind_index i hi4 W
      simp only [kArr] at hidx
      have HFO := Lib.hid (fun W => form_any (kindAt i) (form_at i hi4) W)
      have hff := (form_k4 (kindAt i) (form_at i hi4)).1
      have hand := u8_and_nat c (formF (kindAt i)) hc hff
      have hka := kind_and c hc i hi4 hlt
      have HKH := Lib.hid (kind_hit c hc i hi4 hlt)
      have hw1 : IntKind.i64.wrap ((i : Int) + 1) = (i : Int) + 1 := IntWalk.i64_in _ (by omega)
      have HPW := Lib.hid (show 2 ^ (7 - i) = 2 ^ (8 - (i + 1)) from by congr 1; omega)
      generalize formF (kindAt i) = ff at HFO hand hka
      generalize formB (kindAt i) = fb at HFO
      generalize c &&& ff = x at hand hka
      generalize kindAt i = kk at hidx HFO HKH
      by_cases hx : c < 2 ^ (7 - i)
      · have hxz : (x == 0) = true := by rw [hka]; exact decide_eq_true hx
        have hx0 : x = 0 := by simpa using hxz
        subst hx0
        have HLT := Lib.hid (show c < 2 ^ (8 - (i + 1)) from HPW.out ▸ hx)
        clear hka hxz hx hlt hff
        go_wp2_with fail
        refine (HFO.out _).mono ?_
        rintro e w1 ⟨rfl, hw⟩
        subst hw
        go_wp2_with fail
        go_roundw
        case rel => exact ⟨i + 1, by go_num, by omega, HLT.out, by trivial⟩
        case measure => simp [intOf]; omega
      · have hxz : (x == 0) = false := by rw [hka]; exact decide_eq_false hx
        have hxi : ((x : Int) == 0) = false := by
          have : x ≠ 0 := by simpa using hxz
          simp
          omega
        have HK := Lib.hid (HKH.out (by omega))
        clear hka hxz hx hlt hff
        go_wp2_with fail
        refine (HFO.out _).mono ?_
        rintro e w1 ⟨rfl, hw⟩
        subst hw
        go_wp2_with fail
        go_ret
        exact ⟨by rw [HK.out]; rfl, rfl⟩
    · obtain rfl : i = 4 := by omega
      have HK := Lib.hid (kind_end c (by simpa using hlt))
      clear hlt hi4 hi
      go_wp2_with fail
      go_ret
      exact ⟨by rw [HK.out]; rfl, rfl⟩
#print axioms kind_any
end Go.Proofs.Ytmnaljnkgaebkaa
