/- HuffPrefix: what the law's function does: for every two bytes it returns true. -/
import Derived.Test.YtmnaljnkgaebkaaDecB
import Derived.Test.YtmnaljnkgaebkaaDecQ
namespace Go.Proofs.Ytmnaljnkgaebkaa
open Go.RowKit
set_option linter.unusedVariables false
set_option linter.unusedSimpArgs false

theorem shl_one (r : Nat) (h : r ≤ 30) : IntKind.u64.wrap ((2 : Int) ^ r) = ((2 ^ r : Nat) : Int) ∧ 2 ^ r ≤ 1073741824 := by
  have h2 : 2 ^ r ≤ 2 ^ 30 := Nat.pow_le_pow_right (by decide) h
  have e : ((2 : Int) ^ r) = ((2 ^ r : Nat) : Int) := by simp
  have h3 : 2 ^ r ≤ 1073741824 := h2
  refine ⟨?_, h3⟩
  rw [e]
  generalize 2 ^ r = P at h3
  exact IntWalk.u64_in _ (by omega)

set_option maxRecDepth 100000 in
set_option maxHeartbeats 2000000 in
theorem prefix_loop (a b : Nat) (ha : a < 256) (hb : b < 256) (w : World) : Calls Try.prog 6 #[.int .u8 (a : Int), .int .u8 (b : Int)] w fun e w' => e = .returned (.bool true) ∧ Below w.heap.size w w' := by
  obtain ⟨n1, n2⟩ := len_range a ha
  obtain ⟨m1, m2⟩ := len_range b hb
  go_enter Try.func6, Try.ntmps6
  go_wp2_with fail
  refine (code_any a ha _).mono ?_
  rintro e w1 ⟨rfl, hB1⟩
  have HB1 := Lib.hid hB1
  clear hB1
  go_wp2_with fail
  refine (code_any b hb _).mono ?_
  rintro e w2 ⟨rfl, hB2⟩
  have HB2 := Lib.hid (HB1.out.trans (hB2.mono HB1.out.size))
  clear hB2 HB1
  have HP := Lib.hid (prefix_ok a b ha hb)
  have q1 : ¬ ((lenOf a : Nat) : Int) < 5 := by omega
  have q2 : ¬ ((lenOf b : Nat) : Int) < 5 := by omega
  have q3 : ¬ ((lenOf a : Nat) : Int) > 30 := by omega
  have q4 : ¬ ((lenOf b : Nat) : Int) > 30 := by omega
  generalize lenOf a = n at *
  generalize lenOf b = m at *
  generalize codeOf a = x at *
  generalize codeOf b = y at *
  have q3' : ¬ 30 < ((n : Nat) : Int) := by omega
  have q4' : ¬ 30 < ((m : Nat) : Int) := by omega
  by_cases hab : a = b
  · subst hab
    clear HP
    go_wp2_with fail
    clear q1 q2 q3 q4 n1 n2 m1 m2
    go_loopw [9, 10] (fun s i wr => ∃ k : Nat, k ≤ 256 ∧ i = .int .i64 k ∧ s = .int .u64 (sumK k : Nat) ∧ Below w.heap.size w wr) (fun _ i _ => 256 - (intOf i).toNat)
    case atStart => exact ⟨0, by omega, rfl, rfl, HB2.out⟩
    case round =>
      obtain ⟨k, hk, rfl, rfl, hbw⟩ := hrel
      have HBW := Lib.hid hbw
      clear hbw
      by_cases hlt : k < 256
      · obtain ⟨l1, l2⟩ := len_range k hlt
        have hw8 : IntKind.u8.wrap ((k : Nat) : Int) = (k : Nat) := IntWalk.u8_in _ (by omega)
        go_wp2_with fail
        refine (code_any k hlt _).mono ?_
        rintro e w5 ⟨rfl, hB5⟩
        have HB5 := Lib.hid (HBW.out.trans (hB5.mono HBW.out.size))
        clear hB5
        have hs1 : sumK (k + 1) = sumK k + 2 ^ (30 - lenOf k) := rfl
        have hsl := sumK_le (k + 1) (by omega)
        have r1 : (30 : Int) - ((lenOf k : Nat) : Int) = ((30 - lenOf k : Nat) : Int) := by omega
        obtain ⟨hsh, hp2⟩ := shl_one (30 - lenOf k) (by omega)
        have r3 : 30 - lenOf k < 64 := by omega
        have r4 : ¬ ((lenOf k : Nat) : Int) < 1 := by omega
        have r5 : ¬ ((lenOf k : Nat) : Int) > 30 := by omega
        have r6 : ¬ (30 : Int) < ((lenOf k : Nat) : Int) := by omega
        rw [hs1] at hsl
        have HS1 := Lib.hid hs1
        clear hs1
        generalize 30 - lenOf k = r at *
        generalize lenOf k = L at *
        generalize codeOf k = C at *
        generalize 2 ^ r = P at *
        have hws : IntKind.u64.wrap (((sumK k : Nat) : Int) + (P : Int)) = ((sumK k + P : Nat) : Int) := by rw [show ((sumK k : Nat) : Int) + (P : Int) = ((sumK k + P : Nat) : Int) from by simp]; exact IntWalk.u64_in _ (by omega)
        go_wp2_with fail
        go_roundw
        case rel => exact ⟨k + 1, by omega, by go_num, by rw [HS1.out]; simp, HB5.out⟩
        case measure => simp [intOf]; omega
      · obtain rfl : k = 256 := by omega
        have hsa := sumK_all
        go_wp2_with fail
        refine (awake_any _).mono ?_
        rintro e w6 ⟨rfl, hB6⟩
        have HB6 := Lib.hid (HBW.out.trans (hB6.mono HBW.out.size))
        clear hB6
        go_wp2_with fail
        go_ret
        exact ⟨rfl, HB6.out⟩
  · have habi : ¬ ((a : Int) = (b : Int)) := by omega
    have habb : ((a : Int) != (b : Int)) = true := by simp [habi]
    by_cases hnm : n ≤ m
    · have hpr := HP.out hab hnm
      have hnmi : (n : Int) ≤ (m : Int) := by omega
      obtain ⟨r, hr⟩ : ∃ r : Nat, (m : Int) - (n : Int) = (r : Nat) := ⟨m - n, by omega⟩
      have hr2 : r = m - n := by omega
      have hr64 : r < 32 := by omega
      rw [← hr2] at hpr
      have hq : ¬ ((y : Int) / 2 ^ r = (x : Int)) := by
        rw [show ((y : Int) / 2 ^ r) = ((y / 2 ^ r : Nat) : Int) from by simp]
        omega
      have hqb : ((y : Int) / 2 ^ r == (x : Int)) = false := by simp [hq]
      clear HP hpr hr2
      go_wp2_with fail
      clear q1 q2 q3 q4 n1 n2 m1 m2
      go_loopw [9, 10] (fun s i wr => ∃ k : Nat, k ≤ 256 ∧ i = .int .i64 k ∧ s = .int .u64 (sumK k : Nat) ∧ Below w.heap.size w wr) (fun _ i _ => 256 - (intOf i).toNat)
      case atStart => exact ⟨0, by omega, rfl, rfl, HB2.out⟩
      case round =>
        obtain ⟨k, hk, rfl, rfl, hbw⟩ := hrel
        have HBW := Lib.hid hbw
        clear hbw
        by_cases hlt : k < 256
        · obtain ⟨l1, l2⟩ := len_range k hlt
          have hw8 : IntKind.u8.wrap ((k : Nat) : Int) = (k : Nat) := IntWalk.u8_in _ (by omega)
          go_wp2_with fail
          refine (code_any k hlt _).mono ?_
          rintro e w5 ⟨rfl, hB5⟩
          have HB5 := Lib.hid (HBW.out.trans (hB5.mono HBW.out.size))
          clear hB5
          have hs1 : sumK (k + 1) = sumK k + 2 ^ (30 - lenOf k) := rfl
          have hsl := sumK_le (k + 1) (by omega)
          have r1 : (30 : Int) - ((lenOf k : Nat) : Int) = ((30 - lenOf k : Nat) : Int) := by omega
          obtain ⟨hsh, hp2⟩ := shl_one (30 - lenOf k) (by omega)
          have r3 : 30 - lenOf k < 64 := by omega
          have r4 : ¬ ((lenOf k : Nat) : Int) < 1 := by omega
          have r5 : ¬ ((lenOf k : Nat) : Int) > 30 := by omega
          have r6 : ¬ (30 : Int) < ((lenOf k : Nat) : Int) := by omega
          rw [hs1] at hsl
          have HS1 := Lib.hid hs1
          clear hs1
          generalize 30 - lenOf k = r at *
          generalize lenOf k = L at *
          generalize codeOf k = C at *
          generalize 2 ^ r = P at *
          have hws : IntKind.u64.wrap (((sumK k : Nat) : Int) + (P : Int)) = ((sumK k + P : Nat) : Int) := by rw [show ((sumK k : Nat) : Int) + (P : Int) = ((sumK k + P : Nat) : Int) from by simp]; exact IntWalk.u64_in _ (by omega)
          go_wp2_with fail
          go_roundw
          case rel => exact ⟨k + 1, by omega, by go_num, by rw [HS1.out]; simp, HB5.out⟩
          case measure => simp [intOf]; omega
        · obtain rfl : k = 256 := by omega
          have hsa := sumK_all
          go_wp2_with fail
          refine (awake_any _).mono ?_
          rintro e w6 ⟨rfl, hB6⟩
          have HB6 := Lib.hid (HBW.out.trans (hB6.mono HBW.out.size))
          clear hB6
          go_wp2_with fail
          go_ret
          exact ⟨rfl, HB6.out⟩
    · have hnmi : ¬ ((n : Int) ≤ (m : Int)) := by omega
      clear HP
      go_wp2_with fail
      clear q1 q2 q3 q4 n1 n2 m1 m2
      go_loopw [9, 10] (fun s i wr => ∃ k : Nat, k ≤ 256 ∧ i = .int .i64 k ∧ s = .int .u64 (sumK k : Nat) ∧ Below w.heap.size w wr) (fun _ i _ => 256 - (intOf i).toNat)
      case atStart => exact ⟨0, by omega, rfl, rfl, HB2.out⟩
      case round =>
        obtain ⟨k, hk, rfl, rfl, hbw⟩ := hrel
        have HBW := Lib.hid hbw
        clear hbw
        by_cases hlt : k < 256
        · obtain ⟨l1, l2⟩ := len_range k hlt
          have hw8 : IntKind.u8.wrap ((k : Nat) : Int) = (k : Nat) := IntWalk.u8_in _ (by omega)
          go_wp2_with fail
          refine (code_any k hlt _).mono ?_
          rintro e w5 ⟨rfl, hB5⟩
          have HB5 := Lib.hid (HBW.out.trans (hB5.mono HBW.out.size))
          clear hB5
          have hs1 : sumK (k + 1) = sumK k + 2 ^ (30 - lenOf k) := rfl
          have hsl := sumK_le (k + 1) (by omega)
          have r1 : (30 : Int) - ((lenOf k : Nat) : Int) = ((30 - lenOf k : Nat) : Int) := by omega
          obtain ⟨hsh, hp2⟩ := shl_one (30 - lenOf k) (by omega)
          have r3 : 30 - lenOf k < 64 := by omega
          have r4 : ¬ ((lenOf k : Nat) : Int) < 1 := by omega
          have r5 : ¬ ((lenOf k : Nat) : Int) > 30 := by omega
          have r6 : ¬ (30 : Int) < ((lenOf k : Nat) : Int) := by omega
          rw [hs1] at hsl
          have HS1 := Lib.hid hs1
          clear hs1
          generalize 30 - lenOf k = r at *
          generalize lenOf k = L at *
          generalize codeOf k = C at *
          generalize 2 ^ r = P at *
          have hws : IntKind.u64.wrap (((sumK k : Nat) : Int) + (P : Int)) = ((sumK k + P : Nat) : Int) := by rw [show ((sumK k : Nat) : Int) + (P : Int) = ((sumK k + P : Nat) : Int) from by simp]; exact IntWalk.u64_in _ (by omega)
          go_wp2_with fail
          go_roundw
          case rel => exact ⟨k + 1, by omega, by go_num, by rw [HS1.out]; simp, HB5.out⟩
          case measure => simp [intOf]; omega
        · obtain rfl : k = 256 := by omega
          have hsa := sumK_all
          go_wp2_with fail
          refine (awake_any _).mono ?_
          rintro e w6 ⟨rfl, hB6⟩
          have HB6 := Lib.hid (HBW.out.trans (hB6.mono HBW.out.size))
          clear hB6
          go_wp2_with fail
          go_ret
          exact ⟨rfl, HB6.out⟩
theorem prefix_all (a0 a1 : Int) (w : World) (h0 : (Lit.int .u8 a0).wf = true) (h1 : (Lit.int .u8 a1).wf = true) : Calls Try.prog 6 #[.int .u8 a0, .int .u8 a1] w fun e w' => e = .returned (.bool true) ∧ Below w.heap.size w w' := by
  have e1 : IntKind.u8.min = 0 := rfl
  have e2 : IntKind.u8.max = 255 := rfl
  simp only [Lit.wf, Bool.and_eq_true, decide_eq_true_eq, e1, e2] at h0 h1
  obtain ⟨a, rfl⟩ : ∃ a : Nat, a0 = (a : Int) := ⟨a0.toNat, by omega⟩
  obtain ⟨b, rfl⟩ : ∃ b : Nat, a1 = (b : Int) := ⟨a1.toNat, by omega⟩
  exact prefix_loop a b (by omega) (by omega) w
end Go.Proofs.Ytmnaljnkgaebkaa
