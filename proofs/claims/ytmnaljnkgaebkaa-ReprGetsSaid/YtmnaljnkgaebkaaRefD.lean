/- What the document's Code returns: the same code and the same length. -/
import Derived.Test.YtmnaljnkgaebkaaRefC
import Derived.Test.YtmnaljnkgaebkaaHuffS
namespace Go.Proofs.Ytmnaljnkgaebkaa
open Go.RowKit
set_option linter.unusedVariables false
set_option linter.unusedSimpArgs false

theorem code_lt30 (c : Nat) (h : c < 256) : codeOf c < 1073741824 := by
  have h1 := code_lt c h
  have h2 := (len_range c h).2
  have h3 : 2 ^ lenOf c ≤ 2 ^ 30 := Nat.pow_le_pow_right (by decide) h2
  have h4 : (2 : Nat) ^ 30 = 1073741824 := by decide
  omega
theorem up_le {C A k j : Nat} (h : A + j ≤ k) : C * 2 ^ j ≤ C * 2 ^ (k - A) := Nat.mul_le_mul_left _ (Nat.pow_le_pow_right (by decide) (by omega))

set_option maxRecDepth 100000 in
set_option maxHeartbeats 2000000 in
theorem refCode_any (c : Nat) (hc : c < 256) (w : World) : Calls Try.prog 16 #[.int .u8 (c : Int)] w fun e w' => e = .returned (.tuple #[.int .i64 (codeOf c : Nat), .int .i64 (lenOf c : Nat)]) ∧ w' = w := by
  obtain ⟨n1, n2⟩ := len_range c hc
  have hci : (c : Int) < 256 := by omega
  generalize hL : lenOf c = L at n1 n2
  go_enter Try.func16, Try.ntmps16
  go_wp2_with fail
  go_loopw [4, 5, 6, 7] (fun cd at' fs n wr => ∃ k : Nat, 1 ≤ k ∧ k ≤ L ∧ n = .int .i64 k ∧ cd = .int .i64 ((cAt k 0).1 : Nat) ∧ at' = .int .i64 ((cAt k 0).2.1 : Nat) ∧ fs = .bool (cAt k 0).2.2 ∧ wr = w) (fun _ _ _ n _ => 31 - (intOf n).toNat)
  case atStart => exact ⟨1, by omega, by omega, rfl, rfl, rfl, rfl, rfl⟩
  case round =>
    obtain ⟨k, hk1, hk2, rfl, rfl, rfl, rfl, rfl⟩ := hrel
    have hki : (k : Int) ≤ 30 := by omega
    go_wp2_with fail
    go_loopw [4, 5, 6, 8] (fun cd at' fs x wr' => ∃ y : Nat, y ≤ 256 ∧ (k = L → y ≤ c) ∧ x = .int .i64 y ∧ cd = .int .i64 ((cAt k y).1 : Nat) ∧ at' = .int .i64 ((cAt k y).2.1 : Nat) ∧ fs = .bool (cAt k y).2.2 ∧ wr' = wr) (fun _ _ _ x _ => 256 - (intOf x).toNat)
    case atStart => exact ⟨0, by omega, fun _ => Nat.zero_le _, rfl, rfl, rfl, rfl, rfl⟩
    case round =>
      obtain ⟨y, hy, hyc, rfl, rfl, rfl, rfl, rfl⟩ := hrel
      have HYC := Lib.hid hyc
      clear hyc
      by_cases hlt : y < 256
      · have hyi : (y : Int) < 256 := by omega
        have HCD := Lib.hid (cAt_code k y hk1 (by omega) hlt)
        have HUP := Lib.hid (cAt_up k y)
        have HSK := Lib.hid (cAt_skip k y)
        generalize cAt k y = S at HCD HUP HSK
        obtain ⟨C, A, f⟩ := S
        go_wp2_with fail
        refine (refLength_any y hlt _).mono ?_
        rintro e w' ⟨rfl, hw⟩
        obtain rfl := hw
        by_cases hl : lenOf y = k
        · obtain ⟨hcd, hA⟩ := HCD.out hl
          have hup := HUP.out hl
          have hlt30 := code_lt30 y hlt
          rw [← hcd] at hlt30
          simp only [cUp] at hcd hup hA hlt30
          have hli : ((lenOf y : Nat) : Int) = (k : Int) := by omega
          cases f
          · simp only [Bool.false_eq_true, if_false] at hcd hup hlt30
            have hD : C + 1 < 1073741824 := Nat.lt_of_le_of_lt (Nat.le_mul_of_pos_right _ (Nat.two_pow_pos _)) hlt30
            have hDw : IntKind.i64.wrap ((C : Int) + 1) = ((C + 1 : Nat) : Int) := by rw [show ((C : Int) + 1) = ((C + 1 : Nat) : Int) from by simp]; exact IntWalk.i64_in _ (by omega)
            have HLT := Lib.hid hlt30
            have HCO := Lib.hid hcd
            have HU := Lib.hid hup
            clear hcd hup hlt30 HCD HUP HSK
            go_wp2_with fail
            generalize hDD : C + 1 = D at HLT HCO HU hD
            go_loopw [4, 5] (fun cd at' wr' => ∃ j : Nat, A + j ≤ k ∧ at' = .int .i64 ((A + j : Nat) : Int) ∧ cd = .int .i64 ((D * 2 ^ j : Nat) : Int) ∧ wr' = wr) (fun _ at' _ => k - (intOf at').toNat)
            case atStart => exact ⟨0, hA, by simp, by subst hDD; simp; try omega, rfl⟩
            case round =>
              obtain ⟨j, hj, rfl, rfl, rfl⟩ := hrel
              by_cases hjk : A + j < k
              · have hup2 := up_le (C := D) (show A + (j + 1) ≤ k by omega)
                have HLT2 := HLT.out
                rw [Nat.pow_succ, ← Nat.mul_assoc] at hup2
                have hji : ((A + j : Nat) : Int) < (k : Int) := by omega
                have HJ := Lib.hid (show D * 2 ^ (j + 1) = 2 * (D * 2 ^ j) from by rw [Nat.pow_succ, ← Nat.mul_assoc, Nat.mul_comm])
                generalize D * 2 ^ j = E at hup2 HJ ⊢
                have hE : E < 1073741824 := by omega
                have hEw : IntKind.i64.wrap (2 * (E : Int)) = ((2 * E : Nat) : Int) := by rw [show 2 * (E : Int) = ((2 * E : Nat) : Int) from by simp]; exact IntWalk.i64_in _ (by omega)
                clear hup2 HLT2
                obtain ⟨q, hq⟩ : ∃ q, A + j = q := ⟨_, rfl⟩
                rw [hq] at hji ⊢
                go_wp2_with fail
                go_roundw
                case rel => exact ⟨j + 1, by omega, by simp; omega, by rw [HJ.out]; simp, by trivial⟩
                case measure => simp [intOf]; omega
              · have hji : ¬ (((A + j : Nat) : Int) < (k : Int)) := by omega
                have hjq : j = k - A := by omega
                subst hjq
                have hak : A + (k - A) = k := by omega
                rw [hak] at hji ⊢
                rw [HCO.out]
                by_cases hyc : y = c
                · subst hyc
                  go_wp2_with fail
                  refine bodyPost_ret (v := .tuple #[.int .i64 (codeOf y : Nat), .int .i64 (L : Nat)]) (by simp [results, Try.results16, go_sem]; try omega) rfl ⟨rfl, rfl⟩
                · have hyi2 : ¬ ((y : Int) = (c : Int)) := by omega
                  go_wp2_with fail
                  go_roundw
                  case rel => exact ⟨y + 1, by omega, fun e => by have := HYC.out e; omega, by go_num, by rw [HU.out, HCO.out], by rw [HU.out], by rw [HU.out], by trivial⟩
                  case measure => simp [intOf]; omega
          · simp only [if_true] at hcd hup hlt30
            have hD : C < 1073741824 := Nat.lt_of_le_of_lt (Nat.le_mul_of_pos_right _ (Nat.two_pow_pos _)) hlt30
            have hDw : IntKind.i64.wrap ((C : Int)) = ((C : Nat) : Int) := by rw [show ((C : Int)) = ((C : Nat) : Int) from by simp]; exact IntWalk.i64_in _ (by omega)
            have HLT := Lib.hid hlt30
            have HCO := Lib.hid hcd
            have HU := Lib.hid hup
            clear hcd hup hlt30 HCD HUP HSK
            go_wp2_with fail
            generalize hDD : C = D at HLT HCO HU hD
            go_loopw [4, 5] (fun cd at' wr' => ∃ j : Nat, A + j ≤ k ∧ at' = .int .i64 ((A + j : Nat) : Int) ∧ cd = .int .i64 ((D * 2 ^ j : Nat) : Int) ∧ wr' = wr) (fun _ at' _ => k - (intOf at').toNat)
            case atStart => exact ⟨0, hA, by simp, by subst hDD; simp; try omega, rfl⟩
            case round =>
              obtain ⟨j, hj, rfl, rfl, rfl⟩ := hrel
              by_cases hjk : A + j < k
              · have hup2 := up_le (C := D) (show A + (j + 1) ≤ k by omega)
                have HLT2 := HLT.out
                rw [Nat.pow_succ, ← Nat.mul_assoc] at hup2
                have hji : ((A + j : Nat) : Int) < (k : Int) := by omega
                have HJ := Lib.hid (show D * 2 ^ (j + 1) = 2 * (D * 2 ^ j) from by rw [Nat.pow_succ, ← Nat.mul_assoc, Nat.mul_comm])
                generalize D * 2 ^ j = E at hup2 HJ ⊢
                have hE : E < 1073741824 := by omega
                have hEw : IntKind.i64.wrap (2 * (E : Int)) = ((2 * E : Nat) : Int) := by rw [show 2 * (E : Int) = ((2 * E : Nat) : Int) from by simp]; exact IntWalk.i64_in _ (by omega)
                clear hup2 HLT2
                obtain ⟨q, hq⟩ : ∃ q, A + j = q := ⟨_, rfl⟩
                rw [hq] at hji ⊢
                go_wp2_with fail
                go_roundw
                case rel => exact ⟨j + 1, by omega, by simp; omega, by rw [HJ.out]; simp, by trivial⟩
                case measure => simp [intOf]; omega
              · have hji : ¬ (((A + j : Nat) : Int) < (k : Int)) := by omega
                have hjq : j = k - A := by omega
                subst hjq
                have hak : A + (k - A) = k := by omega
                rw [hak] at hji ⊢
                rw [HCO.out]
                by_cases hyc : y = c
                · subst hyc
                  go_wp2_with fail
                  refine bodyPost_ret (v := .tuple #[.int .i64 (codeOf y : Nat), .int .i64 (L : Nat)]) (by simp [results, Try.results16, go_sem]; try omega) rfl ⟨rfl, rfl⟩
                · have hyi2 : ¬ ((y : Int) = (c : Int)) := by omega
                  go_wp2_with fail
                  go_roundw
                  case rel => exact ⟨y + 1, by omega, fun e => by have := HYC.out e; omega, by go_num, by rw [HU.out, HCO.out], by rw [HU.out], by rw [HU.out], by trivial⟩
                  case measure => simp [intOf]; omega
        · have hli : ¬ (((lenOf y : Nat) : Int) = (k : Int)) := by omega
          have hsk := HSK.out hl
          have HS := Lib.hid hsk
          clear hsk HSK HUP HCD
          go_wp2_with fail
          go_roundw
          case rel => exact ⟨y + 1, by omega, fun e => by
            have h5 := HYC.out e
            have h6 : y ≠ c := fun e2 => hl (by rw [e2, hL, e])
            omega, by go_num, by rw [HS.out], by rw [HS.out], by rw [HS.out], by trivial⟩
          case measure => simp [intOf]; omega
      · obtain rfl : y = 256 := by omega
        have hkL : k ≠ L := fun e => by have := HYC.out e; omega
        have hnx := cAt_next k hk1
        have HNX := Lib.hid hnx
        clear hnx
        go_wp2_with fail
        go_roundw
        case rel => exact ⟨k + 1, by omega, by omega, by go_num, by rw [HNX.out], by rw [HNX.out], by rw [HNX.out], by trivial⟩
        case measure => simp [intOf]; omega
end Go.Proofs.Ytmnaljnkgaebkaa
