/- RefC · RefD: joined by a program, for a claim has at most 60 files. -/
import Derived.Test.YteceinojmdgmeaaGreatC03
/- The document's way to a byte's code, in plain words: all bytes of one length, then those of the next. No program in sight. -/
namespace Go.Proofs.YteceinojmdgmeaaGreat
set_option linter.unusedVariables false
set_option linter.unusedSimpArgs false

/-- Code, how many bits it has, whether it is the first. -/
abbrev CSt := Nat × Nat × Bool
def cUp (n : Nat) (s : CSt) : CSt := ((if s.2.2 then s.1 else s.1 + 1) * 2 ^ (n - s.2.1), n, false)
def cRow (n : Nat) (s : CSt) : Nat → CSt
  | 0 => s
  | x + 1 => if lenOf x = n then cUp n (cRow n s x) else cRow n s x
/-- Ahead of the row n + 1. -/
def cStart : Nat → CSt
  | 0 => (0, 0, true)
  | n + 1 => cRow (n + 1) (cStart n) 256
def chkRow (n : Nat) : List (Nat × Nat) → CSt → Option CSt
  | [], s => some s
  | (c, l) :: t, s => if l = n then (if (cUp n s).1 = c ∧ s.2.1 ≤ n then chkRow n t (cUp n s) else none) else chkRow n t s
def chkAll (t : List (Nat × Nat)) : Nat → Nat → CSt → Bool
  | 0, _, _ => true
  | f + 1, n, s => match chkRow n t s with
    | none => false
    | some s' => decide (s'.2.1 ≤ n) && chkAll t f (n + 1) s'
set_option maxRecDepth 100000 in
theorem chk_okC : chkAll (codeL.zip lenL) 30 1 (0, 0, true) = true := by decide +kernel
theorem zipAt (x : Nat) (h : x < 256) : (codeL.zip lenL).drop x = (codeOf x, lenOf x) :: (codeL.zip lenL).drop (x + 1) := by
  have h1 : x < codeL.length := by rw [codeL_len]; exact h
  have h2 : x < lenL.length := by rw [lenL_len]; exact h
  have hz : x < (codeL.zip lenL).length := by rw [List.length_zip]; omega
  rw [List.drop_eq_getElem_cons hz, List.getElem_zip]
  simp [codeOf, lenOf, List.getD_eq_getElem?_getD, List.getElem?_eq_getElem h1, List.getElem?_eq_getElem h2]
theorem zipLen : (codeL.zip lenL).length = 256 := by rw [List.length_zip, codeL_len, lenL_len]; rfl
theorem chkRow_at (n : Nat) (s t : CSt) : ∀ (d x : Nat), x + d = 256 → chkRow n ((codeL.zip lenL).drop x) (cRow n s x) = some t →
    t = cRow n s 256 ∧ ∀ y, x ≤ y → y < 256 → lenOf y = n → (cUp n (cRow n s y)).1 = codeOf y ∧ (cRow n s y).2.1 ≤ n
  | 0, x, hx, h => by
    obtain rfl : x = 256 := by omega
    rw [List.drop_of_length_le (by rw [zipLen]; exact Nat.le_refl _)] at h
    exact ⟨(Option.some.inj h).symm, fun y h1 h2 _ => by omega⟩
  | d + 1, x, hx, h => by
    rw [zipAt x (by omega)] at h
    simp only [chkRow] at h
    by_cases hl : lenOf x = n
    · rw [if_pos hl] at h
      split at h
      · rename_i hc
        have e : cRow n s (x + 1) = cUp n (cRow n s x) := by simp only [cRow, if_pos hl]
        rw [← e] at h
        obtain ⟨h1, h2⟩ := chkRow_at n s t d (x + 1) (by omega) h
        refine ⟨h1, fun y hy1 hy2 hy3 => ?_⟩
        by_cases e2 : y = x
        · subst e2; exact hc
        · exact h2 y (by omega) hy2 hy3
      · cases h
    · rw [if_neg hl] at h
      have e : cRow n s (x + 1) = cRow n s x := by simp only [cRow, if_neg hl]
      rw [← e] at h
      obtain ⟨h1, h2⟩ := chkRow_at n s t d (x + 1) (by omega) h
      refine ⟨h1, fun y hy1 hy2 hy3 => ?_⟩
      by_cases e2 : y = x
      · subst e2; exact absurd hy3 hl
      · exact h2 y (by omega) hy2 hy3
theorem chkAll_at : ∀ (f n : Nat), chkAll (codeL.zip lenL) f (n + 1) (cStart n) = true → ∀ m, n ≤ m → m < n + f →
    (∀ y, y < 256 → lenOf y = m + 1 → (cUp (m + 1) (cRow (m + 1) (cStart m) y)).1 = codeOf y ∧ (cRow (m + 1) (cStart m) y).2.1 ≤ m + 1)
  | 0, n, _, m, h1, h2 => by omega
  | f + 1, n, h, m, h1, h2 => by
    simp only [chkAll] at h
    cases hr : chkRow (n + 1) (codeL.zip lenL) (cStart n) with
    | none => rw [hr] at h; cases h
    | some t =>
      rw [hr] at h
      simp only [Bool.and_eq_true, decide_eq_true_eq] at h
      obtain ⟨e, h3⟩ := chkRow_at (n + 1) (cStart n) t 256 0 rfl hr
      by_cases e2 : m = n
      · subst e2
        exact fun y hy1 hy2 => h3 y (Nat.zero_le _) hy1 hy2
      · have e4 : cStart (n + 1) = t := e.symm
        rw [← e4] at h
        exact chkAll_at f (n + 1) h.2 m (by omega) (by omega)
/-- The state when the byte x is looked at for the length n. -/
def cAt (n x : Nat) : CSt := cRow n (cStart (n - 1)) x
theorem cAt_code (n x : Nat) (h1 : 1 ≤ n) (h2 : n ≤ 30) (hx : x < 256) (hl : lenOf x = n) : (cUp n (cAt n x)).1 = codeOf x ∧ (cAt n x).2.1 ≤ n := by
  obtain ⟨m, rfl⟩ : ∃ m, n = m + 1 := ⟨n - 1, by omega⟩
  exact chkAll_at 30 0 chk_okC m (Nat.zero_le _) (by omega) x hx hl
theorem cAt_zero : cAt 1 0 = (0, 0, true) := rfl
theorem cAt_next (n : Nat) (h : 1 ≤ n) : cAt n 256 = cAt (n + 1) 0 := by
  obtain ⟨m, rfl⟩ : ∃ m, n = m + 1 := ⟨n - 1, by omega⟩
  rfl
theorem cAt_up (n x : Nat) (h : lenOf x = n) : cAt n (x + 1) = cUp n (cAt n x) := by simp only [cAt, cRow, if_pos h]
theorem cAt_skip (n x : Nat) (h : ¬ lenOf x = n) : cAt n (x + 1) = cAt n x := by simp only [cAt, cRow, if_neg h]
end Go.Proofs.YteceinojmdgmeaaGreat


/- What the document's Code returns: the same code and the same length. -/
namespace Go.Proofs.YteceinojmdgmeaaGreat
open Go.RowKit
set_option linter.unusedVariables false
set_option linter.unusedSimpArgs false

theorem code_lt30 (c : Nat) (h : c < 256) : codeOf c < 1073741824 := by
  have h1 := code_lt c h
  have h2 := (len_range c h).2
  have h3 : 2 ^ lenOf c ≤ 2 ^ 30 := Nat.pow_le_pow_right (by decide) h2
  have h4 : (2 : Nat) ^ 30 = 1073741824 := by decide
  omega
theorem up_le {C A k j : Nat} (h : A + j ≤ k) : C * 2 ^ j ≤ C * 2 ^ (k - A) := Nat.mul_le_mul_left _ (Nat.pow_le_pow_right (by decide) (by omega))

set_option maxRecDepth 100000 in
set_option maxHeartbeats 2000000 in
theorem refCode_any (c : Nat) (hc : c < 256) (w : World) : Calls Tryz.prog 94 #[.int .u8 (c : Int)] w fun e w' => e = .returned (.tuple #[.int .i64 (codeOf c : Nat), .int .i64 (lenOf c : Nat)]) ∧ w' = w := by
  obtain ⟨n1, n2⟩ := len_range c hc
  have hci : (c : Int) < 256 := by omega
  generalize hL : lenOf c = L at n1 n2
  go_enter Tryz.func94, Tryz.ntmps94
  go_wp2_with fail
  go_loopw [4, 5, 6, 7] (fun cd at' fs n wr => ∃ k : Nat, 1 ≤ k ∧ k ≤ L ∧ n = .int .i64 k ∧ cd = .int .i64 ((cAt k 0).1 : Nat) ∧ at' = .int .i64 ((cAt k 0).2.1 : Nat) ∧ fs = .bool (cAt k 0).2.2 ∧ wr = w) (fun _ _ _ n _ => 31 - (intOf n).toNat)
  case atStart => exact ⟨1, by omega, by omega, rfl, rfl, rfl, rfl, rfl⟩
  case round =>
    obtain ⟨k, hk1, hk2, rfl, rfl, rfl, rfl, rfl⟩ := hrel
    have hki : (k : Int) ≤ 30 := by omega
    go_wp2_with fail
    go_loopw [4, 5, 6, 8] (fun cd at' fs x wr' => ∃ y : Nat, y ≤ 256 ∧ (k = L → y ≤ c) ∧ x = .int .i64 y ∧ cd = .int .i64 ((cAt k y).1 : Nat) ∧ at' = .int .i64 ((cAt k y).2.1 : Nat) ∧ fs = .bool (cAt k y).2.2 ∧ wr' = wr) (fun _ _ _ x _ => 256 - (intOf x).toNat)
    case atStart => exact ⟨0, by omega, fun _ => Nat.zero_le _, rfl, rfl, rfl, rfl, rfl⟩
    case round =>
      obtain ⟨y, hy, hyc, rfl, rfl, rfl, rfl, rfl⟩ := hrel
      have HYC := Lib.hid hyc
      clear hyc
      by_cases hlt : y < 256
      · have hyi : (y : Int) < 256 := by omega
        have HCD := Lib.hid (cAt_code k y hk1 (by omega) hlt)
        have HUP := Lib.hid (cAt_up k y)
        have HSK := Lib.hid (cAt_skip k y)
        generalize cAt k y = S at HCD HUP HSK
        obtain ⟨C, A, f⟩ := S
        go_wp2_with fail
        refine (refLength_any y hlt _).mono ?_
        rintro e w' ⟨rfl, hw⟩
        obtain rfl := hw
        by_cases hl : lenOf y = k
        · obtain ⟨hcd, hA⟩ := HCD.out hl
          have hup := HUP.out hl
          have hlt30 := code_lt30 y hlt
          rw [← hcd] at hlt30
          simp only [cUp] at hcd hup hA hlt30
          have hli : ((lenOf y : Nat) : Int) = (k : Int) := by omega
          cases f
          · simp only [Bool.false_eq_true, if_false] at hcd hup hlt30
            have hD : C + 1 < 1073741824 := Nat.lt_of_le_of_lt (Nat.le_mul_of_pos_right _ (Nat.two_pow_pos _)) hlt30
            have hDw : IntKind.i64.wrap ((C : Int) + 1) = ((C + 1 : Nat) : Int) := by rw [show ((C : Int) + 1) = ((C + 1 : Nat) : Int) from by simp]; exact IntWalk.i64_in _ (by omega)
            have HLT := Lib.hid hlt30
            have HCO := Lib.hid hcd
            have HU := Lib.hid hup
            clear hcd hup hlt30 HCD HUP HSK
            go_wp2_with fail
            generalize hDD : C + 1 = D at HLT HCO HU hD
            go_loopw [4, 5] (fun cd at' wr' => ∃ j : Nat, A + j ≤ k ∧ at' = .int .i64 ((A + j : Nat) : Int) ∧ cd = .int .i64 ((D * 2 ^ j : Nat) : Int) ∧ wr' = wr) (fun _ at' _ => k - (intOf at').toNat)
            case atStart => exact ⟨0, hA, by simp, by subst hDD; simp; try omega, rfl⟩
            case round =>
              obtain ⟨j, hj, rfl, rfl, rfl⟩ := hrel
              by_cases hjk : A + j < k
              · have hup2 := up_le (C := D) (show A + (j + 1) ≤ k by omega)
                have HLT2 := HLT.out
                rw [Nat.pow_succ, ← Nat.mul_assoc] at hup2
                have hji : ((A + j : Nat) : Int) < (k : Int) := by omega
                have HJ := Lib.hid (show D * 2 ^ (j + 1) = 2 * (D * 2 ^ j) from by rw [Nat.pow_succ, ← Nat.mul_assoc, Nat.mul_comm])
                generalize D * 2 ^ j = E at hup2 HJ ⊢
                have hE : E < 1073741824 := by omega
                have hEw : IntKind.i64.wrap (2 * (E : Int)) = ((2 * E : Nat) : Int) := by rw [show 2 * (E : Int) = ((2 * E : Nat) : Int) from by simp]; exact IntWalk.i64_in _ (by omega)
                clear hup2 HLT2
                obtain ⟨q, hq⟩ : ∃ q, A + j = q := ⟨_, rfl⟩
                rw [hq] at hji ⊢
                go_wp2_with fail
                go_roundw
                case rel => exact ⟨j + 1, by omega, by simp; omega, by rw [HJ.out]; simp, by trivial⟩
                case measure => simp [intOf]; omega
              · have hji : ¬ (((A + j : Nat) : Int) < (k : Int)) := by omega
                have hjq : j = k - A := by omega
                subst hjq
                have hak : A + (k - A) = k := by omega
                rw [hak] at hji ⊢
                rw [HCO.out]
                by_cases hyc : y = c
                · subst hyc
                  go_wp2_with fail
                  refine bodyPost_ret (v := .tuple #[.int .i64 (codeOf y : Nat), .int .i64 (L : Nat)]) (by simp [results, Tryz.results94, go_sem]; try omega) rfl ⟨rfl, rfl⟩
                · have hyi2 : ¬ ((y : Int) = (c : Int)) := by omega
                  go_wp2_with fail
                  go_roundw
                  case rel => exact ⟨y + 1, by omega, fun e => by have := HYC.out e; omega, by go_num, by rw [HU.out, HCO.out], by rw [HU.out], by rw [HU.out], by trivial⟩
                  case measure => simp [intOf]; omega
          · simp only [if_true] at hcd hup hlt30
            have hD : C < 1073741824 := Nat.lt_of_le_of_lt (Nat.le_mul_of_pos_right _ (Nat.two_pow_pos _)) hlt30
            have hDw : IntKind.i64.wrap ((C : Int)) = ((C : Nat) : Int) := by rw [show ((C : Int)) = ((C : Nat) : Int) from by simp]; exact IntWalk.i64_in _ (by omega)
            have HLT := Lib.hid hlt30
            have HCO := Lib.hid hcd
            have HU := Lib.hid hup
            clear hcd hup hlt30 HCD HUP HSK
            go_wp2_with fail
            generalize hDD : C = D at HLT HCO HU hD
            go_loopw [4, 5] (fun cd at' wr' => ∃ j : Nat, A + j ≤ k ∧ at' = .int .i64 ((A + j : Nat) : Int) ∧ cd = .int .i64 ((D * 2 ^ j : Nat) : Int) ∧ wr' = wr) (fun _ at' _ => k - (intOf at').toNat)
            case atStart => exact ⟨0, hA, by simp, by subst hDD; simp; try omega, rfl⟩
            case round =>
              obtain ⟨j, hj, rfl, rfl, rfl⟩ := hrel
              by_cases hjk : A + j < k
              · have hup2 := up_le (C := D) (show A + (j + 1) ≤ k by omega)
                have HLT2 := HLT.out
                rw [Nat.pow_succ, ← Nat.mul_assoc] at hup2
                have hji : ((A + j : Nat) : Int) < (k : Int) := by omega
                have HJ := Lib.hid (show D * 2 ^ (j + 1) = 2 * (D * 2 ^ j) from by rw [Nat.pow_succ, ← Nat.mul_assoc, Nat.mul_comm])
                generalize D * 2 ^ j = E at hup2 HJ ⊢
                have hE : E < 1073741824 := by omega
                have hEw : IntKind.i64.wrap (2 * (E : Int)) = ((2 * E : Nat) : Int) := by rw [show 2 * (E : Int) = ((2 * E : Nat) : Int) from by simp]; exact IntWalk.i64_in _ (by omega)
                clear hup2 HLT2
                obtain ⟨q, hq⟩ : ∃ q, A + j = q := ⟨_, rfl⟩
                rw [hq] at hji ⊢
                go_wp2_with fail
                go_roundw
                case rel => exact ⟨j + 1, by omega, by simp; omega, by rw [HJ.out]; simp, by trivial⟩
                case measure => simp [intOf]; omega
              · have hji : ¬ (((A + j : Nat) : Int) < (k : Int)) := by omega
                have hjq : j = k - A := by omega
                subst hjq
                have hak : A + (k - A) = k := by omega
                rw [hak] at hji ⊢
                rw [HCO.out]
                by_cases hyc : y = c
                · subst hyc
                  go_wp2_with fail
                  refine bodyPost_ret (v := .tuple #[.int .i64 (codeOf y : Nat), .int .i64 (L : Nat)]) (by simp [results, Tryz.results94, go_sem]; try omega) rfl ⟨rfl, rfl⟩
                · have hyi2 : ¬ ((y : Int) = (c : Int)) := by omega
                  go_wp2_with fail
                  go_roundw
                  case rel => exact ⟨y + 1, by omega, fun e => by have := HYC.out e; omega, by go_num, by rw [HU.out, HCO.out], by rw [HU.out], by rw [HU.out], by trivial⟩
                  case measure => simp [intOf]; omega
        · have hli : ¬ (((lenOf y : Nat) : Int) = (k : Int)) := by omega
          have hsk := HSK.out hl
          have HS := Lib.hid hsk
          clear hsk HSK HUP HCD
          go_wp2_with fail
          go_roundw
          case rel => exact ⟨y + 1, by omega, fun e => by
            have h5 := HYC.out e
            have h6 : y ≠ c := fun e2 => hl (by rw [e2, hL, e])
            omega, by go_num, by rw [HS.out], by rw [HS.out], by rw [HS.out], by trivial⟩
          case measure => simp [intOf]; omega
      · obtain rfl : y = 256 := by omega
        have hkL : k ≠ L := fun e => by have := HYC.out e; omega
        have hnx := cAt_next k hk1
        have HNX := Lib.hid hnx
        clear hnx
        go_wp2_with fail
        go_roundw
        case rel => exact ⟨k + 1, by omega, by omega, by go_num, by rw [HNX.out], by rw [HNX.out], by rw [HNX.out], by trivial⟩
        case measure => simp [intOf]; omega
end Go.Proofs.YteceinojmdgmeaaGreat

