/- The document's find: the byte whose code begins bits. -/
import Derived.Test.YtmnaljnkgaebkaaRefU
import Derived.Test.YtmnaljnkgaebkaaDecU
namespace Go.Proofs.Ytmnaljnkgaebkaa
open Go.RowKit
set_option linter.unusedVariables false
set_option linter.unusedSimpArgs false

/-- Ints in memory. -/
def IntsN (W : World) (oa : Option Addr) (l : List Nat) : Prop := ∀ i, i < l.length → ∃ a, oa = some a ∧ W.cell? (a.add i) = some (.int .i64 (l.getD i 0 : Nat))
theorem IntsN.below {W W' : World} {oa : Option Addr} {l : List Nat} (h : IntsN W oa l) (hn : Below W.heap.size W W') : IntsN W' oa l := by
  intro i hi
  obtain ⟨a, ha, hc⟩ := h i hi
  exact ⟨a, ha, (cell_eq (hn.block _ (World.block_lt_of_cell? _ _ hc))).trans hc⟩
def FindPost (r : List Nat) (w : World) (e : Ending) (w' : World) : Prop :=
  w' = w ∧ ((∃ c n, c < 256 ∧ lenOf c = n ∧ n ≤ r.length ∧ r.take n = codeBits c ∧ e = .returned (.tuple #[.int .u8 (c : Nat), .int .i64 (n : Nat)])) ∨ (¬ HasCode r ∧ e = .returned (.tuple #[.int .u8 0, .int .i64 0])))
/-- No code that is shorter than k begins r. -/
def Fnd (r : List Nat) (k : Nat) : Prop := ∀ c, c < 256 → lenOf c < k → lenOf c ≤ r.length → r.take (lenOf c) ≠ codeBits c
/-- No code of k bits of a byte below y is hd. -/
def FndI (k hd y : Nat) : Prop := ∀ c, c < y → lenOf c = k → codeOf c ≠ hd
theorem FndI.step {k hd y : Nat} (h : FndI k hd y) (h2 : lenOf y = k → codeOf y ≠ hd) : FndI k hd (y + 1) := by
  intro c hc hl
  by_cases e : c = y
  · subst e; exact h2 hl
  · exact h c (by omega) hl
theorem code_is {r : List Nat} {k c : Nat} (hr : isBits r) (hk : k ≤ r.length) (hl : lenOf c = k) (h : codeOf c = valB (r.take k)) : r.take k = codeBits c := by
  unfold codeBits
  rw [hl, h]
  exact (bitsN_valB k (r.take k) (by rw [List.length_take]; omega) (fun b hb => hr b (List.mem_of_mem_take hb))).symm
theorem is_code {r : List Nat} {k c : Nat} (hc : c < 256) (hl : lenOf c = k) (h : r.take k = codeBits c) : codeOf c = valB (r.take k) := by
  rw [h]
  unfold codeBits
  exact (valB_bitsN _ _ (code_lt c hc)).symm
theorem Fnd.next {r : List Nat} {k hd : Nat} (h : Fnd r k) (hd2 : hd = valB (r.take k)) (hi : FndI k hd 256) : Fnd r (k + 1) := by
  intro c hc hl hle he
  by_cases e : lenOf c = k
  · rw [e] at he
    exact hi c hc e ((is_code hc e he).trans hd2.symm)
  · exact h c hc (by omega) hle he
theorem Fnd.none {r : List Nat} {k : Nat} (h : Fnd r k) (hk : r.length < k ∨ 30 < k) : ¬ HasCode r := by
  rintro ⟨c, n, hc, hn, he⟩
  have h1 : n = lenOf c := by
    have := congrArg List.length he
    rw [List.length_take] at this
    unfold codeBits at this
    rw [bitsN_len] at this
    omega
  subst h1
  have h2 := (len_range c hc).2
  exact h c hc (by omega) hn he
theorem valB_take1 (r : List Nat) (k : Nat) (h : k < r.length) : valB (r.take (k + 1)) = 2 * valB (r.take k) + r.getD k 0 := by
  rw [List.take_succ_eq_append_getElem h, valB_snoc, List.getD_eq_getElem?_getD, List.getElem?_eq_getElem h]
  rfl
theorem valB_take_lt (r : List Nat) (k : Nat) (hr : isBits r) (h : k ≤ 30) : valB (r.take k) < 1073741824 := by
  have h1 := valB_lt (r.take k) (fun b hb => hr b (List.mem_of_mem_take hb))
  have h2 : 2 ^ (r.take k).length ≤ 2 ^ 30 := Nat.pow_le_pow_right (by decide) (by rw [List.length_take]; omega)
  have h3 : (2 : Nat) ^ 30 = 1073741824 := by decide
  omega

set_option maxRecDepth 100000 in
set_option maxHeartbeats 2000000 in
theorem find_any (oa : Option Addr) (cap : Nat) (r : List Nat) (w : World) (hin : IntsN w oa r) (hr : isBits r) (hlen : r.length ≤ 100000) :
    Calls Try.prog 62 #[.slice oa r.length cap] w (FindPost r w) := by
  have HIN := Lib.hid hin
  have HR := Lib.hid hr
  clear hin hr
  obtain ⟨R, hR⟩ : ∃ R, r.length = R := ⟨_, rfl⟩
  have HRL := Lib.hid hR
  rw [hR] at hlen ⊢
  clear hR
  go_enter Try.func62, Try.ntmps62
  go_wp2_with fail
  go_loopw [4, 5, 6, 7, 8] (fun cd at' hd fs n wr => ∃ k : Nat, 1 ≤ k ∧ k ≤ 31 ∧ k ≤ R + 1 ∧ n = .int .i64 k ∧ hd = .int .i64 (valB (r.take (k - 1)) : Nat) ∧ cd = .int .i64 ((cAt k 0).1 : Nat) ∧ at' = .int .i64 ((cAt k 0).2.1 : Nat) ∧ fs = .bool (cAt k 0).2.2 ∧ Fnd r k ∧ wr = w) (fun _ _ _ _ n _ => 32 - (intOf n).toNat)
  case atStart => exact ⟨1, by omega, by omega, by omega, rfl, rfl, rfl, rfl, rfl, (fun c hc hl => by have := (len_range c hc).1; omega), rfl⟩
  case round =>
    obtain ⟨k, hk1, hk2, hk3, rfl, rfl, rfl, rfl, rfl, hfn, rfl⟩ := hrel
    have HFN := Lib.hid hfn
    clear hfn
    by_cases hk30 : k ≤ 30
    · have hki : (k : Int) ≤ 30 := by omega
      by_cases hkR : k ≤ R
      · have hkRi : (k : Int) ≤ (R : Int) := by omega
        have hk0 : 0 ≤ (k : Int) - 1 := by omega
        have hkw : IntKind.i64.wrap ((k : Int) - 1) = (k : Int) - 1 := IntWalk.i64_in _ (by omega)
        have hkl : (k : Int) - 1 < (R : Int) := by omega
        have hkt : ((k : Int) - 1).toNat = k - 1 := by omega
        obtain ⟨ad, rfl, hc1⟩ := HIN.out (k - 1) (by have := HRL.out; omega)
        have hvt := valB_take1 r (k - 1) (by have := HRL.out; omega)
        rw [show k - 1 + 1 = k from by omega] at hvt
        have hv30 := valB_take_lt r k HR.out hk30
        have hb2 := isBits_get HR.out (k - 1)
        generalize hX : valB (r.take (k - 1)) = X at hvt ⊢
        generalize r.getD (k - 1) 0 = b at hvt hb2 hc1
        obtain ⟨hd, hhd⟩ : ∃ hd, valB (r.take k) = hd := ⟨_, rfl⟩
        rw [hhd] at hvt hv30
        have HHD := Lib.hid hhd
        have HVT := Lib.hid hvt
        have hxw : IntKind.i64.wrap (2 * (X : Int)) = ((2 * X : Nat) : Int) := by rw [show 2 * (X : Int) = ((2 * X : Nat) : Int) from by simp]; exact IntWalk.i64_in _ (by omega)
        have hxw2 : IntKind.i64.wrap (2 * (X : Int) + (b : Int)) = (hd : Int) := by rw [show 2 * (X : Int) + (b : Int) = (hd : Int) from by omega]; exact IntWalk.i64_in _ (by omega)
        have hxe : ((2 * X : Nat) : Int) + (b : Int) = (hd : Int) := by omega
        clear hX hhd hvt
        go_wp2_with fail
        go_loopw [4, 5, 7, 9] (fun cd at' fs x wr' => ∃ y : Nat, y ≤ 256 ∧ FndI k hd y ∧ x = .int .i64 y ∧ cd = .int .i64 ((cAt k y).1 : Nat) ∧ at' = .int .i64 ((cAt k y).2.1 : Nat) ∧ fs = .bool (cAt k y).2.2 ∧ wr' = wr) (fun _ _ _ x _ => 256 - (intOf x).toNat)
        case atStart => exact ⟨0, by omega, (fun c hc => by omega), rfl, rfl, rfl, rfl, rfl⟩
        case round =>
          obtain ⟨y, hy, hni, rfl, rfl, rfl, rfl, rfl⟩ := hrel
          have HNI := Lib.hid hni
          clear hni
          by_cases hlt : y < 256
          · have hyi : (y : Int) < 256 := by omega
            have hw8 : IntKind.u8.wrap (y : Int) = y := IntWalk.u8_in _ (by omega)
            have HFD := Lib.hid (show lenOf y = k → codeOf y = hd → (lenOf y = k ∧ k ≤ r.length ∧ r.take k = codeBits y) from fun h1 h2 => ⟨h1, by have := HRL.out; omega, code_is HR.out (by have := HRL.out; omega) h1 (by rw [h2, HHD.out])⟩)
            have HCD := Lib.hid (cAt_code k y hk1 (by omega) hlt)
            have HUP := Lib.hid (cAt_up k y)
            have HSK := Lib.hid (cAt_skip k y)
            generalize cAt k y = S at HCD HUP HSK
            obtain ⟨C, A, f⟩ := S
            go_wp2_with fail
            refine (refLength_any y hlt _).mono ?_
            rintro e w' ⟨rfl, hw⟩
            obtain rfl := hw
            by_cases hl : lenOf y = k
            · obtain ⟨hcd, hA⟩ := HCD.out hl
              have hup := HUP.out hl
              have hlt30 := code_lt30 y hlt
              rw [← hcd] at hlt30
              simp only [cUp] at hcd hup hA hlt30
              have hli : ((lenOf y : Nat) : Int) = (k : Int) := by omega
              cases f
              · simp only [Bool.false_eq_true, if_false] at hcd hup hlt30
                have hD : C + 1 < 1073741824 := Nat.lt_of_le_of_lt (Nat.le_mul_of_pos_right _ (Nat.two_pow_pos _)) hlt30
                have hDw : IntKind.i64.wrap ((C : Int) + 1) = ((C + 1 : Nat) : Int) := by rw [show ((C : Int) + 1) = ((C + 1 : Nat) : Int) from by simp]; exact IntWalk.i64_in _ (by omega)
                have HLT := Lib.hid hlt30
                have HCO := Lib.hid hcd
                have HU := Lib.hid hup
                clear hcd hup hlt30 HCD HUP HSK
                go_wp2_with fail
                generalize hDD : C + 1 = D at HLT HCO HU hD
                go_loopw [4, 5] (fun cd at' wr' => ∃ j : Nat, A + j ≤ k ∧ at' = .int .i64 ((A + j : Nat) : Int) ∧ cd = .int .i64 ((D * 2 ^ j : Nat) : Int) ∧ wr' = wr) (fun _ at' _ => k - (intOf at').toNat)
                case atStart => exact ⟨0, hA, by simp, by subst hDD; simp; try omega, rfl⟩
                case round =>
                  obtain ⟨j, hj, rfl, rfl, rfl⟩ := hrel
                  by_cases hjk : A + j < k
                  · have hup2 := up_le (C := D) (show A + (j + 1) ≤ k by omega)
                    have HLT2 := HLT.out
                    rw [Nat.pow_succ, ← Nat.mul_assoc] at hup2
                    have hji : ((A + j : Nat) : Int) < (k : Int) := by omega
                    have HJ := Lib.hid (show D * 2 ^ (j + 1) = 2 * (D * 2 ^ j) from by rw [Nat.pow_succ, ← Nat.mul_assoc, Nat.mul_comm])
                    generalize D * 2 ^ j = E at hup2 HJ ⊢
                    have hE : E < 1073741824 := by omega
                    have hEw : IntKind.i64.wrap (2 * (E : Int)) = ((2 * E : Nat) : Int) := by rw [show 2 * (E : Int) = ((2 * E : Nat) : Int) from by simp]; exact IntWalk.i64_in _ (by omega)
                    clear hup2 HLT2
                    obtain ⟨q, hq⟩ : ∃ q, A + j = q := ⟨_, rfl⟩
                    rw [hq] at hji ⊢
                    go_wp2_with fail
                    go_roundw
                    case rel => exact ⟨j + 1, by omega, by simp; omega, by rw [HJ.out]; simp, by trivial⟩
                    case measure => simp [intOf]; omega
                  · have hji : ¬ (((A + j : Nat) : Int) < (k : Int)) := by omega
                    have hjq : j = k - A := by omega
                    subst hjq
                    have hak : A + (k - A) = k := by omega
                    rw [hak] at hji ⊢
                    rw [HCO.out]
                    have hcl := code_lt30 y hlt
                    by_cases hyc : codeOf y = hd
                    · have HDC := Lib.hid (HFD.out hl hyc)
                      rw [hyc]
                      clear hyc hcl
                      go_wp2_with fail
                      refine bodyPost_ret (v := .tuple #[.int .u8 (y : Nat), .int .i64 (k : Nat)]) (by simp [results, Try.results62, go_sem]; try omega) rfl ⟨rfl, .inl ⟨y, k, hlt, HDC.out.1, HDC.out.2.1, HDC.out.2.2, rfl⟩⟩
                    · have hyi2 : ¬ (((codeOf y : Nat) : Int) = (hd : Int)) := by omega
                      have HCY := Lib.hid hyc
                      obtain ⟨cy, hcy⟩ : ∃ cy, codeOf y = cy := ⟨_, rfl⟩
                      have HCE := Lib.hid hcy
                      rw [hcy] at hyi2 hcl ⊢
                      clear hcy hyc
                      go_wp2_with fail
                      go_roundw
                      case rel => exact ⟨y + 1, by omega, FndI.step HNI.out (fun _ => HCY.out), by go_num, by rw [HU.out, HCO.out, HCE.out], by rw [HU.out], by rw [HU.out], by trivial⟩
                      case measure => simp [intOf]; omega
              · simp only [if_true] at hcd hup hlt30
                have hD : C < 1073741824 := Nat.lt_of_le_of_lt (Nat.le_mul_of_pos_right _ (Nat.two_pow_pos _)) hlt30
                have hDw : IntKind.i64.wrap ((C : Int)) = ((C : Nat) : Int) := by rw [show ((C : Int)) = ((C : Nat) : Int) from by simp]; exact IntWalk.i64_in _ (by omega)
                have HLT := Lib.hid hlt30
                have HCO := Lib.hid hcd
                have HU := Lib.hid hup
                clear hcd hup hlt30 HCD HUP HSK
                go_wp2_with fail
                generalize hDD : C = D at HLT HCO HU hD
                go_loopw [4, 5] (fun cd at' wr' => ∃ j : Nat, A + j ≤ k ∧ at' = .int .i64 ((A + j : Nat) : Int) ∧ cd = .int .i64 ((D * 2 ^ j : Nat) : Int) ∧ wr' = wr) (fun _ at' _ => k - (intOf at').toNat)
                case atStart => exact ⟨0, hA, by simp, by subst hDD; simp; try omega, rfl⟩
                case round =>
                  obtain ⟨j, hj, rfl, rfl, rfl⟩ := hrel
                  by_cases hjk : A + j < k
                  · have hup2 := up_le (C := D) (show A + (j + 1) ≤ k by omega)
                    have HLT2 := HLT.out
                    rw [Nat.pow_succ, ← Nat.mul_assoc] at hup2
                    have hji : ((A + j : Nat) : Int) < (k : Int) := by omega
                    have HJ := Lib.hid (show D * 2 ^ (j + 1) = 2 * (D * 2 ^ j) from by rw [Nat.pow_succ, ← Nat.mul_assoc, Nat.mul_comm])
                    generalize D * 2 ^ j = E at hup2 HJ ⊢
                    have hE : E < 1073741824 := by omega
                    have hEw : IntKind.i64.wrap (2 * (E : Int)) = ((2 * E : Nat) : Int) := by rw [show 2 * (E : Int) = ((2 * E : Nat) : Int) from by simp]; exact IntWalk.i64_in _ (by omega)
                    clear hup2 HLT2
                    obtain ⟨q, hq⟩ : ∃ q, A + j = q := ⟨_, rfl⟩
                    rw [hq] at hji ⊢
                    go_wp2_with fail
                    go_roundw
                    case rel => exact ⟨j + 1, by omega, by simp; omega, by rw [HJ.out]; simp, by trivial⟩
                    case measure => simp [intOf]; omega
                  · have hji : ¬ (((A + j : Nat) : Int) < (k : Int)) := by omega
                    have hjq : j = k - A := by omega
                    subst hjq
                    have hak : A + (k - A) = k := by omega
                    rw [hak] at hji ⊢
                    rw [HCO.out]
                    have hcl := code_lt30 y hlt
                    by_cases hyc : codeOf y = hd
                    · have HDC := Lib.hid (HFD.out hl hyc)
                      rw [hyc]
                      clear hyc hcl
                      go_wp2_with fail
                      refine bodyPost_ret (v := .tuple #[.int .u8 (y : Nat), .int .i64 (k : Nat)]) (by simp [results, Try.results62, go_sem]; try omega) rfl ⟨rfl, .inl ⟨y, k, hlt, HDC.out.1, HDC.out.2.1, HDC.out.2.2, rfl⟩⟩
                    · have hyi2 : ¬ (((codeOf y : Nat) : Int) = (hd : Int)) := by omega
                      have HCY := Lib.hid hyc
                      obtain ⟨cy, hcy⟩ : ∃ cy, codeOf y = cy := ⟨_, rfl⟩
                      have HCE := Lib.hid hcy
                      rw [hcy] at hyi2 hcl ⊢
                      clear hcy hyc
                      go_wp2_with fail
                      go_roundw
                      case rel => exact ⟨y + 1, by omega, FndI.step HNI.out (fun _ => HCY.out), by go_num, by rw [HU.out, HCO.out, HCE.out], by rw [HU.out], by rw [HU.out], by trivial⟩
                      case measure => simp [intOf]; omega
            · have hli : ¬ (((lenOf y : Nat) : Int) = (k : Int)) := by omega
              have hsk := HSK.out hl
              have HS := Lib.hid hsk
              have HCY := Lib.hid hl
              clear hsk HSK HUP HCD
              go_wp2_with fail
              go_roundw
              case rel => exact ⟨y + 1, by omega, FndI.step HNI.out (fun h => absurd h HCY.out), by go_num, by rw [HS.out], by rw [HS.out], by rw [HS.out], by trivial⟩
              case measure => simp [intOf]; omega
          · obtain rfl : y = 256 := by omega
            have hnx := cAt_next k hk1
            have HNX := Lib.hid hnx
            have HFX := Lib.hid (Fnd.next HFN.out HHD.out.symm HNI.out)
            clear hnx
            go_wp2_with fail
            go_roundw
            case rel => exact ⟨k + 1, by omega, by omega, by omega, by go_num, by rw [Nat.add_sub_cancel, HHD.out], by rw [HNX.out], by rw [HNX.out], by rw [HNX.out], HFX.out, by trivial⟩
            case measure => simp [intOf]; omega
      · have hkRi : ¬ ((k : Int) ≤ (R : Int)) := by omega
        have HNO := Lib.hid (Fnd.none HFN.out (.inl (by have := HRL.out; omega)))
        go_wp2_with fail
        refine bodyPost_ret (v := .tuple #[.int .u8 0, .int .i64 0]) (by simp [results, Try.results62, go_sem]) rfl ⟨rfl, .inr ⟨HNO.out, rfl⟩⟩
    · have hki : ¬ ((k : Int) ≤ 30) := by omega
      have HNO := Lib.hid (Fnd.none HFN.out (.inr (by omega)))
      go_wp2_with fail
      refine bodyPost_ret (v := .tuple #[.int .u8 0, .int .i64 0]) (by simp [results, Try.results62, go_sem]) rfl ⟨rfl, .inr ⟨HNO.out, rfl⟩⟩
end Go.Proofs.Ytmnaljnkgaebkaa
