/- The document's numbers with a prefix: footmanref01.Get. -/
import Derived.Test.YteceinojmdgmeaaGreatC34
import Derived.Test.YteceinojmdgmeaaGreatC17
namespace Go.Proofs.YteceinojmdgmeaaGreat
open Go.RowKit
set_option linter.unusedVariables false
set_option linter.unusedSimpArgs false

set_option maxRecDepth 100000 in
set_option maxHeartbeats 2000000 in
theorem refGet_any (oa : Option Addr) (n cap : Nat) (bs : List Nat) (hn : bs.length = n) (hn100 : n ≤ 1000000) (k : Nat) (hk : K4 k) (w : World) (hby : BytesN w oa bs) (hb256 : ∀ i, i < bs.length → bs.getD i 0 < 256) :
    Calls Tryz.prog 59 #[.slice oa n cap, .int .i64 (k : Int)] w (GetPost bs k w) := by
  have HN := Lib.hid hn
  have HBY := Lib.hid hby
  have H256 := Lib.hid hb256
  have HPO := Lib.hid (fun W => refPow_any k (by rcases hk with rfl | rfl | rfl | rfl <;> decide) W)
  have hm127 : 2 ^ k - 1 ≤ 127 := by rcases hk with rfl | rfl | rfl | rfl <;> decide
  have hk1 : decide ((k : Int) < 1) = false := decide_eq_false (by rcases hk with rfl | rfl | rfl | rfl <;> decide)
  have hk2 : decide ((8 : Int) < (k : Int)) = false := decide_eq_false (by rcases hk with rfl | rfl | rfl | rfl <;> decide)
  have hP : 2 ^ k = (2 ^ k - 1) + 1 := by have := Nat.two_pow_pos k; omega
  clear hn hby hb256
  cases bs with
  | nil =>
    obtain rfl := HN.out
    have HE := Lib.hid (show getN [] k = (0, 0, 3) from rfl)
    clear hk hP hm127
    go_enter Tryz.func59, Tryz.ntmps59
    go_wp2_with fail
    refine bodyPost_ret (v := .tuple #[.int .i64 0, .int .i64 0, .int .i64 3]) (by simp [results, Tryz.results59, go_sem]) rfl ⟨by rw [HE.out]; rfl, Below.refl _ _⟩
  | cons b0 bs' =>
    have hpos : 0 < n := by have := HN.out; simp at this; omega
    have hposi : (0 : Int) < (n : Int) := by omega
    have hn0 : ((n : Int) == 0) = false := by simp; omega
    obtain ⟨b, o, rfl, hc0⟩ := HBY.out.at (i := 0) (by simp)
    have hb0 : b0 < 256 := H256.out 0 (by simp)
    simp only [List.getD_cons_zero, Nat.add_zero] at hc0
    have HG := Lib.hid (show getN (b0 :: bs') k = if b0 % 2 ^ k < 2 ^ k - 1 then (b0 % 2 ^ k, 1, 0) else getGo (b0 :: bs') 5 0 (b0 % 2 ^ k) from rfl)
    have hxl : b0 % 2 ^ k < 256 := Nat.lt_of_le_of_lt (Nat.mod_le _ _) hb0
    rw [hP] at HPO
    have hmod : (b0 : Int) % (((2 ^ k - 1 : Nat) : Int) + 1) = ((b0 % 2 ^ k : Nat) : Int) := by
      rw [show (((2 ^ k - 1 : Nat) : Int) + 1) = ((2 ^ k : Nat) : Int) from by omega]
      rfl
    generalize 2 ^ k - 1 = M at HPO HG hm127 hmod
    generalize b0 % 2 ^ k = x at HG hxl hmod
    clear hk hP
    have hM1 : IntKind.i64.wrap ((M : Int) + 1) = (M : Int) + 1 := IntWalk.i64_in _ (by omega)
    have hM2 : IntKind.i64.wrap (M : Int) = (M : Int) := IntWalk.i64_in _ (by omega)
    have hM3 : IntKind.i64.wrap (x : Int) = (x : Int) := IntWalk.i64_in _ (by omega)
    have hwb : IntKind.i64.wrap (b0 : Int) = (b0 : Int) := IntWalk.i64_in _ (by omega)
    go_enter Tryz.func59, Tryz.ntmps59
    go_wp2_with fail
    refine (HPO.out _).mono ?_
    rintro e w1 ⟨rfl, hw⟩
    subst hw
    have hM2 : IntKind.i64.wrap (((M + 1 : Nat) : Int) - 1) = (M : Int) := by rw [show ((M + 1 : Nat) : Int) - 1 = (M : Int) from by omega]; exact IntWalk.i64_in _ (by omega)
    by_cases hlt : x < M
    · have hb : decide ((x : Int) < (M : Int)) = true := decide_eq_true (by omega)
      have hb2 : decide (x < M) = true := decide_eq_true hlt
      have HE := Lib.hid (HG.out.trans (if_pos hlt))
      go_wp2_with fail
      refine bodyPost_ret (v := .tuple #[.int .i64 (x : Int), .int .i64 1, .int .i64 0]) (by simp [results, Tryz.results59, go_sem, hmod]) rfl ⟨by rw [HE.out]; rfl, Below.refl _ _⟩
    · have hb : decide ((x : Int) < (M : Int)) = false := decide_eq_false (by omega)
      have hb2 : decide (x < M) = false := decide_eq_false hlt
      have HE := Lib.hid (HG.out.trans (if_neg hlt))
      go_wp2_with fail
      go_loopw [8, 9, 10] (fun nn uu r wr => ∃ i m U : Nat, nn = .int .i64 m ∧ uu = .int .i64 U ∧ r = .int .i64 ((i : Int) + 1) ∧ U = 128 ^ i ∧ i ≤ 5 ∧ m ≤ 256 * U ∧ getGo (b0 :: bs') (5 - i) i m = getGo (b0 :: bs') 5 0 x ∧ Below w1.heap.size w1 wr) (fun _ _ r _ => 7 - (intOf r).toNat)
      case atStart => exact ⟨0, x, 1, by rw [hmod], rfl, rfl, rfl, by omega, by omega, rfl, Below.refl _ _⟩
      case round =>
        obtain ⟨i, m, U, rfl, rfl, rfl, hU, hi, hm, hgo, hbw⟩ := hrel
        have HGO := Lib.hid hgo
        have HBW := Lib.hid hbw
        have HU := Lib.hid hU
        have hpw : U ≤ 128 ^ 5 := by rw [hU]; exact Nat.pow_le_pow_right (by decide) hi
        have hm43 : m ≤ 8796093022208 := by
          have h5 : (128 : Nat) ^ 5 = 34359738368 := by decide
          omega
        clear hgo hbw hpw hU
        by_cases hi5 : i < 5
        · have hc5 : decide ((i : Int) + 1 ≤ 5) = true := decide_eq_true (by omega)
          have hc6 : (i : Int) + 1 ≤ 5 := by omega
          have hw2 : IntKind.i64.wrap ((i : Int) + 1 + 1) = (i : Int) + 1 + 1 := IntWalk.i64_in _ (by omega)
          by_cases hin : i + 1 < n
          · have hcn : decide ((n : Int) ≤ (i : Int) + 1) = false := decide_eq_false (by omega)
            have hcn2 : (i : Int) + 1 < (n : Int) := by omega
            have hcn3 : (0 : Int) ≤ (i : Int) + 1 := by omega
            have hiL : i + 1 < (b0 :: bs').length := by rw [HN.out]; exact hin
            obtain ⟨b', o', e', hci⟩ := (HBY.out.below HBW.out).at hiL
            obtain ⟨rfl, rfl, hz⟩ := Addr.mk.inj (Option.some.inj e')
            clear e' hz
            have hcl := H256.out (i + 1) hiL
            have HGE := Lib.hid (show (b0 :: bs')[i + 1]? = some ((b0 :: bs').getD (i + 1) 0) from by rw [List.getD_eq_getElem?_getD, List.getElem?_eq_getElem hiL]; rfl)
            generalize (b0 :: bs').getD (i + 1) 0 = c at hci hcl HGE
            have hc127 : (c : Int) % 128 = ((c % 128 : Nat) : Int) := rfl
            have hcc : c % 128 < 128 := Nat.mod_lt _ (by decide)
            generalize hcy : c % 128 = y at hc127 hcc
            have hp4 : U ≤ 128 ^ 4 := by rw [HU.out]; exact Nat.pow_le_pow_right (by decide) (by omega)
            have hp4b : U ≤ 268435456 := by
              have h4 : (128 : Nat) ^ 4 = 268435456 := by decide
              omega
            have hzb : y * U ≤ 127 * 268435456 := Nat.mul_le_mul (by omega) hp4b
            have hzm : y * U ≤ 127 * U := Nat.mul_le_mul_right _ (by omega)
            have HST := Lib.hid (show getGo (b0 :: bs') (5 - i) i m = if 128 ≤ c then getGo (b0 :: bs') (5 - (i + 1)) (i + 1) (m + y * U) else if 268435455 < m + y * U then (0, 0, 8) else (m + y * U, i + 2, 0) from by
              rw [show 5 - i = (5 - (i + 1)) + 1 from by omega]
              simp only [getGo, HGE.out, hcy, HU.out])
            have hpe : (U : Int) * (y : Int) = ((y * U : Nat) : Int) := by rw [Nat.mul_comm]; rfl
            have HMB2 := Lib.hid (show m + y * U ≤ 256 * (128 * U) from by omega)
            have HU2 := Lib.hid (show 128 * U = 128 ^ (i + 1) from by rw [HU.out, Nat.pow_succ, Nat.mul_comm])
            generalize y * U = z at hpe hzb HST HMB2
            have hwc : IntKind.i64.wrap (c : Int) = (c : Int) := IntWalk.i64_in _ (by omega)
            have hwy : IntKind.i64.wrap (y : Int) = (y : Int) := IntWalk.i64_in _ (by omega)
            have hsl : IntKind.i64.wrap ((U : Int) * (y : Int)) = (z : Int) := by rw [hpe]; exact IntWalk.i64_in _ (by omega)
            have hsm : IntKind.i64.wrap ((m : Int) + (z : Int)) = ((m + z : Nat) : Int) := IntWalk.i64_in _ (by omega)
            have hsu : IntKind.i64.wrap (128 * (U : Int)) = ((128 * U : Nat) : Int) := IntWalk.i64_in _ (by omega)
            generalize hs : m + z = s at hsm HST HMB2
            generalize hu2 : 128 * U = U2 at hsu HMB2 HU2
            have hsl' : wrap64 ((U : Int) * (y : Int)) = (z : Int) := (IntWalk.i64_left _).symm.trans hsl
            have hsm' : wrap64 ((m : Int) + (z : Int)) = (s : Int) := (IntWalk.i64_left _).symm.trans hsm
            have hsu' : wrap64 (128 * (U : Int)) = (U2 : Int) := (IntWalk.i64_left _).symm.trans hsu
            clear hpe hp4 hp4b hzb hzm hs hm43 hu2 hm
            by_cases hc128 : 128 ≤ c
            · have hcd : decide ((c : Int) < 128) = false := decide_eq_false (by omega)
              have hcd2 : decide (c < 128) = false := decide_eq_false (by omega)
              have HS2 := Lib.hid (HGO.out.symm.trans (HST.out.trans (if_pos hc128)))
              go_wp2_with fail
              refine ⟨⟨i + 1, s, U2, rfl, rfl, by go_num, HU2.out, by omega, HMB2.out, HS2.out.symm, HBW.out⟩, ?_⟩
              simp [intOf]
              omega
            · have hcd : decide ((c : Int) < 128) = true := decide_eq_true (by omega)
              have hcd2 : decide (c < 128) = true := decide_eq_true (by omega)
              have HS2 := Lib.hid (HST.out.trans (if_neg hc128))
              by_cases hbig : 268435455 < s
              · have hbd := big_yes hbig
                have HE3 := Lib.hid (HE.out.trans (HGO.out.symm.trans (HS2.out.trans (if_pos hbig))))
                go_wp2_with fail
                refine bodyPost_ret (v := .tuple #[.int .i64 0, .int .i64 0, .int .i64 8]) (by simp [results, Tryz.results59, go_sem]) rfl ⟨by rw [HE3.out]; rfl, HBW.out⟩
              · have hbd := big_no hbig
                have HE3 := Lib.hid (HE.out.trans (HGO.out.symm.trans (HS2.out.trans (if_neg hbig))))
                go_wp2_with fail
                refine bodyPost_ret (v := .tuple #[.int .i64 (s : Int), .int .i64 ((i : Int) + 1 + 1), .int .i64 0]) (by simp [results, Tryz.results59, go_sem]) rfl ⟨by rw [HE3.out, show (i : Int) + 1 + 1 = ((i + 2 : Nat) : Int) from by omega]; rfl, HBW.out⟩
          · have hcn : decide ((n : Int) ≤ (i : Int) + 1) = true := decide_eq_true (by omega)
            have HGE := Lib.hid (show (b0 :: bs')[i + 1]? = none from List.getElem?_eq_none (by rw [HN.out]; omega))
            have HE3 := Lib.hid (HE.out.trans (HGO.out.symm.trans (show getGo (b0 :: bs') (5 - i) i m = (0, 0, 3) from by
              rw [show 5 - i = (5 - (i + 1)) + 1 from by omega]
              simp only [getGo, HGE.out])))
            go_wp2_with fail
            refine bodyPost_ret (v := .tuple #[.int .i64 0, .int .i64 0, .int .i64 3]) (by simp [results, Tryz.results59, go_sem]) rfl ⟨by rw [HE3.out]; rfl, HBW.out⟩
        · obtain rfl : i = 5 := by omega
          have HE3 := Lib.hid (HE.out.trans (HGO.out.symm.trans (show getGo (b0 :: bs') (5 - 5) 5 m = (0, 0, 8) from rfl)))
          go_wp2_with fail
          refine bodyPost_ret (v := .tuple #[.int .i64 0, .int .i64 0, .int .i64 8]) (by simp [results, Tryz.results59, go_sem]) rfl ⟨by rw [HE3.out]; rfl, HBW.out⟩
end Go.Proofs.YteceinojmdgmeaaGreat

