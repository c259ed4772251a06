/- PreG · RepA: joined by a program, for a claim has at most 60 files. -/
import Derived.Test.YteceinojmdgmeaaC09
import Derived.Laws.Bits128
import Derived.Laws.LoneSync
import Derived.Deep.Cut
import Derived.Test.YteceinojmdgmeaaC02
/- prefint.Get. -/
namespace Go.Proofs.Yteceinojmdgmeaa
open Go.RowKit
set_option linter.unusedVariables false
set_option linter.unusedSimpArgs false

/-- The groups behind a first byte that is full: j may come; i stand behind us; so much is reckoned. -/
def getGo (bs : List Nat) : Nat → Nat → Nat → Nat × Nat × Nat
  | 0, _, _ => (0, 0, 8)
  | j + 1, i, n => match bs[i + 1]? with
    | none => (0, 0, 3)
    | some c => if 128 ≤ c then getGo bs j (i + 1) (n + c % 128 * 128 ^ i) else if 268435455 < n + c % 128 * 128 ^ i then (0, 0, 8) else (n + c % 128 * 128 ^ i, i + 2, 0)
/-- A number got from bytes: it, how many bytes it has, the error. -/
def getN (bs : List Nat) (k : Nat) : Nat × Nat × Nat := match bs with
  | [] => (0, 0, 3)
  | b :: _ => if b % 2 ^ k < 2 ^ k - 1 then (b % 2 ^ k, 1, 0) else getGo bs 5 0 (b % 2 ^ k)
theorem i64_and_mask (n k : Nat) (hn : n < 256) (hk : K4 k) : bits BinOp.and IntKind.i64 (n : Int) ((2 ^ k - 1 : Nat) : Int) = ((n % 2 ^ k : Nat) : Int) := by
  have h : ∀ k : Fin 4, ∀ n : Fin 256, bits BinOp.and IntKind.i64 ((n.val : Nat) : Int) ((2 ^ (k.val + 4) - 1 : Nat) : Int) = ((n.val % 2 ^ (k.val + 4) : Nat) : Int) := by decide +kernel
  rcases hk with rfl | rfl | rfl | rfl
  · exact h 0 ⟨n, hn⟩
  · exact h 1 ⟨n, hn⟩
  · exact h 2 ⟨n, hn⟩
  · exact h 3 ⟨n, hn⟩
theorem u8_and127 (c : Nat) (hc : c < 256) : bits BinOp.and IntKind.u8 (c : Int) 127 = ((c % 128 : Nat) : Int) := by
  have h := u8_and_nat c 127 hc (by decide)
  rw [show c &&& 127 = c % 128 from Nat.and_two_pow_sub_one_eq_mod c 7] at h
  exact h
theorem big_yes {s : Nat} (h : 268435455 < s) : decide ((268435455 : Int) < (s : Int)) = true := decide_eq_true (by omega)
theorem big_no {s : Nat} (h : ¬ 268435455 < s) : decide ((268435455 : Int) < (s : Int)) = false := decide_eq_false (by omega)
def GetPost (bs : List Nat) (k : Nat) (w : World) (e : Ending) (w' : World) : Prop := e = .returned (.tuple #[.int .i64 ((getN bs k).1 : Nat), .int .i64 ((getN bs k).2.1 : Nat), .int .i64 ((getN bs k).2.2 : Nat)]) ∧ Below w.heap.size w w'
theorem BytesN.at {W : World} {oa : Option Addr} {bs : List Nat} (h : BytesN W oa bs) {i : Nat} (hi : i < bs.length) : ∃ b o, oa = some ⟨b, o, none⟩ ∧ W.cell? ⟨b, o + i, none⟩ = some (.int .u8 (bs.getD i 0 : Nat)) := by
  obtain ⟨a, ha, hc⟩ := h i hi
  obtain ⟨a', ha', hc0⟩ := h 0 (by omega)
  rw [ha] at ha'
  obtain rfl := Option.some.inj ha'
  obtain ⟨_, _, _, _, hs⟩ := World.shape?_of_cell? hc0
  obtain ⟨b, o, s⟩ := a
  have : s = none := by simpa [Addr.add] using hs
  subst this
  rw [Addr.add_lit] at hc
  exact ⟨b, o, ha, hc⟩
set_option maxRecDepth 100000 in
set_option maxHeartbeats 2000000 in
theorem get_any (oa : Option Addr) (n cap : Nat) (bs : List Nat) (hn : bs.length = n) (hn100 : n ≤ 1000000) (k : Nat) (hk : K4 k) (w : World) (hby : BytesN w oa bs) (hb256 : ∀ i, i < bs.length → bs.getD i 0 < 256) :
    Calls Try.prog 89 #[.slice oa n cap, .int .i64 (k : Int)] w (GetPost bs k w) := by
  have HN := Lib.hid hn
  have HBY := Lib.hid hby
  have H256 := Lib.hid hb256
  have HWI := Lib.hid (fun W => wide_any k hk W)
  have HON := Lib.hid (fun W => ones_any k hk W)
  have HAN := Lib.hid (fun x hx => i64_and_mask x k hx hk)
  have hm127 : 2 ^ k - 1 ≤ 127 := by rcases hk with rfl | rfl | rfl | rfl <;> decide
  clear hn hby hb256
  cases bs with
  | nil =>
    obtain rfl := HN.out
    have HE := Lib.hid (show getN [] k = (0, 0, 3) from rfl)
    generalize 2 ^ k - 1 = M at HON HAN hm127
    clear hk
    go_enter Try.func89, Try.ntmps89
    go_wp2_with fail
    refine (HWI.out _).mono ?_
    rintro e w1 ⟨rfl, hw⟩
    subst hw
    go_wp2_with fail
    refine bodyPost_ret (v := .tuple #[.int .i64 0, .int .i64 0, .int .i64 3]) (by simp [results, Try.results89, go_sem]) rfl ⟨by rw [HE.out]; rfl, Below.refl _ _⟩
  | cons b0 bs' =>
    have hpos : 0 < n := by have := HN.out; simp at this; omega
    have hposi : (0 : Int) < (n : Int) := by omega
    have hn0 : ((n : Int) == 0) = false := by simp; omega
    obtain ⟨b, o, rfl, hc0⟩ := HBY.out.at (i := 0) (by simp)
    have hb0 : b0 < 256 := H256.out 0 (by simp)
    have hand := HAN.out b0 hb0
    simp only [List.getD_cons_zero, Nat.add_zero] at hc0
    have HG := Lib.hid (show getN (b0 :: bs') k = if b0 % 2 ^ k < 2 ^ k - 1 then (b0 % 2 ^ k, 1, 0) else getGo (b0 :: bs') 5 0 (b0 % 2 ^ k) from rfl)
    have hxl : b0 % 2 ^ k < 256 := Nat.lt_of_le_of_lt (Nat.mod_le _ _) hb0
    generalize 2 ^ k - 1 = M at HON HAN hm127 hand HG
    generalize b0 % 2 ^ k = x at hand HG hxl
    clear hk HAN
    have HK := Lib.hid (show Kept w.heap.size w [(b, o, .int .u8 (b0 : Int))] w from ⟨⟨hc0, trivial⟩, ⟨World.block_lt_of_cell? w ⟨b, o, none⟩ hc0, trivial⟩, Below.refl _ _, Nat.le_refl _⟩)
    go_enter Try.func89, Try.ntmps89
    go_wp2_with fail
    refine (HWI.out _).mono ?_
    rintro e w1 ⟨rfl, hw⟩
    subst hw
    go_upto_region 5 with fail
    refine held_region (by kernel_rfl) (by kernel_rfl) HK.out ?_
    repeat
      with_reducible refine qrest_step ?_
      intro K hK'
      go_simp
      first
        | (with_reducible refine hK' _ ?_)
        | (with_reducible refine QOp.mk ?_
           apply Exists.intro
           with_reducible refine ⟨?_, hK' _ ?_⟩
           · intro W hW
             obtain ⟨_, _⟩ := hW.cells
             unfold QAt
             go_simp
             first
               | (with_reducible rfl)
               | (go_at_call 74; refine (HON.out _).mono ?_; rintro e w' ⟨rfl, hb⟩; subst hb; exact ⟨rfl, hW⟩))
      clear hK' K
    with_reducible refine qrest_nil ?_
    intro w5 hw5
    have HBL := Lib.hid hw5.below
    clear hw5
    have hwb : IntKind.i64.wrap (b0 : Int) = (b0 : Int) := IntWalk.i64_in _ (by omega)
    by_cases hlt : x < M
    · have hb : decide ((x : Int) < (M : Int)) = true := decide_eq_true (by omega)
      have HE := Lib.hid (HG.out.trans (if_pos hlt))
      go_wp2_with fail
      refine (HON.out _).mono ?_
      rintro e w6 ⟨rfl, hw⟩
      subst hw
      go_wp2_with fail
      refine bodyPost_ret (v := .tuple #[.int .i64 (x : Int), .int .i64 1, .int .i64 0]) (by simp [results, Try.results89, go_sem]) rfl ⟨by rw [HE.out]; rfl, HBL.out⟩
    · have hb : decide ((x : Int) < (M : Int)) = false := decide_eq_false (by omega)
      have HE := Lib.hid (HG.out.trans (if_neg hlt))
      go_wp2_with fail
      refine (HON.out _).mono ?_
      rintro e w6 ⟨rfl, hw⟩
      subst hw
      go_wp2_with fail
      go_loopw [7, 30] (fun nn r wr => ∃ i m : Nat, nn = .int .i64 m ∧ r = .int .i64 i ∧ i ≤ 5 ∧ m ≤ 256 * 128 ^ i ∧ getGo (b0 :: bs') (5 - i) i m = getGo (b0 :: bs') 5 0 x ∧ Below w1.heap.size w1 wr) (fun _ r _ => 6 - (intOf r).toNat)
      case atStart => exact ⟨0, x, rfl, rfl, by omega, by omega, rfl, HBL.out⟩
      case round =>
        obtain ⟨i, m, rfl, rfl, hi, hm, hgo, hbw⟩ := hrel
        have HGO := Lib.hid hgo
        have HBW := Lib.hid hbw
        have HMB := Lib.hid hm
        have hpw : 128 ^ i ≤ 128 ^ 5 := Nat.pow_le_pow_right (by decide) hi
        have hm43 : m ≤ 8796093022208 := by
          have h5 : (128 : Nat) ^ 5 = 34359738368 := by decide
          omega
        clear hgo hbw hm hpw
        by_cases hi5 : i < 5
        · have hc5 : decide ((i : Int) < 5) = true := decide_eq_true (by omega)
          have hw1 : IntKind.i64.wrap ((i : Int) + 1) = (i : Int) + 1 := IntWalk.i64_in _ (by omega)
          have hw2 : IntKind.i64.wrap ((i : Int) + 2) = (i : Int) + 2 := IntWalk.i64_in _ (by omega)
          have hw7 : IntKind.i64.wrap (7 * (i : Int)) = 7 * (i : Int) := IntWalk.i64_in _ (by omega)
          by_cases hin : i + 1 < n
          · have hcn : decide ((n : Int) ≤ (i : Int) + 1) = false := decide_eq_false (by omega)
            have hcn2 : (i : Int) + 1 < (n : Int) := by omega
            have hcn3 : (0 : Int) ≤ (i : Int) + 1 := by omega
            have hiL : i + 1 < (b0 :: bs').length := by rw [HN.out]; exact hin
            obtain ⟨b', o', e', hci⟩ := (HBY.out.below HBW.out).at hiL
            obtain ⟨rfl, rfl, hz⟩ := Addr.mk.inj (Option.some.inj e')
            clear e' hz
            have hcl := H256.out (i + 1) hiL
            have HGE := Lib.hid (show (b0 :: bs')[i + 1]? = some ((b0 :: bs').getD (i + 1) 0) from by rw [List.getD_eq_getElem?_getD, List.getElem?_eq_getElem hiL]; rfl)
            generalize (b0 :: bs').getD (i + 1) 0 = c at hci hcl HGE
            have hc127 := u8_and127 c hcl
            have hwc : IntKind.i64.wrap ((c % 128 : Nat) : Int) = ((c % 128 : Nat) : Int) := IntWalk.i64_in _ (by omega)
            have hcc : c % 128 < 128 := Nat.mod_lt _ (by decide)
            generalize hcy : c % 128 = y at hc127 hwc hcc
            have hpe : ((y : Int) * 2 ^ (7 * i)) = ((y * 128 ^ i : Nat) : Int) := by
              rw [show (128 : Nat) = 2 ^ 7 from rfl, ← Nat.pow_mul]
              simp
            have hp4 : 128 ^ i ≤ 128 ^ 4 := Nat.pow_le_pow_right (by decide) (by omega)
            have hzb : y * 128 ^ i ≤ 127 * 268435456 := Nat.mul_le_mul (by omega) (by
              have h4 : (128 : Nat) ^ 4 = 268435456 := by decide
              omega)
            have hzm : y * 128 ^ i ≤ 127 * 128 ^ i := Nat.mul_le_mul_right _ (by omega)
            have hp1 : 128 ^ (i + 1) = 128 * 128 ^ i := by rw [Nat.pow_succ, Nat.mul_comm]
            have HMB2 := Lib.hid (show m + y * 128 ^ i ≤ 256 * 128 ^ (i + 1) from by have := HMB.out; omega)
            have HST := Lib.hid (show getGo (b0 :: bs') (5 - i) i m = if 128 ≤ c then getGo (b0 :: bs') (5 - (i + 1)) (i + 1) (m + y * 128 ^ i) else if 268435455 < m + y * 128 ^ i then (0, 0, 8) else (m + y * 128 ^ i, i + 2, 0) from by
              rw [show 5 - i = (5 - (i + 1)) + 1 from by omega]
              simp only [getGo, HGE.out, hcy])
            generalize y * 128 ^ i = z at hpe hzb HMB2 HST
            have hsl : IntKind.i64.wrap ((y : Int) * 2 ^ (7 * i)) = (z : Int) := by rw [hpe]; exact IntWalk.i64_in _ (by omega)
            have hsm : IntKind.i64.wrap ((m : Int) + (z : Int)) = ((m + z : Nat) : Int) := IntWalk.i64_in _ (by omega)
            generalize hs : m + z = s at hsm HMB2 HST
            have hsl' : wrap64 ((y : Int) * 2 ^ (7 * i)) = (z : Int) := (IntWalk.i64_left _).symm.trans hsl
            have hsm' : wrap64 ((m : Int) + (z : Int)) = (s : Int) := (IntWalk.i64_left _).symm.trans hsm
            clear hpe hp4 hzb hzm hp1 hs hm43
            by_cases hc128 : 128 ≤ c
            · have hcd : decide ((128 : Int) ≤ (c : Int)) = true := decide_eq_true (by omega)
              have HS2 := Lib.hid (HGO.out.symm.trans (HST.out.trans (if_pos hc128)))
              go_wp2_with fail
              go_roundw
              case rel => exact ⟨i + 1, s, rfl, by go_num, by omega, HMB2.out, HS2.out.symm, HBW.out⟩
              case measure => simp [intOf]; omega
            · have hcd : decide ((128 : Int) ≤ (c : Int)) = false := decide_eq_false (by omega)
              have HS2 := Lib.hid (HST.out.trans (if_neg hc128))
              by_cases hbig : 268435455 < s
              · have hbd := big_yes hbig
                have HE3 := Lib.hid (HE.out.trans (HGO.out.symm.trans (HS2.out.trans (if_pos hbig))))
                go_wp2_with fail
                refine bodyPost_ret (v := .tuple #[.int .i64 0, .int .i64 0, .int .i64 8]) (by simp [results, Try.results89, go_sem]) rfl ⟨by rw [HE3.out]; rfl, HBW.out⟩
              · have hbd := big_no hbig
                have HE3 := Lib.hid (HE.out.trans (HGO.out.symm.trans (HS2.out.trans (if_neg hbig))))
                go_wp2_with fail
                refine bodyPost_ret (v := .tuple #[.int .i64 (s : Int), .int .i64 ((i : Int) + 2), .int .i64 0]) (by simp [results, Try.results89, go_sem]) rfl ⟨by rw [HE3.out]; rfl, HBW.out⟩
          · have hcn : decide ((n : Int) ≤ (i : Int) + 1) = true := decide_eq_true (by omega)
            have HGE := Lib.hid (show (b0 :: bs')[i + 1]? = none from List.getElem?_eq_none (by rw [HN.out]; omega))
            have HE3 := Lib.hid (HE.out.trans (HGO.out.symm.trans (show getGo (b0 :: bs') (5 - i) i m = (0, 0, 3) from by
              rw [show 5 - i = (5 - (i + 1)) + 1 from by omega]
              simp only [getGo, HGE.out])))
            go_wp2_with fail
            refine bodyPost_ret (v := .tuple #[.int .i64 0, .int .i64 0, .int .i64 3]) (by simp [results, Try.results89, go_sem]) rfl ⟨by rw [HE3.out]; rfl, HBW.out⟩
        · obtain rfl : i = 5 := by omega
          have HE3 := Lib.hid (HE.out.trans (HGO.out.symm.trans (show getGo (b0 :: bs') (5 - 5) 5 m = (0, 0, 8) from rfl)))
          go_wp2_with fail
          refine bodyPost_ret (v := .tuple #[.int .i64 0, .int .i64 0, .int .i64 8]) (by simp [results, Try.results89, go_sem]) rfl ⟨by rw [HE3.out]; rfl, HBW.out⟩
end Go.Proofs.Yteceinojmdgmeaa


/- repr's small functions: form, texts, extra, Check, kind; prefint.Size. -/
namespace Go.Proofs.Yteceinojmdgmeaa
open Go.RowKit
set_option linter.unusedVariables false
set_option linter.unusedSimpArgs false

def formF : Nat → Nat
  | 0 => 128
  | 1 => 64
  | 3 => 16
  | 4 => 32
  | _ => 0
def formB : Nat → Nat
  | 0 => 7
  | 1 => 6
  | 4 => 5
  | _ => 4
theorem form_k4 (k : Nat) (hk : k ≤ 4) : formF k < 256 ∧ K4 (formB k) := by
  rcases (show k = 0 ∨ k = 1 ∨ k = 2 ∨ k = 3 ∨ k = 4 from by omega) with rfl | rfl | rfl | rfl | rfl <;> (unfold K4; decide)
theorem form_any (k : Nat) (hk : k ≤ 4) (w : World) : Calls Try.prog 49 #[.int .u8 (k : Int)] w fun e w' => e = .returned (.tuple #[.int .u8 ((formF k : Nat) : Int), .int .i64 ((formB k : Nat) : Int)]) ∧ w' = w := by
  rcases (show k = 0 ∨ k = 1 ∨ k = 2 ∨ k = 3 ∨ k = 4 from by omega) with rfl | rfl | rfl | rfl | rfl
  · go_enter Try.func49, Try.ntmps49
    go_wp2_with fail
    exact bodyPost_ret (v := .tuple #[.int .u8 128, .int .i64 7]) (by simp [results, Try.results49, go_sem]) rfl ⟨rfl, rfl⟩
  · go_enter Try.func49, Try.ntmps49
    go_wp2_with fail
    exact bodyPost_ret (v := .tuple #[.int .u8 64, .int .i64 6]) (by simp [results, Try.results49, go_sem]) rfl ⟨rfl, rfl⟩
  · go_enter Try.func49, Try.ntmps49
    go_wp2_with fail
    exact bodyPost_ret (v := .tuple #[.int .u8 0, .int .i64 4]) (by simp [results, Try.results49, go_sem]) rfl ⟨rfl, rfl⟩
  · go_enter Try.func49, Try.ntmps49
    go_wp2_with fail
    exact bodyPost_ret (v := .tuple #[.int .u8 16, .int .i64 4]) (by simp [results, Try.results49, go_sem]) rfl ⟨rfl, rfl⟩
  · go_enter Try.func49, Try.ntmps49
    go_wp2_with fail
    exact bodyPost_ret (v := .tuple #[.int .u8 32, .int .i64 5]) (by simp [results, Try.results49, go_sem]) rfl ⟨rfl, rfl⟩
/-- Has a kind texts? -/
def litK (k : Nat) : Bool := decide (1 ≤ k) && decide (k ≤ 3)
theorem texts_any (k : Nat) (hk : k < 256) (w : World) : Calls Try.prog 51 #[.int .u8 (k : Int)] w fun e w' => e = .returned (.bool (litK k)) ∧ w' = w := by
  by_cases h1 : k = 1
  · subst h1
    go_enter Try.func51, Try.ntmps51
    go_wp2_with fail
    go_ret
    exact ⟨rfl, rfl⟩
  by_cases h2 : k = 2
  · subst h2
    go_enter Try.func51, Try.ntmps51
    go_wp2_with fail
    go_ret
    exact ⟨rfl, rfl⟩
  by_cases h3 : k = 3
  · subst h3
    go_enter Try.func51, Try.ntmps51
    go_wp2_with fail
    go_ret
    exact ⟨rfl, rfl⟩
  have q1 : ((k : Int) == 1) = false := by simp; omega
  have q2 : ((k : Int) == 2) = false := by simp; omega
  have q3 : ((k : Int) == 3) = false := by simp; omega
  have HL := Lib.hid (show litK k = false from by
    unfold litK
    rw [Bool.and_eq_false_iff]
    by_cases h : 1 ≤ k
    · exact .inr (decide_eq_false (by omega))
    · exact .inl (decide_eq_false h))
  clear h1 h2 h3
  go_enter Try.func51, Try.ntmps51
  go_wp2_with fail
  go_ret
  exact ⟨by rw [HL.out]; rfl, rfl⟩
theorem psize_any (n : Nat) (hn : n ≤ 268435455) (w : World) : Calls Try.prog 77 #[.int .i64 7, .int .i64 (n : Int)] w fun e w' => e = .returned (.int .i64 (((putN 0 7 n).length : Nat) : Int)) ∧ Below w.heap.size w w' := by
  have HP := Lib.hid (show ∀ W, Calls Try.prog 50 #[.int .u8 0, .int .i64 7, .int .i64 (n : Int)] W (PutPost 0 7 n W) from fun W => put_any 0 7 n (by omega) (by unfold K4; decide) hn W)
  go_enter Try.func77, Try.ntmps77
  go_wp2_with fail
  refine (HP.out _).mono ?_
  rintro e w1 ⟨v, rfl, ho, hb⟩
  have HB := Lib.hid hb
  obtain ⟨oa, cap, rfl, _⟩ := ownB_bytes ho
  clear hb ho
  go_wp2_with fail
  go_ret
  exact ⟨rfl, HB.out⟩
end Go.Proofs.Yteceinojmdgmeaa

