/- Numerals: strconv.Itoa's and the document's. -/
import Derived.Test.YtfgicmekkjhlkaaDoorRspB
import Derived.Test.YtfgicmekkjhlkaaDoorResp
import Derived.Test.YtfgicmekkjhlkaaDoorShelf
import Derived.WalkSmall
import Derived.Lib.AppendIntMem
import Derived.Deep.RegionHeld
namespace Go.Proofs.YtfgicmekkjhlkaaDoor
open Go.RowKit
set_option linter.unusedVariables false
set_option linter.unusedSimpArgs false

def decS (n : Nat) : ByteArray := ⟨(Lib.decDigits n).toArray⟩
/-- The table of powers is as the program's text lays it. -/
def Tab (w : World) : Prop := Lib.TabIs Tryd.prog w "internal/strconv.uint64pow10" .u64 Lib.pow10Tab
theorem pow_global : ∃ g, Tryd.prog.globalNamed "internal/strconv.uint64pow10" = some g := Option.isSome_iff_exists.1 (by kernel_rfl)
theorem Tab.below {w W : World} (h : Tab w) (hb : Below w.heap.size w W) : Tab W := by
  obtain ⟨g, hg⟩ := pow_global
  have hc := Lib.TabIs.cell h hg 0 (by decide)
  exact var?_below hb hg (World.block_lt_of_cell? _ _ hc) h
theorem itoa_any (n : Nat) (hn : n ≤ 4294967295) (w : World) (hT : Tab w) : Calls Tryd.prog 38 #[.int .i64 (n : Int)] w fun e w' => e = .returned (.string (decS n)) ∧ Below w.heap.size w w' :=
  (Tryd.strconv_Itoa (n : Int) (by omega) (by omega) w hT).mono (by
    rintro e w' ⟨rfl, k, os, rfl⟩
    exact ⟨by rw [Lib.itoa_nonneg]; rfl, Lib.below_grow _ _ (Nat.le_refl _) _ _⟩)
theorem decS_one {n : Nat} (h : n < 10) : decS n = ⟨#[UInt8.ofNat (48 + n)]⟩ := by unfold decS; rw [Lib.decDigits_one h]
theorem decS_more {n : Nat} (h : ¬ n < 10) : decS n = decS (n / 10) ++ decS (n % 10) := by
  have h1 : Lib.decDigits n = Lib.decDigits (n / 10) ++ [UInt8.ofNat (48 + n % 10)] := by rw [Lib.decDigits, dif_neg h]
  unfold decS
  rw [h1, Lib.decDigits_one (Nat.mod_lt n (by omega))]
  apply ByteArray.ext
  simp
theorem nDigits_le : ∀ (k n : Nat), n < 10 ^ (k + 1) → Lib.nDigits n ≤ k + 1
  | 0, n, h => by rw [Lib.nDigits, dif_pos (by simpa using h)]; exact Nat.le_refl _
  | k + 1, n, h => by
    rw [Lib.nDigits]
    split
    · omega
    · have := nDigits_le k (n / 10) (by rw [Nat.pow_succ] at h; omega)
      omega
theorem decS_size (n : Nat) (h : n ≤ 4294967295) : (decS n).size ≤ 10 := by
  have h1 : (decS n).size = Lib.nDigits n := by rw [← Lib.decDigits_length]; rfl
  rw [h1]
  exact nDigits_le 9 n (by omega)
set_option maxRecDepth 100000 in
set_option maxHeartbeats 1000000 in
theorem show_any : ∀ (n : Nat), n ≤ 4294967295 → ∀ (w : World), Calls Tryd.prog 39 #[.int .i64 (n : Int)] w fun e w' => e = .returned (.string (decS n)) ∧ Below w.heap.size w w' := by
  intro n
  induction n using Nat.strongRecOn with
  | _ n ih =>
    intro hn w
    by_cases h : n < 10
    · have q : decide ((9 : Int) < (n : Int)) = false := decide_eq_false (by omega)
      have hw1 : IntKind.u8.wrap (n : Int) = (n : Int) := IntWalk.u8_in _ (by omega)
      have hw2 : IntKind.u8.wrap (48 + (n : Int)) = ((48 + n : Nat) : Int) := IntWalk.u8_in _ (by omega)
      have HD := Lib.hid (decS_one h)
      go_enter Tryd.func39, Tryd.ntmps39
      have hby : BytesN (w.alloc (.cells #[.int .u8 (48 + (n : Int))] 5)) (some ⟨w.heap.size, 0, none⟩) [48 + n] := fun i hi => by
        obtain rfl : i = 0 := by simp at hi; omega
        exact ⟨_, rfl, cells_new w [Value.int .u8 (48 + (n : Int))] _ 0 _ rfl⟩
      have hcv := conv_bytes (w.alloc (.cells #[.int .u8 (48 + (n : Int))] 5)) _ 1 1 [48 + n] rfl hby (fun i hi => by
        obtain rfl : i = 0 := by simp at hi; omega
        simp; omega)
      have HB := Lib.hid ((Below.refl w.heap.size w).alloc (Nat.le_refl _) (.cells #[.int .u8 (48 + (n : Int))] 5))
      have HS := Lib.hid (show bsB [48 + n] = decS n from by rw [HD.out]; rfl)
      generalize bsB [48 + n] = S at hcv HS
      clear hby
      go_wp2_with fail
      go_ret
      exact ⟨by rw [← HS.out]; rfl, HB.out⟩
    · have q : decide ((9 : Int) < (n : Int)) = true := decide_eq_true (by omega)
      have I1 := Lib.hid (ih (n / 10) (by omega) (by omega))
      have I2 := Lib.hid (ih (n % 10) (by omega) (by omega))
      have HD := Lib.hid (decS_more h)
      have hx1 : (n : Int) / 10 = ((n / 10 : Nat) : Int) := rfl
      have hx2 : (n : Int) % 10 = ((n % 10 : Nat) : Int) := rfl
      have hy1 : n / 10 ≤ 4294967295 := by omega
      have hy2 : n % 10 ≤ 4294967295 := by omega
      have hsa := decS_size (n / 10) hy1
      have hsb := decS_size (n % 10) hy2
      generalize n / 10 = a at hsa I1 HD hx1 hy1
      generalize n % 10 = b at hsb I2 HD hx2 hy2
      have hw1 : IntKind.i64.wrap (a : Int) = (a : Int) := IntWalk.i64_in _ (by omega)
      have hw2 : IntKind.i64.wrap (b : Int) = (b : Int) := IntWalk.i64_in _ (by omega)
      clear ih
      go_enter Tryd.func39, Tryd.ntmps39
      go_wp2_with fail
      refine (I1.out _).mono ?_
      rintro e w1 ⟨rfl, hb⟩
      have HB1 := Lib.hid hb
      clear hb
      go_wp2_with fail
      refine (I2.out _).mono ?_
      rintro e w2 ⟨rfl, hb⟩
      have HB2 := Lib.hid (HB1.out.trans (hb.mono HB1.out.size))
      clear hb
      go_wp2_with fail
      go_ret
      exact ⟨by rw [HD.out]; rfl, HB2.out⟩
#print axioms show_any
end Go.Proofs.YtfgicmekkjhlkaaDoor
