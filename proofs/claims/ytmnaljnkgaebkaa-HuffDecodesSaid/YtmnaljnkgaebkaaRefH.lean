/- HuffCodes: what the law's function does: for every byte and every text it returns true. -/
import Derived.Test.YtmnaljnkgaebkaaRefG
import Derived.Deep.RegionHeld
namespace Go.Proofs.Ytmnaljnkgaebkaa
open Go.RowKit
set_option linter.unusedVariables false
set_option linter.unusedSimpArgs false

def encS (s : ByteArray) : ByteArray := ⟨(encU s.data.toList).toArray⟩
/-- A value that is the text A once converted, in every world that keeps what is there. -/
def Conv (v : Value) (A : ByteArray) (w : World) : Prop := ∀ W, Below w.heap.size w W → (convert 28 9 v).run Try.prog W = .ok (.string A) W
def ConvPost (A : ByteArray) (w : World) (e : Ending) (w' : World) : Prop := ∃ v, e = .returned v ∧ Conv v A w' ∧ Below w.heap.size w w'
theorem conv_of {s : ByteArray} {w : World} {B : Nat} {v : Value} (h : OwnB w B v (encL s.data.toList)) : Conv v (encS s) w := fun W hb =>
  text_own W B v (encU s.data.toList) (OwnB.step (ownB_to h (encU_nat _).symm) (fun k _ hl => hb.block k hl))
theorem encode_conv (s : ByteArray) (hs : s.size ≤ 1000) (w : World) : Calls Try.prog 17 #[.string s] w (ConvPost (encS s) w) := by
  refine (encode_any s (by omega) w).mono ?_
  rintro e w' ⟨v, rfl, hO, hB⟩
  exact ⟨v, rfl, conv_of hO, hB⟩
theorem refEncode_conv (s : ByteArray) (hs : s.size ≤ 1000) (w : World) : Calls Try.prog 18 #[.string s] w (ConvPost (encS s) w) := by
  refine (refEncode_any s hs w).mono ?_
  rintro e w' ⟨v, rfl, hO, hB⟩
  exact ⟨v, rfl, conv_of hO, hB⟩
structure Far (B : Nat) (w W : World) : Prop where
  below : Below B w W
  base : B ≤ W.heap.size
theorem Far.step {B : Nat} {w W W' : World} (hb : Below W.heap.size W W') (h : Far B w W) : Far B w W' := ⟨h.below.trans (hb.mono h.base), Nat.le_trans h.base hb.size⟩
theorem Far.drew {B : Nat} {w W : World} (h : Far B w W) : Far B w W.drew := ⟨h.below.drew, h.base⟩
set_option maxRecDepth 100000 in
set_option maxHeartbeats 4000000 in
theorem codes_law (c : Nat) (hc : c < 256) (s : ByteArray) (hs : s.size ≤ 40) (w : World) : Calls Try.prog 3 #[.int .u8 (c : Int), .string s] w fun e w' => e = .returned (.bool true) ∧ Below w.heap.size w w' := by
  have hsi : ((s.size : Nat) : Int) ≤ 40 := by omega
  obtain ⟨n1, n2⟩ := len_range c hc
  have hC := code_lt30 c hc
  go_enter Try.func3, Try.ntmps3
  go_wp2_with fail
  refine (code_any c hc _).mono ?_
  rintro e w1 ⟨rfl, hB1⟩
  have HB := Lib.hid hB1
  clear hB1
  go_wp2_with fail
  refine (refCode_any c hc _).mono ?_
  rintro e w2 ⟨rfl, hw⟩
  obtain rfl := hw.symm
  clear hw
  generalize codeOf c = C at hC ⊢
  generalize lenOf c = N at n1 n2 ⊢
  have hcw : IntKind.i64.wrap ((C : Nat) : Int) = (C : Nat) := IntWalk.i64_in _ (by omega)
  have HE := Lib.hid (encode_conv s (by omega))
  have HRE := Lib.hid (refEncode_conv s (by omega))
  have HSZ := Lib.hid (size_any s (by omega))
  have HRS := Lib.hid (refSize_any s (by omega))
  generalize encS s = A at HE HRE
  generalize sizeL s.data.toList = M at HSZ HRS
  obtain ⟨B, hBB⟩ : ∃ B, w.heap.size = B := ⟨_, rfl⟩
  have HBB := Lib.hid hBB
  have hsz := HB.out.size
  rw [hBB] at HB hsz
  have HFA := Lib.hid (Far.mk HB.out hsz)
  clear hsz
  have HAW := Lib.hid awake_any
  clear hBB
  go_wp2_with fail
  go_region_held (fun w' => Far B w w') (first | exact HBN | exact HFA.out.drew) (first
    | (go_at_call 17; refine (HE.out _).mono ?_; rintro e w' ⟨v, rfl, hcvA, hb⟩; have hcv1 := hcvA _ (Below.refl _ _); (try have hcv2 := hcvB _ hb); have HBN := Far.step hb (by assumption))
    | (go_at_call 18; refine (HRE.out _).mono ?_; rintro e w' ⟨v, rfl, hcvB, hb⟩; have hcv3 := hcvB _ (Below.refl _ _); (try have hcv4 := hcvA _ hb); have HBN := Far.step hb (by assumption))
    | (go_at_call 19; refine (HSZ.out _).mono ?_; rintro e w' ⟨rfl, hb⟩; have HBN := Far.step hb (by assumption))
    | (go_at_call 20; refine (HRS.out _).mono ?_; rintro e w' ⟨rfl, rfl⟩)
    | (go_at_call 14; refine (HAW.out _).mono ?_; rintro e w' ⟨rfl, hb⟩; have HBN := Far.step hb (by assumption)))
  all_goals
    go_wp2_with fail
    go_ret
    exact ⟨rfl, by rw [HBB.out]; exact HBN.below⟩
end Go.Proofs.Ytmnaljnkgaebkaa
