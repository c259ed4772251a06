/- The document's Encode: the same bytes. -/
import Derived.Test.YtmnaljnkgaebkaaRefF
namespace Go.Proofs.Ytmnaljnkgaebkaa
open Go.RowKit
set_option linter.unusedVariables false
set_option linter.unusedSimpArgs false

theorem valB_take (L : List Nat) (q k : Nat) (h : 8 * q + k < L.length) : valB ((L.drop (8 * q)).take (k + 1)) = 2 * valB ((L.drop (8 * q)).take k) + L.getD (8 * q + k) 0 := by
  have hk : k < (L.drop (8 * q)).length := by rw [List.length_drop]; omega
  rw [List.take_succ_eq_append_getElem hk, valB_snoc, List.getElem_drop, List.getD_eq_getElem?_getD, List.getElem?_eq_getElem h]
  rfl
theorem isBits_get {L : List Nat} (h : isBits L) (i : Nat) : L.getD i 0 < 2 := by
  by_cases hi : i < L.length
  · rw [List.getD_eq_getElem?_getD, List.getElem?_eq_getElem hi]; exact h _ (List.getElem_mem hi)
  · rw [List.getD_eq_getElem?_getD, List.getElem?_eq_none (by omega)]; decide
theorem isBits_part {L : List Nat} (h : isBits L) (q k : Nat) : isBits ((L.drop q).take k) := fun b hb => h b (List.mem_of_mem_drop (List.mem_of_mem_take hb))
set_option maxRecDepth 100000 in
set_option maxHeartbeats 2000000 in
theorem refEncode_any (s : ByteArray) (hs : s.size ≤ 1000) (w : World) : Calls Try.prog 18 #[.string s] w (EncPost s w) := by
  obtain ⟨i0, hi0, hz0, hz1, hz2⟩ := info_parts u8_info
  have HI := Lib.hid hi0
  have HZ0 := Lib.hid hz0
  have HZ1 := Lib.hid hz1
  have HZ2 := Lib.hid hz2
  clear hi0 hz0 hz1 hz2
  go_enter Try.func18, Try.ntmps18
  go_wp2_with fail
  refine (refBitsOf_any s hs w).mono ?_
  rintro e w1 ⟨v1, rfl, hO1, hB1⟩
  have HO1 := Lib.hid hO1
  have HB1 := Lib.hid hB1
  clear hO1 hB1
  obtain ⟨oa, cap, hv1, hby, _⟩ := ownB_bytes HO1.out
  have HBY := Lib.hid hby
  clear hby
  have hlen := padL_len (textBits s.data.toList)
  have hbb := padL_bits (textBits_bits s.data.toList)
  have hle := textBits_le s.data.toList
  have hsl : s.data.toList.length = s.size := by rw [Array.length_toList]; rfl
  have HM := Lib.hid (show sizeL s.data.toList = ((textBits s.data.toList).length + 7) / 8 from by rw [textBits_len]; rfl)
  have HE := Lib.hid (show encL s.data.toList = packN (sizeL s.data.toList) (padL (textBits s.data.toList)) from rfl)
  generalize padL (textBits s.data.toList) = L at hv1 HBY hlen hbb HE HO1
  generalize hM : ((textBits s.data.toList).length + 7) / 8 = M at hlen HM
  have hMs : M ≤ 4000 := by omega
  rw [hlen] at hv1
  subst hv1
  have HLN := Lib.hid hlen
  have HBB := Lib.hid hbb
  clear hlen hbb hle hsl hM
  go_wp2_with fail
  go_loopw [4, 5] (fun out i wr => ∃ (vv : Value) (q : Nat), out = vv ∧ q ≤ M ∧ i = .int .i64 ((8 * q : Nat) : Int) ∧ OwnB wr w1.heap.size vv (packN q L) ∧ Below w1.heap.size w1 wr) (fun _ i _ => 8 * M - (intOf i).toNat)
  case atStart => exact ⟨_, 0, rfl, Nat.zero_le _, rfl, World.ownsRow_nil _ _ _ _, Below.refl _ _⟩
  case round =>
    obtain ⟨vv, q, hv, hq, rfl, hown, bk⟩ := hrel
    obtain rfl := hv.symm
    have HO := Lib.hid hown
    have BK := Lib.hid bk
    clear hown bk hv
    by_cases hlt : q < M
    · have hqi : ((8 * q : Nat) : Int) < ((8 * M : Nat) : Int) := by omega
      generalize hI : 8 * q = I at hqi ⊢
      have HII := Lib.hid hI
      have hIM : I + 8 ≤ 8 * M := by omega
      clear hI
      go_wp2_with fail
      go_loopw [6, 7] (fun n kk wr' => ∃ k : Nat, k ≤ 8 ∧ kk = .int .i64 k ∧ n = .int .i64 (valB ((L.drop (8 * q)).take k) : Nat) ∧ wr' = wr) (fun _ kk _ => 8 - (intOf kk).toNat)
      case atStart => exact ⟨0, by omega, rfl, rfl, rfl⟩
      case round =>
        obtain ⟨k, hk, rfl, rfl, rfl⟩ := hrel
        by_cases hk8 : k < 8
        · have hki : (k : Int) < 8 := by omega
          have hvl := HLN.out
          have hv := Lib.hid (valB_take L q k (by have := HII.out; omega))
          have hvb := valB_byte _ (isBits_part HBB.out (8 * q) k) (by rw [List.length_take]; omega)
          have hb2 := isBits_get HBB.out (8 * q + k)
          obtain ⟨ad, rfl, hc0⟩ := HBY.out (8 * q + k) (by have := HII.out; omega)
          have hc1 := (cell_eq (BK.out.block _ (World.block_lt_of_cell? _ _ hc0))).trans hc0
          clear hc0
          rw [HII.out] at hc1 hb2 hv
          rw [HII.out] at hvb ⊢
          generalize valB (List.take k (List.drop I L)) = X at hv hvb ⊢
          generalize L.getD (I + k) 0 = b at hv hb2 hc1
          have hiw : IntKind.i64.wrap ((I : Int) + (k : Int)) = (I : Int) + (k : Int) := IntWalk.i64_in _ (by omega)
          have hit : ((I : Int) + (k : Int)).toNat = I + k := by omega
          have hix : (I : Int) + (k : Int) < 8 * (M : Int) := by omega
          have hix0 : 0 ≤ (I : Int) + (k : Int) := by omega
          have hxw : IntKind.i64.wrap (2 * (X : Int)) = ((2 * X : Nat) : Int) := by rw [show 2 * (X : Int) = ((2 * X : Nat) : Int) from by simp]; exact IntWalk.i64_in _ (by omega)
          go_wp2_with fail
          go_roundw
          case rel => exact ⟨k + 1, by omega, by go_num, by rw [hv.out]; simp, by trivial⟩
          case measure => simp [intOf]; try omega
        · obtain rfl : k = 8 := by omega
          have hvb := valB_byte _ (isBits_part HBB.out (8 * q) 8) (by rw [List.length_take]; omega)
          have HPS := Lib.hid (packN_succ q L)
          rw [HII.out] at hvb HPS ⊢
          generalize valB (List.take 8 (List.drop I L)) = X at hvb HPS ⊢
          have hw8 : IntKind.u8.wrap (X : Int) = X := IntWalk.u8_in _ (by omega)
          have hq1 : (packN q L).length = q := packN_len _ _
          have hc1 : ∀ u ∈ [Value.int .u8 (X : Int)], u.oneCell' = true := by intro u hu; simp at hu; subst hu; rfl
          have hc2 : q + 1 ≤ maxLen := by unfold maxLen; omega
          have hc3 : (q + 1) * 1 ≤ 140737488355328 := by omega
          have hc4 : w1.heap.size ≤ wr.heap.size := BK.out.size
          have HO2 := Lib.hid (show wr.ownsRow w1.heap.size 5 1 vv q ((packN q L).map (fun n : Nat => Value.int .u8 (n : Int))) from by have := HO.out; unfold OwnB at this; rw [hq1] at this; exact this)
          go_wp2_with (at_builtin; refine wpList_append_own_at _ rfl _ _ 28 rfl w1.heap.size 5 i0 _ 1 1 Try.underlying28 HI.out HZ0.out HZ1.out HZ2.out rfl (by omega) vv q _ rfl (HO2.out.alloc _) ⟨wr.heap.size, 0, none⟩ 1 1 [Value.int .u8 (X : Int)] rfl rfl (cells_new wr [Value.int .u8 (X : Int)] _) hc1 hc2 hc3 (by simp; omega) ?_; intro v3 w3 hown3 hg3 _ _; clear hc1 hc2 hc3)
          have B3 := Lib.hid ((BK.out.alloc hc4 _).grown hg3 (by simp; omega) (fun r hr => (HO2.out.lt r hr).1))
          have HO3 := Lib.hid (ownB_to (ownB_appR (l := packN q L) (r := [X]) hq1 rfl hown3) HPS.out.symm)
          clear hg3 hown3 hc4
          go_roundw
          case rel => exact ⟨_, q + 1, rfl, by omega, by have := HII.out; simp; omega, HO3.out, B3.out⟩
          case measure => simp [intOf]; try omega
    · obtain rfl : q = M := by omega
      have hqi : ¬ (((8 * q : Nat) : Int) < ((8 * q : Nat) : Int)) := by omega
      go_wp2_with fail
      go_ret
      exact ⟨_, rfl, ownB_to (World.ownsRow.mono HO.out HB1.out.size) (by rw [HE.out, HM.out]), HB1.out.trans (BK.out.mono HB1.out.size)⟩
def encS (s : ByteArray) : ByteArray := ⟨(encU s.data.toList).toArray⟩
/-- A value that is the text A once converted, in every world that keeps what is there. -/
def Conv (v : Value) (A : ByteArray) (w : World) : Prop := ∀ W, Below w.heap.size w W → (convert 28 9 v).run Try.prog W = .ok (.string A) W
def ConvPost (A : ByteArray) (w : World) (e : Ending) (w' : World) : Prop := ∃ v, e = .returned v ∧ Conv v A w' ∧ Below w.heap.size w w'
theorem conv_of {s : ByteArray} {w : World} {B : Nat} {v : Value} (h : OwnB w B v (encL s.data.toList)) : Conv v (encS s) w := fun W hb =>
  text_own W B v (encU s.data.toList) (OwnB.step (ownB_to h (encU_nat _).symm) (fun k _ hl => hb.block k hl))
theorem encode_conv (s : ByteArray) (hs : s.size ≤ 1000) (w : World) : Calls Try.prog 17 #[.string s] w (ConvPost (encS s) w) := by
  refine (encode_any s (by omega) w).mono ?_
  rintro e w' ⟨v, rfl, hO, hB⟩
  exact ⟨v, rfl, conv_of hO, hB⟩
theorem refEncode_conv (s : ByteArray) (hs : s.size ≤ 1000) (w : World) : Calls Try.prog 18 #[.string s] w (ConvPost (encS s) w) := by
  refine (refEncode_any s hs w).mono ?_
  rintro e w' ⟨v, rfl, hO, hB⟩
  exact ⟨v, rfl, conv_of hO, hB⟩
structure Far (B : Nat) (w W : World) : Prop where
  below : Below B w W
  base : B ≤ W.heap.size
theorem Far.step {B : Nat} {w W W' : World} (hb : Below W.heap.size W W') (h : Far B w W) : Far B w W' := ⟨h.below.trans (hb.mono h.base), Nat.le_trans h.base hb.size⟩
theorem Far.drew {B : Nat} {w W : World} (h : Far B w W) : Far B w W.drew := ⟨h.below.drew, h.base⟩
end Go.Proofs.Ytmnaljnkgaebkaa
