/- RefE · RefF · RefG · DocC: joined by a program, for a claim has at most 60 files. -/
import Derived.Test.YteceinojmdgmeaaGreatC35
import Derived.Test.YteceinojmdgmeaaGreatC07
import Derived.Laws.AppendOwnNone
import Derived.Test.YteceinojmdgmeaaGreatC08
import Derived.Test.YteceinojmdgmeaaGreatC34
import Derived.Test.YteceinojmdgmeaaGreatC24
/- The document's bits of a code, and of a text. -/
namespace Go.Proofs.YteceinojmdgmeaaGreat
open Go.RowKit
set_option linter.unusedVariables false
set_option linter.unusedSimpArgs false

theorem bitsN_head : ∀ (j v : Nat), bitsN (j + 1) v = (v / 2 ^ j % 2) :: bitsN j v
  | 0, v => by simp [bitsN]
  | j + 1, v => by
    have h := bitsN_head j (v / 2)
    have e : v / 2 / 2 ^ j = v / 2 ^ (j + 1) := by rw [Nat.div_div_eq_div_mul, Nat.pow_succ, Nat.mul_comm]
    rw [bitsN, h, e]
    rfl
theorem lit_bits {C D B : Nat} {W : World} (h : bitsN (0 + 1) C = (D % 2) :: bitsN 0 C) (hb : B ≤ W.heap.size) :
    OwnB (W.alloc (.cells #[Value.int .u8 ((D : Int) % 2)] 5)) B (.slice (some ⟨W.heap.size, 0, none⟩) 1 1) (bitsN 1 C) := by
  rw [show bitsN 1 C = [D % 2] from h]
  exact World.ownsRow.mono (World.ownsRow_lit W #[Value.int .u8 ((D : Int) % 2)] 1 (Nat.le_refl _) (by decide) rfl) hb
theorem bits_more {C D B j : Nat} {W : World} {v : Value} (h : bitsN (j + 1) C = (D % 2) :: bitsN j C)
    (ho : W.ownsRow B 5 1 v (1 + j) ([Value.int .u8 ((D : Int) % 2)] ++ (bitsN j C).map (fun n : Nat => Value.int .u8 (n : Int)))) : OwnB W B v (bitsN (j + 1) C) := by
  have e : (bitsN (j + 1) C).length = 1 + j := by rw [bitsN_len]; omega
  unfold OwnB
  rw [e, h]
  exact ho
def BitsPost (l : List Nat) (w : World) (e : Ending) (w' : World) : Prop := ∃ v, e = .returned v ∧ OwnB w' w.heap.size v l ∧ Below w.heap.size w w'
set_option maxRecDepth 100000 in
set_option maxHeartbeats 2000000 in
theorem refBits_any (C N : Nat) (hC : C < 1073741824) (hN : N ≤ 30) (w : World) : Calls Tryz.prog 95 #[.int .i64 (C : Int), .int .i64 (N : Int)] w (BitsPost (bitsN N C) w) := by
  obtain ⟨i0, hi0, hz0, hz1, hz2⟩ := info_parts u8_info
  have HI := Lib.hid hi0
  have HZ0 := Lib.hid hz0
  have HZ1 := Lib.hid hz1
  have HZ2 := Lib.hid hz2
  clear hi0 hz0 hz1 hz2
  go_enter Tryz.func95, Tryz.ntmps95
  go_wp2_with fail
  go_loopw [0, 5, 6] (fun cd out i wr => ∃ (vv : Value) (j : Nat), out = vv ∧ j ≤ N ∧ i = .int .i64 j ∧ cd = .int .i64 ((C / 2 ^ j : Nat) : Int) ∧ OwnB wr w.heap.size vv (bitsN j C) ∧ (j = 0 → vv = .slice none 0 0) ∧ Below w.heap.size w wr) (fun _ _ i _ => N - (intOf i).toNat)
  case atStart => exact ⟨_, 0, rfl, Nat.zero_le _, rfl, by simp, World.ownsRow_nil _ _ _ _, fun _ => rfl, Below.refl _ _⟩
  case round =>
    obtain ⟨vv, j, hv, hj, rfl, rfl, hown, hnil, bk⟩ := hrel
    obtain rfl := hv.symm
    have HO := Lib.hid hown
    have BK := Lib.hid bk
    have HNI := Lib.hid hnil
    clear hown bk hnil hv
    by_cases hlt : j < N
    · have hli : (j : Int) < (N : Int) := by omega
      have HH := Lib.hid (bitsN_head j C)
      have hD : C / 2 ^ j ≤ C := Nat.div_le_self _ _
      have HD2 := Lib.hid (show C / 2 ^ (j + 1) = C / 2 ^ j / 2 from by rw [Nat.div_div_eq_div_mul, Nat.pow_succ])
      generalize C / 2 ^ j = D at HH hD HD2
      have hbs : (bitsN j C).length = j := bitsN_len _ _
      have hc1 : ∀ u ∈ [Value.int .u8 ((D % 2 : Nat) : Int)], u.oneCell' = true := by intro u hu; simp at hu; subst hu; rfl
      by_cases hj0 : j = 0
      · subst hj0
        obtain rfl := HNI.out rfl
        go_wp2_with fail
        go_roundw
        case rel => exact ⟨_, 1, rfl, by omega, rfl, by rw [HD2.out]; simp, lit_bits (HH.out) BK.out.size, (fun e => by cases e), BK.out.alloc BK.out.size _⟩
        case measure => simp [intOf]; omega
      · obtain ⟨g, cap, rfl, hgb, hgs⟩ := HO.out.form (by omega)
        rw [hbs] at HO ⊢
        have hone : ∀ u ∈ (bitsN j C).map (fun n : Nat => Value.int .u8 (n : Int)), u.oneCell' = true := by intro u hu; obtain ⟨n, _, rfl⟩ := List.mem_map.1 hu; rfl
        have hc2 : 1 + j ≤ maxLen := by unfold maxLen; omega
        have hc3 : (1 + j) * 1 ≤ 140737488355328 := by omega
        have hc4 : w.heap.size ≤ wr.heap.size := BK.out.size
        go_wp2_with (at_builtin; refine wpList_append_own_at _ rfl _ _ 27 rfl w.heap.size 5 i0 _ 1 1 Tryz.underlying27 HI.out HZ0.out HZ1.out HZ2.out rfl (by omega) (.slice (some ⟨wr.heap.size, 0, none⟩) 1 1) 1 [Value.int .u8 ((D : Int) % 2)] rfl (World.ownsRow.mono (World.ownsRow_lit wr #[Value.int .u8 ((D : Int) % 2)] 1 (Nat.le_refl _) (by decide) rfl) hc4) ⟨g, 0, none⟩ j cap ((bitsN j C).map (fun n : Nat => Value.int .u8 (n : Int))) rfl (by rw [List.length_map, bitsN_len, Nat.mul_one]) (fun q u hq => World.ownsRow.cells (HO.out.alloc _) rfl q u hq) hone hc2 hc3 (by simp; omega) ?_; intro v3 w3 hown3 hg3 _ _; clear hc2 hc3 hone)
        have B3 := Lib.hid ((BK.out.alloc BK.out.size _).grown hg3 (by simp; omega) (fun q hq => by cases hq; exact hc4))
        have HO3 := Lib.hid (bits_more HH.out hown3)
        clear hg3 hown3 hc4
        go_roundw
        case rel => exact ⟨_, j + 1, rfl, by omega, by go_num, by rw [HD2.out]; simp, HO3.out, (fun e => by omega), B3.out⟩
        case measure => simp [intOf]; omega
    · obtain rfl : j = N := by omega
      go_wp2_with fail
      go_ret
      exact ⟨_, rfl, HO.out, BK.out⟩
end Go.Proofs.YteceinojmdgmeaaGreat


/- The document's bits of a text, with ones behind. -/
namespace Go.Proofs.YteceinojmdgmeaaGreat
open Go.RowKit
set_option linter.unusedVariables false
set_option linter.unusedSimpArgs false

theorem ownB_appR {W : World} {B : Nat} {v : Value} {l r : List Nat} {n m : Nat} (hn : l.length = n) (hm : r.length = m)
    (h : W.ownsRow B 5 1 v (n + m) (l.map (fun n : Nat => Value.int .u8 (n : Int)) ++ r.map (fun n : Nat => Value.int .u8 (n : Int)))) : OwnB W B v (l ++ r) := by
  unfold OwnB
  rw [List.length_append, hn, hm, List.map_append]
  exact h
def sliceLenV : Value → Nat
  | .slice _ n _ => n
  | _ => 0
theorem one_cells (l : List Nat) : ∀ u ∈ l.map (fun n : Nat => Value.int .u8 (n : Int)), u.oneCell' = true := by
  intro u hu
  obtain ⟨n, _, rfl⟩ := List.mem_map.1 hu
  rfl
set_option maxRecDepth 100000 in
set_option maxHeartbeats 2000000 in
theorem refBitsOf_any (s : ByteArray) (hs : s.size ≤ 1000) (w : World) : Calls Tryz.prog 89 #[.string s] w (BitsPost (padL (textBits s.data.toList)) w) := by
  obtain ⟨i0, hi0, hz0, hz1, hz2⟩ := info_parts u8_info
  have HI := Lib.hid hi0
  have HZ0 := Lib.hid hz0
  have HZ1 := Lib.hid hz1
  have HZ2 := Lib.hid hz2
  clear hi0 hz0 hz1 hz2
  go_enter Tryz.func89, Tryz.ntmps89
  go_wp2_with fail
  go_loopw [3, 4] (fun out i wr => ∃ (vv : Value) (k : Nat), out = vv ∧ k ≤ s.size ∧ i = .int .i64 k ∧ OwnB wr w.heap.size vv (bitsTo s k) ∧ Below w.heap.size w wr) (fun _ i _ => s.size - (intOf i).toNat)
  case atStart => exact ⟨_, 0, rfl, Nat.zero_le _, rfl, by rw [bitsTo_zero]; exact World.ownsRow_nil _ _ _ _, Below.refl _ _⟩
  case round =>
    obtain ⟨vv, k, hv, hk, rfl, hown, bk⟩ := hrel
    obtain rfl := hv.symm
    have HO := Lib.hid hown
    have BK := Lib.hid bk
    clear hown bk hv
    by_cases hlt : k < s.size
    · have HS := Lib.hid (bitsTo_succ s k hlt)
      have hln := bitsTo_len s k hk (by omega)
      have hb := byte_lt s[k]
      obtain ⟨n1, n2⟩ := len_range s[k].toNat hb
      have hC := code_lt30 s[k].toNat hb
      go_wp2_with fail
      refine (refCode_any s[k].toNat hb _).mono ?_
      rintro e w' ⟨rfl, hw⟩
      obtain rfl := hw.symm
      clear hw
      have HBB := Lib.hid (show byteBits s[k] = bitsN (lenOf s[k].toNat) (codeOf s[k].toNat) from rfl)
      generalize byteBits s[k] = bb at HS HBB
      generalize lenOf s[k].toNat = N at n1 n2 HBB ⊢
      generalize codeOf s[k].toNat = C at hC HBB ⊢
      go_wp2_with fail
      refine (refBits_any C N hC n2 wr).mono ?_
      rintro e w2 ⟨v2, rfl, hO2, hB2⟩
      have HO2 := Lib.hid hO2
      have HB2 := Lib.hid hB2
      clear hO2 hB2
      obtain ⟨g, cap, rfl, hgb, hgs⟩ := HO2.out.form (by rw [bitsN_len]; omega)
      rw [bitsN_len] at HO2 ⊢
      have HO1 := Lib.hid (OwnB.step HO.out (fun q hq hl => HB2.out.block q hl))
      have hsz := HB2.out.size
      have hsz0 := BK.out.size
      generalize hT : bitsTo s k = T at HO HO1 HS hln
      have hone := one_cells (bitsN N C)
      have hc2 : T.length + N ≤ maxLen := by unfold maxLen; omega
      have hc3 : (T.length + N) * 1 ≤ 140737488355328 := by omega
      go_wp2_with (at_builtin; refine wpList_append_own_at _ rfl _ _ 27 rfl w.heap.size 5 i0 _ 1 1 Tryz.underlying27 HI.out HZ0.out HZ1.out HZ2.out rfl (by omega) vv _ _ rfl HO1.out ⟨g, 0, none⟩ N cap ((bitsN N C).map (fun n : Nat => Value.int .u8 (n : Int))) rfl (by rw [List.length_map, bitsN_len, Nat.mul_one]) (fun q u hq => World.ownsRow.cells HO2.out rfl q u hq) hone hc2 hc3 (by omega) ?_; intro v3 w3 hown3 hg3 _ _; clear hc2 hc3 hone)
      have B3 := Lib.hid (((BK.out.trans (HB2.out.mono hsz0))).grown hg3 (by omega) (fun q hq => (HO1.out.lt q hq).1))
      have HO3 := Lib.hid (ownB_to (ownB_appR rfl (bitsN_len N C) hown3) (show T ++ bitsN N C = bitsTo s (k + 1) by rw [HS.out, HBB.out]))
      clear hg3 hown3
      go_roundw
      case rel => exact ⟨_, k + 1, rfl, by omega, by go_num, HO3.out, B3.out⟩
      case measure => simp [intOf]; omega
    · obtain rfl : k = s.size := by omega
      have hln := bitsTo_len s s.size hk (by omega)
      have HA := Lib.hid (bitsTo_all s)
      rw [HA.out] at HO hln
      generalize hTT : textBits s.data.toList = T at HO hln ⊢
      have HTT := Lib.hid hTT
      clear hTT
      go_wp2_with fail
      go_loopw [3] (fun out wr' => ∃ (vv : Value) (r : Nat), out = vv ∧ r ≤ (8 - T.length % 8) % 8 ∧ OwnB wr' w.heap.size vv (T ++ List.replicate r 1) ∧ Below w.heap.size w wr') (fun out _ => T.length + 8 - sliceLenV out)
      case atStart => exact ⟨_, 0, rfl, Nat.zero_le _, by simpa using HO.out, BK.out⟩
      case round =>
        clear HO BK
        obtain ⟨vv, r, hv, hr, hown, bk⟩ := hrel
        obtain rfl := hv.symm
        have HO := Lib.hid hown
        have BK := Lib.hid bk
        clear hown bk hv
        obtain ⟨oa, cap, hv, _, _⟩ := ownB_bytes HO.out
        have hN : (T ++ List.replicate r 1).length = T.length + r := by simp
        have HN := Lib.hid hN
        rw [hN] at hv
        generalize T.length + r = n at hv hN HN
        have hnr : n = T.length + r := by rw [← hN]; simp
        subst hv
        clear hN
        by_cases hrp : r < (8 - T.length % 8) % 8
        · have hx : ((n : Int) % 8 != 0) = true := by simp; omega
          have hc1 : ∀ u ∈ [Value.int .u8 1], u.oneCell' = true := by intro u hu; simp at hu; subst hu; rfl
          have hc2 : n + 1 ≤ maxLen := by unfold maxLen; omega
          have hc3 : (n + 1) * 1 ≤ 140737488355328 := by omega
          have hc4 : w.heap.size ≤ wr.heap.size := BK.out.size
          have HO2 := Lib.hid (show wr.ownsRow w.heap.size 5 1 (.slice oa n cap) n ((T ++ List.replicate r 1).map (fun n : Nat => Value.int .u8 (n : Int))) from by have := HO.out; unfold OwnB at this; rw [HN.out] at this; exact this)
          go_wp2_with (at_builtin; refine wpList_append_own_at _ rfl _ _ 27 rfl w.heap.size 5 i0 _ 1 1 Tryz.underlying27 HI.out HZ0.out HZ1.out HZ2.out rfl (by omega) (.slice oa n cap) n _ rfl (HO2.out.alloc _) ⟨wr.heap.size, 0, none⟩ 1 1 [Value.int .u8 1] rfl rfl (cells_new wr [Value.int .u8 1] _) hc1 hc2 hc3 (by simp; omega) ?_; intro v3 w3 hown3 hg3 _ _; clear hc1 hc2 hc3)
          have B3 := Lib.hid ((BK.out.alloc hc4 _).grown hg3 (by simp; omega) (fun q hq => (HO2.out.lt q hq).1))
          have HO3 := Lib.hid (ownB_to (ownB_appR (l := T ++ List.replicate r 1) (r := [1]) HN.out rfl hown3) (show T ++ List.replicate r 1 ++ [1] = T ++ List.replicate (r + 1) 1 by rw [List.append_assoc, List.replicate_succ']))
          clear hg3 hown3 hc4
          go_roundw
          case rel => exact ⟨_, r + 1, rfl, by omega, HO3.out, B3.out⟩
          case measure =>
            obtain ⟨oa3, cap3, hv3, _, _⟩ := ownB_bytes HO3.out
            subst hv3
            simp [sliceLenV]; omega
        · have hx : ((n : Int) % 8 != 0) = false := by simp; omega
          have hrr : r = (8 - T.length % 8) % 8 := by omega
          go_wp2_with fail
          go_ret
          exact ⟨_, rfl, ownB_to HO.out (by unfold padL; rw [hrr, HTT.out]), BK.out⟩
end Go.Proofs.YteceinojmdgmeaaGreat


/- The document's Encode: the same bytes. -/
namespace Go.Proofs.YteceinojmdgmeaaGreat
open Go.RowKit
set_option linter.unusedVariables false
set_option linter.unusedSimpArgs false

theorem valB_take (L : List Nat) (q k : Nat) (h : 8 * q + k < L.length) : valB ((L.drop (8 * q)).take (k + 1)) = 2 * valB ((L.drop (8 * q)).take k) + L.getD (8 * q + k) 0 := by
  have hk : k < (L.drop (8 * q)).length := by rw [List.length_drop]; omega
  rw [List.take_succ_eq_append_getElem hk, valB_snoc, List.getElem_drop, List.getD_eq_getElem?_getD, List.getElem?_eq_getElem h]
  rfl
theorem isBits_get {L : List Nat} (h : isBits L) (i : Nat) : L.getD i 0 < 2 := by
  by_cases hi : i < L.length
  · rw [List.getD_eq_getElem?_getD, List.getElem?_eq_getElem hi]; exact h _ (List.getElem_mem hi)
  · rw [List.getD_eq_getElem?_getD, List.getElem?_eq_none (by omega)]; decide
theorem isBits_part {L : List Nat} (h : isBits L) (q k : Nat) : isBits ((L.drop q).take k) := fun b hb => h b (List.mem_of_mem_drop (List.mem_of_mem_take hb))
set_option maxRecDepth 100000 in
set_option maxHeartbeats 2000000 in
theorem refEncode_any (s : ByteArray) (hs : s.size ≤ 1000) (w : World) : Calls Tryz.prog 81 #[.string s] w (EncPost s w) := by
  obtain ⟨i0, hi0, hz0, hz1, hz2⟩ := info_parts u8_info
  have HI := Lib.hid hi0
  have HZ0 := Lib.hid hz0
  have HZ1 := Lib.hid hz1
  have HZ2 := Lib.hid hz2
  clear hi0 hz0 hz1 hz2
  go_enter Tryz.func81, Tryz.ntmps81
  go_wp2_with fail
  refine (refBitsOf_any s hs w).mono ?_
  rintro e w1 ⟨v1, rfl, hO1, hB1⟩
  have HO1 := Lib.hid hO1
  have HB1 := Lib.hid hB1
  clear hO1 hB1
  obtain ⟨oa, cap, hv1, hby, _⟩ := ownB_bytes HO1.out
  have HBY := Lib.hid hby
  clear hby
  have hlen := padL_len (textBits s.data.toList)
  have hbb := padL_bits (textBits_bits s.data.toList)
  have hle := textBits_le s.data.toList
  have hsl : s.data.toList.length = s.size := by rw [Array.length_toList]; rfl
  have HM := Lib.hid (show sizeL s.data.toList = ((textBits s.data.toList).length + 7) / 8 from by rw [textBits_len]; rfl)
  have HE := Lib.hid (show encL s.data.toList = packN (sizeL s.data.toList) (padL (textBits s.data.toList)) from rfl)
  generalize padL (textBits s.data.toList) = L at hv1 HBY hlen hbb HE HO1
  generalize hM : ((textBits s.data.toList).length + 7) / 8 = M at hlen HM
  have hMs : M ≤ 4000 := by omega
  rw [hlen] at hv1
  subst hv1
  have HLN := Lib.hid hlen
  have HBB := Lib.hid hbb
  clear hlen hbb hle hsl hM
  go_wp2_with fail
  go_loopw [4, 5] (fun out i wr => ∃ (vv : Value) (q : Nat), out = vv ∧ q ≤ M ∧ i = .int .i64 ((8 * q : Nat) : Int) ∧ OwnB wr w1.heap.size vv (packN q L) ∧ Below w1.heap.size w1 wr) (fun _ i _ => 8 * M - (intOf i).toNat)
  case atStart => exact ⟨_, 0, rfl, Nat.zero_le _, rfl, World.ownsRow_nil _ _ _ _, Below.refl _ _⟩
  case round =>
    obtain ⟨vv, q, hv, hq, rfl, hown, bk⟩ := hrel
    obtain rfl := hv.symm
    have HO := Lib.hid hown
    have BK := Lib.hid bk
    clear hown bk hv
    by_cases hlt : q < M
    · have hqi : ((8 * q : Nat) : Int) < ((8 * M : Nat) : Int) := by omega
      generalize hI : 8 * q = I at hqi ⊢
      have HII := Lib.hid hI
      have hIM : I + 8 ≤ 8 * M := by omega
      clear hI
      go_wp2_with fail
      go_loopw [6, 7] (fun n kk wr' => ∃ k : Nat, k ≤ 8 ∧ kk = .int .i64 k ∧ n = .int .i64 (valB ((L.drop (8 * q)).take k) : Nat) ∧ wr' = wr) (fun _ kk _ => 8 - (intOf kk).toNat)
      case atStart => exact ⟨0, by omega, rfl, rfl, rfl⟩
      case round =>
        obtain ⟨k, hk, rfl, rfl, rfl⟩ := hrel
        by_cases hk8 : k < 8
        · have hki : (k : Int) < 8 := by omega
          have hvl := HLN.out
          have hv := Lib.hid (valB_take L q k (by have := HII.out; omega))
          have hvb := valB_byte _ (isBits_part HBB.out (8 * q) k) (by rw [List.length_take]; omega)
          have hb2 := isBits_get HBB.out (8 * q + k)
          obtain ⟨ad, rfl, hc0⟩ := HBY.out (8 * q + k) (by have := HII.out; omega)
          have hc1 := (cell_eq (BK.out.block _ (World.block_lt_of_cell? _ _ hc0))).trans hc0
          clear hc0
          rw [HII.out] at hc1 hb2 hv
          rw [HII.out] at hvb ⊢
          generalize valB (List.take k (List.drop I L)) = X at hv hvb ⊢
          generalize L.getD (I + k) 0 = b at hv hb2 hc1
          have hiw : IntKind.i64.wrap ((I : Int) + (k : Int)) = (I : Int) + (k : Int) := IntWalk.i64_in _ (by omega)
          have hit : ((I : Int) + (k : Int)).toNat = I + k := by omega
          have hix : (I : Int) + (k : Int) < 8 * (M : Int) := by omega
          have hix0 : 0 ≤ (I : Int) + (k : Int) := by omega
          have hxw : IntKind.i64.wrap (2 * (X : Int)) = ((2 * X : Nat) : Int) := by rw [show 2 * (X : Int) = ((2 * X : Nat) : Int) from by simp]; exact IntWalk.i64_in _ (by omega)
          go_wp2_with fail
          go_roundw
          case rel => exact ⟨k + 1, by omega, by go_num, by rw [hv.out]; simp, by trivial⟩
          case measure => simp [intOf]; try omega
        · obtain rfl : k = 8 := by omega
          have hvb := valB_byte _ (isBits_part HBB.out (8 * q) 8) (by rw [List.length_take]; omega)
          have HPS := Lib.hid (packN_succ q L)
          rw [HII.out] at hvb HPS ⊢
          generalize valB (List.take 8 (List.drop I L)) = X at hvb HPS ⊢
          have hw8 : IntKind.u8.wrap (X : Int) = X := IntWalk.u8_in _ (by omega)
          have hq1 : (packN q L).length = q := packN_len _ _
          have hc1 : ∀ u ∈ [Value.int .u8 (X : Int)], u.oneCell' = true := by intro u hu; simp at hu; subst hu; rfl
          have hc2 : q + 1 ≤ maxLen := by unfold maxLen; omega
          have hc3 : (q + 1) * 1 ≤ 140737488355328 := by omega
          have hc4 : w1.heap.size ≤ wr.heap.size := BK.out.size
          have HO2 := Lib.hid (show wr.ownsRow w1.heap.size 5 1 vv q ((packN q L).map (fun n : Nat => Value.int .u8 (n : Int))) from by have := HO.out; unfold OwnB at this; rw [hq1] at this; exact this)
          go_wp2_with (at_builtin; refine wpList_append_own_at _ rfl _ _ 27 rfl w1.heap.size 5 i0 _ 1 1 Tryz.underlying27 HI.out HZ0.out HZ1.out HZ2.out rfl (by omega) vv q _ rfl (HO2.out.alloc _) ⟨wr.heap.size, 0, none⟩ 1 1 [Value.int .u8 (X : Int)] rfl rfl (cells_new wr [Value.int .u8 (X : Int)] _) hc1 hc2 hc3 (by simp; omega) ?_; intro v3 w3 hown3 hg3 _ _; clear hc1 hc2 hc3)
          have B3 := Lib.hid ((BK.out.alloc hc4 _).grown hg3 (by simp; omega) (fun r hr => (HO2.out.lt r hr).1))
          have HO3 := Lib.hid (ownB_to (ownB_appR (l := packN q L) (r := [X]) hq1 rfl hown3) HPS.out.symm)
          clear hg3 hown3 hc4
          go_roundw
          case rel => exact ⟨_, q + 1, rfl, by omega, by have := HII.out; simp; omega, HO3.out, B3.out⟩
          case measure => simp [intOf]; try omega
    · obtain rfl : q = M := by omega
      have hqi : ¬ (((8 * q : Nat) : Int) < ((8 * q : Nat) : Int)) := by omega
      go_wp2_with fail
      go_ret
      exact ⟨_, rfl, ownB_to (World.ownsRow.mono HO.out HB1.out.size) (by rw [HE.out, HM.out]), HB1.out.trans (BK.out.mono HB1.out.size)⟩
def encS (s : ByteArray) : ByteArray := ⟨(encU s.data.toList).toArray⟩
/-- A value that is the text A once converted, in every world that keeps what is there. -/
def Conv (v : Value) (A : ByteArray) (w : World) : Prop := ∀ W, Below w.heap.size w W → (convert 27 9 v).run Tryz.prog W = .ok (.string A) W
def ConvPost (A : ByteArray) (w : World) (e : Ending) (w' : World) : Prop := ∃ v, e = .returned v ∧ Conv v A w' ∧ Below w.heap.size w w'
theorem conv_of {s : ByteArray} {w : World} {B : Nat} {v : Value} (h : OwnB w B v (encL s.data.toList)) : Conv v (encS s) w := fun W hb =>
  text_own W B v (encU s.data.toList) (OwnB.step (ownB_to h (encU_nat _).symm) (fun k _ hl => hb.block k hl))
theorem refEncode_conv (s : ByteArray) (hs : s.size ≤ 1000) (w : World) : Calls Tryz.prog 81 #[.string s] w (ConvPost (encS s) w) := by
  refine (refEncode_any s hs w).mono ?_
  rintro e w' ⟨v, rfl, hO, hB⟩
  exact ⟨v, rfl, conv_of hO, hB⟩
structure Far (B : Nat) (w W : World) : Prop where
  below : Below B w W
  base : B ≤ W.heap.size
theorem Far.step {B : Nat} {w W W' : World} (hb : Below W.heap.size W W') (h : Far B w W) : Far B w W' := ⟨h.below.trans (hb.mono h.base), Nat.le_trans h.base hb.size⟩
theorem Far.drew {B : Nat} {w W : World} (h : Far B w W) : Far B w W.drew := ⟨h.below.drew, h.base⟩
end Go.Proofs.YteceinojmdgmeaaGreat


/- The document's texts: footmanref05.Text. -/
namespace Go.Proofs.YteceinojmdgmeaaGreat
open Go.RowKit
set_option linter.unusedVariables false
set_option linter.unusedSimpArgs false

theorem putN_len_fg (f g k n : Nat) : (putN f k n).length = (putN g k n).length := by unfold putN; split <;> simp
end Go.Proofs.YteceinojmdgmeaaGreat

