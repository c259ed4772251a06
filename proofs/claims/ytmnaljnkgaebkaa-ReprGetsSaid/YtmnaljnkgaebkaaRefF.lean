/- The document's bits of a text, with ones behind. -/
import Derived.Test.YtmnaljnkgaebkaaRefE
import Derived.Test.YtmnaljnkgaebkaaDecS
namespace Go.Proofs.Ytmnaljnkgaebkaa
open Go.RowKit
set_option linter.unusedVariables false
set_option linter.unusedSimpArgs false

theorem ownB_appR {W : World} {B : Nat} {v : Value} {l r : List Nat} {n m : Nat} (hn : l.length = n) (hm : r.length = m)
    (h : W.ownsRow B 5 1 v (n + m) (l.map (fun n : Nat => Value.int .u8 (n : Int)) ++ r.map (fun n : Nat => Value.int .u8 (n : Int)))) : OwnB W B v (l ++ r) := by
  unfold OwnB
  rw [List.length_append, hn, hm, List.map_append]
  exact h
def sliceLenV : Value → Nat
  | .slice _ n _ => n
  | _ => 0
theorem one_cells (l : List Nat) : ∀ u ∈ l.map (fun n : Nat => Value.int .u8 (n : Int)), u.oneCell' = true := by
  intro u hu
  obtain ⟨n, _, rfl⟩ := List.mem_map.1 hu
  rfl
set_option maxRecDepth 100000 in
set_option maxHeartbeats 2000000 in
theorem refBitsOf_any (s : ByteArray) (hs : s.size ≤ 1000) (w : World) : Calls Try.prog 58 #[.string s] w (BitsPost (padL (textBits s.data.toList)) w) := by
  obtain ⟨i0, hi0, hz0, hz1, hz2⟩ := info_parts u8_info
  have HI := Lib.hid hi0
  have HZ0 := Lib.hid hz0
  have HZ1 := Lib.hid hz1
  have HZ2 := Lib.hid hz2
  clear hi0 hz0 hz1 hz2
  go_enter Try.func58, Try.ntmps58
  go_wp2_with fail
  go_loopw [3, 4] (fun out i wr => ∃ (vv : Value) (k : Nat), out = vv ∧ k ≤ s.size ∧ i = .int .i64 k ∧ OwnB wr w.heap.size vv (bitsTo s k) ∧ Below w.heap.size w wr) (fun _ i _ => s.size - (intOf i).toNat)
  case atStart => exact ⟨_, 0, rfl, Nat.zero_le _, rfl, by rw [bitsTo_zero]; exact World.ownsRow_nil _ _ _ _, Below.refl _ _⟩
  case round =>
    obtain ⟨vv, k, hv, hk, rfl, hown, bk⟩ := hrel
    obtain rfl := hv.symm
    have HO := Lib.hid hown
    have BK := Lib.hid bk
    clear hown bk hv
    by_cases hlt : k < s.size
    · have HS := Lib.hid (bitsTo_succ s k hlt)
      have hln := bitsTo_len s k hk (by omega)
      have hb := byte_lt s[k]
      obtain ⟨n1, n2⟩ := len_range s[k].toNat hb
      have hC := code_lt30 s[k].toNat hb
      go_wp2_with fail
      refine (refCode_any s[k].toNat hb _).mono ?_
      rintro e w' ⟨rfl, hw⟩
      obtain rfl := hw.symm
      clear hw
      have HBB := Lib.hid (show byteBits s[k] = bitsN (lenOf s[k].toNat) (codeOf s[k].toNat) from rfl)
      generalize byteBits s[k] = bb at HS HBB
      generalize lenOf s[k].toNat = N at n1 n2 HBB ⊢
      generalize codeOf s[k].toNat = C at hC HBB ⊢
      go_wp2_with fail
      refine (refBits_any C N hC n2 wr).mono ?_
      rintro e w2 ⟨v2, rfl, hO2, hB2⟩
      have HO2 := Lib.hid hO2
      have HB2 := Lib.hid hB2
      clear hO2 hB2
      obtain ⟨g, cap, rfl, hgb, hgs⟩ := HO2.out.form (by rw [bitsN_len]; omega)
      rw [bitsN_len] at HO2 ⊢
      have HO1 := Lib.hid (OwnB.step HO.out (fun q hq hl => HB2.out.block q hl))
      have hsz := HB2.out.size
      have hsz0 := BK.out.size
      generalize hT : bitsTo s k = T at HO HO1 HS hln
      have hone := one_cells (bitsN N C)
      have hc2 : T.length + N ≤ maxLen := by unfold maxLen; omega
      have hc3 : (T.length + N) * 1 ≤ 140737488355328 := by omega
      go_wp2_with (at_builtin; refine wpList_append_own_at _ rfl _ _ 28 rfl w.heap.size 5 i0 _ 1 1 Try.underlying28 HI.out HZ0.out HZ1.out HZ2.out rfl (by omega) vv _ _ rfl HO1.out ⟨g, 0, none⟩ N cap ((bitsN N C).map (fun n : Nat => Value.int .u8 (n : Int))) rfl (by rw [List.length_map, bitsN_len, Nat.mul_one]) (fun q u hq => World.ownsRow.cells HO2.out rfl q u hq) hone hc2 hc3 (by omega) ?_; intro v3 w3 hown3 hg3 _ _; clear hc2 hc3 hone)
      have B3 := Lib.hid (((BK.out.trans (HB2.out.mono hsz0))).grown hg3 (by omega) (fun q hq => (HO1.out.lt q hq).1))
      have HO3 := Lib.hid (ownB_to (ownB_appR rfl (bitsN_len N C) hown3) (show T ++ bitsN N C = bitsTo s (k + 1) by rw [HS.out, HBB.out]))
      clear hg3 hown3
      go_roundw
      case rel => exact ⟨_, k + 1, rfl, by omega, by go_num, HO3.out, B3.out⟩
      case measure => simp [intOf]; omega
    · obtain rfl : k = s.size := by omega
      have hln := bitsTo_len s s.size hk (by omega)
      have HA := Lib.hid (bitsTo_all s)
      rw [HA.out] at HO hln
      generalize hTT : textBits s.data.toList = T at HO hln ⊢
      have HTT := Lib.hid hTT
      clear hTT
      go_wp2_with fail
      go_loopw [3] (fun out wr' => ∃ (vv : Value) (r : Nat), out = vv ∧ r ≤ (8 - T.length % 8) % 8 ∧ OwnB wr' w.heap.size vv (T ++ List.replicate r 1) ∧ Below w.heap.size w wr') (fun out _ => T.length + 8 - sliceLenV out)
      case atStart => exact ⟨_, 0, rfl, Nat.zero_le _, by simpa using HO.out, BK.out⟩
      case round =>
        clear HO BK
        obtain ⟨vv, r, hv, hr, hown, bk⟩ := hrel
        obtain rfl := hv.symm
        have HO := Lib.hid hown
        have BK := Lib.hid bk
        clear hown bk hv
        obtain ⟨oa, cap, hv, _, _⟩ := ownB_bytes HO.out
        have hN : (T ++ List.replicate r 1).length = T.length + r := by simp
        have HN := Lib.hid hN
        rw [hN] at hv
        generalize T.length + r = n at hv hN HN
        have hnr : n = T.length + r := by rw [← hN]; simp
        subst hv
        clear hN
        by_cases hrp : r < (8 - T.length % 8) % 8
        · have hx : ((n : Int) % 8 != 0) = true := by simp; omega
          have hc1 : ∀ u ∈ [Value.int .u8 1], u.oneCell' = true := by intro u hu; simp at hu; subst hu; rfl
          have hc2 : n + 1 ≤ maxLen := by unfold maxLen; omega
          have hc3 : (n + 1) * 1 ≤ 140737488355328 := by omega
          have hc4 : w.heap.size ≤ wr.heap.size := BK.out.size
          have HO2 := Lib.hid (show wr.ownsRow w.heap.size 5 1 (.slice oa n cap) n ((T ++ List.replicate r 1).map (fun n : Nat => Value.int .u8 (n : Int))) from by have := HO.out; unfold OwnB at this; rw [HN.out] at this; exact this)
          go_wp2_with (at_builtin; refine wpList_append_own_at _ rfl _ _ 28 rfl w.heap.size 5 i0 _ 1 1 Try.underlying28 HI.out HZ0.out HZ1.out HZ2.out rfl (by omega) (.slice oa n cap) n _ rfl (HO2.out.alloc _) ⟨wr.heap.size, 0, none⟩ 1 1 [Value.int .u8 1] rfl rfl (cells_new wr [Value.int .u8 1] _) hc1 hc2 hc3 (by simp; omega) ?_; intro v3 w3 hown3 hg3 _ _; clear hc1 hc2 hc3)
          have B3 := Lib.hid ((BK.out.alloc hc4 _).grown hg3 (by simp; omega) (fun q hq => (HO2.out.lt q hq).1))
          have HO3 := Lib.hid (ownB_to (ownB_appR (l := T ++ List.replicate r 1) (r := [1]) HN.out rfl hown3) (show T ++ List.replicate r 1 ++ [1] = T ++ List.replicate (r + 1) 1 by rw [List.append_assoc, List.replicate_succ']))
          clear hg3 hown3 hc4
          go_roundw
          case rel => exact ⟨_, r + 1, rfl, by omega, HO3.out, B3.out⟩
          case measure =>
            obtain ⟨oa3, cap3, hv3, _, _⟩ := ownB_bytes HO3.out
            subst hv3
            simp [sliceLenV]; omega
        · have hx : ((n : Int) % 8 != 0) = false := by simp; omega
          have hrr : r = (8 - T.length % 8) % 8 := by omega
          go_wp2_with fail
          go_ret
          exact ⟨_, rfl, ownB_to HO.out (by unfold padL; rw [hrr, HTT.out]), BK.out⟩
end Go.Proofs.Ytmnaljnkgaebkaa
