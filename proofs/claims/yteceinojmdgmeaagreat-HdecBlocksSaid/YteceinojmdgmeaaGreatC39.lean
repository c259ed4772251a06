/- The document's unpack: bytes as bits. -/
import Derived.Test.YteceinojmdgmeaaGreatC36
namespace Go.Proofs.YteceinojmdgmeaaGreat
open Go.RowKit
set_option linter.unusedVariables false
set_option linter.unusedSimpArgs false

theorem int_info : (Tryz.prog.info? 3).map (fun i => (i.zero, i.size, i.bytes)) = some (some (.int .i64 0), 1, 8) := by kernel_rfl
/-- Ints of one's own. -/
def OwnJ (w : World) (base : Nat) (v : Value) (l : List Nat) : Prop := w.ownsRow base 3 1 v l.length (l.map fun n : Nat => Value.int .i64 (n : Int))
theorem ownI_to {w : World} {base : Nat} {v : Value} {l l' : List Nat} (h : OwnJ w base v l) (e : l = l') : OwnJ w base v l' := e ▸ h
theorem ownI_app {W : World} {B : Nat} {v : Value} {l r : List Nat} {n m : Nat} (hn : l.length = n) (hm : r.length = m)
    (h : W.ownsRow B 3 1 v (n + m) (l.map (fun n : Nat => Value.int .i64 (n : Int)) ++ r.map (fun n : Nat => Value.int .i64 (n : Int)))) : OwnJ W B v (l ++ r) := by
  unfold OwnJ
  rw [List.length_append, hn, hm, List.map_append]
  exact h
/-- The place value at the j-th bit, and 0 behind the last. -/
def kAt (j : Nat) : Nat := if j < 8 then 2 ^ (7 - j) else 0
theorem kAt_half (j : Nat) (h : j < 8) : kAt j / 2 = kAt (j + 1) := by
  unfold kAt
  rw [if_pos h]
  by_cases h7 : j + 1 < 8
  · rw [if_pos h7, show 7 - j = 7 - (j + 1) + 1 from by omega, Nat.pow_succ, Nat.mul_div_cancel _ (by decide)]
  · obtain rfl : j = 7 := by omega
    rfl
theorem kAt_pos (j : Nat) (h : j < 8) : 0 < kAt j ∧ kAt j ≤ 128 := by
  unfold kAt
  rw [if_pos h]
  have h2 : 2 ^ (7 - j) ≤ 2 ^ 7 := Nat.pow_le_pow_right (by decide) (by omega)
  exact ⟨Nat.two_pow_pos _, by simpa using h2⟩
def UnpackPost (l : List Nat) (w : World) (e : Ending) (w' : World) : Prop := ∃ v, e = .returned v ∧ OwnJ w' w.heap.size v l ∧ Below w.heap.size w w'
set_option maxRecDepth 100000 in
set_option maxHeartbeats 2000000 in
theorem unpack_any (oa : Option Addr) (cap : Nat) (bs : List Nat) (w : World) (hby : BytesN w oa bs) (hlen : bs.length ≤ 1000) (hbyte : ∀ i, i < bs.length → bs.getD i 0 < 256) :
    Calls Tryz.prog 79 #[.slice oa bs.length cap] w (UnpackPost (bytesBits bs) w) := by
  obtain ⟨i0, hi0, hz0, hz1, hz2⟩ := info_parts int_info
  have HI := Lib.hid hi0
  have HZ0 := Lib.hid hz0
  have HZ1 := Lib.hid hz1
  have HZ2 := Lib.hid hz2
  clear hi0 hz0 hz1 hz2
  have HBY := Lib.hid hby
  have HBT := Lib.hid hbyte
  clear hby hbyte
  go_enter Tryz.func79, Tryz.ntmps79
  go_wp2_with fail
  go_loopw [3, 4] (fun out i wr => ∃ (vv : Value) (q : Nat), out = vv ∧ q ≤ bs.length ∧ i = .int .i64 q ∧ OwnJ wr w.heap.size vv (bytesBits (bs.take q)) ∧ Below w.heap.size w wr) (fun _ i _ => bs.length - (intOf i).toNat)
  case atStart => exact ⟨_, 0, rfl, Nat.zero_le _, rfl, World.ownsRow_nil _ _ _ _, Below.refl _ _⟩
  case round =>
    obtain ⟨vv, q, hv, hq, rfl, hown, bk⟩ := hrel
    obtain rfl := hv.symm
    have HO := Lib.hid hown
    have BK := Lib.hid bk
    clear hown bk hv
    by_cases hlt : q < bs.length
    · have hqi : (q : Int) < (bs.length : Int) := by omega
      have HTK := Lib.hid (bytesBits_take bs q hlt)
      have hxb := HBT.out q hlt
      obtain ⟨ad, rfl, hc0⟩ := HBY.out q hlt
      have HC0 := Lib.hid hc0
      clear hc0
      generalize bs.getD q 0 = x at hxb HC0 HTK
      have hbl : (bytesBits (bs.take q)).length ≤ 8000 := by rw [bytesBits_len, List.length_take]; omega
      generalize hP : bytesBits (bs.take q) = P at HTK HO hbl
      go_wp2_with fail
      go_loopw [3, 5] (fun out kk wr => ∃ (vv : Value) (j : Nat), out = vv ∧ j ≤ 8 ∧ kk = .int .i64 (kAt j : Nat) ∧ OwnJ wr w.heap.size vv (P ++ (bitsN 8 x).take j) ∧ Below w.heap.size w wr) (fun _ kk _ => (intOf kk).toNat)
      case atStart => exact ⟨_, 0, rfl, by omega, rfl, ownI_to HO.out (by simp), BK.out⟩
      case round =>
        clear HO BK
        obtain ⟨vv, j, hv, hj, rfl, hown, bk⟩ := hrel
        obtain rfl := hv.symm
        have HO := Lib.hid hown
        have BK := Lib.hid bk
        clear hown bk hv
        by_cases hj8 : j < 8
        · have hc1 := (cell_eq (BK.out.block _ (World.block_lt_of_cell? _ _ HC0.out))).trans HC0.out
          obtain ⟨s, hs⟩ : ∃ s, s + 1 + j = 8 := ⟨7 - j, by omega⟩
          have HB1 := Lib.hid (bits8_take x j s hs)
          have HK2 := Lib.hid (kAt_half j hj8)
          obtain ⟨k1, k2⟩ := kAt_pos j hj8
          have HKE := Lib.hid (show kAt j = 2 ^ s from by unfold kAt; rw [if_pos hj8, show 7 - j = s from by omega])
          generalize kAt j = K at HK2 k1 k2 HKE ⊢
          have hk0 : (0 : Int) < (K : Int) := by omega
          have hkz : ¬ ((K : Int) = 0) := by omega
          rw [← HKE.out] at HB1
          have hKd := Nat.div_le_self x K
          generalize hDD : x / K = D at hKd HB1
          have hqw : IntKind.i64.wrap ((x : Int) / (K : Int)) = (D : Int) := by rw [show (x : Int) / (K : Int) = (D : Int) from by rw [← hDD]; simp]; exact IntWalk.i64_in _ (by omega)
          clear hDD
          have htm : (D : Int).tmod 2 = ((D % 2 : Nat) : Int) := by rw [Int.tmod_eq_emod_of_nonneg (by omega)]; simp
          have hd2 : D % 2 < 2 := Nat.mod_lt _ (by decide)
          generalize D % 2 = b at htm HB1 hd2
          obtain ⟨oa2, cap2, hv2⟩ : ∃ oa2 cap2, vv = .slice oa2 (P ++ (bitsN 8 x).take j).length cap2 := by
            rcases HO.out.2 with ⟨rfl, h0⟩ | ⟨g, cap2, cur, rfl, _⟩
            · exact ⟨none, 0, by rw [h0]⟩
            · exact ⟨_, _, rfl⟩
          have hN : (P ++ (bitsN 8 x).take j).length = P.length + j := by rw [List.length_append, List.length_take, bitsN_len]; omega
          have HO2 := Lib.hid (show wr.ownsRow w.heap.size 3 1 vv (P.length + j) ((P ++ (bitsN 8 x).take j).map (fun n : Nat => Value.int .i64 (n : Int))) from by have := HO.out; unfold OwnJ at this; rw [hN] at this; exact this)
          have HN := Lib.hid hN
          clear hN hv2
          have hc2 : P.length + j + 1 ≤ maxLen := by unfold maxLen; omega
          have hc3 : (P.length + j + 1) * 8 ≤ 140737488355328 := by omega
          have hc4 : w.heap.size ≤ wr.heap.size := BK.out.size
          have ho1 : ∀ u ∈ [Value.int .i64 (b : Int)], u.oneCell' = true := by intro u hu; simp at hu; subst hu; rfl
          go_wp2_with (at_builtin; refine wpList_append_own_at _ rfl _ _ 145 rfl w.heap.size 3 i0 _ 1 8 Tryz.underlying145 HI.out HZ0.out HZ1.out HZ2.out rfl (by omega) vv _ _ rfl (HO2.out.alloc _) ⟨wr.heap.size, 0, none⟩ 1 1 [Value.int .i64 (b : Int)] rfl rfl (cells_new wr [Value.int .i64 (b : Int)] _) ho1 hc2 hc3 (by simp; omega) ?_; intro v3 w3 hown3 hg3 _ _; clear hc2 hc3 ho1)
          have B3 := Lib.hid ((BK.out.alloc hc4 _).grown hg3 (by simp; omega) (fun r hr => (HO2.out.lt r hr).1))
          have HO3 := Lib.hid (ownI_to (ownI_app (l := P ++ (bitsN 8 x).take j) (r := [b]) HN.out rfl hown3) (show P ++ (bitsN 8 x).take j ++ [b] = P ++ (bitsN 8 x).take (j + 1) by rw [HB1.out, List.append_assoc]))
          clear hg3 hown3 hc4
          go_roundw
          case rel => exact ⟨_, j + 1, rfl, by omega, by rw [← HK2.out]; simp, HO3.out, B3.out⟩
          case measure => simp [intOf]; omega
        · obtain rfl : j = 8 := by omega
          have hk8 : kAt 8 = 0 := rfl
          have HO3 := Lib.hid (ownI_to HO.out (show P ++ (bitsN 8 x).take 8 = bytesBits (bs.take (q + 1)) by rw [List.take_of_length_le (by rw [bitsN_len]; exact Nat.le_refl _), HTK.out]))
          go_wp2_with fail
          go_roundw
          case rel => exact ⟨_, q + 1, rfl, by omega, by go_num, HO3.out, BK.out⟩
          case measure => simp [intOf]; omega
    · obtain rfl : q = bs.length := by omega
      rw [List.take_length] at HO
      go_wp2_with fail
      go_ret
      exact ⟨_, rfl, HO.out, BK.out⟩
end Go.Proofs.YteceinojmdgmeaaGreat

