/- The document's bits of a code, and of a text. -/
import Derived.Test.YtmnaljnkgaebkaaRefD
import Derived.Test.YtmnaljnkgaebkaaDecB
import Derived.Laws.AppendOwnNone
namespace Go.Proofs.Ytmnaljnkgaebkaa
open Go.RowKit
set_option linter.unusedVariables false
set_option linter.unusedSimpArgs false

theorem bitsN_head : ∀ (j v : Nat), bitsN (j + 1) v = (v / 2 ^ j % 2) :: bitsN j v
  | 0, v => by simp [bitsN]
  | j + 1, v => by
    have h := bitsN_head j (v / 2)
    have e : v / 2 / 2 ^ j = v / 2 ^ (j + 1) := by rw [Nat.div_div_eq_div_mul, Nat.pow_succ, Nat.mul_comm]
    rw [bitsN, h, e]
    rfl
theorem lit_bits {C D B : Nat} {W : World} (h : bitsN (0 + 1) C = (D % 2) :: bitsN 0 C) (hb : B ≤ W.heap.size) :
    OwnB (W.alloc (.cells #[Value.int .u8 ((D : Int) % 2)] 5)) B (.slice (some ⟨W.heap.size, 0, none⟩) 1 1) (bitsN 1 C) := by
  rw [show bitsN 1 C = [D % 2] from h]
  exact World.ownsRow.mono (World.ownsRow_lit W #[Value.int .u8 ((D : Int) % 2)] 1 (Nat.le_refl _) (by decide) rfl) hb
theorem bits_more {C D B j : Nat} {W : World} {v : Value} (h : bitsN (j + 1) C = (D % 2) :: bitsN j C)
    (ho : W.ownsRow B 5 1 v (1 + j) ([Value.int .u8 ((D : Int) % 2)] ++ (bitsN j C).map (fun n : Nat => Value.int .u8 (n : Int)))) : OwnB W B v (bitsN (j + 1) C) := by
  have e : (bitsN (j + 1) C).length = 1 + j := by rw [bitsN_len]; omega
  unfold OwnB
  rw [e, h]
  exact ho
def BitsPost (l : List Nat) (w : World) (e : Ending) (w' : World) : Prop := ∃ v, e = .returned v ∧ OwnB w' w.heap.size v l ∧ Below w.heap.size w w'
set_option maxRecDepth 100000 in
set_option maxHeartbeats 2000000 in
theorem refBits_any (C N : Nat) (hC : C < 1073741824) (hN : N ≤ 30) (w : World) : Calls Try.prog 86 #[.int .i64 (C : Int), .int .i64 (N : Int)] w (BitsPost (bitsN N C) w) := by
  obtain ⟨i0, hi0, hz0, hz1, hz2⟩ := info_parts u8_info
  have HI := Lib.hid hi0
  have HZ0 := Lib.hid hz0
  have HZ1 := Lib.hid hz1
  have HZ2 := Lib.hid hz2
  clear hi0 hz0 hz1 hz2
  go_enter Try.func86, Try.ntmps86
  go_wp2_with fail
  go_loopw [0, 5, 6] (fun cd out i wr => ∃ (vv : Value) (j : Nat), out = vv ∧ j ≤ N ∧ i = .int .i64 j ∧ cd = .int .i64 ((C / 2 ^ j : Nat) : Int) ∧ OwnB wr w.heap.size vv (bitsN j C) ∧ (j = 0 → vv = .slice none 0 0) ∧ Below w.heap.size w wr) (fun _ _ i _ => N - (intOf i).toNat)
  case atStart => exact ⟨_, 0, rfl, Nat.zero_le _, rfl, by simp, World.ownsRow_nil _ _ _ _, fun _ => rfl, Below.refl _ _⟩
  case round =>
    obtain ⟨vv, j, hv, hj, rfl, rfl, hown, hnil, bk⟩ := hrel
    obtain rfl := hv.symm
    have HO := Lib.hid hown
    have BK := Lib.hid bk
    have HNI := Lib.hid hnil
    clear hown bk hnil hv
    by_cases hlt : j < N
    · have hli : (j : Int) < (N : Int) := by omega
      have HH := Lib.hid (bitsN_head j C)
      have hD : C / 2 ^ j ≤ C := Nat.div_le_self _ _
      have HD2 := Lib.hid (show C / 2 ^ (j + 1) = C / 2 ^ j / 2 from by rw [Nat.div_div_eq_div_mul, Nat.pow_succ])
      generalize C / 2 ^ j = D at HH hD HD2
      have hbs : (bitsN j C).length = j := bitsN_len _ _
      have hc1 : ∀ u ∈ [Value.int .u8 ((D % 2 : Nat) : Int)], u.oneCell' = true := by intro u hu; simp at hu; subst hu; rfl
      by_cases hj0 : j = 0
      · subst hj0
        obtain rfl := HNI.out rfl
        go_wp2_with fail
        go_roundw
        case rel => exact ⟨_, 1, rfl, by omega, rfl, by rw [HD2.out]; simp, lit_bits (HH.out) BK.out.size, (fun e => by cases e), BK.out.alloc BK.out.size _⟩
        case measure => simp [intOf]; omega
      · obtain ⟨g, cap, rfl, hgb, hgs⟩ := HO.out.form (by omega)
        rw [hbs] at HO ⊢
        have hone : ∀ u ∈ (bitsN j C).map (fun n : Nat => Value.int .u8 (n : Int)), u.oneCell' = true := by intro u hu; obtain ⟨n, _, rfl⟩ := List.mem_map.1 hu; rfl
        have hc2 : 1 + j ≤ maxLen := by unfold maxLen; omega
        have hc3 : (1 + j) * 1 ≤ 140737488355328 := by omega
        have hc4 : w.heap.size ≤ wr.heap.size := BK.out.size
        go_wp2_with (at_builtin; refine wpList_append_own_at _ rfl _ _ 28 rfl w.heap.size 5 i0 _ 1 1 Try.underlying28 HI.out HZ0.out HZ1.out HZ2.out rfl (by omega) (.slice (some ⟨wr.heap.size, 0, none⟩) 1 1) 1 [Value.int .u8 ((D : Int) % 2)] rfl (World.ownsRow.mono (World.ownsRow_lit wr #[Value.int .u8 ((D : Int) % 2)] 1 (Nat.le_refl _) (by decide) rfl) hc4) ⟨g, 0, none⟩ j cap ((bitsN j C).map (fun n : Nat => Value.int .u8 (n : Int))) rfl (by rw [List.length_map, bitsN_len, Nat.mul_one]) (fun q u hq => World.ownsRow.cells (HO.out.alloc _) rfl q u hq) hone hc2 hc3 (by simp; omega) ?_; intro v3 w3 hown3 hg3 _ _; clear hc2 hc3 hone)
        have B3 := Lib.hid ((BK.out.alloc BK.out.size _).grown hg3 (by simp; omega) (fun q hq => by cases hq; exact hc4))
        have HO3 := Lib.hid (bits_more HH.out hown3)
        clear hg3 hown3 hc4
        go_roundw
        case rel => exact ⟨_, j + 1, rfl, by omega, by go_num, by rw [HD2.out]; simp, HO3.out, (fun e => by omega), B3.out⟩
        case measure => simp [intOf]; omega
    · obtain rfl : j = N := by omega
      go_wp2_with fail
      go_ret
      exact ⟨_, rfl, HO.out, BK.out⟩
end Go.Proofs.Ytmnaljnkgaebkaa
