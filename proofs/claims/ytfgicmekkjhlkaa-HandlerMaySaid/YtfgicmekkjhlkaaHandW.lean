/- What the handler's inner functions, and the reference's, return: the path ahead of its mark, the table, a row as a route. -/
import Derived.Test.YtfgicmekkjhlkaaNum
import Derived.Test.YtfgicmekkjhlkaaHandA
import Derived.Test.YtfgicmekkjhlkaaShelf
import Derived.Deep.QuietTactic
import Derived.BigQuiet
import Derived.ShutString
import Derived.Lib.IndexBytes
namespace Go.Proofs.Ytfgicmekkjhlkaa
open Go.RowKit
set_option linter.unusedVariables false
set_option linter.unusedSimpArgs false

theorem str_eq {s : ByteArray} {l : List UInt8} (h : s.data.toList = l) : s = ⟨l.toArray⟩ := by
  cases s with
  | mk d => subst h; simp

theorem cut_head (s : ByteArray) (k : Nat) : s.extract 0 k = ⟨(s.data.toList.take k).toArray⟩ := str_eq (by rw [Lib.extract_data]; simp)
theorem byte_is (c : UInt8) (n : Nat) (h : ((c.toNat : Int) == (n : Int)) = true) : c = UInt8.ofNat n := by
  have h1 : (c.toNat : Int) = n := by simpa using h
  have h2 : c.toNat = n := by omega
  rw [← h2]
  simp
theorem plain_at (s : ByteArray) (k : Nat) (h : k < s.size) (h1 : noMark (s.data.toList.take k) = true) (h2 : ((s[k].toNat : Int) == 63) = true) : plainL s.data.toList = s.data.toList.take k :=
  plain_take _ k (by rw [← sz]; exact h) h1 (by rw [byte_at s k h]; exact byte_is s[k] 63 h2)
theorem noMark_next (s : ByteArray) (k : Nat) (h : k < s.size) (h1 : noMark (s.data.toList.take k) = true) (h2 : ((s[k].toNat : Int) == 63) = false) : noMark (s.data.toList.take (k + 1)) = true :=
  noMark_take_succ _ k (by rw [← sz]; exact h) h1 (by rw [byte_at s k h]; intro e; rw [e] at h2; simp at h2)
theorem plain_end (s : ByteArray) (h1 : noMark (s.data.toList.take s.size) = true) : s = ⟨(plainL s.data.toList).toArray⟩ := by
  rw [List.take_of_length_le (by rw [← sz]; exact Nat.le_refl _)] at h1
  exact str_eq (plain_of_noMark h1).symm

theorem ret_string {a b : ByteArray} (h : a = b) : Ending.returned (.string a) = .returned (.string b) := by rw [h]
theorem _root_.Go.RowKit.Below.drewN {B : Nat} {a w : World} (h : Below B a w) (n : Nat) : Below B a (w.drewN n) := ⟨h.os, h.tape, h.output, h.size, h.block⟩
theorem below_setRow {B : Nat} {a w : World} (h : Below B a w) {g : Nat} (hg : B ≤ g) (cs : Array Value) : Below B a (w.setRow g cs) :=
  h.trans ⟨rfl, rfl, rfl, by simp [World.setRow], fun k hk => by
    show (w.heap.modify g _)[k]? = _
    rw [Array.getElem?_modify, if_neg (by omega)]⟩
def CutPost (s : ByteArray) (w : World) (e : Ending) (w' : World) : Prop :=
  ∃ (t : ByteArray) (b : Bool) (n : Nat), e = .returned (.tuple #[.string ⟨(plainL s.data.toList).toArray⟩, .string t, .bool b]) ∧ w' = w.drewN n

set_option maxHeartbeats 400000 in
theorem innerCut (s : ByteArray) (w : World) (hs : s.size ≤ maxLen) :
    Calls Try.prog 26 #[.string s, .string ⟨#[63]⟩] w (CutPost s w) := by
  unfold maxLen at hs
  rcases plain_index s.data.toList with ⟨h1, h2⟩ | ⟨k, h1, h2, h3⟩
  · have H1 := Lib.hid h1
    have H2 := Lib.hid h2
    clear h1 h2
    go_enter Try.func26, Try.ntmps26
    go_wp2_with fail
    refine (Try.stringslite_Index_one s 63 _).mono ?_
    rintro e w' ⟨rfl, rfl⟩
    rw [H1.out]
    go_wp2
    go_ret3
    exact ⟨_, _, 0, by rw [H2.out]; cases s; rfl, rfl⟩
  · have H1 := Lib.hid h1
    have H3 := Lib.hid h3
    have hk : k < s.size := by rw [sz]; exact h2
    clear h1 h2 h3
    go_enter Try.func26, Try.ntmps26
    go_wp2_with fail
    refine (Try.stringslite_Index_one s 63 _).mono ?_
    rintro e w' ⟨rfl, rfl⟩
    rw [H1.out]
    go_wp2
    go_quiet (fail)
    go_wp2
    go_ret3
    exact ⟨_, _, _, by rw [H3.out, cut_head]; rfl, rfl⟩

theorem mark_cut (s : ByteArray) (w : World) (hs : s.size ≤ maxLen) :
    Calls Try.prog 18 #[.string s, .string ⟨#[63]⟩] w (CutPost s w) := by
  go_enter Try.func18, Try.ntmps18
  go_wp2_with fail
  refine (innerCut s _ hs).mono ?_
  rintro e w' ⟨t, b, n, rfl, rfl⟩
  go_wp2
  go_ret3
  exact ⟨_, _, _, rfl, rfl⟩

set_option maxHeartbeats 400000 in
theorem refPlain (s : ByteArray) (w : World) (hs : s.size ≤ maxLen) :
    Calls Try.prog 23 #[.string s] w fun e w' => e = .returned (.string ⟨(plainL s.data.toList).toArray⟩) ∧ w = w' := by
  unfold maxLen at hs
  go_enter Try.func23, Try.ntmps23
  go_wp2
  go_loop [3] (fun i => ∃ k : Nat, k ≤ s.size ∧ i = .int .i64 k ∧ noMark (s.data.toList.take k) = true) (fun i => s.size - (intOf i).toNat)
  case atStart => exact ⟨0, Nat.zero_le _, rfl, rfl⟩
  case round =>
    obtain ⟨k, hk, rfl, hd⟩ := hrel
    have HD := Lib.hid hd
    clear hd
    by_cases hlt : k < s.size
    · by_cases h1 : ((s[k].toNat : Int) == 63) = true
      · have HR := Lib.hid (plain_at s k hlt HD.out h1)
        go_wp2
        go_ret
        exact ⟨by rw [HR.out, cut_head]; rfl, rfl⟩
      · have h1 : ((s[k].toNat : Int) == 63) = false := by simpa using h1
        have HR := Lib.hid (noMark_next s k hlt HD.out h1)
        go_wp2
        go_round
        case rel => exact ⟨k + 1, by omega, by go_num, HR.out⟩
        case measure => simp [intOf]; omega
    · obtain rfl : k = s.size := by omega
      have HR := Lib.hid (plain_end s HD.out)
      go_wp2
      go_ret
      exact ⟨ret_string HR.out, rfl⟩

theorem rowRoute (a b c d : Int) (s : ByteArray) (w : World) :
    Calls Try.prog 20 #[.agg #[.int .i64 a, .int .i64 b, .int .i64 c, .int .i64 d, .string s]] w fun e w' =>
      e = .returned (.agg #[.string s, .int .i64 d, .int .i64 a, .int .i64 b]) ∧ Below w.heap.size w w' := by
  go_enter Try.func20, Try.ntmps20
  go_wp2
  exact bodyPost_ret (v := .agg #[.string s, .int .i64 d, .int .i64 a, .int .i64 b]) (by simp [results, Try.results20, go_sem]) rfl ⟨rfl, ((Below.refl _ _).alloc (Nat.le_refl _) _).alloc (by simp) _⟩

theorem tableLine (s : ByteArray) (a b c : Int) (w : World) :
    Calls Try.prog 27 #[.string s, .int .i64 a, .int .i64 b, .int .i64 c] w fun e w' =>
      e = .returned (.agg #[.int .i64 b, .int .i64 c, .int .i64 0, .int .i64 a, .string s]) ∧ Below w.heap.size w w' := by
  go_enter Try.func27, Try.ntmps27
  go_wp2
  exact bodyPost_ret (v := .agg #[.int .i64 b, .int .i64 c, .int .i64 0, .int .i64 a, .string s]) (by simp [results, Try.results27, go_sem]) rfl ⟨rfl, (Below.refl _ _).alloc (Nat.le_refl _) _⟩

/-- The table as a value, a row for each route. -/
def rowV (k : Nat) : Array Value := #[.int .i64 (rS k), .int .i64 (rL k), .int .i64 0, .int .i64 (rC k), .string ⟨(rP k).toArray⟩]
def tab25 : Array Value := rowV 0 ++ rowV 1 ++ rowV 2 ++ rowV 3 ++ rowV 4
theorem table_any (w : World) :
    Calls Try.prog 19 #[] w fun e w' => e = .returned (.agg tab25) ∧ Below w.heap.size w w' := by
  go_enter Try.func19, Try.ntmps19
  go_wp2_with fail
  refine (tableLine _ _ _ _ _).mono ?_
  rintro e w1 ⟨rfl, hb1⟩
  have h1 := Lib.hid ((hb1.block w.heap.size (by simp)).trans (heap_alloc_new w _))
  have b1 : Below w.heap.size w w1 := ((Below.refl _ _).alloc (Nat.le_refl _) _).trans (hb1.mono (by simp))
  have z1 : w.heap.size < w1.heap.size := by have := hb1.size; simp at this; omega
  clear hb1
  go_wp2_with fail
  refine (tableLine _ _ _ _ _).mono ?_
  rintro e w2 ⟨rfl, hb2⟩
  have h2 := Lib.hid ((hb2.block w.heap.size z1).trans h1.out)
  have b2 := b1.trans (hb2.mono (Nat.le_of_lt z1))
  have z2 := Nat.lt_of_lt_of_le z1 hb2.size
  clear hb2 h1 b1 z1
  go_wp2_with fail
  refine (tableLine _ _ _ _ _).mono ?_
  rintro e w3 ⟨rfl, hb3⟩
  have h3 := Lib.hid ((hb3.block w.heap.size z2).trans h2.out)
  have b3 := b2.trans (hb3.mono (Nat.le_of_lt z2))
  have z3 := Nat.lt_of_lt_of_le z2 hb3.size
  clear hb3 h2 b2 z2
  go_wp2_with fail
  refine (tableLine _ _ _ _ _).mono ?_
  rintro e w4 ⟨rfl, hb4⟩
  have h4 := Lib.hid ((hb4.block w.heap.size z3).trans h3.out)
  have b4 := b3.trans (hb4.mono (Nat.le_of_lt z3))
  have z4 := Nat.lt_of_lt_of_le z3 hb4.size
  clear hb4 h3 b3 z3
  go_wp2_with fail
  refine (tableLine _ _ _ _ _).mono ?_
  rintro e w5 ⟨rfl, hb5⟩
  have h5 := Lib.hid ((hb5.block w.heap.size z4).trans h4.out)
  have b5 := b4.trans (hb5.mono (Nat.le_of_lt z4))
  clear hb5 h4 b4 z4
  go_wp2_with (refine wpList_store_row rfl _ _ _ rfl w.heap.size tab25 rfl rfl _ _ h5.out (by kernel_rfl) rfl (by kernel_rfl) ?_)
  exact bodyPost_ret (v := .agg tab25) (results_cell_row rfl _ _ w.heap.size _ tab25 (0, 0) _ rfl (setRow_heap _ _ _ _ _ _ h5.out) Try.underlying57 rfl (by kernel_rfl)) rfl ⟨rfl, below_setRow b5 (Nat.le_refl _) _⟩
theorem index_tab0 (w : World) : (Instr.index 57 (.agg tab25) (.int .i64 ((0 : Nat) : Int))).run Try.prog w = .ok (.agg (rowV 0)) w := by kernel_rfl
theorem index_tab1 (w : World) : (Instr.index 57 (.agg tab25) (.int .i64 ((1 : Nat) : Int))).run Try.prog w = .ok (.agg (rowV 1)) w := by kernel_rfl
theorem index_tab2 (w : World) : (Instr.index 57 (.agg tab25) (.int .i64 ((2 : Nat) : Int))).run Try.prog w = .ok (.agg (rowV 2)) w := by kernel_rfl
theorem index_tab3 (w : World) : (Instr.index 57 (.agg tab25) (.int .i64 ((3 : Nat) : Int))).run Try.prog w = .ok (.agg (rowV 3)) w := by kernel_rfl
theorem index_tab4 (w : World) : (Instr.index 57 (.agg tab25) (.int .i64 ((4 : Nat) : Int))).run Try.prog w = .ok (.agg (rowV 4)) w := by kernel_rfl
theorem index_tab (k : Nat) (hk : k < 5) (w : World) : (Instr.index 57 (.agg tab25) (.int .i64 (k : Int))).run Try.prog w = .ok (.agg (rowV k)) w := by
  match k, hk with
  | 0, _ => exact index_tab0 w
  | 1, _ => exact index_tab1 w
  | 2, _ => exact index_tab2 w
  | 3, _ => exact index_tab3 w
  | 4, _ => exact index_tab4 w
end Go.Proofs.Ytfgicmekkjhlkaa
