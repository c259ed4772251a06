/- The document's items: footmanref05.kind, literal, head. -/
import Derived.Test.YtmnaljnkgaebkaaDocG
import Derived.Test.YtmnaljnkgaebkaaRepH
import Derived.Test.YtmnaljnkgaebkaaRepD
namespace Go.Proofs.Ytmnaljnkgaebkaa
open Go.RowKit
set_option linter.unusedVariables false
set_option linter.unusedSimpArgs false

/-- The document's item in a block (as it is got). -/
def KRow (W : World) (q : Nat) (k : Nat) (i : Int) (nm vl : ByteArray) : Prop := W.heap[q]? = some (.cells #[.int .u8 (k : Int), .int .i64 i, .string nm, .string vl] 74 (0, 0))
theorem KRow.c0 {W : World} {q k : Nat} {i : Int} {nm vl : ByteArray} (h : KRow W q k i nm vl) : W.cell? ⟨q, 0, none⟩ = some (.int .u8 (k : Int)) := cell_of_row _ _ _ _ _ _ h
theorem KRow.c1 {W : World} {q k : Nat} {i : Int} {nm vl : ByteArray} (h : KRow W q k i nm vl) : W.cell? ⟨q, 1, none⟩ = some (.int .i64 i) := cell_of_row _ _ _ _ _ _ h
theorem KRow.c2 {W : World} {q k : Nat} {i : Int} {nm vl : ByteArray} (h : KRow W q k i nm vl) : W.cell? ⟨q, 2, none⟩ = some (.string nm) := cell_of_row _ _ _ _ _ _ h
theorem KRow.c3 {W : World} {q k : Nat} {i : Int} {nm vl : ByteArray} (h : KRow W q k i nm vl) : W.cell? ⟨q, 3, none⟩ = some (.string vl) := cell_of_row _ _ _ _ _ _ h
theorem KRow.z {W : World} {q k : Nat} {i : Int} {nm vl : ByteArray} (h : KRow W q k i nm vl) (j : Nat) : W.frozen? ⟨q, j, none⟩ = false := frozen_of_row _ _ _ _ _ h
theorem KRow.lt {W : World} {q k : Nat} {i : Int} {nm vl : ByteArray} (h : KRow W q k i nm vl) : q < W.heap.size := World.block_lt_of_cell? W ⟨q, 0, none⟩ h.c0
theorem KRow.step {W W' : World} {q k : Nat} {i : Int} {nm vl : ByteArray} (h : KRow W q k i nm vl) (hb : Below W.heap.size W W') : KRow W' q k i nm vl := (hb.block q h.lt).trans h
theorem KRow.set1 {W : World} {q k : Nat} {i : Int} {nm vl : ByteArray} (h : KRow W q k i nm vl) (i' : Int) : KRow (W.setCell ⟨q, 1, none⟩ (.int .i64 i')) q k i' nm vl := heap_setCell_same W q 1 _ _ _ h
theorem KRow.set2 {W : World} {q k : Nat} {i : Int} {nm vl : ByteArray} (h : KRow W q k i nm vl) (s : ByteArray) : KRow (W.setCell ⟨q, 2, none⟩ (.string s)) q k i s vl := heap_setCell_same W q 2 _ _ _ h
theorem KRow.set3 {W : World} {q k : Nat} {i : Int} {nm vl : ByteArray} (h : KRow W q k i nm vl) (s : ByteArray) : KRow (W.setCell ⟨q, 3, none⟩ (.string s)) q k i nm s := heap_setCell_same W q 3 _ _ _ h
theorem KRow.other {W : World} {q k : Nat} {i : Int} {nm vl : ByteArray} (h : KRow W q k i nm vl) (p j : Nat) (hp : p ≠ q) (x : Value) : KRow (W.setCell ⟨p, j, none⟩ x) q k i nm vl := (Below.heap_setCell _ _ _ _ (fun e => hp (by simpa using e.symm))).trans h
theorem KRow.alloc {W : World} {q k : Nat} {i : Int} {nm vl : ByteArray} (h : KRow W q k i nm vl) (o : Obj) : KRow (W.alloc o) q k i nm vl := h.step ((Below.refl _ _).alloc (Nat.le_refl _) o)
theorem KRow.new (W : World) (k : Nat) (i : Int) (nm vl : ByteArray) : KRow (W.alloc (.cells #[.int .u8 (k : Int), .int .i64 i, .string nm, .string vl] 74)) W.heap.size k i nm vl := heap_alloc_new W _
theorem elit_any (k : Nat) (hk : k < 256) (w : World) : Calls Try.prog 79 #[.int .u8 (k : Int)] w fun e w' => e = .returned (.bool (litK k)) ∧ w' = w := by
  by_cases h1 : 1 ≤ k
  · have q1 : decide ((1 : Int) ≤ (k : Int)) = true := decide_eq_true (by omega)
    by_cases h3 : k ≤ 3
    · have q2 : decide ((k : Int) ≤ 3) = true := decide_eq_true (by omega)
      have HL := Lib.hid (show litK k = true from by unfold litK; rw [decide_eq_true h1, decide_eq_true h3]; rfl)
      go_enter Try.func79, Try.ntmps79
      go_wp2_with fail
      go_ret
      exact ⟨by rw [HL.out]; rfl, rfl⟩
    · have q2 : decide ((k : Int) ≤ 3) = false := decide_eq_false (by omega)
      have HL := Lib.hid (show litK k = false from by unfold litK; rw [decide_eq_false h3, Bool.and_false])
      go_enter Try.func79, Try.ntmps79
      go_wp2_with fail
      go_ret
      exact ⟨by rw [HL.out]; rfl, rfl⟩
  · have q1 : decide ((1 : Int) ≤ (k : Int)) = false := decide_eq_false (by omega)
    have HL := Lib.hid (show litK k = false from by unfold litK; rw [decide_eq_false h1, Bool.false_and])
    go_enter Try.func79, Try.ntmps79
    go_wp2_with fail
    go_ret
    exact ⟨by rw [HL.out]; rfl, rfl⟩
theorem ehead_any (k : Nat) (hk : k ≤ 4) (w : World) : Calls Try.prog 77 #[.int .u8 (k : Int)] w fun e w' => e = .returned (.tuple #[.int .u8 ((formF k : Nat) : Int), .int .i64 ((formB k : Nat) : Int)]) ∧ w' = w := by
  rcases (show k = 0 ∨ k = 1 ∨ k = 2 ∨ k = 3 ∨ k = 4 from by omega) with rfl | rfl | rfl | rfl | rfl
  · go_enter Try.func77, Try.ntmps77
    go_wp2_with fail
    exact bodyPost_ret (v := .tuple #[.int .u8 128, .int .i64 7]) (by simp [results, Try.results77, go_sem]) rfl ⟨rfl, rfl⟩
  · go_enter Try.func77, Try.ntmps77
    go_wp2_with fail
    exact bodyPost_ret (v := .tuple #[.int .u8 64, .int .i64 6]) (by simp [results, Try.results77, go_sem]) rfl ⟨rfl, rfl⟩
  · go_enter Try.func77, Try.ntmps77
    go_wp2_with fail
    exact bodyPost_ret (v := .tuple #[.int .u8 0, .int .i64 4]) (by simp [results, Try.results77, go_sem]) rfl ⟨rfl, rfl⟩
  · go_enter Try.func77, Try.ntmps77
    go_wp2_with fail
    exact bodyPost_ret (v := .tuple #[.int .u8 16, .int .i64 4]) (by simp [results, Try.results77, go_sem]) rfl ⟨rfl, rfl⟩
  · go_enter Try.func77, Try.ntmps77
    go_wp2_with fail
    exact bodyPost_ret (v := .tuple #[.int .u8 32, .int .i64 5]) (by simp [results, Try.results77, go_sem]) rfl ⟨rfl, rfl⟩
theorem dkind_any (c : Nat) (hc : c < 256) (w : World) : Calls Try.prog 84 #[.int .u8 (c : Int)] w fun e w' => e = .returned (.int .u8 ((kindN c : Nat) : Int)) ∧ w' = w := by
  have HK := Lib.hid (show kindN c = if 128 ≤ c then 0 else if 64 ≤ c then 1 else if 32 ≤ c then 4 else if 16 ≤ c then 3 else 2 from rfl)
  by_cases h128 : 128 ≤ c
  · have q128 : decide ((128 : Int) ≤ (c : Int)) = true := decide_eq_true (by omega)
    have HE := Lib.hid (show kindN c = 0 from by rw [HK.out, if_pos h128])
    go_enter Try.func84, Try.ntmps84
    go_wp2_with fail
    go_ret
    exact ⟨by rw [HE.out]; rfl, rfl⟩
  have q128 : decide ((128 : Int) ≤ (c : Int)) = false := decide_eq_false (by omega)
  by_cases h64 : 64 ≤ c
  · have q64 : decide ((64 : Int) ≤ (c : Int)) = true := decide_eq_true (by omega)
    have HE := Lib.hid (show kindN c = 1 from by rw [HK.out, if_neg h128, if_pos h64])
    go_enter Try.func84, Try.ntmps84
    go_wp2_with fail
    go_ret
    exact ⟨by rw [HE.out]; rfl, rfl⟩
  have q64 : decide ((64 : Int) ≤ (c : Int)) = false := decide_eq_false (by omega)
  by_cases h32 : 32 ≤ c
  · have q32 : decide ((32 : Int) ≤ (c : Int)) = true := decide_eq_true (by omega)
    have HE := Lib.hid (show kindN c = 4 from by rw [HK.out, if_neg h128, if_neg h64, if_pos h32])
    go_enter Try.func84, Try.ntmps84
    go_wp2_with fail
    go_ret
    exact ⟨by rw [HE.out]; rfl, rfl⟩
  have q32 : decide ((32 : Int) ≤ (c : Int)) = false := decide_eq_false (by omega)
  by_cases h16 : 16 ≤ c
  · have q16 : decide ((16 : Int) ≤ (c : Int)) = true := decide_eq_true (by omega)
    have HE := Lib.hid (show kindN c = 3 from by rw [HK.out, if_neg h128, if_neg h64, if_neg h32, if_pos h16])
    go_enter Try.func84, Try.ntmps84
    go_wp2_with fail
    go_ret
    exact ⟨by rw [HE.out]; rfl, rfl⟩
  have q16 : decide ((16 : Int) ≤ (c : Int)) = false := decide_eq_false (by omega)
  have HE := Lib.hid (show kindN c = 2 from by rw [HK.out, if_neg h128, if_neg h64, if_neg h32, if_neg h16])
  go_enter Try.func84, Try.ntmps84
  go_wp2_with fail
  go_ret
  exact ⟨by rw [HE.out]; rfl, rfl⟩
#print axioms dkind_any
end Go.Proofs.Ytmnaljnkgaebkaa
