/- What static.At, static.Find and static.Size return. -/
import Derived.Test.YtmnaljnkgaebkaaStat
namespace Go.Proofs.Ytmnaljnkgaebkaa
open Go.RowKit
set_option linter.unusedVariables false
set_option linter.unusedSimpArgs false

theorem cell_eq0 {W W' : World} {a : Addr} (h : W'.heap[a.block]? = W.heap[a.block]?) : W'.cell? a = W.cell? a := by unfold World.cell?; rw [h]
def stN (k : Nat) : ByteArray := tx (stL.getD k ([], [])).1
def stV (k : Nat) : ByteArray := tx (stL.getD k ([], [])).2
theorem index_rows {P : Program} {t e : TypeId} {n sz : Nat} {cs : Array Value} {k : IntKind} (i : Nat) (h : P.underlying t = some (.array n e)) (ha : ∀ w, (isAgg e).run P w = .ok true w) (hs : ∀ w, (sizeOf e).run P w = .ok sz w) (hi : i < n) (w : World) :
    (Instr.index t (.agg cs) (.int k (i : Int))).run P w = .ok (.agg (cs.extract (i * sz) (i * sz + sz))) w := by
  have hb : 0 ≤ (i : Int) ∧ (i : Int) < (n : Int) := by omega
  simp [Instr.index, run_underlying h, asIntOf, hb, part, ha, hs, go_sem]
  intro hn
  omega
theorem three {α : Type} (f : α → List Value) (hf : ∀ x, (f x).length = 3) : ∀ (l : List α) (k : Nat) (x : α), l[k]? = some x → ((l.flatMap f).drop (k * 3)).take 3 = f x
  | [], k, x, h => by simp at h
  | y :: l, 0, x, h => by
    obtain rfl : y = x := by simpa using h
    rw [List.flatMap_cons, Nat.zero_mul, List.drop_zero, List.take_append_of_le_length (by rw [hf]; exact Nat.le_refl _), List.take_of_length_le (by rw [hf]; exact Nat.le_refl _)]
  | y :: l, k + 1, x, h => by
    have := three f hf l k x (by simpa using h)
    rw [List.flatMap_cons, ← this, show (k + 1) * 3 = (f y).length + k * 3 from by rw [hf]; omega, ← List.drop_drop, List.drop_left]
theorem stL_len : stL.length = 61 := by decide +kernel
theorem stF_row (k : Nat) (h : k < 61) : stF.extract (k * 3) (k * 3 + 3) = #[.string (stN k), .string (stV k), .bool false] := by
  have hk : k < stL.length := by rw [stL_len]; exact h
  have h3 := three (fun x : List UInt8 × List UInt8 => fieldCells (tx x.1) (tx x.2) false) (fun _ => rfl) stL k stL[k] (List.getElem?_eq_getElem hk)
  unfold stF
  rw [List.extract_toArray]
  unfold stN stV
  rw [List.getD_eq_getElem?_getD, List.getElem?_eq_getElem hk, Option.getD_some]
  have e : ∀ l : List Value, l.extract (k * 3) (k * 3 + 3) = (l.drop (k * 3)).take 3 := fun l => by
    rw [List.extract_eq_take_drop]
    congr 1
    omega
  rw [e, h3]
  rfl
theorem st_index (k : Nat) (h : k < 61) (w : World) : (Instr.index 153 (.agg stF) (.int .i64 (k : Int))).run Try.prog w = .ok (.agg #[.string (stN k), .string (stV k), .bool false]) w := by
  rw [index_rows k Try.underlying153 Try.isAgg50 Try.sizeOf50 h w, stF_row k h]
theorem field_size (n v : ByteArray) (b : Bool) (hn : n.size ≤ 1000000) (hv : v.size ≤ 1000000) (w : World) :
    Calls Try.prog 41 #[.agg #[.string n, .string v, .bool b]] w fun e w' => e = .returned (.int .i64 ((n.size : Int) + (v.size : Int) + 32)) ∧ Below w.heap.size w w' := by
  have h1 : IntKind.i64.wrap ((n.size : Int) + (v.size : Int)) = (n.size : Int) + (v.size : Int) := IntWalk.i64_in _ (by omega)
  have h2 : IntKind.i64.wrap ((n.size : Int) + (v.size : Int) + 32) = (n.size : Int) + (v.size : Int) + 32 := IntWalk.i64_in _ (by omega)
  go_enter Try.func41, Try.ntmps41
  go_wp2_with fail
  go_ret
  exact ⟨rfl, (Below.refl _ _).alloc (Nat.le_refl _) _⟩
theorem refField_size (n v : ByteArray) (b : Bool) (hn : n.size ≤ 1000000) (hv : v.size ≤ 1000000) (w : World) :
    Calls Try.prog 91 #[.agg #[.string n, .string v, .bool b]] w fun e w' => e = .returned (.int .i64 ((n.size : Int) + (v.size : Int) + 32)) ∧ Below w.heap.size w w' := by
  have h1 : IntKind.i64.wrap ((n.size : Int) + (v.size : Int)) = (n.size : Int) + (v.size : Int) := IntWalk.i64_in _ (by omega)
  have h2 : IntKind.i64.wrap ((n.size : Int) + (v.size : Int) + 32) = (n.size : Int) + (v.size : Int) + 32 := IntWalk.i64_in _ (by omega)
  go_enter Try.func91, Try.ntmps91
  go_wp2_with fail
  go_ret
  exact ⟨rfl, (Below.refl _ _).alloc (Nat.le_refl _) _⟩
set_option maxRecDepth 100000 in
set_option maxHeartbeats 1000000 in
theorem stAt_in (k : Nat) (h : k < 61) (i : Int) (hik : i = (k : Int) + 1) (w : World) : Calls Try.prog 63 #[.int .i64 i] w fun e w' => e = .returned (.tuple #[.agg #[.string (stN k), .string (stV k), .bool false], .bool true]) ∧ Below w.heap.size w w' := by
  have hk1 : decide (i < 1) = false := by simp; omega
  have hk2 : decide (61 < i) = false := by simp; omega
  have hkw : IntKind.i64.wrap (i - 1) = (k : Int) := by rw [show i - 1 = (k : Int) from by omega]; exact IntWalk.i64_in _ (by omega)
  have HI := Lib.hid (st_index k h)
  clear hik
  go_enter Try.func63, Try.ntmps63
  go_wp2_with fail
  refine (fields_any _).mono ?_
  rintro e w1 ⟨rfl, hb⟩
  have hrow : w1.heap[w.heap.size]? = some (.cells #[.string ByteArray.empty, .string ByteArray.empty, .bool false] 50 (0, 0)) := (hb.block w.heap.size (by simp)).trans (heap_alloc_new w _)
  have hx := HI.out w1
  have hB : Below w.heap.size w (w1.setRow w.heap.size #[.string (stN k), .string (stV k), .bool false]) := below_setRow (((Below.refl _ _).alloc (Nat.le_refl _) _).trans (hb.mono (by simp))) (Nat.le_refl _) _
  have HB := Lib.hid hB
  have hrow2 : (w1.setRow w.heap.size #[.string (stN k), .string (stV k), .bool false]).heap[w.heap.size]? = some (.cells #[.string (stN k), .string (stV k), .bool false] 50 (0, 0)) := setRow_heap _ _ _ _ _ _ hrow
  have HR2 := Lib.hid hrow2
  clear hb HI hB hrow2
  go_wp2_with (refine wpList_store_row rfl _ _ _ rfl w.heap.size #[.string (stN k), .string (stV k), .bool false] rfl rfl _ _ hrow (by kernel_rfl) (by kernel_rfl) (by kernel_rfl) ?_)
  have q : ∀ j : Nat, (w1.setRow w.heap.size #[.string (stN k), .string (stV k), .bool false]).cell? ⟨w.heap.size, j, none⟩ = #[Value.string (stN k), .string (stV k), .bool false][j]? := fun j => cell_of_row _ _ _ _ _ _ HR2.out
  have q0 := q 0
  have q1 := q 1
  have q2 := q 2
  clear q
  refine bodyPost_ret (v := .tuple #[.agg #[.string (stN k), .string (stV k), .bool false], .bool true]) (by simp [results, Try.results63, go_sem, q0, q1, q2]) rfl ⟨rfl, HB.out⟩
set_option maxRecDepth 100000 in
theorem stAt_out (i : Int) (hi : i < 1 ∨ 61 < i) (w : World) : Calls Try.prog 63 #[.int .i64 i] w fun e w' => e = .returned (.tuple #[.agg #[.string ByteArray.empty, .string ByteArray.empty, .bool false], .bool false]) ∧ Below w.heap.size w w' := by
  rcases hi with hi | hi
  · have hk1 : decide (i < 1) = true := by simpa using hi
    go_enter Try.func63, Try.ntmps63
    go_wp2_with fail
    refine bodyPost_ret (v := .tuple #[.agg #[.string ByteArray.empty, .string ByteArray.empty, .bool false], .bool false]) (by simp [results, Try.results63, go_sem]; rfl) rfl ⟨rfl, (Below.refl _ _).alloc (Nat.le_refl _) _⟩
  · have hk1 : decide (i < 1) = false := by simp; omega
    have hk2 : decide (61 < i) = true := by simpa using hi
    go_enter Try.func63, Try.ntmps63
    go_wp2_with fail
    refine bodyPost_ret (v := .tuple #[.agg #[.string ByteArray.empty, .string ByteArray.empty, .bool false], .bool false]) (by simp [results, Try.results63, go_sem]; rfl) rfl ⟨rfl, (Below.refl _ _).alloc (Nat.le_refl _) _⟩
end Go.Proofs.Ytmnaljnkgaebkaa
