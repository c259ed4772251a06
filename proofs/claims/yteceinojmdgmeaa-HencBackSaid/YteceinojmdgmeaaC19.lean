/- Stat · StatB: joined by a program, for a claim has at most 60 files. -/
import Derived.Test.YteceinojmdgmeaaC02
import Derived.Test.YteceinojmdgmeaaC00
import Derived.Deep.Cut
import Derived.Great.BuildSlice
/- The table that is always there: what static.fields returns. -/
namespace Go.Proofs.Yteceinojmdgmeaa
open Go.RowKit
set_option linter.unusedVariables false
set_option linter.unusedSimpArgs false

/-- Names and values. -/
def stL : List (List UInt8 × List UInt8) := [
  ([58, 97, 117, 116, 104, 111, 114, 105, 116, 121], []),
  ([58, 109, 101, 116, 104, 111, 100], [71, 69, 84]),
  ([58, 109, 101, 116, 104, 111, 100], [80, 79, 83, 84]),
  ([58, 112, 97, 116, 104], [47]),
  ([58, 112, 97, 116, 104], [47, 105, 110, 100, 101, 120, 46, 104, 116, 109, 108]),
  ([58, 115, 99, 104, 101, 109, 101], [104, 116, 116, 112]),
  ([58, 115, 99, 104, 101, 109, 101], [104, 116, 116, 112, 115]),
  ([58, 115, 116, 97, 116, 117, 115], [50, 48, 48]),
  ([58, 115, 116, 97, 116, 117, 115], [50, 48, 52]),
  ([58, 115, 116, 97, 116, 117, 115], [50, 48, 54]),
  ([58, 115, 116, 97, 116, 117, 115], [51, 48, 52]),
  ([58, 115, 116, 97, 116, 117, 115], [52, 48, 48]),
  ([58, 115, 116, 97, 116, 117, 115], [52, 48, 52]),
  ([58, 115, 116, 97, 116, 117, 115], [53, 48, 48]),
  ([97, 99, 99, 101, 112, 116, 45, 99, 104, 97, 114, 115, 101, 116], []),
  ([97, 99, 99, 101, 112, 116, 45, 101, 110, 99, 111, 100, 105, 110, 103], [103, 122, 105, 112, 44, 32, 100, 101, 102, 108, 97, 116, 101]),
  ([97, 99, 99, 101, 112, 116, 45, 108, 97, 110, 103, 117, 97, 103, 101], []),
  ([97, 99, 99, 101, 112, 116, 45, 114, 97, 110, 103, 101, 115], []),
  ([97, 99, 99, 101, 112, 116], []),
  ([97, 99, 99, 101, 115, 115, 45, 99, 111, 110, 116, 114, 111, 108, 45, 97, 108, 108, 111, 119, 45, 111, 114, 105, 103, 105, 110], []),
  ([97, 103, 101], []),
  ([97, 108, 108, 111, 119], []),
  ([97, 117, 116, 104, 111, 114, 105, 122, 97, 116, 105, 111, 110], []),
  ([99, 97, 99, 104, 101, 45, 99, 111, 110, 116, 114, 111, 108], []),
  ([99, 111, 110, 116, 101, 110, 116, 45, 100, 105, 115, 112, 111, 115, 105, 116, 105, 111, 110], []),
  ([99, 111, 110, 116, 101, 110, 116, 45, 101, 110, 99, 111, 100, 105, 110, 103], []),
  ([99, 111, 110, 116, 101, 110, 116, 45, 108, 97, 110, 103, 117, 97, 103, 101], []),
  ([99, 111, 110, 116, 101, 110, 116, 45, 108, 101, 110, 103, 116, 104], []),
  ([99, 111, 110, 116, 101, 110, 116, 45, 108, 111, 99, 97, 116, 105, 111, 110], []),
  ([99, 111, 110, 116, 101, 110, 116, 45, 114, 97, 110, 103, 101], []),
  ([99, 111, 110, 116, 101, 110, 116, 45, 116, 121, 112, 101], []),
  ([99, 111, 111, 107, 105, 101], []),
  ([100, 97, 116, 101], []),
  ([101, 116, 97, 103], []),
  ([101, 120, 112, 101, 99, 116], []),
  ([101, 120, 112, 105, 114, 101, 115], []),
  ([102, 114, 111, 109], []),
  ([104, 111, 115, 116], []),
  ([105, 102, 45, 109, 97, 116, 99, 104], []),
  ([105, 102, 45, 109, 111, 100, 105, 102, 105, 101, 100, 45, 115, 105, 110, 99, 101], []),
  ([105, 102, 45, 110, 111, 110, 101, 45, 109, 97, 116, 99, 104], []),
  ([105, 102, 45, 114, 97, 110, 103, 101], []),
  ([105, 102, 45, 117, 110, 109, 111, 100, 105, 102, 105, 101, 100, 45, 115, 105, 110, 99, 101], []),
  ([108, 97, 115, 116, 45, 109, 111, 100, 105, 102, 105, 101, 100], []),
  ([108, 105, 110, 107], []),
  ([108, 111, 99, 97, 116, 105, 111, 110], []),
  ([109, 97, 120, 45, 102, 111, 114, 119, 97, 114, 100, 115], []),
  ([112, 114, 111, 120, 121, 45, 97, 117, 116, 104, 101, 110, 116, 105, 99, 97, 116, 101], []),
  ([112, 114, 111, 120, 121, 45, 97, 117, 116, 104, 111, 114, 105, 122, 97, 116, 105, 111, 110], []),
  ([114, 97, 110, 103, 101], []),
  ([114, 101, 102, 101, 114, 101, 114], []),
  ([114, 101, 102, 114, 101, 115, 104], []),
  ([114, 101, 116, 114, 121, 45, 97, 102, 116, 101, 114], []),
  ([115, 101, 114, 118, 101, 114], []),
  ([115, 101, 116, 45, 99, 111, 111, 107, 105, 101], []),
  ([115, 116, 114, 105, 99, 116, 45, 116, 114, 97, 110, 115, 112, 111, 114, 116, 45, 115, 101, 99, 117, 114, 105, 116, 121], []),
  ([116, 114, 97, 110, 115, 102, 101, 114, 45, 101, 110, 99, 111, 100, 105, 110, 103], []),
  ([117, 115, 101, 114, 45, 97, 103, 101, 110, 116], []),
  ([118, 97, 114, 121], []),
  ([118, 105, 97], []),
  ([119, 119, 119, 45, 97, 117, 116, 104, 101, 110, 116, 105, 99, 97, 116, 101], [])]
/-- A text out of its bytes. -/
def tx (l : List UInt8) : ByteArray := ⟨l.toArray⟩
def fieldCells (n v : ByteArray) (b : Bool) : List Value := [.string n, .string v, .bool b]
def stF : Array Value := (stL.flatMap fun x => fieldCells (tx x.1) (tx x.2) false).toArray
def stRow (i : Nat) : Array Value := (fieldCells (tx (stL.getD i ([], [])).1) (tx (stL.getD i ([], [])).2) false).toArray
def stZ : Array Value := ((List.range 61).flatMap fun _ => fieldCells ByteArray.empty ByteArray.empty false).toArray
theorem allocSt (d : Option Tmp) (ty : TypeId) (pos : String) (af : Array Edge) (gd : Option (Nat × Bool)) (ρ : Operand → Value) (W : World) :
    (execOp ρ { dst := d, op := .alloc 131, type := ty, pos := pos, after := af, guard := gd }).run Try.prog W = .ok (.value (.pointer (some ⟨W.heap.size, 0, none⟩))) (W.alloc (.cells stZ 131)) := by kernel_rfl
set_option maxRecDepth 100000 in
set_option maxHeartbeats 60000 in
theorem fields_any (w : World) : Calls Try.prog 80 #[] w fun e w' => e = .returned (.agg stF) ∧ Below w.heap.size w w' := by
  go_enter Try.func80, Try.ntmps80
  go_upto_region 1 with (first
    | ((with_reducible refine Great.wpList_allocTo rfl (some 0) rfl _ _ (allocSt _ _ _ _ _ _ _) ?_)))
  refine wp_region_lit ?_
  refine wpList_buildTo rfl 25 _ rfl (some 1) rfl (stRow 0) (by kernel_rfl) ?_
  refine wpList_buildTo rfl 25 _ rfl (some 2) rfl (stRow 1) (by kernel_rfl) ?_
  refine wpList_buildTo rfl 25 _ rfl (some 3) rfl (stRow 2) (by kernel_rfl) ?_
  refine wpList_buildTo rfl 25 _ rfl (some 4) rfl (stRow 3) (by kernel_rfl) ?_
  refine wpList_buildTo rfl 25 _ rfl (some 5) rfl (stRow 4) (by kernel_rfl) ?_
  refine wpList_buildTo rfl 25 _ rfl (some 6) rfl (stRow 5) (by kernel_rfl) ?_
  refine wpList_buildTo rfl 25 _ rfl (some 7) rfl (stRow 6) (by kernel_rfl) ?_
  refine wpList_buildTo rfl 25 _ rfl (some 8) rfl (stRow 7) (by kernel_rfl) ?_
  refine wpList_buildTo rfl 25 _ rfl (some 9) rfl (stRow 8) (by kernel_rfl) ?_
  refine wpList_buildTo rfl 25 _ rfl (some 10) rfl (stRow 9) (by kernel_rfl) ?_
  refine wpList_buildTo rfl 25 _ rfl (some 11) rfl (stRow 10) (by kernel_rfl) ?_
  refine wpList_buildTo rfl 25 _ rfl (some 12) rfl (stRow 11) (by kernel_rfl) ?_
  refine wpList_buildTo rfl 25 _ rfl (some 13) rfl (stRow 12) (by kernel_rfl) ?_
  refine wpList_buildTo rfl 25 _ rfl (some 14) rfl (stRow 13) (by kernel_rfl) ?_
  refine wpList_buildTo rfl 25 _ rfl (some 15) rfl (stRow 14) (by kernel_rfl) ?_
  refine wpList_buildTo rfl 25 _ rfl (some 16) rfl (stRow 15) (by kernel_rfl) ?_
  refine wpList_buildTo rfl 25 _ rfl (some 17) rfl (stRow 16) (by kernel_rfl) ?_
  refine wpList_buildTo rfl 25 _ rfl (some 18) rfl (stRow 17) (by kernel_rfl) ?_
  refine wpList_buildTo rfl 25 _ rfl (some 19) rfl (stRow 18) (by kernel_rfl) ?_
  refine wpList_buildTo rfl 25 _ rfl (some 20) rfl (stRow 19) (by kernel_rfl) ?_
  refine wpList_buildTo rfl 25 _ rfl (some 21) rfl (stRow 20) (by kernel_rfl) ?_
  refine wpList_buildTo rfl 25 _ rfl (some 22) rfl (stRow 21) (by kernel_rfl) ?_
  refine wpList_buildTo rfl 25 _ rfl (some 23) rfl (stRow 22) (by kernel_rfl) ?_
  refine wpList_buildTo rfl 25 _ rfl (some 24) rfl (stRow 23) (by kernel_rfl) ?_
  refine wpList_buildTo rfl 25 _ rfl (some 25) rfl (stRow 24) (by kernel_rfl) ?_
  refine wpList_buildTo rfl 25 _ rfl (some 26) rfl (stRow 25) (by kernel_rfl) ?_
  refine wpList_buildTo rfl 25 _ rfl (some 27) rfl (stRow 26) (by kernel_rfl) ?_
  refine wpList_buildTo rfl 25 _ rfl (some 28) rfl (stRow 27) (by kernel_rfl) ?_
  refine wpList_buildTo rfl 25 _ rfl (some 29) rfl (stRow 28) (by kernel_rfl) ?_
  refine wpList_buildTo rfl 25 _ rfl (some 30) rfl (stRow 29) (by kernel_rfl) ?_
  refine wpList_buildTo rfl 25 _ rfl (some 31) rfl (stRow 30) (by kernel_rfl) ?_
  refine wpList_buildTo rfl 25 _ rfl (some 32) rfl (stRow 31) (by kernel_rfl) ?_
  refine wpList_buildTo rfl 25 _ rfl (some 33) rfl (stRow 32) (by kernel_rfl) ?_
  refine wpList_buildTo rfl 25 _ rfl (some 34) rfl (stRow 33) (by kernel_rfl) ?_
  refine wpList_buildTo rfl 25 _ rfl (some 35) rfl (stRow 34) (by kernel_rfl) ?_
  refine wpList_buildTo rfl 25 _ rfl (some 36) rfl (stRow 35) (by kernel_rfl) ?_
  refine wpList_buildTo rfl 25 _ rfl (some 37) rfl (stRow 36) (by kernel_rfl) ?_
  refine wpList_buildTo rfl 25 _ rfl (some 38) rfl (stRow 37) (by kernel_rfl) ?_
  refine wpList_buildTo rfl 25 _ rfl (some 39) rfl (stRow 38) (by kernel_rfl) ?_
  refine wpList_buildTo rfl 25 _ rfl (some 40) rfl (stRow 39) (by kernel_rfl) ?_
  refine wpList_buildTo rfl 25 _ rfl (some 41) rfl (stRow 40) (by kernel_rfl) ?_
  refine wpList_buildTo rfl 25 _ rfl (some 42) rfl (stRow 41) (by kernel_rfl) ?_
  refine wpList_buildTo rfl 25 _ rfl (some 43) rfl (stRow 42) (by kernel_rfl) ?_
  refine wpList_buildTo rfl 25 _ rfl (some 44) rfl (stRow 43) (by kernel_rfl) ?_
  refine wpList_buildTo rfl 25 _ rfl (some 45) rfl (stRow 44) (by kernel_rfl) ?_
  refine wpList_buildTo rfl 25 _ rfl (some 46) rfl (stRow 45) (by kernel_rfl) ?_
  refine wpList_buildTo rfl 25 _ rfl (some 47) rfl (stRow 46) (by kernel_rfl) ?_
  refine wpList_buildTo rfl 25 _ rfl (some 48) rfl (stRow 47) (by kernel_rfl) ?_
  refine wpList_buildTo rfl 25 _ rfl (some 49) rfl (stRow 48) (by kernel_rfl) ?_
  refine wpList_buildTo rfl 25 _ rfl (some 50) rfl (stRow 49) (by kernel_rfl) ?_
  refine wpList_buildTo rfl 25 _ rfl (some 51) rfl (stRow 50) (by kernel_rfl) ?_
  refine wpList_buildTo rfl 25 _ rfl (some 52) rfl (stRow 51) (by kernel_rfl) ?_
  refine wpList_buildTo rfl 25 _ rfl (some 53) rfl (stRow 52) (by kernel_rfl) ?_
  refine wpList_buildTo rfl 25 _ rfl (some 54) rfl (stRow 53) (by kernel_rfl) ?_
  refine wpList_buildTo rfl 25 _ rfl (some 55) rfl (stRow 54) (by kernel_rfl) ?_
  refine wpList_buildTo rfl 25 _ rfl (some 56) rfl (stRow 55) (by kernel_rfl) ?_
  refine wpList_buildTo rfl 25 _ rfl (some 57) rfl (stRow 56) (by kernel_rfl) ?_
  refine wpList_buildTo rfl 25 _ rfl (some 58) rfl (stRow 57) (by kernel_rfl) ?_
  refine wpList_buildTo rfl 25 _ rfl (some 59) rfl (stRow 58) (by kernel_rfl) ?_
  refine wpList_buildTo rfl 25 _ rfl (some 60) rfl (stRow 59) (by kernel_rfl) ?_
  refine wpList_buildTo rfl 25 _ rfl (some 61) rfl (stRow 60) (by kernel_rfl) ?_
  refine wpList_buildTo rfl 131 _ rfl (some 62) rfl stF (by kernel_rfl) ?_
  refine wpList_store_row rfl _ _ _ rfl w.heap.size stF (by kernel_rfl) (by kernel_rfl) _ _ (heap_alloc_new w _) (by kernel_rfl) (by kernel_rfl) (by kernel_rfl) ?_
  refine wpList_nil ?_
  simp only [Exit.then]
  refine (by assumption : ∀ (a : Act) (w : World), Code.wp Try.prog Code.ret _ a w → _) _ _ ?_
  refine wp_ret ?_
  change bodyPost Try.prog Try.f80 (fun e w' => e = .returned (.agg stF) ∧ Below w.heap.size w w') Exit.ret _ _
  exact bodyPost_ret (results_cell_row rfl _ _ w.heap.size _ _ (0, 0) _ (by kernel_rfl) (setRow_heap _ _ _ _ _ _ (heap_alloc_new w _)) Try.underlying131 rfl (by kernel_rfl)) (by kernel_rfl) ⟨rfl, below_setRow ((Below.refl _ _).alloc (Nat.le_refl _) _) (Nat.le_refl _) _⟩
end Go.Proofs.Yteceinojmdgmeaa


/- What static.At, static.Find and static.Size return. -/
namespace Go.Proofs.Yteceinojmdgmeaa
open Go.RowKit
set_option linter.unusedVariables false
set_option linter.unusedSimpArgs false

theorem cell_eq0 {W W' : World} {a : Addr} (h : W'.heap[a.block]? = W.heap[a.block]?) : W'.cell? a = W.cell? a := by unfold World.cell?; rw [h]
def stN (k : Nat) : ByteArray := tx (stL.getD k ([], [])).1
def stV (k : Nat) : ByteArray := tx (stL.getD k ([], [])).2
theorem index_rows {P : Program} {t e : TypeId} {n sz : Nat} {cs : Array Value} {k : IntKind} (i : Nat) (h : P.underlying t = some (.array n e)) (ha : ∀ w, (isAgg e).run P w = .ok true w) (hs : ∀ w, (sizeOf e).run P w = .ok sz w) (hi : i < n) (w : World) :
    (Instr.index t (.agg cs) (.int k (i : Int))).run P w = .ok (.agg (cs.extract (i * sz) (i * sz + sz))) w := by
  have hb : 0 ≤ (i : Int) ∧ (i : Int) < (n : Int) := by omega
  simp [Instr.index, run_underlying h, asIntOf, hb, part, ha, hs, go_sem]
  intro hn
  omega
theorem three {α : Type} (f : α → List Value) (hf : ∀ x, (f x).length = 3) : ∀ (l : List α) (k : Nat) (x : α), l[k]? = some x → ((l.flatMap f).drop (k * 3)).take 3 = f x
  | [], k, x, h => by simp at h
  | y :: l, 0, x, h => by
    obtain rfl : y = x := by simpa using h
    rw [List.flatMap_cons, Nat.zero_mul, List.drop_zero, List.take_append_of_le_length (by rw [hf]; exact Nat.le_refl _), List.take_of_length_le (by rw [hf]; exact Nat.le_refl _)]
  | y :: l, k + 1, x, h => by
    have := three f hf l k x (by simpa using h)
    rw [List.flatMap_cons, ← this, show (k + 1) * 3 = (f y).length + k * 3 from by rw [hf]; omega, ← List.drop_drop, List.drop_left]
theorem stL_len : stL.length = 61 := by decide +kernel
theorem stF_row (k : Nat) (h : k < 61) : stF.extract (k * 3) (k * 3 + 3) = #[.string (stN k), .string (stV k), .bool false] := by
  have hk : k < stL.length := by rw [stL_len]; exact h
  have h3 := three (fun x : List UInt8 × List UInt8 => fieldCells (tx x.1) (tx x.2) false) (fun _ => rfl) stL k stL[k] (List.getElem?_eq_getElem hk)
  unfold stF
  rw [List.extract_toArray]
  unfold stN stV
  rw [List.getD_eq_getElem?_getD, List.getElem?_eq_getElem hk, Option.getD_some]
  have e : ∀ l : List Value, l.extract (k * 3) (k * 3 + 3) = (l.drop (k * 3)).take 3 := fun l => by
    rw [List.extract_eq_take_drop]
    congr 1
    omega
  rw [e, h3]
  rfl
theorem st_index (k : Nat) (h : k < 61) (w : World) : (Instr.index 131 (.agg stF) (.int .i64 (k : Int))).run Try.prog w = .ok (.agg #[.string (stN k), .string (stV k), .bool false]) w := by
  rw [index_rows k Try.underlying131 Try.isAgg25 Try.sizeOf25 h w, stF_row k h]
theorem field_size (n v : ByteArray) (b : Bool) (hn : n.size ≤ 1000000) (hv : v.size ≤ 1000000) (w : World) :
    Calls Try.prog 47 #[.agg #[.string n, .string v, .bool b]] w fun e w' => e = .returned (.int .i64 ((n.size : Int) + (v.size : Int) + 32)) ∧ Below w.heap.size w w' := by
  have h1 : IntKind.i64.wrap ((n.size : Int) + (v.size : Int)) = (n.size : Int) + (v.size : Int) := IntWalk.i64_in _ (by omega)
  have h2 : IntKind.i64.wrap ((n.size : Int) + (v.size : Int) + 32) = (n.size : Int) + (v.size : Int) + 32 := IntWalk.i64_in _ (by omega)
  go_enter Try.func47, Try.ntmps47
  go_wp2_with fail
  go_ret
  exact ⟨rfl, (Below.refl _ _).alloc (Nat.le_refl _) _⟩
theorem refField_size (n v : ByteArray) (b : Bool) (hn : n.size ≤ 1000000) (hv : v.size ≤ 1000000) (w : World) :
    Calls Try.prog 48 #[.agg #[.string n, .string v, .bool b]] w fun e w' => e = .returned (.int .i64 ((n.size : Int) + (v.size : Int) + 32)) ∧ Below w.heap.size w w' := by
  have h1 : IntKind.i64.wrap ((n.size : Int) + (v.size : Int)) = (n.size : Int) + (v.size : Int) := IntWalk.i64_in _ (by omega)
  have h2 : IntKind.i64.wrap ((n.size : Int) + (v.size : Int) + 32) = (n.size : Int) + (v.size : Int) + 32 := IntWalk.i64_in _ (by omega)
  go_enter Try.func48, Try.ntmps48
  go_wp2_with fail
  go_ret
  exact ⟨rfl, (Below.refl _ _).alloc (Nat.le_refl _) _⟩
set_option maxRecDepth 100000 in
set_option maxHeartbeats 1000000 in
theorem stAt_in (k : Nat) (h : k < 61) (i : Int) (hik : i = (k : Int) + 1) (w : World) : Calls Try.prog 92 #[.int .i64 i] w fun e w' => e = .returned (.tuple #[.agg #[.string (stN k), .string (stV k), .bool false], .bool true]) ∧ Below w.heap.size w w' := by
  have hk1 : decide (i < 1) = false := by simp; omega
  have hk2 : decide (61 < i) = false := by simp; omega
  have hkw : IntKind.i64.wrap (i - 1) = (k : Int) := by rw [show i - 1 = (k : Int) from by omega]; exact IntWalk.i64_in _ (by omega)
  have HI := Lib.hid (st_index k h)
  clear hik
  go_enter Try.func92, Try.ntmps92
  go_wp2_with fail
  refine (fields_any _).mono ?_
  rintro e w1 ⟨rfl, hb⟩
  have hrow : w1.heap[w.heap.size]? = some (.cells #[.string ByteArray.empty, .string ByteArray.empty, .bool false] 25 (0, 0)) := (hb.block w.heap.size (by simp)).trans (heap_alloc_new w _)
  have hx := HI.out w1
  have hB : Below w.heap.size w (w1.setRow w.heap.size #[.string (stN k), .string (stV k), .bool false]) := below_setRow (((Below.refl _ _).alloc (Nat.le_refl _) _).trans (hb.mono (by simp))) (Nat.le_refl _) _
  have HB := Lib.hid hB
  have hrow2 : (w1.setRow w.heap.size #[.string (stN k), .string (stV k), .bool false]).heap[w.heap.size]? = some (.cells #[.string (stN k), .string (stV k), .bool false] 25 (0, 0)) := setRow_heap _ _ _ _ _ _ hrow
  have HR2 := Lib.hid hrow2
  clear hb HI hB hrow2
  go_wp2_with (refine wpList_store_row rfl _ _ _ rfl w.heap.size #[.string (stN k), .string (stV k), .bool false] rfl rfl _ _ hrow (by kernel_rfl) (by kernel_rfl) (by kernel_rfl) ?_)
  have q : ∀ j : Nat, (w1.setRow w.heap.size #[.string (stN k), .string (stV k), .bool false]).cell? ⟨w.heap.size, j, none⟩ = #[Value.string (stN k), .string (stV k), .bool false][j]? := fun j => cell_of_row _ _ _ _ _ _ HR2.out
  have q0 := q 0
  have q1 := q 1
  have q2 := q 2
  clear q
  refine bodyPost_ret (v := .tuple #[.agg #[.string (stN k), .string (stV k), .bool false], .bool true]) (by simp [results, Try.results92, go_sem, q0, q1, q2]) rfl ⟨rfl, HB.out⟩
set_option maxRecDepth 100000 in
theorem stAt_out (i : Int) (hi : i < 1 ∨ 61 < i) (w : World) : Calls Try.prog 92 #[.int .i64 i] w fun e w' => e = .returned (.tuple #[.agg #[.string ByteArray.empty, .string ByteArray.empty, .bool false], .bool false]) ∧ Below w.heap.size w w' := by
  rcases hi with hi | hi
  · have hk1 : decide (i < 1) = true := by simpa using hi
    go_enter Try.func92, Try.ntmps92
    go_wp2_with fail
    refine bodyPost_ret (v := .tuple #[.agg #[.string ByteArray.empty, .string ByteArray.empty, .bool false], .bool false]) (by simp [results, Try.results92, go_sem]; rfl) rfl ⟨rfl, (Below.refl _ _).alloc (Nat.le_refl _) _⟩
  · have hk1 : decide (i < 1) = false := by simp; omega
    have hk2 : decide (61 < i) = true := by simpa using hi
    go_enter Try.func92, Try.ntmps92
    go_wp2_with fail
    refine bodyPost_ret (v := .tuple #[.agg #[.string ByteArray.empty, .string ByteArray.empty, .bool false], .bool false]) (by simp [results, Try.results92, go_sem]; rfl) rfl ⟨rfl, (Below.refl _ _).alloc (Nat.le_refl _) _⟩
end Go.Proofs.Yteceinojmdgmeaa

