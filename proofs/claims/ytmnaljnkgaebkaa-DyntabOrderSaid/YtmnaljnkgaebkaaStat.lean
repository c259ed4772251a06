/- The table that is always there: what static.fields returns. -/
import Derived.Test.YtmnaljnkgaebkaaHuffE
import Derived.Test.YtmnaljnkgaebkaaHuffC
import Derived.Deep.Cut
import Derived.Great.BuildSlice
namespace Go.Proofs.Ytmnaljnkgaebkaa
open Go.RowKit
set_option linter.unusedVariables false
set_option linter.unusedSimpArgs false

/-- Names and values. -/
def stL : List (List UInt8 × List UInt8) := [
  ([58, 97, 117, 116, 104, 111, 114, 105, 116, 121], []),
  ([58, 109, 101, 116, 104, 111, 100], [71, 69, 84]),
  ([58, 109, 101, 116, 104, 111, 100], [80, 79, 83, 84]),
  ([58, 112, 97, 116, 104], [47]),
  ([58, 112, 97, 116, 104], [47, 105, 110, 100, 101, 120, 46, 104, 116, 109, 108]),
  ([58, 115, 99, 104, 101, 109, 101], [104, 116, 116, 112]),
  ([58, 115, 99, 104, 101, 109, 101], [104, 116, 116, 112, 115]),
  ([58, 115, 116, 97, 116, 117, 115], [50, 48, 48]),
  ([58, 115, 116, 97, 116, 117, 115], [50, 48, 52]),
  ([58, 115, 116, 97, 116, 117, 115], [50, 48, 54]),
  ([58, 115, 116, 97, 116, 117, 115], [51, 48, 52]),
  ([58, 115, 116, 97, 116, 117, 115], [52, 48, 48]),
  ([58, 115, 116, 97, 116, 117, 115], [52, 48, 52]),
  ([58, 115, 116, 97, 116, 117, 115], [53, 48, 48]),
  ([97, 99, 99, 101, 112, 116, 45, 99, 104, 97, 114, 115, 101, 116], []),
  ([97, 99, 99, 101, 112, 116, 45, 101, 110, 99, 111, 100, 105, 110, 103], [103, 122, 105, 112, 44, 32, 100, 101, 102, 108, 97, 116, 101]),
  ([97, 99, 99, 101, 112, 116, 45, 108, 97, 110, 103, 117, 97, 103, 101], []),
  ([97, 99, 99, 101, 112, 116, 45, 114, 97, 110, 103, 101, 115], []),
  ([97, 99, 99, 101, 112, 116], []),
  ([97, 99, 99, 101, 115, 115, 45, 99, 111, 110, 116, 114, 111, 108, 45, 97, 108, 108, 111, 119, 45, 111, 114, 105, 103, 105, 110], []),
  ([97, 103, 101], []),
  ([97, 108, 108, 111, 119], []),
  ([97, 117, 116, 104, 111, 114, 105, 122, 97, 116, 105, 111, 110], []),
  ([99, 97, 99, 104, 101, 45, 99, 111, 110, 116, 114, 111, 108], []),
  ([99, 111, 110, 116, 101, 110, 116, 45, 100, 105, 115, 112, 111, 115, 105, 116, 105, 111, 110], []),
  ([99, 111, 110, 116, 101, 110, 116, 45, 101, 110, 99, 111, 100, 105, 110, 103], []),
  ([99, 111, 110, 116, 101, 110, 116, 45, 108, 97, 110, 103, 117, 97, 103, 101], []),
  ([99, 111, 110, 116, 101, 110, 116, 45, 108, 101, 110, 103, 116, 104], []),
  ([99, 111, 110, 116, 101, 110, 116, 45, 108, 111, 99, 97, 116, 105, 111, 110], []),
  ([99, 111, 110, 116, 101, 110, 116, 45, 114, 97, 110, 103, 101], []),
  ([99, 111, 110, 116, 101, 110, 116, 45, 116, 121, 112, 101], []),
  ([99, 111, 111, 107, 105, 101], []),
  ([100, 97, 116, 101], []),
  ([101, 116, 97, 103], []),
  ([101, 120, 112, 101, 99, 116], []),
  ([101, 120, 112, 105, 114, 101, 115], []),
  ([102, 114, 111, 109], []),
  ([104, 111, 115, 116], []),
  ([105, 102, 45, 109, 97, 116, 99, 104], []),
  ([105, 102, 45, 109, 111, 100, 105, 102, 105, 101, 100, 45, 115, 105, 110, 99, 101], []),
  ([105, 102, 45, 110, 111, 110, 101, 45, 109, 97, 116, 99, 104], []),
  ([105, 102, 45, 114, 97, 110, 103, 101], []),
  ([105, 102, 45, 117, 110, 109, 111, 100, 105, 102, 105, 101, 100, 45, 115, 105, 110, 99, 101], []),
  ([108, 97, 115, 116, 45, 109, 111, 100, 105, 102, 105, 101, 100], []),
  ([108, 105, 110, 107], []),
  ([108, 111, 99, 97, 116, 105, 111, 110], []),
  ([109, 97, 120, 45, 102, 111, 114, 119, 97, 114, 100, 115], []),
  ([112, 114, 111, 120, 121, 45, 97, 117, 116, 104, 101, 110, 116, 105, 99, 97, 116, 101], []),
  ([112, 114, 111, 120, 121, 45, 97, 117, 116, 104, 111, 114, 105, 122, 97, 116, 105, 111, 110], []),
  ([114, 97, 110, 103, 101], []),
  ([114, 101, 102, 101, 114, 101, 114], []),
  ([114, 101, 102, 114, 101, 115, 104], []),
  ([114, 101, 116, 114, 121, 45, 97, 102, 116, 101, 114], []),
  ([115, 101, 114, 118, 101, 114], []),
  ([115, 101, 116, 45, 99, 111, 111, 107, 105, 101], []),
  ([115, 116, 114, 105, 99, 116, 45, 116, 114, 97, 110, 115, 112, 111, 114, 116, 45, 115, 101, 99, 117, 114, 105, 116, 121], []),
  ([116, 114, 97, 110, 115, 102, 101, 114, 45, 101, 110, 99, 111, 100, 105, 110, 103], []),
  ([117, 115, 101, 114, 45, 97, 103, 101, 110, 116], []),
  ([118, 97, 114, 121], []),
  ([118, 105, 97], []),
  ([119, 119, 119, 45, 97, 117, 116, 104, 101, 110, 116, 105, 99, 97, 116, 101], [])]
/-- A text out of its bytes. -/
def tx (l : List UInt8) : ByteArray := ⟨l.toArray⟩
def fieldCells (n v : ByteArray) (b : Bool) : List Value := [.string n, .string v, .bool b]
def stF : Array Value := (stL.flatMap fun x => fieldCells (tx x.1) (tx x.2) false).toArray
def stRow (i : Nat) : Array Value := (fieldCells (tx (stL.getD i ([], [])).1) (tx (stL.getD i ([], [])).2) false).toArray
def stZ : Array Value := ((List.range 61).flatMap fun _ => fieldCells ByteArray.empty ByteArray.empty false).toArray
theorem allocSt (d : Option Tmp) (ty : TypeId) (pos : String) (af : Array Edge) (gd : Option (Nat × Bool)) (ρ : Operand → Value) (W : World) :
    (execOp ρ { dst := d, op := .alloc 153, type := ty, pos := pos, after := af, guard := gd }).run Try.prog W = .ok (.value (.pointer (some ⟨W.heap.size, 0, none⟩))) (W.alloc (.cells stZ 153)) := by kernel_rfl
set_option maxRecDepth 100000 in
set_option maxHeartbeats 60000 in
theorem fields_any (w : World) : Calls Try.prog 90 #[] w fun e w' => e = .returned (.agg stF) ∧ Below w.heap.size w w' := by
  go_enter Try.func90, Try.ntmps90
  go_upto_region 1 with (first
    | ((with_reducible refine Great.wpList_allocTo rfl (some 0) rfl _ _ (allocSt _ _ _ _ _ _ _) ?_)))
  refine wp_region_lit ?_
  refine wpList_buildTo rfl 50 _ rfl (some 1) rfl (stRow 0) (by kernel_rfl) ?_
  refine wpList_buildTo rfl 50 _ rfl (some 2) rfl (stRow 1) (by kernel_rfl) ?_
  refine wpList_buildTo rfl 50 _ rfl (some 3) rfl (stRow 2) (by kernel_rfl) ?_
  refine wpList_buildTo rfl 50 _ rfl (some 4) rfl (stRow 3) (by kernel_rfl) ?_
  refine wpList_buildTo rfl 50 _ rfl (some 5) rfl (stRow 4) (by kernel_rfl) ?_
  refine wpList_buildTo rfl 50 _ rfl (some 6) rfl (stRow 5) (by kernel_rfl) ?_
  refine wpList_buildTo rfl 50 _ rfl (some 7) rfl (stRow 6) (by kernel_rfl) ?_
  refine wpList_buildTo rfl 50 _ rfl (some 8) rfl (stRow 7) (by kernel_rfl) ?_
  refine wpList_buildTo rfl 50 _ rfl (some 9) rfl (stRow 8) (by kernel_rfl) ?_
  refine wpList_buildTo rfl 50 _ rfl (some 10) rfl (stRow 9) (by kernel_rfl) ?_
  refine wpList_buildTo rfl 50 _ rfl (some 11) rfl (stRow 10) (by kernel_rfl) ?_
  refine wpList_buildTo rfl 50 _ rfl (some 12) rfl (stRow 11) (by kernel_rfl) ?_
  refine wpList_buildTo rfl 50 _ rfl (some 13) rfl (stRow 12) (by kernel_rfl) ?_
  refine wpList_buildTo rfl 50 _ rfl (some 14) rfl (stRow 13) (by kernel_rfl) ?_
  refine wpList_buildTo rfl 50 _ rfl (some 15) rfl (stRow 14) (by kernel_rfl) ?_
  refine wpList_buildTo rfl 50 _ rfl (some 16) rfl (stRow 15) (by kernel_rfl) ?_
  refine wpList_buildTo rfl 50 _ rfl (some 17) rfl (stRow 16) (by kernel_rfl) ?_
  refine wpList_buildTo rfl 50 _ rfl (some 18) rfl (stRow 17) (by kernel_rfl) ?_
  refine wpList_buildTo rfl 50 _ rfl (some 19) rfl (stRow 18) (by kernel_rfl) ?_
  refine wpList_buildTo rfl 50 _ rfl (some 20) rfl (stRow 19) (by kernel_rfl) ?_
  refine wpList_buildTo rfl 50 _ rfl (some 21) rfl (stRow 20) (by kernel_rfl) ?_
  refine wpList_buildTo rfl 50 _ rfl (some 22) rfl (stRow 21) (by kernel_rfl) ?_
  refine wpList_buildTo rfl 50 _ rfl (some 23) rfl (stRow 22) (by kernel_rfl) ?_
  refine wpList_buildTo rfl 50 _ rfl (some 24) rfl (stRow 23) (by kernel_rfl) ?_
  refine wpList_buildTo rfl 50 _ rfl (some 25) rfl (stRow 24) (by kernel_rfl) ?_
  refine wpList_buildTo rfl 50 _ rfl (some 26) rfl (stRow 25) (by kernel_rfl) ?_
  refine wpList_buildTo rfl 50 _ rfl (some 27) rfl (stRow 26) (by kernel_rfl) ?_
  refine wpList_buildTo rfl 50 _ rfl (some 28) rfl (stRow 27) (by kernel_rfl) ?_
  refine wpList_buildTo rfl 50 _ rfl (some 29) rfl (stRow 28) (by kernel_rfl) ?_
  refine wpList_buildTo rfl 50 _ rfl (some 30) rfl (stRow 29) (by kernel_rfl) ?_
  refine wpList_buildTo rfl 50 _ rfl (some 31) rfl (stRow 30) (by kernel_rfl) ?_
  refine wpList_buildTo rfl 50 _ rfl (some 32) rfl (stRow 31) (by kernel_rfl) ?_
  refine wpList_buildTo rfl 50 _ rfl (some 33) rfl (stRow 32) (by kernel_rfl) ?_
  refine wpList_buildTo rfl 50 _ rfl (some 34) rfl (stRow 33) (by kernel_rfl) ?_
  refine wpList_buildTo rfl 50 _ rfl (some 35) rfl (stRow 34) (by kernel_rfl) ?_
  refine wpList_buildTo rfl 50 _ rfl (some 36) rfl (stRow 35) (by kernel_rfl) ?_
  refine wpList_buildTo rfl 50 _ rfl (some 37) rfl (stRow 36) (by kernel_rfl) ?_
  refine wpList_buildTo rfl 50 _ rfl (some 38) rfl (stRow 37) (by kernel_rfl) ?_
  refine wpList_buildTo rfl 50 _ rfl (some 39) rfl (stRow 38) (by kernel_rfl) ?_
  refine wpList_buildTo rfl 50 _ rfl (some 40) rfl (stRow 39) (by kernel_rfl) ?_
  refine wpList_buildTo rfl 50 _ rfl (some 41) rfl (stRow 40) (by kernel_rfl) ?_
  refine wpList_buildTo rfl 50 _ rfl (some 42) rfl (stRow 41) (by kernel_rfl) ?_
  refine wpList_buildTo rfl 50 _ rfl (some 43) rfl (stRow 42) (by kernel_rfl) ?_
  refine wpList_buildTo rfl 50 _ rfl (some 44) rfl (stRow 43) (by kernel_rfl) ?_
  refine wpList_buildTo rfl 50 _ rfl (some 45) rfl (stRow 44) (by kernel_rfl) ?_
  refine wpList_buildTo rfl 50 _ rfl (some 46) rfl (stRow 45) (by kernel_rfl) ?_
  refine wpList_buildTo rfl 50 _ rfl (some 47) rfl (stRow 46) (by kernel_rfl) ?_
  refine wpList_buildTo rfl 50 _ rfl (some 48) rfl (stRow 47) (by kernel_rfl) ?_
  refine wpList_buildTo rfl 50 _ rfl (some 49) rfl (stRow 48) (by kernel_rfl) ?_
  refine wpList_buildTo rfl 50 _ rfl (some 50) rfl (stRow 49) (by kernel_rfl) ?_
  refine wpList_buildTo rfl 50 _ rfl (some 51) rfl (stRow 50) (by kernel_rfl) ?_
  refine wpList_buildTo rfl 50 _ rfl (some 52) rfl (stRow 51) (by kernel_rfl) ?_
  refine wpList_buildTo rfl 50 _ rfl (some 53) rfl (stRow 52) (by kernel_rfl) ?_
  refine wpList_buildTo rfl 50 _ rfl (some 54) rfl (stRow 53) (by kernel_rfl) ?_
  refine wpList_buildTo rfl 50 _ rfl (some 55) rfl (stRow 54) (by kernel_rfl) ?_
  refine wpList_buildTo rfl 50 _ rfl (some 56) rfl (stRow 55) (by kernel_rfl) ?_
  refine wpList_buildTo rfl 50 _ rfl (some 57) rfl (stRow 56) (by kernel_rfl) ?_
  refine wpList_buildTo rfl 50 _ rfl (some 58) rfl (stRow 57) (by kernel_rfl) ?_
  refine wpList_buildTo rfl 50 _ rfl (some 59) rfl (stRow 58) (by kernel_rfl) ?_
  refine wpList_buildTo rfl 50 _ rfl (some 60) rfl (stRow 59) (by kernel_rfl) ?_
  refine wpList_buildTo rfl 50 _ rfl (some 61) rfl (stRow 60) (by kernel_rfl) ?_
  refine wpList_buildTo rfl 153 _ rfl (some 62) rfl stF (by kernel_rfl) ?_
  refine wpList_store_row rfl _ _ _ rfl w.heap.size stF (by kernel_rfl) (by kernel_rfl) _ _ (heap_alloc_new w _) (by kernel_rfl) (by kernel_rfl) (by kernel_rfl) ?_
  refine wpList_nil ?_
  simp only [Exit.then]
  refine (by assumption : ∀ (a : Act) (w : World), Code.wp Try.prog Code.ret _ a w → _) _ _ ?_
  refine wp_ret ?_
  change bodyPost Try.prog Try.f90 (fun e w' => e = .returned (.agg stF) ∧ Below w.heap.size w w') Exit.ret _ _
  exact bodyPost_ret (results_cell_row rfl _ _ w.heap.size _ _ (0, 0) _ (by kernel_rfl) (setRow_heap _ _ _ _ _ _ (heap_alloc_new w _)) Try.underlying153 rfl (by kernel_rfl)) (by kernel_rfl) ⟨rfl, below_setRow ((Below.refl _ _).alloc (Nat.le_refl _) _) (Nat.le_refl _) _⟩
end Go.Proofs.Ytmnaljnkgaebkaa
