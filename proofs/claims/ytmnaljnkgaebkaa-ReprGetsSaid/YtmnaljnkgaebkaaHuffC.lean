/- What huff.lengths and huff.codes return: the lengths, and the codes, of all bytes. -/
import Derived.Test.YtmnaljnkgaebkaaProg
import Derived.Test.YtmnaljnkgaebkaaHuffP
import Derived.WalkKit
import Derived.Lib.Hide
import Derived.BigRegion
import Derived.Great.Walk
namespace Go.Proofs.Ytmnaljnkgaebkaa
open Go.RowKit
set_option linter.unusedVariables false
set_option linter.unusedSimpArgs false

/-- Numbers as a row of cells. -/
def rowK (k : IntKind) (l : List Nat) : Array Value := (l.map fun n : Nat => Value.int k (n : Int)).toArray
theorem rowK_size (k : IntKind) (l : List Nat) : (rowK k l).size = l.length := by simp [rowK]
theorem rowK_at (k : IntKind) (l : List Nat) (i : Nat) (h : i < l.length) : (rowK k l)[i]? = some (.int k (l.getD i 0 : Nat)) := by
  simp [rowK, h]
theorem rowK_set (k : IntKind) (l : List Nat) (i v : Nat) : (rowK k l).setIfInBounds i (.int k (v : Nat)) = rowK k (l.set i v) := by
  apply Array.ext'
  simp [rowK]
theorem below_setRow {B : Nat} {a w : World} (h : Below B a w) {g : Nat} (hg : B ≤ g) (cs : Array Value) : Below B a (w.setRow g cs) :=
  h.trans ⟨rfl, rfl, rfl, by simp [World.setRow], fun k hk => by
    show (w.heap.modify g _)[k]? = _
    rw [Array.getElem?_modify, if_neg (by omega)]⟩
theorem zeros_row (n : Nat) (t : TypeId) (k : IntKind) : (Array.replicate n (Value.int k 0)) = rowK k (List.replicate n 0) := by
  simp [rowK]

def lenI : List Int := lenL.map fun n : Nat => (n : Int)
theorem lenI_row : (lenI.map (Value.int .u8)).toArray = rowK .u8 lenL := by simp [lenI, rowK]

set_option maxRecDepth 100000 in
theorem lengths_any (w : World) : Calls Try.prog 55 #[] w fun e w' => e = .returned (.agg (rowK .u8 lenL)) ∧ Below w.heap.size w w' := by
  go_enter Try.func55, Try.ntmps55

  go_wp2_with (first
    | (refine Great.wpList_allocTo rfl (some 0) rfl (.pointer (some ⟨w.heap.size, 0, none⟩)) (.cells (rowK .u8 (List.replicate 256 0)) 99) (by kernel_rfl) ?_)
    | (refine wpList_buildFlatArrTo rfl 99 5 256 _ rfl .u8 lenI (some 1) rfl Try.underlying99 (by kernel_rfl) (by kernel_rfl) (by kernel_rfl) ?_; rw [lenI_row])
    | (refine wpList_store_rowTo rfl _ _ _ rfl rfl w.heap.size (rowK .u8 lenL) rfl rfl _ _ (heap_alloc_new w _) (by kernel_rfl) (by kernel_rfl) (by kernel_rfl) ?_))


  exact bodyPost_ret (v := .agg (rowK .u8 lenL)) (results_cell_row rfl _ _ w.heap.size _ _ (0, 0) _ rfl (setRow_heap _ _ _ _ _ _ (heap_alloc_new w _)) Try.underlying99 rfl (by kernel_rfl)) rfl ⟨rfl, below_setRow ((Below.refl _ _).alloc (Nat.le_refl _) _) (Nat.le_refl _) _⟩
/-- An element of an array by value, whose elements are one cell wide. -/
theorem index_arr {P : Program} {t e : TypeId} {n : Nat} {cs : Array Value} {v : Value} {k : IntKind} (i : Nat) (h : P.underlying t = some (.array n e)) (ha : ∀ w, (isAgg e).run P w = .ok false w) (hs : ∀ w, (sizeOf e).run P w = .ok 1 w) (hi : i < n) (hv : cs[i]? = some v) (w : World) :
    (Instr.index t (.agg cs) (.int k (i : Int))).run P w = .ok v w := by
  have hb : 0 ≤ (i : Int) ∧ (i : Int) < (n : Int) := by omega
  simp [Instr.index, run_underlying h, asIntOf, hb, part, ha, hs, hv, go_sem]
  intro hn
  omega
theorem len_index (k : Nat) (hk : k < 256) (w : World) : (Instr.index 99 (.agg (rowK .u8 lenL)) (.int .i64 (k : Int))).run Try.prog w = .ok (.int .u8 (lenOf k : Nat)) w :=
  index_arr k Try.underlying99 Try.isAgg5 Try.sizeOf5 hk (rowK_at .u8 lenL k (by rw [lenL_len]; exact hk)) w
end Go.Proofs.Ytmnaljnkgaebkaa
