/- What huff.Code and huff.Size return: a byte's code and its length; how many bytes a text's bits are. -/
import Derived.Test.YtmnaljnkgaebkaaHuffD
import Derived.Test.YtmnaljnkgaebkaaLaw
import Derived.Lib.ConvBytes
import Derived.OpenShut
import Derived.IntWalk
namespace Go.Proofs.Ytmnaljnkgaebkaa
open Go.RowKit
set_option linter.unusedVariables false
set_option linter.unusedSimpArgs false

theorem code_index (c : Nat) (hc : c < 256) (w : World) : (Instr.index 101 (.agg (rowK .u32 codeL)) (.int .u8 (c : Int))).run Try.prog w = .ok (.int .u32 (codeOf c : Nat)) w :=
  index_arr c Try.underlying101 Try.isAgg23 Try.sizeOf23 hc (rowK_at .u32 codeL c (by rw [codeL_len]; exact hc)) w
/-- A block holds the lengths; below B nothing has turned. -/
structure HasLens (B g : Nat) (w W : World) : Prop where
  row : W.heap[g]? = some (.cells (rowK .u8 lenL) 99 (0, 0))
  below : Below B w W
  base : B ≤ W.heap.size
  lt : g < W.heap.size
theorem HasLens.step {B g : Nat} {w W W' : World} (h : HasLens B g w W) (hb : Below W.heap.size W W') : HasLens B g w W' :=
  ⟨(hb.block g h.lt).trans h.row, h.below.trans (hb.mono h.base), Nat.le_trans h.base hb.size, Nat.lt_of_lt_of_le h.lt hb.size⟩
theorem HasLens.drew {B g : Nat} {w W : World} (h : HasLens B g w W) : HasLens B g w W.drew := ⟨h.row, h.below.drew, h.base, h.lt⟩
theorem HasLens.cell {B g : Nat} {w W : World} (h : HasLens B g w W) (c : Nat) (hc : c < 256) : W.cell? ⟨g, c, none⟩ = some (.int .u8 (lenOf c : Nat)) := cell_row h.row c (by rw [lenL_len]; exact hc)

theorem alloc256b (d : Option Tmp) (ty : TypeId) (pos : String) (af : Array Edge) (gd : Option (Nat × Bool)) (ρ : Operand → Value) (W : World) :
    (execOp ρ { dst := d, op := .alloc 99, type := ty, pos := pos, after := af, guard := gd }).run Try.prog W = .ok (.value (.pointer (some ⟨W.heap.size, 0, none⟩))) (W.alloc (.cells (rowK .u8 z256) 99)) := by kernel_rfl

set_option maxRecDepth 100000 in
set_option maxHeartbeats 1000000 in
theorem code_any (c : Nat) (hc : c < 256) (w : World) : Calls Try.prog 15 #[.int .u8 (c : Int)] w fun e w' => e = .returned (.tuple #[.int .u32 (codeOf c : Nat), .int .i64 (lenOf c : Nat)]) ∧ Below w.heap.size w w' := by
  obtain ⟨n1, n2⟩ := len_range c hc
  have hci : (c : Int) < 256 := by omega
  go_enter Try.func15, Try.ntmps15
  go_wp2_with fail
  refine (lengths_any _).mono ?_
  rintro e w1 ⟨rfl, hb1⟩
  go_wp2_with (first
    | (refine Great.wpList_allocTo rfl _ rfl _ _ (alloc256b _ _ _ _ _ _ _) ?_)
    | (refine wpList_store_row rfl _ _ _ rfl w1.heap.size (rowK .u8 lenL) rfl rfl _ _ (heap_alloc_new w1 _) (by kernel_rfl) (by kernel_rfl) (by kernel_rfl) ?_))
  have hL : HasLens w.heap.size w1.heap.size w ((w1.alloc (.cells (rowK .u8 z256) 99)).setRow w1.heap.size (rowK .u8 lenL)) :=
    ⟨setRow_heap _ _ _ _ _ _ (heap_alloc_new w1 _), below_setRow (hb1.alloc hb1.size _) hb1.size _, by have := hb1.size; simp; omega, by simp⟩
  have z1 := hb1.size
  clear hb1
  generalize (w1.alloc (.cells (rowK .u8 z256) 99)).setRow w1.heap.size (rowK .u8 lenL) = W1 at hL ⊢
  generalize w1.heap.size = g at hL ⊢
  have hwr : IntKind.i64.wrap ((lenOf c : Nat) : Int) = (lenOf c : Nat) := IntWalk.i64_in _ (by omega)
  refine class_region (C := HasLens w.heap.size g w) (by kernel_rfl) (by kernel_rfl) hL.drew ?_
  iterate 10
    with_reducible refine qrest_step ?_
    intro K hK'
    go_simp
    with_reducible refine QOp.mk ?_
    apply Exists.intro
    with_reducible refine ⟨?_, hK' _ ?_⟩
    · intro W hW
      first
        | exact qat_load_row 99 (.tmp 4) rfl g rfl _ (rowK .u8 lenL) (0, 0) _ hW.row Try.underlying99 rfl (by kernel_rfl)
        | (have hcell := hW.cell c hc
           have hix := fun W => code_index c hc W
           unfold QAt
           go_simp
           first
             | (with_reducible rfl)
             | (go_at_call 56; refine (codes_any _).mono ?_; rintro e w' ⟨rfl, hb⟩; exact ⟨rfl, hW.step hb⟩))
    clear hK' K
  with_reducible refine qrest_nil ?_
  intro w' hw'
  go_wp2
  go_ret2
  exact ⟨rfl, hw'.below⟩
end Go.Proofs.Ytmnaljnkgaebkaa
