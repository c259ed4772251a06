/- What (*huff.Coder).plant does: a byte's code put into the coder's tree. -/
import Derived.Test.YtmnaljnkgaebkaaHuffN
import Derived.Test.YtmnaljnkgaebkaaHuffT
namespace Go.Proofs.Ytmnaljnkgaebkaa
open Go.RowKit
set_option linter.unusedVariables false
set_option linter.unusedSimpArgs false

/-- Below B nothing has turned but the block p. -/
structure Near (p B : Nat) (w w' : World) : Prop where
  os : w'.os = w.os
  tape : w'.tape = w.tape
  output : w'.output = w.output
  size : w.heap.size ≤ w'.heap.size
  block : ∀ k, k < B → k ≠ p → w'.heap[k]? = w.heap[k]?
theorem Near.refl (p B : Nat) (w : World) : Near p B w w := ⟨rfl, rfl, rfl, Nat.le_refl _, fun _ _ _ => rfl⟩
theorem Near.trans {p B : Nat} {a b c : World} (h : Near p B a b) (k : Near p B b c) : Near p B a c :=
  ⟨k.os.trans h.os, k.tape.trans h.tape, k.output.trans h.output, Nat.le_trans h.size k.size, fun i hi hp => (k.block i hi hp).trans (h.block i hi hp)⟩
theorem Near.mono {p B B' : Nat} {w w' : World} (h : Near p B w w') (hB : B' ≤ B) : Near p B' w w' := ⟨h.os, h.tape, h.output, h.size, fun k hk hp => h.block k (Nat.lt_of_lt_of_le hk hB) hp⟩
theorem Near.drew {p B : Nat} {a w : World} (h : Near p B a w) : Near p B a w.drew := ⟨h.os, h.tape, h.output, h.size, h.block⟩
theorem Near.of {p B : Nat} {w w' : World} (h : Below B w w') : Near p B w w' := ⟨h.os, h.tape, h.output, h.size, fun k hk _ => h.block k hk⟩
theorem Near.below {p B : Nat} {w w' : World} (h : Near p B w w') (hp : p < B) : Below p w w' := ⟨h.os, h.tape, h.output, h.size, fun k hk => h.block k (by omega) (by omega)⟩
theorem Near.alloc {p B : Nat} {a w : World} (h : Near p B a w) (hB : B ≤ w.heap.size) (o : Obj) : Near p B a (w.alloc o) :=
  h.trans (Near.of ((Below.refl B w).alloc hB o))
theorem Near.setCell {p B : Nat} {a w : World} (h : Near p B a w) {q : Addr} (hq : q.block = p ∨ B ≤ q.block) (u : Value) : Near p B a (w.setCell q u) :=
  h.trans ⟨rfl, rfl, rfl, by simp [World.setCell], fun k hk hp => Below.heap_setCell _ _ _ _ (by omega)⟩
theorem Near.grown {p B : Nat} {a w w' : World} {row : Option Nat} (h : Near p B a w) (hg : w.grownBy w' row) (hB : B ≤ w.heap.size) (hr : ∀ k, row = some k → B ≤ k) : Near p B a w' :=
  h.trans (Near.of ((Below.refl B w).grown hg hB hr))
/-- A coder's block: whether its tree is made, its lock, the tree, how often it was made. -/
def CRow (p : Nat) (W : World) (d m : Int) (tv : Value) (bt : Int) : Prop := W.heap[p]? = some (.cells #[.int .u32 d, .int .i32 m, .int .u32 0, tv, .int .i64 bt] 117 (0, 0))
theorem CRow.cell {p : Nat} {W : World} {d m : Int} {tv : Value} {bt : Int} (h : CRow p W d m tv bt) :
    W.cell? ⟨p, 0, none⟩ = some (.int .u32 d) ∧ W.cell? ⟨p, 1, none⟩ = some (.int .i32 m) ∧ W.cell? ⟨p, 2, none⟩ = some (.int .u32 0) ∧ W.cell? ⟨p, 3, none⟩ = some tv ∧ W.cell? ⟨p, 4, none⟩ = some (.int .i64 bt) := by
  refine ⟨?_, ?_, ?_, ?_, ?_⟩ <;> (rw [cell_of_row _ _ _ _ _ _ h]; rfl)
theorem CRow.frozen {p : Nat} {W : World} {d m : Int} {tv : Value} {bt : Int} (h : CRow p W d m tv bt) (i : Nat) : W.frozen? ⟨p, i, none⟩ = false := frozen_row h i
theorem CRow.step {p : Nat} {W W' : World} {d m : Int} {tv : Value} {bt : Int} (h : CRow p W d m tv bt) (e : W'.heap[p]? = W.heap[p]?) : CRow p W' d m tv bt := e.trans h
theorem CRow.lt {p : Nat} {W : World} {d m : Int} {tv : Value} {bt : Int} (h : CRow p W d m tv bt) : p < W.heap.size := by
  by_cases hp : p < W.heap.size
  · exact hp
  · unfold CRow at h; rw [Array.getElem?_eq_none (by omega)] at h; simp at h
theorem CRow.setTree {p : Nat} {W : World} {d m : Int} {tv : Value} {bt : Int} (h : CRow p W d m tv bt) (tv' : Value) : CRow p (W.setCell ⟨p, 3, none⟩ tv') d m tv' bt := heap_setCell_same W p 3 _ _ tv' h
theorem CRow.other {p : Nat} {W : World} {d m : Int} {tv : Value} {bt : Int} (h : CRow p W d m tv bt) (g i : Nat) (hg : p ≠ g) (u : Value) : CRow p (W.setCell ⟨g, i, none⟩ u) d m tv bt := (Below.heap_setCell W ⟨g, i, none⟩ u p hg).trans h
/-- A tree in memory of one's own. -/
def TreeV (W : World) (B : Nat) (tv : Value) (t : List Int) : Prop := W.ownsRow B 120 2 tv (t.length / 2) (t.map (Value.int .i64))
theorem node_info : (Try.prog.info? 120).map (fun i => (i.zero, i.size, i.bytes)) = some (some (.agg #[.int .i64 0, .int .i64 0]), 2, 16) := by kernel_rfl
theorem coder_size : (Try.prog.info? 117).map (fun i => (i.zero, i.size)) = some (some (.agg #[.int .u32 0, .int .i32 0, .int .u32 0, .slice none 0 0, .int .i64 0]), 5) := by kernel_rfl
end Go.Proofs.Ytmnaljnkgaebkaa
