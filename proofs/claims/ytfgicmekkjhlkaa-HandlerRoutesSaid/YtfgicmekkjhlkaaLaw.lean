/- Cells that a statement's own memory holds, kept over calls that only make new memory: what a region that draws its order is told of them. -/
import Derived.WalkKit
import Derived.Deep.Draws
namespace Go.Proofs.Ytfgicmekkjhlkaa
open Go.RowKit
set_option linter.unusedVariables false
set_option linter.unusedSimpArgs false

/-- Each listed cell (block, offset, value) holds its value. -/
def At (w : World) : List (Nat × Nat × Value) → Prop
  | [] => True
  | (g, i, v) :: l => w.cell? ⟨g, i, none⟩ = some v ∧ At w l
/-- Each listed block is there. -/
def There (n : Nat) : List (Nat × Nat × Value) → Prop
  | [] => True
  | (g, _, _) :: l => g < n ∧ There n l
/-- The cells hold their values in W, their blocks are there, and below B nothing has turned since w. -/
structure Kept (B : Nat) (w : World) (L : List (Nat × Nat × Value)) (W : World) : Prop where
  cells : At W L
  there : There W.heap.size L
  below : Below B w W
  base : B ≤ W.heap.size
theorem At.step {W w' : World} (hb : Below W.heap.size W w') : ∀ {L : List (Nat × Nat × Value)}, There W.heap.size L → At W L → At w' L
  | [], _, _ => trivial
  | (g, i, v) :: l, ht, ha => ⟨(hb.cell (p := ⟨g, i, none⟩) ht.1).trans ha.1, At.step hb ht.2 ha.2⟩
theorem There.mono {n m : Nat} (h : n ≤ m) : ∀ {L : List (Nat × Nat × Value)}, There n L → There m L
  | [], _ => trivial
  | (g, i, v) :: l, ht => ⟨Nat.lt_of_lt_of_le ht.1 h, There.mono h ht.2⟩
theorem Kept.step {B : Nat} {w W w' : World} {L : List (Nat × Nat × Value)} (hb : Below W.heap.size W w') (h : Kept B w L W) : Kept B w L w' :=
  ⟨At.step hb h.there h.cells, There.mono hb.size h.there, h.below.trans (hb.mono h.base), Nat.le_trans h.base hb.size⟩
theorem At.drew {w : World} : ∀ {L : List (Nat × Nat × Value)}, At w L → At w.drew L
  | [], _ => trivial
  | (g, i, v) :: l, ha => ⟨ha.1, At.drew ha.2⟩
theorem Kept.drew {B : Nat} {w W : World} {L : List (Nat × Nat × Value)} (h : Kept B w L W) : Kept B w L W.drew := ⟨h.cells.drew, h.there, h.below.drew, h.base⟩
end Go.Proofs.Ytfgicmekkjhlkaa
