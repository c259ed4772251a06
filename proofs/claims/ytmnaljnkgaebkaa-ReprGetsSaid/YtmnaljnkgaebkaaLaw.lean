/- Cells that a statement's own memory holds, kept over calls that only make new memory: what a region that draws its order is told of them. -/
import Derived.WalkKit
import Derived.Deep.Draws
import Derived.Deep.Quiet
import Derived.Deep.QuietTactic
import Derived.Laws.Rows
namespace Go.Proofs.Ytmnaljnkgaebkaa
open Go.RowKit
set_option linter.unusedVariables false
set_option linter.unusedSimpArgs false

/-- Each listed cell (block, offset, value) holds its value. -/
def At (w : World) : List (Nat × Nat × Value) → Prop
  | [] => True
  | (g, i, v) :: l => w.cell? ⟨g, i, none⟩ = some v ∧ At w l
/-- Each listed block is there. -/
def There (n : Nat) : List (Nat × Nat × Value) → Prop
  | [] => True
  | (g, _, _) :: l => g < n ∧ There n l
/-- The cells hold their values in W, their blocks are there, and below B nothing has turned since w. -/
structure Kept (B : Nat) (w : World) (L : List (Nat × Nat × Value)) (W : World) : Prop where
  cells : At W L
  there : There W.heap.size L
  below : Below B w W
  base : B ≤ W.heap.size
theorem At.step {W w' : World} (hb : Below W.heap.size W w') : ∀ {L : List (Nat × Nat × Value)}, There W.heap.size L → At W L → At w' L
  | [], _, _ => trivial
  | (g, i, v) :: l, ht, ha => ⟨(hb.cell (p := ⟨g, i, none⟩) ht.1).trans ha.1, At.step hb ht.2 ha.2⟩
theorem There.mono {n m : Nat} (h : n ≤ m) : ∀ {L : List (Nat × Nat × Value)}, There n L → There m L
  | [], _ => trivial
  | (g, i, v) :: l, ht => ⟨Nat.lt_of_lt_of_le ht.1 h, There.mono h ht.2⟩
theorem Kept.step {B : Nat} {w W w' : World} {L : List (Nat × Nat × Value)} (hb : Below W.heap.size W w') (h : Kept B w L W) : Kept B w L w' :=
  ⟨At.step hb h.there h.cells, There.mono hb.size h.there, h.below.trans (hb.mono h.base), Nat.le_trans h.base hb.size⟩
theorem At.drew {w : World} : ∀ {L : List (Nat × Nat × Value)}, At w L → At w.drew L
  | [], _ => trivial
  | (g, i, v) :: l, ha => ⟨ha.1, At.drew ha.2⟩
theorem Kept.drew {B : Nat} {w W : World} {L : List (Nat × Nat × Value)} (h : Kept B w L W) : Kept B w L W.drew := ⟨h.cells.drew, h.there, h.below.drew, h.base⟩
/-- A cell that is listed first, and the rest of the list. -/
theorem Kept.drewN {B : Nat} {w W : World} {L : List (Nat × Nat × Value)} (h : Kept B w L W) (n : Nat) : Kept B w L (W.drewN n) := by
  induction n with
  | zero => exact h
  | succ n ih => exact ih.drew

/-! ### A region that draws its order, all of whose operations yield one value in every world that keeps the listed cells: one walk, in the order of the text -/
section
variable {P : Program} {C : World → Prop}
/-- An operation that yields one value in every world of the class (kept from the walk's sight). -/
def QOp (P : Program) (o : Oper) (a : Act) (C : World → Prop) (K : Act → Prop) : Prop := o.quiet P a C K
def QAt (P : Program) (o : Oper) (a : Act) (C : World → Prop) (W : World) (v : Value) : Prop := o.quietAt P a C W v
theorem QOp.mk {o : Oper} {a : Act} {K : Act → Prop} (h : ∃ v : Value, (∀ W, C W → QAt P o a C W v) ∧ K (a.put o.dst v)) : QOp P o a C K := h
/-- The rest of the walk, kept from the walk's sight. -/
def QRest (P : Program) (ops : Array Oper) (C : World → Prop) (Q : Act → Prop) (rest : List Oper) (a : Act) : Prop := wpQuiet P ops C Q rest a
theorem qrest_step {ops : Array Oper} {Q : Act → Prop} {a : Act} {o : Oper} {rest : List Oper}
    (h : ∀ K : Act → Prop, (∀ a, QRest P ops C Q rest a → K a) → if Region.wanted o (yielded ops a.tmps) then QOp P o a C K else K (a.put o.dst undef)) : QRest P ops C Q (o :: rest) a :=
  wpQuiet_step h
theorem qrest_nil {ops : Array Oper} {Q : Act → Prop} {a : Act} (h : Q a) : QRest P ops C Q [] a := h
theorem held_region {id : Nat} {Q : Exit → Act → World → Prop} {a : Act} {w : World} {l : List Oper} {B : Nat} {w0 : World} {L : List (Nat × Nat × Value)} (hm : P.follows .mixedOrders = true) (hB : Region.lexB .any l.toArray = true)
    (hC : Kept B w0 L w) (h : QRest P l.toArray (Kept B w0 L) (fun a' => ∀ w', Kept B w0 L w' → Q .normal a' w') l a) : (Code.region id l.toArray true).wp P Q a w :=
  wp_region_quiet (C := Kept B w0 L) hm hB hC.drew (by simpa [QRest] using h)
/-- The same, at whatever class of worlds that a draw does not leave. -/
theorem class_region {id : Nat} {Q : Exit → Act → World → Prop} {a : Act} {w : World} {l : List Oper} (hm : P.follows .mixedOrders = true) (hB : Region.lexB .any l.toArray = true)
    (hC : C w.drew) (h : QRest P l.toArray C (fun a' => ∀ w', C w' → Q .normal a' w') l a) : (Code.region id l.toArray true).wp P Q a w :=
  wp_region_quiet (C := C) hm hB hC (by simpa [QRest] using h)
/-- A load of a whole row. -/
theorem qat_load_row {o : Oper} {a : Act} {W : World} (ty : TypeId) (x : Operand) (ho : o.op = .load ty x) (g : Nat) (hx : a.eval x = .pointer (some ⟨g, 0, none⟩)) (t : TypeId) (cs : Array Value) (fr : Nat × Nat) (d : TypeDesc)
    (hg : W.heap[g]? = some (.cells cs t fr)) (hu : P.underlying ty = some d) (hd : (match d with | .struct _ | .array _ _ => true | _ => false) = true) (hi : (P.info? ty).map (·.size) = some cs.size) : QAt P o a C W (.agg cs) := by
  unfold QAt Oper.quietAt execOp
  simp only [ho, hx, Instr.loadAt, Instr.sureAddr, Sem.run_bind, Sem.run_pure, Result.andThen_ok, run_loadVar_row W g t ty cs fr d hg hu hd hi]
  exact ⟨rfl, rfl⟩
end
end Go.Proofs.Ytmnaljnkgaebkaa
