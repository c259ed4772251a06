/- unack.Greatest ranges over a function: what it goes over. -/
import Derived.RangeFuncNested
import Derived.RangeFuncBound
import Derived.RangeFuncCalls
import Derived.RangeFuncLeaves
import Derived.RangeFuncBox
import Derived.RangeFuncFrom
import Derived.Shelf.Abstract
import Derived.Shelf.RegionOpen
import Derived.WalkKit
import Derived.OwnWalkIn
import Derived.TacticsInMore
import Derived.LoopNIn
import Derived.LoopIn
import Derived.Lib.Hide
import Derived.Lib.SliceRun
import Derived.Laws.StructEq
import Derived.Laws.Rows
import Derived.IntWalk
import Derived.Deep.Draws
import Derived.Test.YtlpapdknggjfkaaGreatDoorChecked
namespace Go.Proofs.YtlpapdknggjfkaaGreatDoor
open Go.RowKit Go.Shelf
set_option linter.unusedVariables false
set_option linter.unusedSimpArgs false
attribute [local go_sem] Oper.semAt_some

/-- All rows but one stay. -/
def KpG (g : Nat) (W W' : World) : Prop := ∀ (j : Nat) (arr : Array Value) (el : TypeId) (fz : Nat × Nat), j ≠ g → W.heap[j]? = some (.cells arr el fz) → W'.heap[j]? = some (.cells arr el fz)
/-- The queue's items, and their pairs. -/
structure QRow (W : World) (g : Nat) (oa : Option Addr) (n : Nat) (ia : Nat → Option Addr) (im ic : Nat → Nat) (is : Nat → Int) (pi pv : Nat → Nat → Nat) : Prop where
  q : ∀ k, k < n → ∃ b o arr el fz, oa = some ⟨b, o, none⟩ ∧ b ≠ g ∧ W.heap[b]? = some (.cells arr el fz) ∧ arr[o + 2 * k]? = some (.slice (ia k) (im k) (ic k)) ∧ arr[o + 2 * k + 1]? = some (.int .i64 (is k))
  p : ∀ k, k < n → ∀ j, j < im k → ∃ b o arr el fz, ia k = some ⟨b, o, none⟩ ∧ b ≠ g ∧ W.heap[b]? = some (.cells arr el fz) ∧ arr[o + 2 * j]? = some (.int .u16 (pi k j : Int)) ∧ arr[o + 2 * j + 1]? = some (.int .u32 (pv k j : Int))
theorem QRow.kept {W W' : World} {g : Nat} {oa : Option Addr} {n : Nat} {ia : Nat → Option Addr} {im ic : Nat → Nat} {is : Nat → Int} {pi pv : Nat → Nat → Nat} (h : QRow W g oa n ia im ic is pi pv) (hk : KpG g W W') : QRow W' g oa n ia im ic is pi pv :=
  ⟨fun k hkn => let ⟨b, o, arr, el, fz, h1, h2, h3, h4⟩ := h.q k hkn; ⟨b, o, arr, el, fz, h1, h2, hk _ _ _ _ h2 h3, h4⟩,
   fun k hkn j hj => let ⟨b, o, arr, el, fz, h1, h2, h3, h4⟩ := h.p k hkn j hj; ⟨b, o, arr, el, fz, h1, h2, hk _ _ _ _ h2 h3, h4⟩⟩
theorem KpG.of_below {g : Nat} {W W' : World} (hb : Below W.heap.size W W') : KpG g W W' := fun j arr el fz hj h => (hb.block j (Array.getElem?_eq_some_iff.1 h).1).trans h
theorem KpG.trans {g : Nat} {A B C : World} (h : KpG g A B) (k : KpG g B C) : KpG g A C := fun j arr el fz hj e => k j arr el fz hj (h j arr el fz hj e)
def vsJ (id : Nat) (pi pv : Nat → Nat → Nat) (k j : Nat) : List Nat := (List.range j).filterMap fun i => if pi k i = id then some (pv k i) else none
def xsK (id : Nat) (im : Nat → Nat) (pi pv : Nat → Nat → Nat) (k : Nat) : List Nat := (List.range k).flatMap fun i => vsJ id pi pv i (im i)
theorem vsJ_succ (id : Nat) (pi pv : Nat → Nat → Nat) (k j : Nat) : vsJ id pi pv k (j + 1) = vsJ id pi pv k j ++ (if pi k j = id then [pv k j] else []) := by
  unfold vsJ
  rw [List.range_succ, List.filterMap_append]
  by_cases h : pi k j = id <;> simp [h]
theorem xsK_succ (id : Nat) (im : Nat → Nat) (pi pv : Nat → Nat → Nat) (k : Nat) : xsK id im pi pv (k + 1) = xsK id im pi pv k ++ vsJ id pi pv k (im k) := by
  unfold xsK
  rw [List.range_succ, List.flatMap_append]
  simp
theorem vsJ_len (id : Nat) (pi pv : Nat → Nat → Nat) (k : Nat) {a b : Nat} (h : a ≤ b) : (vsJ id pi pv k a).length ≤ (vsJ id pi pv k b).length := by
  induction b with
  | zero => obtain rfl : a = 0 := by omega
            exact Nat.le_refl _
  | succ b ih =>
    by_cases h1 : a = b + 1
    · subst h1; exact Nat.le_refl _
    · have := ih (by omega)
      rw [vsJ_succ, List.length_append]
      omega
theorem xsK_len (id : Nat) (im : Nat → Nat) (pi pv : Nat → Nat → Nat) {a b : Nat} (h : a ≤ b) : (xsK id im pi pv a).length ≤ (xsK id im pi pv b).length := by
  induction b with
  | zero => obtain rfl : a = 0 := by omega
            exact Nat.le_refl _
  | succ b ih =>
    by_cases h1 : a = b + 1
    · subst h1; exact Nat.le_refl _
    · have := ih (by omega)
      rw [xsK_succ, List.length_append]
      omega
theorem pre_len {id : Nat} {im : Nat → Nat} {pi pv : Nat → Nat → Nat} {n k j : Nat} (hk : k < n) (hj : j ≤ im k) : (xsK id im pi pv k ++ vsJ id pi pv k j).length < (xsK id im pi pv n).length + 1 := by
  have h1 := xsK_len id im pi pv (show k + 1 ≤ n by omega)
  have h2 := vsJ_len id pi pv k hj
  rw [xsK_succ, List.length_append] at h1
  rw [List.length_append]
  omega
theorem grown_belowU {w w' : World} (hb : Below w.heap.size w w') : w.grownBy w' none := ⟨hb.os, hb.tape, hb.output, hb.size, fun i hi _ => hb.block i hi⟩
abbrev encN (x : Nat) : Array Value := #[.int .i64 (x : Int)]
theorem cell_arr {W : World} {b i : Nat} {arr : Array Value} {el : TypeId} {fz : Nat × Nat} {v : Value} (h : W.heap[b]? = some (.cells arr el fz)) (hv : arr[i]? = some v) : W.cell? ⟨b, i, none⟩ = some v := by
  unfold World.cell?
  rw [h]
  exact hv
end Go.Proofs.YtlpapdknggjfkaaGreatDoor

