/- repr.Get: plain. -/
import Derived.Test.YtmnaljnkgaebkaaRepF
import Derived.Test.YtmnaljnkgaebkaaRepG
import Derived.Test.YtmnaljnkgaebkaaRepC
namespace Go.Proofs.Ytmnaljnkgaebkaa
open Go.RowKit
set_option linter.unusedVariables false
set_option linter.unusedSimpArgs false

def Itm.zero : Itm := ⟨0, 0, ByteArray.empty, ByteArray.empty⟩
def Itm.put (x : Itm) (p : Bool) (s : ByteArray) : Itm := if p then ⟨x.kind, x.index, x.name, s⟩ else ⟨x.kind, x.index, s, x.value⟩
/-- The texts that still come (false: the name; true: the value), one behind the other. -/
def goParts (bs : List Nat) : List Bool → Itm → Nat → Itm × Nat × Nat
  | [], x, at' => (x, at', 0)
  | p :: ps, x, at' => if (textG (bs.drop at')).2.2 ≠ 0 then (Itm.zero, 0, (textG (bs.drop at')).2.2) else goParts bs ps (x.put p (textG (bs.drop at')).1) (at' + (textG (bs.drop at')).2.1)
def partsOf (k n : Nat) : List Bool := if litK k then (if n = 0 then [false, true] else [true]) else []
/-- An item got from bytes: it, how many bytes it has, the error. -/
def itemG (bs : List Nat) : Itm × Nat × Nat := match bs with
  | [] => (Itm.zero, 0, 3)
  | b :: l => if (getN (b :: l) (formB (kindN b))).2.2 ≠ 0 then (Itm.zero, 0, (getN (b :: l) (formB (kindN b))).2.2)
    else if kindN b = 0 ∧ (getN (b :: l) (formB (kindN b))).1 = 0 then (Itm.zero, 0, 4)
    else goParts (b :: l) (partsOf (kindN b) (getN (b :: l) (formB (kindN b))).1) ⟨kindN b, ((getN (b :: l) (formB (kindN b))).1 : Nat), ByteArray.empty, ByteArray.empty⟩ (getN (b :: l) (formB (kindN b))).2.1
theorem textG_ok (bs : List Nat) (h : (textG bs).2.2 = 0) : 1 ≤ (textG bs).2.1 ∧ (textG bs).2.1 ≤ bs.length := by
  have hg := getN_ok bs 7 (by unfold K4; decide)
  unfold textG at h ⊢
  split at h
  · rename_i h1; exact absurd h h1
  rename_i h1
  rw [if_neg h1]
  have h0 := hg (by omega)
  split at h
  · simp at h
  rename_i h2
  rw [if_neg h2]
  split at h
  · simp at h
  rename_i h3
  rw [if_neg h3]
  split at h
  · rename_i h4
    rw [if_pos h4]
    simp only
    omega
  · rename_i h4
    rw [if_neg h4]
    cases hd : decL ((bs.drop (getN bs 7).2.1).take (getN bs 7).1) with
    | none => rw [hd] at h; simp at h
    | some l => simp only; omega
def GetPostI (bs : List Nat) (w : World) (e : Ending) (w' : World) : Prop :=
  e = .returned (.tuple #[.agg #[.int .u8 (((itemG bs).1.kind : Nat) : Int), .int .i64 (itemG bs).1.index, .string (itemG bs).1.name, .string (itemG bs).1.value], .int .i64 ((itemG bs).2.1 : Nat), .int .i64 ((itemG bs).2.2 : Nat)]) ∧ Below w.heap.size w w'
theorem IRow.set1 {W : World} {q k : Nat} {i : Int} {nm vl : ByteArray} (h : IRow W q k i nm vl) (i' : Int) : IRow (W.setCell ⟨q, 1, none⟩ (.int .i64 i')) q k i' nm vl := heap_setCell_same W q 1 _ _ _ h
theorem IRow.set2 {W : World} {q k : Nat} {i : Int} {nm vl : ByteArray} (h : IRow W q k i nm vl) (s : ByteArray) : IRow (W.setCell ⟨q, 2, none⟩ (.string s)) q k i s vl := heap_setCell_same W q 2 _ _ _ h
theorem IRow.set3 {W : World} {q k : Nat} {i : Int} {nm vl : ByteArray} (h : IRow W q k i nm vl) (s : ByteArray) : IRow (W.setCell ⟨q, 3, none⟩ (.string s)) q k i nm s := heap_setCell_same W q 3 _ _ _ h
theorem IRow.other {W : World} {q k : Nat} {i : Int} {nm vl : ByteArray} (h : IRow W q k i nm vl) (p j : Nat) (hp : p ≠ q) (x : Value) : IRow (W.setCell ⟨p, j, none⟩ x) q k i nm vl := (Below.heap_setCell _ _ _ _ (fun e => hp (by simpa using e.symm))).trans h
theorem IRow.alloc {W : World} {q k : Nat} {i : Int} {nm vl : ByteArray} (h : IRow W q k i nm vl) (o : Obj) : IRow (W.alloc o) q k i nm vl := h.step ((Below.refl _ _).alloc (Nat.le_refl _) o)
theorem IRow.new (W : World) (k : Nat) (i : Int) (nm vl : ByteArray) : IRow (W.alloc (.cells #[.int .u8 (k : Int), .int .i64 i, .string nm, .string vl] 77)) W.heap.size k i nm vl := heap_alloc_new W _
#print axioms textG_ok
end Go.Proofs.Ytmnaljnkgaebkaa
