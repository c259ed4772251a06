/- An argument that is a struct by value, all of whose fields are one cell wide: its value is written out, and each field's cell has its own reading. -/
import Derived.Lib.SmallJoins
import Derived.Deep.Slices
import Derived.Deep.Fields
import Derived.ChangeSame
namespace Go.Proofs.YtdflkikhmngfiaaGreatDoor
open Go.Joins Go.ChangeShapes Go.WideShapes Go.RowKit Go.Deep
set_option linter.unusedVariables false
set_option linter.unusedSimpArgs false

section
variable {H : Type} {enc : TypeId × Value → H} {P : Program} {w : World} {base : Nat} {spare : Nat → Bool} {held : Bool}
/-- What is known of a struct's cells: field j is one cell, and reads by its own type. -/
def Fielded (enc : TypeId × Value → H) (P : Program) (w : World) (base : Nat) (spare : Nat → Bool) (held : Bool) (fs : Array Field) (cs : List Value) : Prop :=
  cs.length = fs.size ∧ ∀ (j : Nat) (f : Field), fs[j]? = some f → ∃ (c : Value) (n : Nat) (y : DataW H × List MemPlace), cs[j]? = some c ∧ DataW.trod enc P w base spare held n f.type [c] = some y
theorem take1_of {cs : List Value} {j : Nat} {c : Value} (h : cs[j]? = some c) : (cs.drop j).take 1 = [c] := by
  obtain ⟨hl, he⟩ := List.getElem?_eq_some_iff.1 h
  rw [List.drop_eq_getElem_cons hl, he]
  rfl
theorem open_agg {r : Reach} {b0 : Nat} {t : TypeId} {fs : Array Field} {v : Value} {d : DataW H} {p : List MemPlace} (hs : P.underlying t = some (.struct fs)) (hone : oneCellFields P fs = true) (hC : P.cellsOf t = fs.size)
    (hv : Value.okWide P w r b0 t v) (h : DataW.Trod enc P w base spare held t v d p) : ∃ cs : List Value, v = .agg cs.toArray ∧ Fielded enc P w base spare held fs cs := by
  obtain ⟨a, rfl, hsz⟩ := okWide_struct hs hv
  obtain ⟨fuel, hf⟩ := h
  obtain ⟨ys, n, _, _, _, hlen, hg⟩ := DataW.trod_struct hs hf
  have hl : a.toList.length = fs.size := by rw [Array.length_toList, hsz, hC]
  refine ⟨a.toList, by simp, hl, fun j f hj => ?_⟩
  have hjl : j < fs.size := (Array.getElem?_eq_some_iff.1 hj).1
  obtain ⟨ho, hk⟩ := hone_of hone j f hj
  have h1 := hg j f hj
  rw [ho, hk] at h1
  have hc : a.toList[j]? = some (a.toList[j]'(by omega)) := List.getElem?_eq_getElem (by omega)
  have h2 : (Value.agg a).cells.toList = a.toList := rfl
  rw [h2, take1_of hc] at h1
  have hy : ys[j]? = some (ys[j]'(by omega)) := List.getElem?_eq_getElem (by omega)
  exact ⟨_, n, _, hc, h1.trans hy⟩
theorem Fielded.str {fs : Array Field} {cs : List Value} (h : Fielded enc P w base spare held fs cs) {j : Nat} {f : Field} (hj : fs[j]? = some f) (ht : P.underlying f.type = some .string) : ∃ s : ByteArray, cs[j]? = some (.string s) ∧ s.size ≤ maxLen := by
  obtain ⟨c, n, y, hc, hd⟩ := h.2 j f hj
  obtain ⟨s, he, _, hs⟩ := DataW.trod_string ht hd
  exact ⟨s, by rw [hc, (List.cons.inj he).1], hs⟩
theorem Fielded.int {fs : Array Field} {cs : List Value} (h : Fielded enc P w base spare held fs cs) {j : Nat} {f : Field} {k : IntKind} (hj : fs[j]? = some f) (ht : P.underlying f.type = some (.int k)) : ∃ n : Int, cs[j]? = some (.int k n) ∧ (Lit.int k n).wf = true := by
  obtain ⟨c, n, y, hc, hd⟩ := h.2 j f hj
  obtain ⟨s, he, _, hs⟩ := DataW.trod_int ht hd
  exact ⟨s, by rw [hc, (List.cons.inj he).1], hs⟩
theorem Fielded.bool {fs : Array Field} {cs : List Value} (h : Fielded enc P w base spare held fs cs) {j : Nat} {f : Field} (hj : fs[j]? = some f) (ht : P.underlying f.type = some .bool) : ∃ b : Bool, cs[j]? = some (.bool b) := by
  obtain ⟨c, n, y, hc, hd⟩ := h.2 j f hj
  obtain ⟨s, he, _⟩ := DataW.trod_bool ht hd
  exact ⟨s, by rw [hc, (List.cons.inj he).1]⟩
end
theorem list_of3 {cs : List Value} {a b c : Value} (hl : cs.length = 3) (h0 : cs[0]? = some a) (h1 : cs[1]? = some b) (h2 : cs[2]? = some c) : cs = [a, b, c] := by
  match cs, hl with
  | [_, _, _], _ => simp_all
theorem list_of4 {cs : List Value} {a b c d : Value} (hl : cs.length = 4) (h0 : cs[0]? = some a) (h1 : cs[1]? = some b) (h2 : cs[2]? = some c) (h3 : cs[3]? = some d) : cs = [a, b, c, d] := by
  match cs, hl with
  | [_, _, _, _], _ => simp_all
theorem list_of6 {cs : List Value} {a b c d e f : Value} (hl : cs.length = 6) (h0 : cs[0]? = some a) (h1 : cs[1]? = some b) (h2 : cs[2]? = some c) (h3 : cs[3]? = some d) (h4 : cs[4]? = some e) (h5 : cs[5]? = some f) : cs = [a, b, c, d, e, f] := by
  match cs, hl with
  | [_, _, _, _, _, _], _ => simp_all
end Go.Proofs.YtdflkikhmngfiaaGreatDoor

