/- Kit · BckI: joined by a program, for a claim has at most 60 files. -/
import Derived.Lib.SmallJoins
import Derived.Deep.Slices
import Derived.Deep.Fields
import Derived.ChangeSame
import Derived.Test.YteceinojmdgmeaaC36
import Derived.Laws.LoneSync
/- An argument that is a struct by value, all of whose fields are one cell wide: its value is written out, and each field's cell has its own reading. -/
namespace Go.Proofs.Yteceinojmdgmeaa
open Go.Joins Go.ChangeShapes Go.WideShapes Go.RowKit Go.Deep
set_option linter.unusedVariables false
set_option linter.unusedSimpArgs false

section
variable {H : Type} {enc : TypeId × Value → H} {P : Program} {w : World} {base : Nat} {spare : Nat → Bool} {held : Bool}
/-- What is known of a struct's cells: field j is one cell, and reads by its own type. -/
def Fielded (enc : TypeId × Value → H) (P : Program) (w : World) (base : Nat) (spare : Nat → Bool) (held : Bool) (fs : Array Field) (cs : List Value) : Prop :=
  cs.length = fs.size ∧ ∀ (j : Nat) (f : Field), fs[j]? = some f → ∃ (c : Value) (n : Nat) (y : DataW H × List MemPlace), cs[j]? = some c ∧ DataW.trod enc P w base spare held n f.type [c] = some y
theorem take1_of {cs : List Value} {j : Nat} {c : Value} (h : cs[j]? = some c) : (cs.drop j).take 1 = [c] := by
  obtain ⟨hl, he⟩ := List.getElem?_eq_some_iff.1 h
  rw [List.drop_eq_getElem_cons hl, he]
  rfl
theorem open_agg {r : Reach} {b0 : Nat} {t : TypeId} {fs : Array Field} {v : Value} {d : DataW H} {p : List MemPlace} (hs : P.underlying t = some (.struct fs)) (hone : oneCellFields P fs = true) (hC : P.cellsOf t = fs.size)
    (hv : Value.okWide P w r b0 t v) (h : DataW.Trod enc P w base spare held t v d p) : ∃ cs : List Value, v = .agg cs.toArray ∧ Fielded enc P w base spare held fs cs := by
  obtain ⟨a, rfl, hsz⟩ := okWide_struct hs hv
  obtain ⟨fuel, hf⟩ := h
  obtain ⟨ys, n, _, _, _, hlen, hg⟩ := DataW.trod_struct hs hf
  have hl : a.toList.length = fs.size := by rw [Array.length_toList, hsz, hC]
  refine ⟨a.toList, by simp, hl, fun j f hj => ?_⟩
  have hjl : j < fs.size := (Array.getElem?_eq_some_iff.1 hj).1
  obtain ⟨ho, hk⟩ := hone_of hone j f hj
  have h1 := hg j f hj
  rw [ho, hk] at h1
  have hc : a.toList[j]? = some (a.toList[j]'(by omega)) := List.getElem?_eq_getElem (by omega)
  have h2 : (Value.agg a).cells.toList = a.toList := rfl
  rw [h2, take1_of hc] at h1
  have hy : ys[j]? = some (ys[j]'(by omega)) := List.getElem?_eq_getElem (by omega)
  exact ⟨_, n, _, hc, h1.trans hy⟩
theorem Fielded.str {fs : Array Field} {cs : List Value} (h : Fielded enc P w base spare held fs cs) {j : Nat} {f : Field} (hj : fs[j]? = some f) (ht : P.underlying f.type = some .string) : ∃ s : ByteArray, cs[j]? = some (.string s) ∧ s.size ≤ maxLen := by
  obtain ⟨c, n, y, hc, hd⟩ := h.2 j f hj
  obtain ⟨s, he, _, hs⟩ := DataW.trod_string ht hd
  exact ⟨s, by rw [hc, (List.cons.inj he).1], hs⟩
theorem Fielded.int {fs : Array Field} {cs : List Value} (h : Fielded enc P w base spare held fs cs) {j : Nat} {f : Field} {k : IntKind} (hj : fs[j]? = some f) (ht : P.underlying f.type = some (.int k)) : ∃ n : Int, cs[j]? = some (.int k n) ∧ (Lit.int k n).wf = true := by
  obtain ⟨c, n, y, hc, hd⟩ := h.2 j f hj
  obtain ⟨s, he, _, hs⟩ := DataW.trod_int ht hd
  exact ⟨s, by rw [hc, (List.cons.inj he).1], hs⟩
theorem Fielded.bool {fs : Array Field} {cs : List Value} (h : Fielded enc P w base spare held fs cs) {j : Nat} {f : Field} (hj : fs[j]? = some f) (ht : P.underlying f.type = some .bool) : ∃ b : Bool, cs[j]? = some (.bool b) := by
  obtain ⟨c, n, y, hc, hd⟩ := h.2 j f hj
  obtain ⟨s, he, _⟩ := DataW.trod_bool ht hd
  exact ⟨s, by rw [hc, (List.cons.inj he).1]⟩
end
theorem list_of3 {cs : List Value} {a b c : Value} (hl : cs.length = 3) (h0 : cs[0]? = some a) (h1 : cs[1]? = some b) (h2 : cs[2]? = some c) : cs = [a, b, c] := by
  match cs, hl with
  | [_, _, _], _ => simp_all
theorem list_of4 {cs : List Value} {a b c d : Value} (hl : cs.length = 4) (h0 : cs[0]? = some a) (h1 : cs[1]? = some b) (h2 : cs[2]? = some c) (h3 : cs[3]? = some d) : cs = [a, b, c, d] := by
  match cs, hl with
  | [_, _, _, _], _ => simp_all
theorem list_of6 {cs : List Value} {a b c d e f : Value} (hl : cs.length = 6) (h0 : cs[0]? = some a) (h1 : cs[1]? = some b) (h2 : cs[2]? = some c) (h3 : cs[3]? = some d) (h4 : cs[4]? = some e) (h5 : cs[5]? = some f) : cs = [a, b, c, d, e, f] := by
  match cs, hl with
  | [_, _, _, _, _, _], _ => simp_all
end Go.Proofs.Yteceinojmdgmeaa


/- An argument of type []footmanref05.Item, opened in the words of the walks. -/
namespace Go.Proofs.Yteceinojmdgmeaa
open Go.Joins Go.ChangeShapes Go.WideShapes Go.RowKit Go.Deep
set_option linter.unusedVariables false
set_option linter.unusedSimpArgs false

theorem item_struct : ∃ f0 f1 f2 f3 : Field, Try.prog.underlying 42 = some (.struct #[f0, f1, f2, f3]) ∧ f0.offset = 0 ∧ f1.offset = 1 ∧ f2.offset = 2 ∧ f3.offset = 3 ∧
    Try.prog.underlying f0.type = some (.int .u8) ∧ Try.prog.underlying f1.type = some (.int .i64) ∧ Try.prog.underlying f2.type = some .string ∧ Try.prog.underlying f3.type = some .string ∧ Try.prog.cellsOf f0.type = 1 ∧ Try.prog.cellsOf f1.type = 1 ∧ Try.prog.cellsOf f2.type = 1 ∧ Try.prog.cellsOf f3.type = 1 ∧ Try.prog.cellsOf 42 = 4 :=
  ⟨_, _, _, _, Try.underlying42, rfl, rfl, rfl, rfl, Try.underlying5, Try.underlying3, Try.underlying9, Try.underlying9, by kernel_rfl, by kernel_rfl, by kernel_rfl, by kernel_rfl, by kernel_rfl⟩
theorem trod_item {H : Type} {enc : TypeId × Value → H} {P : Program} {w : World} {base : Nat} {spare : Nat → Bool} {held : Bool} {t : TypeId} {f0 f1 f2 f3 : Field} {fuel : Nat} {cs : List Value} {x : DataW H × List MemPlace} (ht : P.underlying t = some (.struct #[f0, f1, f2, f3])) (h : DataW.trod enc P w base spare held fuel t cs = some x) :
    ∃ y0 y1 y2 y3 n, DataW.trod enc P w base spare held n f0.type ((cs.drop f0.offset).take (P.cellsOf f0.type)) = some y0 ∧
      DataW.trod enc P w base spare held n f1.type ((cs.drop f1.offset).take (P.cellsOf f1.type)) = some y1 ∧
      DataW.trod enc P w base spare held n f2.type ((cs.drop f2.offset).take (P.cellsOf f2.type)) = some y2 ∧
      DataW.trod enc P w base spare held n f3.type ((cs.drop f3.offset).take (P.cellsOf f3.type)) = some y3 := by
  obtain ⟨xs, n, _, rfl, hl, hlen, hf⟩ := DataW.trod_struct ht h
  match xs, hlen with
  | [y0, y1, y2, y3], _ => exact ⟨y0, y1, y2, y3, n, by simpa using hf 0 f0 rfl, by simpa using hf 1 f1 rfl, by simpa using hf 2 f2 rfl, by simpa using hf 3 f3 rfl⟩
set_option maxRecDepth 100000 in
theorem opened_items {H : Type} {enc : TypeId × Value → H} {W : World} {base fuel : Nat} {held : Bool} {v : Value} {x : DataW H × List MemPlace} (h : DataW.trod enc Try.prog W base (fun _ => true) held fuel 63 [v] = some x) :
    ∃ (oa : Option Addr) (n cap : Nat) (L : List Itm), v = .slice oa n cap ∧ L.length = n ∧ n ≤ cap ∧ ItemsN W oa L ∧ ∀ x ∈ L, x.kind < 256 := by
  obtain ⟨f0, f1, f2, f3, he, o0, o1, o2, o3, u0, u1, u2, u3, c0, c1, c2, c3, ce⟩ := item_struct
  rcases open_slice Try.underlying63 h with ⟨hcs, _⟩ | ⟨a, len, cap, m, n, D, Pl, hcs, hb, hl, hm, hmm, _, hx⟩
  · obtain rfl := (List.cons.inj hcs).1
    exact ⟨none, 0, 0, [], rfl, rfl, Nat.le_refl _, fun i f hf => by simp at hf, fun x hx => by simp at hx⟩
  · obtain rfl := (List.cons.inj hcs).1
    have hmc : m = cap := by simpa using hmm
    have each : ∀ i, i < len → ∃ f : Itm, f.kind < 256 ∧ W.cell? (a.add (i * 4)) = some (.int .u8 (f.kind : Int)) ∧ W.cell? (a.add (i * 4 + 1)) = some (.int .i64 f.index) ∧ W.cell? (a.add (i * 4 + 2)) = some (.string f.name) ∧ W.cell? (a.add (i * 4 + 3)) = some (.string f.value) := by
      intro i hi
      obtain ⟨cs', h1, h2⟩ := hx i (by omega)
      rw [ce] at h1
      obtain ⟨_, hlen, hcell⟩ := World.cells?_some h1
      obtain ⟨y0, y1, y2, y3, k, g0, g1, g2, g3⟩ := trod_item he h2
      match cs', hlen with
      | [v0, v1, v2, v3], _ =>
        simp [o0, o1, o2, o3, c0, c1, c2, c3] at g0 g1 g2 g3
        have e0 := hcell 0 (by omega)
        have e1 := hcell 1 (by omega)
        have e2 := hcell 2 (by omega)
        have e3 := hcell 3 (by omega)
        rw [Deep.add_add] at e0 e1 e2 e3
        obtain ⟨s0, k0, _, hw⟩ := DataW.trod_int u0 g0
        obtain ⟨s1, k1, _, _⟩ := DataW.trod_int u1 g1
        obtain ⟨s2, k2, _, _⟩ := DataW.trod_string u2 g2
        obtain ⟨s3, k3, _, _⟩ := DataW.trod_string u3 g3
        obtain rfl := (List.cons.inj k0).1
        obtain rfl := (List.cons.inj k1).1
        obtain rfl := (List.cons.inj k2).1
        obtain rfl := (List.cons.inj k3).1
        have m1 : IntKind.u8.min = 0 := rfl
        have m2 : IntKind.u8.max = 255 := rfl
        simp [Lit.wf, m1, m2] at hw
        have hs0 : ((s0.toNat : Nat) : Int) = s0 := Int.toNat_of_nonneg (by omega)
        exact ⟨⟨s0.toNat, s1, s2, s3⟩, by simp only; omega, by simpa [hs0] using e0, by simpa using e1, by simpa using e2, by simpa using e3⟩
    haveI : Inhabited Itm := ⟨Itm.zero⟩
    obtain ⟨g, hg⟩ := choose_lt each
    refine ⟨some a, len, cap, (List.range len).map g, rfl, by simp, hl, fun i f hf => ?_, fun x hx => ?_⟩
    · have hil : i < len := by
        have := (List.getElem?_eq_some_iff.1 hf).1
        simpa using this
      have hfg : f = g i := by
        rw [List.getElem?_map, List.getElem?_range hil] at hf
        exact (Option.some.inj hf).symm
      subst hfg
      obtain ⟨_, q0, q1, q2, q3⟩ := hg i hil
      obtain ⟨_, z0, _, _⟩ := hg 0 (by omega)
      obtain ⟨_, _, _, _, hsp⟩ := World.shape?_of_cell? z0
      obtain ⟨b, o, s⟩ := a
      have hs : s = none := by simpa [Addr.add] using hsp
      subst hs
      have ea : ∀ j, ((⟨b, o, none⟩ : Addr).add j) = ⟨b, o + j, none⟩ := fun j => by unfold Addr.add; split <;> simp_all
      rw [ea] at q0 q1 q2 q3
      exact ⟨b, o, rfl, q0, q1, q2, q3⟩
    · obtain ⟨i, hi, rfl⟩ := List.mem_map.1 hx
      exact (hg i (List.mem_range.1 hi)).1
end Go.Proofs.Yteceinojmdgmeaa

