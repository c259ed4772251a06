/- Kit · FldP · OpS · HnR: joined by a program, for a claim has at most 60 files. -/
import Derived.Lib.SmallJoins
import Derived.Deep.Slices
import Derived.Deep.Fields
import Derived.ChangeSame
import Derived.Test.YteceinojmdgmeaaC20
import Derived.Laws.LoneSync
import Derived.Test.YteceinojmdgmeaaC52
/- An argument that is a struct by value, all of whose fields are one cell wide: its value is written out, and each field's cell has its own reading. -/
namespace Go.Proofs.Yteceinojmdgmeaa
open Go.Joins Go.ChangeShapes Go.WideShapes Go.RowKit Go.Deep
set_option linter.unusedVariables false
set_option linter.unusedSimpArgs false

section
variable {H : Type} {enc : TypeId × Value → H} {P : Program} {w : World} {base : Nat} {spare : Nat → Bool} {held : Bool}
/-- What is known of a struct's cells: field j is one cell, and reads by its own type. -/
def Fielded (enc : TypeId × Value → H) (P : Program) (w : World) (base : Nat) (spare : Nat → Bool) (held : Bool) (fs : Array Field) (cs : List Value) : Prop :=
  cs.length = fs.size ∧ ∀ (j : Nat) (f : Field), fs[j]? = some f → ∃ (c : Value) (n : Nat) (y : DataW H × List MemPlace), cs[j]? = some c ∧ DataW.trod enc P w base spare held n f.type [c] = some y
theorem take1_of {cs : List Value} {j : Nat} {c : Value} (h : cs[j]? = some c) : (cs.drop j).take 1 = [c] := by
  obtain ⟨hl, he⟩ := List.getElem?_eq_some_iff.1 h
  rw [List.drop_eq_getElem_cons hl, he]
  rfl
theorem open_agg {r : Reach} {b0 : Nat} {t : TypeId} {fs : Array Field} {v : Value} {d : DataW H} {p : List MemPlace} (hs : P.underlying t = some (.struct fs)) (hone : oneCellFields P fs = true) (hC : P.cellsOf t = fs.size)
    (hv : Value.okWide P w r b0 t v) (h : DataW.Trod enc P w base spare held t v d p) : ∃ cs : List Value, v = .agg cs.toArray ∧ Fielded enc P w base spare held fs cs := by
  obtain ⟨a, rfl, hsz⟩ := okWide_struct hs hv
  obtain ⟨fuel, hf⟩ := h
  obtain ⟨ys, n, _, _, _, hlen, hg⟩ := DataW.trod_struct hs hf
  have hl : a.toList.length = fs.size := by rw [Array.length_toList, hsz, hC]
  refine ⟨a.toList, by simp, hl, fun j f hj => ?_⟩
  have hjl : j < fs.size := (Array.getElem?_eq_some_iff.1 hj).1
  obtain ⟨ho, hk⟩ := hone_of hone j f hj
  have h1 := hg j f hj
  rw [ho, hk] at h1
  have hc : a.toList[j]? = some (a.toList[j]'(by omega)) := List.getElem?_eq_getElem (by omega)
  have h2 : (Value.agg a).cells.toList = a.toList := rfl
  rw [h2, take1_of hc] at h1
  have hy : ys[j]? = some (ys[j]'(by omega)) := List.getElem?_eq_getElem (by omega)
  exact ⟨_, n, _, hc, h1.trans hy⟩
theorem Fielded.str {fs : Array Field} {cs : List Value} (h : Fielded enc P w base spare held fs cs) {j : Nat} {f : Field} (hj : fs[j]? = some f) (ht : P.underlying f.type = some .string) : ∃ s : ByteArray, cs[j]? = some (.string s) ∧ s.size ≤ maxLen := by
  obtain ⟨c, n, y, hc, hd⟩ := h.2 j f hj
  obtain ⟨s, he, _, hs⟩ := DataW.trod_string ht hd
  exact ⟨s, by rw [hc, (List.cons.inj he).1], hs⟩
theorem Fielded.int {fs : Array Field} {cs : List Value} (h : Fielded enc P w base spare held fs cs) {j : Nat} {f : Field} {k : IntKind} (hj : fs[j]? = some f) (ht : P.underlying f.type = some (.int k)) : ∃ n : Int, cs[j]? = some (.int k n) ∧ (Lit.int k n).wf = true := by
  obtain ⟨c, n, y, hc, hd⟩ := h.2 j f hj
  obtain ⟨s, he, _, hs⟩ := DataW.trod_int ht hd
  exact ⟨s, by rw [hc, (List.cons.inj he).1], hs⟩
theorem Fielded.bool {fs : Array Field} {cs : List Value} (h : Fielded enc P w base spare held fs cs) {j : Nat} {f : Field} (hj : fs[j]? = some f) (ht : P.underlying f.type = some .bool) : ∃ b : Bool, cs[j]? = some (.bool b) := by
  obtain ⟨c, n, y, hc, hd⟩ := h.2 j f hj
  obtain ⟨s, he, _⟩ := DataW.trod_bool ht hd
  exact ⟨s, by rw [hc, (List.cons.inj he).1]⟩
end
theorem list_of3 {cs : List Value} {a b c : Value} (hl : cs.length = 3) (h0 : cs[0]? = some a) (h1 : cs[1]? = some b) (h2 : cs[2]? = some c) : cs = [a, b, c] := by
  match cs, hl with
  | [_, _, _], _ => simp_all
theorem list_of4 {cs : List Value} {a b c d : Value} (hl : cs.length = 4) (h0 : cs[0]? = some a) (h1 : cs[1]? = some b) (h2 : cs[2]? = some c) (h3 : cs[3]? = some d) : cs = [a, b, c, d] := by
  match cs, hl with
  | [_, _, _, _], _ => simp_all
theorem list_of6 {cs : List Value} {a b c d e f : Value} (hl : cs.length = 6) (h0 : cs[0]? = some a) (h1 : cs[1]? = some b) (h2 : cs[2]? = some c) (h3 : cs[3]? = some d) (h4 : cs[4]? = some e) (h5 : cs[5]? = some f) : cs = [a, b, c, d, e, f] := by
  match cs, hl with
  | [_, _, _, _, _, _], _ => simp_all
end Go.Proofs.Yteceinojmdgmeaa


/- Arguments that are tables, and lists of fields, opened in the words of the walks. -/
namespace Go.Proofs.Yteceinojmdgmeaa
open Go.Joins Go.ChangeShapes Go.WideShapes Go.RowKit Go.Deep
set_option linter.unusedVariables false
set_option linter.unusedSimpArgs false

theorem field_struct : ∃ f0 f1 f2 : Field, Try.prog.underlying 25 = some (.struct #[f0, f1, f2]) ∧ f0.offset = 0 ∧ f1.offset = 1 ∧ f2.offset = 2 ∧
    Try.prog.underlying f0.type = some .string ∧ Try.prog.underlying f1.type = some .string ∧ Try.prog.underlying f2.type = some .bool ∧ Try.prog.cellsOf f0.type = 1 ∧ Try.prog.cellsOf f1.type = 1 ∧ Try.prog.cellsOf f2.type = 1 ∧ Try.prog.cellsOf 25 = 3 :=
  ⟨_, _, _, Try.underlying25, rfl, rfl, rfl, Try.underlying9, Try.underlying9, Try.underlying4, by kernel_rfl, by kernel_rfl, by kernel_rfl, by kernel_rfl⟩
set_option maxRecDepth 100000 in
theorem opened_fields {H : Type} {enc : TypeId × Value → H} {W : World} {base fuel : Nat} {held : Bool} {v : Value} {x : DataW H × List MemPlace} (h : DataW.trod enc Try.prog W base (fun _ => true) held fuel 26 [v] = some x) :
    ∃ (oa : Option Addr) (n cap : Nat) (L : List Fld), v = .slice oa n cap ∧ L.length = n ∧ n ≤ cap ∧ FieldsN W oa L := by
  obtain ⟨f0, f1, f2, he, o0, o1, o2, u0, u1, u2, c0, c1, c2, ce⟩ := field_struct
  rcases open_slice Try.underlying26 h with ⟨hcs, _⟩ | ⟨a, len, cap, m, n, D, Pl, hcs, hb, hl, hm, hmm, _, hx⟩
  · obtain rfl := (List.cons.inj hcs).1
    exact ⟨none, 0, 0, [], rfl, rfl, Nat.le_refl _, fun i f hf => by simp at hf⟩
  · obtain rfl := (List.cons.inj hcs).1
    have hmc : m = cap := by simpa using hmm
    have each : ∀ i, i < len → ∃ f : Fld, W.cell? (a.add (i * 3)) = some (.string f.name) ∧ W.cell? (a.add (i * 3 + 1)) = some (.string f.value) ∧ W.cell? (a.add (i * 3 + 2)) = some (.bool f.never) := by
      intro i hi
      obtain ⟨cs', h1, h2⟩ := hx i (by omega)
      rw [ce] at h1
      obtain ⟨_, hlen, hcell⟩ := World.cells?_some h1
      obtain ⟨y0, y1, y2, k, _, _, g0, g1, g2⟩ := trod_struct3 he h2
      match cs', hlen with
      | [v0, v1, v2], _ =>
        simp [o0, o1, o2, c0, c1, c2] at g0 g1 g2
        have e0 := hcell 0 (by omega)
        have e1 := hcell 1 (by omega)
        have e2 := hcell 2 (by omega)
        rw [Deep.add_add] at e0 e1 e2
        obtain ⟨s0, k0, _, _⟩ := DataW.trod_string u0 g0
        obtain ⟨s1, k1, _, _⟩ := DataW.trod_string u1 g1
        obtain ⟨s2, k2, _⟩ := DataW.trod_bool u2 g2
        obtain rfl := (List.cons.inj k0).1
        obtain rfl := (List.cons.inj k1).1
        obtain rfl := (List.cons.inj k2).1
        exact ⟨⟨s0, s1, s2⟩, by simpa using e0, by simpa using e1, by simpa using e2⟩
    obtain ⟨g, hg⟩ := choose_lt each
    refine ⟨some a, len, cap, (List.range len).map g, rfl, by simp, hl, fun i f hf => ?_⟩
    have hil : i < len := by
      have := (List.getElem?_eq_some_iff.1 hf).1
      simpa using this
    have hfg : f = g i := by
      rw [List.getElem?_map, List.getElem?_range hil] at hf
      exact (Option.some.inj hf).symm
    subst hfg
    obtain ⟨q0, q1, q2⟩ := hg i hil
    obtain ⟨z0, _, _⟩ := hg 0 (by omega)
    obtain ⟨_, _, _, _, hsp⟩ := World.shape?_of_cell? z0
    obtain ⟨b, o, s⟩ := a
    have hs : s = none := by simpa [Addr.add] using hsp
    subst hs
    have ea : ∀ j, ((⟨b, o, none⟩ : Addr).add j) = ⟨b, o + j, none⟩ := fun j => by unfold Addr.add; split <;> simp_all
    rw [ea] at q0 q1 q2
    exact ⟨b, o, rfl, q0, q1, q2⟩
set_option maxRecDepth 100000 in
/-- A table, by value: how much there may be, and the fields. -/
theorem opened_table {H : Type} {enc : TypeId × Value → H} {W : World} {base : Nat} {held : Bool} {r : Reach} {b0 : Nat} {t : TypeId} {f0 f1 : Field} {v : Value} {d : DataW H} {p : List MemPlace} (hs : Try.prog.underlying t = some (.struct #[f0, f1])) (hone : oneCellFields Try.prog #[f0, f1] = true) (hC : Try.prog.cellsOf t = 2)
    (h0 : Try.prog.underlying f0.type = some (.int .i64)) (h1 : f1.type = 26)
    (hv : Value.okWide Try.prog W r b0 t v) (h : DataW.Trod enc Try.prog W base (fun _ => true) held t v d p) :
    ∃ (m : Int) (oa : Option Addr) (n cap : Nat) (L : List Fld), v = .agg #[.int .i64 m, .slice oa n cap] ∧ (Lit.int .i64 m).wf = true ∧ L.length = n ∧ n ≤ cap ∧ FieldsN W oa L := by
  obtain ⟨v0, v1, y0, y1, k, rfl, _, _, g0, g1⟩ := open_agg2 hs hone hC hv h
  obtain ⟨m, hm, _, hw⟩ := DataW.trod_int h0 g0
  obtain rfl := (List.cons.inj hm).1
  rw [h1] at g1
  obtain ⟨oa, n, cap, L, rfl, hn, hc, hf⟩ := opened_fields g1
  exact ⟨m, oa, n, cap, L, rfl, hw, hn, hc, hf⟩
end Go.Proofs.Yteceinojmdgmeaa


/- Arguments that are states of hdec, and items by value, opened in the words of the walks. -/
namespace Go.Proofs.Yteceinojmdgmeaa
open Go.Joins Go.ChangeShapes Go.WideShapes Go.RowKit Go.Deep
set_option linter.unusedVariables false
set_option linter.unusedSimpArgs false

theorem trod_two {H : Type} {enc : TypeId × Value → H} {P : Program} {w : World} {base : Nat} {spare : Nat → Bool} {held : Bool} {t : TypeId} {f0 f1 : Field} {fuel : Nat} {cs : List Value} {x : DataW H × List MemPlace} (ht : P.underlying t = some (.struct #[f0, f1])) (h : DataW.trod enc P w base spare held fuel t cs = some x) :
    ∃ y0 y1 n, DataW.trod enc P w base spare held n f0.type ((cs.drop f0.offset).take (P.cellsOf f0.type)) = some y0 ∧
      DataW.trod enc P w base spare held n f1.type ((cs.drop f1.offset).take (P.cellsOf f1.type)) = some y1 := by
  obtain ⟨xs, n, _, rfl, hl, hlen, hf⟩ := DataW.trod_struct ht h
  match xs, hlen with
  | [y0, y1], _ => exact ⟨y0, y1, n, by simpa using hf 0 f0 rfl, by simpa using hf 1 f1 rfl⟩
theorem state_struct : ∃ f0 f1 g0 g1 : Field, Try.prog.underlying 40 = some (.struct #[f0, f1]) ∧ f0.offset = 0 ∧ f1.offset = 2 ∧
    Try.prog.cellsOf f0.type = 2 ∧ Try.prog.cellsOf f1.type = 1 ∧ Try.prog.underlying f1.type = some (.int .i64) ∧ Try.prog.underlying f0.type = some (.struct #[g0, g1]) ∧
    g0.offset = 0 ∧ g1.offset = 1 ∧ Try.prog.cellsOf g0.type = 1 ∧ Try.prog.cellsOf g1.type = 1 ∧ Try.prog.underlying g0.type = some (.int .i64) ∧ g1.type = 26 ∧ Try.prog.cellsOf 40 = 3 :=
  ⟨_, _, _, _, Try.underlying40, rfl, rfl, by kernel_rfl, by kernel_rfl, Try.underlying3, Try.underlying38, rfl, rfl, by kernel_rfl, by kernel_rfl, Try.underlying3, rfl, by kernel_rfl⟩
set_option maxRecDepth 100000 in
/-- A state, by value. -/
theorem opened_state {H : Type} {enc : TypeId × Value → H} {W : World} {base : Nat} {held : Bool} {r : Reach} {b0 : Nat} {v : Value} {d : DataW H} {p : List MemPlace}
    (hv : Value.okWide Try.prog W r b0 40 v) (h : DataW.Trod enc Try.prog W base (fun _ => true) held 40 v d p) :
    ∃ (m cp : Int) (oa : Option Addr) (n cap : Nat) (L : List Fld), v = .agg #[.int .i64 m, .slice oa n cap, .int .i64 cp] ∧ L.length = n ∧ n ≤ cap ∧ FieldsN W oa L := by
  obtain ⟨f0, f1, g0, g1, he, o0, o1, c0, c1, u1, u0, q0, q1, k0, k1, ug0, tg1, ce⟩ := state_struct
  obtain ⟨a, rfl, hsz⟩ := okWide_struct he hv
  obtain ⟨fuel, hf⟩ := h
  obtain ⟨y0, y1, n, h0, h1⟩ := trod_two he hf
  rw [ce] at hsz
  obtain ⟨l⟩ := a
  match l, hsz with
  | [v0, v1, v2], _ =>
    have hcs : (Value.agg ⟨[v0, v1, v2]⟩).cells.toList = [v0, v1, v2] := rfl
    rw [hcs] at h0 h1
    simp [o0, o1, c0, c1] at h0 h1
    obtain ⟨z0, z1, n', h2, h3⟩ := trod_two u0 h0
    simp [q0, q1, k0, k1] at h2 h3
    obtain ⟨m, hm, _, _⟩ := DataW.trod_int ug0 h2
    obtain ⟨cp, hc, _, _⟩ := DataW.trod_int u1 h1
    obtain rfl := (List.cons.inj hm).1
    obtain rfl := (List.cons.inj hc).1
    rw [tg1] at h3
    obtain ⟨oa, n, cap, L, rfl, hn, hcp, hfl⟩ := opened_fields h3
    exact ⟨m, cp, oa, n, cap, L, rfl, hn, hcp, hfl⟩
set_option maxRecDepth 100000 in
theorem opened_item {H : Type} {enc : TypeId × Value → H} {W : World} {base : Nat} {held : Bool} {r : Reach} {b0 : Nat} {v : Value} {d : DataW H} {p : List MemPlace}
    (hv : Value.okWide Try.prog W r b0 42 v) (h : DataW.Trod enc Try.prog W base (fun _ => true) held 42 v d p) :
    ∃ (k : Nat) (i : Int) (nm vl : ByteArray), v = .agg #[.int .u8 (k : Int), .int .i64 i, .string nm, .string vl] ∧ k < 256 ∧ (Lit.int .i64 i).wf = true := by
  obtain ⟨cs, rfl, fd⟩ := open_agg Try.underlying42 (by kernel_rfl) (by kernel_rfl) hv h
  obtain ⟨s0, e0, hw⟩ := fd.int (j := 0) rfl Try.underlying5
  obtain ⟨i, e1, hi⟩ := fd.int (j := 1) rfl Try.underlying3
  obtain ⟨nm, e2, _⟩ := fd.str (j := 2) rfl Try.underlying9
  obtain ⟨vl, e3, _⟩ := fd.str (j := 3) rfl Try.underlying9
  obtain rfl := list_of4 fd.1 e0 e1 e2 e3
  have m1 : IntKind.u8.min = 0 := rfl
  have m2 : IntKind.u8.max = 255 := rfl
  simp [Lit.wf, m1, m2] at hw
  have hs0 : ((s0.toNat : Nat) : Int) = s0 := Int.toNat_of_nonneg (by omega)
  exact ⟨s0.toNat, i, nm, vl, by rw [hs0], by omega, hi⟩
theorem u8_nat {x : Int} (h : (Lit.int .u8 x).wf = true) : ∃ n : Nat, x = n ∧ n < 256 := by
  have m1 : IntKind.u8.min = 0 := rfl
  have m2 : IntKind.u8.max = 255 := rfl
  simp [Lit.wf, m1, m2] at h
  exact ⟨x.toNat, (Int.toNat_of_nonneg (by omega)).symm, by omega⟩
end Go.Proofs.Yteceinojmdgmeaa


/- An argument of type []footmanlaw07.Ask, opened in the words of the walk. -/
namespace Go.Proofs.Yteceinojmdgmeaa
open Go.Joins Go.ChangeShapes Go.WideShapes Go.RowKit Go.Deep
set_option linter.unusedVariables false
set_option linter.unusedSimpArgs false

theorem ask_struct : ∃ f0 f1 : Field, Try.prog.underlying 77 = some (.struct #[f0, f1]) ∧ f0.offset = 0 ∧ f1.offset = 1 ∧
    f0.type = 26 ∧ Try.prog.underlying f1.type = some (.int .i64) ∧ Try.prog.cellsOf f0.type = 1 ∧ Try.prog.cellsOf f1.type = 1 ∧ Try.prog.cellsOf 77 = 2 :=
  ⟨_, _, Try.underlying77, rfl, rfl, rfl, Try.underlying3, by kernel_rfl, by kernel_rfl, by kernel_rfl⟩
set_option maxRecDepth 100000 in
theorem opened_asks {H : Type} {enc : TypeId × Value → H} {W : World} {base fuel : Nat} {held : Bool} {v : Value} {x : DataW H × List MemPlace} (h : DataW.trod enc Try.prog W base (fun _ => true) held fuel 75 [v] = some x) :
    ∃ (oa : Option Addr) (n cap : Nat) (L : List AskV), v = .slice oa n cap ∧ L.length = n ∧ n ≤ cap ∧ AsksN W oa L := by
  obtain ⟨f0, f1, he, o0, o1, t0, u1, c0, c1, ce⟩ := ask_struct
  rcases open_slice Try.underlying75 h with ⟨hcs, _⟩ | ⟨a, len, cap, m, n, D, Pl, hcs, hb, hl, hm, hmm, _, hx⟩
  · obtain rfl := (List.cons.inj hcs).1
    exact ⟨none, 0, 0, [], rfl, rfl, Nat.le_refl _, fun i f hf => by simp at hf⟩
  · obtain rfl := (List.cons.inj hcs).1
    have hmc : m = cap := by simpa using hmm
    have each : ∀ i, i < len → ∃ f : AskV, W.cell? (a.add (i * 2)) = some (.slice f.o f.n f.c) ∧ W.cell? (a.add (i * 2 + 1)) = some (.int .i64 f.most) ∧ f.l.length = f.n ∧ f.n ≤ f.c ∧ FieldsN W f.o f.l := by
      intro i hi
      obtain ⟨cs', h1, h2⟩ := hx i (by omega)
      rw [ce] at h1
      obtain ⟨_, hlen, hcell⟩ := World.cells?_some h1
      obtain ⟨y0, y1, k, g0, g1⟩ := trod_two he h2
      match cs', hlen with
      | [v0, v1], _ =>
        simp [o0, o1, c0, c1] at g0 g1
        have e0 := hcell 0 (by omega)
        have e1 := hcell 1 (by omega)
        rw [Deep.add_add] at e0 e1
        obtain ⟨s1, k1, _, _⟩ := DataW.trod_int u1 g1
        obtain rfl := (List.cons.inj k1).1
        rw [t0] at g0
        obtain ⟨oa, nn, cc, L, rfl, hn, hc, hf⟩ := opened_fields g0
        exact ⟨⟨L, oa, nn, cc, s1⟩, by simpa using e0, by simpa using e1, hn, hc, hf⟩
    obtain ⟨g, hg⟩ := choose_lt each
    refine ⟨some a, len, cap, (List.range len).map g, rfl, by simp, hl, fun i f hf => ?_⟩
    have hil : i < len := by
      have := (List.getElem?_eq_some_iff.1 hf).1
      simpa using this
    have hfg : f = g i := by
      rw [List.getElem?_map, List.getElem?_range hil] at hf
      exact (Option.some.inj hf).symm
    subst hfg
    obtain ⟨q0, q1, q2⟩ := hg i hil
    obtain ⟨z0, _, _⟩ := hg 0 (by omega)
    obtain ⟨_, _, _, _, hsp⟩ := World.shape?_of_cell? z0
    obtain ⟨b, o, s⟩ := a
    have hs : s = none := by simpa [Addr.add] using hsp
    subst hs
    have ea : ∀ j, ((⟨b, o, none⟩ : Addr).add j) = ⟨b, o + j, none⟩ := fun j => by unfold Addr.add; split <;> simp_all
    rw [ea] at q0 q1
    exact ⟨⟨b, o, rfl, q0, q1⟩, q2⟩
end Go.Proofs.Yteceinojmdgmeaa

