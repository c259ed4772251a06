/- An argument that is a list of fields, opened in the words of the walks (the response laws' seat). -/
import Derived.Test.YtecmccihldjicaaDoorRspB
import Derived.Test.YtecmccihldjicaaDoorKit
import Derived.Laws.LoneSync
namespace Go.Proofs.YtecmccihldjicaaDoor
open Go.Joins Go.ChangeShapes Go.WideShapes Go.RowKit Go.Deep
set_option linter.unusedVariables false
set_option linter.unusedSimpArgs false

theorem field_struct : ∃ f0 f1 f2 : Field, Tryd.prog.underlying 42 = some (.struct #[f0, f1, f2]) ∧ f0.offset = 0 ∧ f1.offset = 1 ∧ f2.offset = 2 ∧
    Tryd.prog.underlying f0.type = some .string ∧ Tryd.prog.underlying f1.type = some .string ∧ Tryd.prog.underlying f2.type = some .bool ∧ Tryd.prog.cellsOf f0.type = 1 ∧ Tryd.prog.cellsOf f1.type = 1 ∧ Tryd.prog.cellsOf f2.type = 1 ∧ Tryd.prog.cellsOf 42 = 3 :=
  ⟨_, _, _, Tryd.underlying42, rfl, rfl, rfl, Tryd.underlying9, Tryd.underlying9, Tryd.underlying4, by kernel_rfl, by kernel_rfl, by kernel_rfl, by kernel_rfl⟩
set_option maxRecDepth 100000 in
theorem opened_fields {H : Type} {enc : TypeId × Value → H} {W : World} {base fuel : Nat} {held : Bool} {v : Value} {x : DataW H × List MemPlace} (h : DataW.trod enc Tryd.prog W base (fun _ => true) held fuel 22 [v] = some x) :
    ∃ (oa : Option Addr) (n cap : Nat) (L : List Fld), v = .slice oa n cap ∧ L.length = n ∧ n ≤ cap ∧ FieldsN W oa L := by
  obtain ⟨f0, f1, f2, he, o0, o1, o2, u0, u1, u2, c0, c1, c2, ce⟩ := field_struct
  rcases open_slice Tryd.underlying22 h with ⟨hcs, _⟩ | ⟨a, len, cap, m, n, D, Pl, hcs, hb, hl, hm, hmm, _, hx⟩
  · obtain rfl := (List.cons.inj hcs).1
    exact ⟨none, 0, 0, [], rfl, rfl, Nat.le_refl _, fun i f hf => by simp at hf⟩
  · obtain rfl := (List.cons.inj hcs).1
    have hmc : m = cap := by simpa using hmm
    have each : ∀ i, i < len → ∃ f : Fld, W.cell? (a.add (i * 3)) = some (.string f.name) ∧ W.cell? (a.add (i * 3 + 1)) = some (.string f.value) ∧ W.cell? (a.add (i * 3 + 2)) = some (.bool f.never) := by
      intro i hi
      obtain ⟨cs', h1, h2⟩ := hx i (by omega)
      rw [ce] at h1
      obtain ⟨_, hlen, hcell⟩ := World.cells?_some h1
      obtain ⟨y0, y1, y2, k, _, _, g0, g1, g2⟩ := trod_struct3 he h2
      match cs', hlen with
      | [v0, v1, v2], _ =>
        simp [o0, o1, o2, c0, c1, c2] at g0 g1 g2
        have e0 := hcell 0 (by omega)
        have e1 := hcell 1 (by omega)
        have e2 := hcell 2 (by omega)
        rw [Deep.add_add] at e0 e1 e2
        obtain ⟨s0, k0, _, _⟩ := DataW.trod_string u0 g0
        obtain ⟨s1, k1, _, _⟩ := DataW.trod_string u1 g1
        obtain ⟨s2, k2, _⟩ := DataW.trod_bool u2 g2
        obtain rfl := (List.cons.inj k0).1
        obtain rfl := (List.cons.inj k1).1
        obtain rfl := (List.cons.inj k2).1
        exact ⟨⟨s0, s1, s2⟩, by simpa using e0, by simpa using e1, by simpa using e2⟩
    obtain ⟨g, hg⟩ := choose_lt each
    refine ⟨some a, len, cap, (List.range len).map g, rfl, by simp, hl, fun i f hf => ?_⟩
    have hil : i < len := by
      have := (List.getElem?_eq_some_iff.1 hf).1
      simpa using this
    have hfg : f = g i := by
      rw [List.getElem?_map, List.getElem?_range hil] at hf
      exact (Option.some.inj hf).symm
    subst hfg
    obtain ⟨q0, q1, q2⟩ := hg i hil
    obtain ⟨z0, _, _⟩ := hg 0 (by omega)
    obtain ⟨_, _, _, _, hsp⟩ := World.shape?_of_cell? z0
    obtain ⟨b, o, s⟩ := a
    have hs : s = none := by simpa [Addr.add] using hsp
    subst hs
    have ea : ∀ j, ((⟨b, o, none⟩ : Addr).add j) = ⟨b, o + j, none⟩ := fun j => by unfold Addr.add; split <;> simp_all
    rw [ea] at q0 q1 q2
    exact ⟨b, o, rfl, q0, q1, q2⟩
#print axioms opened_fields
end Go.Proofs.YtecmccihldjicaaDoor
