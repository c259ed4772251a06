/- An argument of type []footmanref30.Fate, opened in the words of the walks. -/
import Derived.Test.YtbpcknjobbjmpaaDoorStaI
import Derived.Test.YtbpcknjobbjmpaaDoorKit
import Derived.Laws.LoneSync
namespace Go.Proofs.YtbpcknjobbjmpaaDoor
open Go.Joins Go.ChangeShapes Go.WideShapes Go.RowKit Go.Deep
set_option linter.unusedVariables false
set_option linter.unusedSimpArgs false

theorem fate_struct : ∃ f0 f1 f2 f3 : Field, Tryd.prog.underlying 30 = some (.struct #[f0, f1, f2, f3]) ∧ f0.offset = 0 ∧ f1.offset = 1 ∧ f2.offset = 2 ∧ f3.offset = 3 ∧
    Tryd.prog.underlying f0.type = some (.int .i64) ∧ Tryd.prog.underlying f1.type = some (.int .i64) ∧ Tryd.prog.underlying f2.type = some (.int .i64) ∧ Tryd.prog.underlying f3.type = some (.int .i64) ∧ Tryd.prog.cellsOf f0.type = 1 ∧ Tryd.prog.cellsOf f1.type = 1 ∧ Tryd.prog.cellsOf f2.type = 1 ∧ Tryd.prog.cellsOf f3.type = 1 ∧ Tryd.prog.cellsOf 30 = 4 :=
  ⟨_, _, _, _, Tryd.underlying30, rfl, rfl, rfl, rfl, Tryd.underlying3, Tryd.underlying3, Tryd.underlying3, Tryd.underlying3, by kernel_rfl, by kernel_rfl, by kernel_rfl, by kernel_rfl, by kernel_rfl⟩
theorem trod_four {H : Type} {enc : TypeId × Value → H} {P : Program} {w : World} {base : Nat} {spare : Nat → Bool} {held : Bool} {t : TypeId} {f0 f1 f2 f3 : Field} {fuel : Nat} {cs : List Value} {x : DataW H × List MemPlace} (ht : P.underlying t = some (.struct #[f0, f1, f2, f3])) (h : DataW.trod enc P w base spare held fuel t cs = some x) :
    ∃ y0 y1 y2 y3 n, DataW.trod enc P w base spare held n f0.type ((cs.drop f0.offset).take (P.cellsOf f0.type)) = some y0 ∧
      DataW.trod enc P w base spare held n f1.type ((cs.drop f1.offset).take (P.cellsOf f1.type)) = some y1 ∧
      DataW.trod enc P w base spare held n f2.type ((cs.drop f2.offset).take (P.cellsOf f2.type)) = some y2 ∧
      DataW.trod enc P w base spare held n f3.type ((cs.drop f3.offset).take (P.cellsOf f3.type)) = some y3 := by
  obtain ⟨xs, n, _, rfl, hl, hlen, hf⟩ := DataW.trod_struct ht h
  match xs, hlen with
  | [y0, y1, y2, y3], _ => exact ⟨y0, y1, y2, y3, n, by simpa using hf 0 f0 rfl, by simpa using hf 1 f1 rfl, by simpa using hf 2 f2 rfl, by simpa using hf 3 f3 rfl⟩
set_option maxRecDepth 100000 in
theorem opened_fates {H : Type} {enc : TypeId × Value → H} {W : World} {base fuel : Nat} {held : Bool} {v : Value} {x : DataW H × List MemPlace} (h : DataW.trod enc Tryd.prog W base (fun _ => true) held fuel 22 [v] = some x) :
    ∃ (oa : Option Addr) (n cap : Nat) (L : List Fat), v = .slice oa n cap ∧ L.length = n ∧ n ≤ cap ∧ FatesN W oa L := by
  obtain ⟨f0, f1, f2, f3, he, o0, o1, o2, o3, u0, u1, u2, u3, c0, c1, c2, c3, ce⟩ := fate_struct
  rcases open_slice Tryd.underlying22 h with ⟨hcs, _⟩ | ⟨a, len, cap, m, n, D, Pl, hcs, hb, hl, hm, hmm, _, hx⟩
  · obtain rfl := (List.cons.inj hcs).1
    exact ⟨none, 0, 0, [], rfl, rfl, Nat.le_refl _, fun i f hf => by simp at hf⟩
  · obtain rfl := (List.cons.inj hcs).1
    have hmc : m = cap := by simpa using hmm
    have each : ∀ i, i < len → ∃ f : Fat, W.cell? (a.add (i * 4)) = some (.int .i64 f.c) ∧ W.cell? (a.add (i * 4 + 1)) = some (.int .i64 f.s) ∧ W.cell? (a.add (i * 4 + 2)) = some (.int .i64 f.k) ∧ W.cell? (a.add (i * 4 + 3)) = some (.int .i64 f.n) := by
      intro i hi
      obtain ⟨cs', h1, h2⟩ := hx i (by omega)
      rw [ce] at h1
      obtain ⟨_, hlen, hcell⟩ := World.cells?_some h1
      obtain ⟨y0, y1, y2, y3, k, g0, g1, g2, g3⟩ := trod_four he h2
      match cs', hlen with
      | [v0, v1, v2, v3], _ =>
        simp [o0, o1, o2, o3, c0, c1, c2, c3] at g0 g1 g2 g3
        have e0 := hcell 0 (by omega)
        have e1 := hcell 1 (by omega)
        have e2 := hcell 2 (by omega)
        have e3 := hcell 3 (by omega)
        rw [Deep.add_add] at e0 e1 e2 e3
        obtain ⟨s0, k0, _, _⟩ := DataW.trod_int u0 g0
        obtain ⟨s1, k1, _, _⟩ := DataW.trod_int u1 g1
        obtain ⟨s2, k2, _, _⟩ := DataW.trod_int u2 g2
        obtain ⟨s3, k3, _, _⟩ := DataW.trod_int u3 g3
        obtain rfl := (List.cons.inj k0).1
        obtain rfl := (List.cons.inj k1).1
        obtain rfl := (List.cons.inj k2).1
        obtain rfl := (List.cons.inj k3).1
        exact ⟨⟨s0, s1, s2, s3⟩, by simpa using e0, by simpa using e1, by simpa using e2, by simpa using e3⟩
    haveI : Inhabited Fat := ⟨⟨0, 0, 0, 0⟩⟩
    obtain ⟨g, hg⟩ := choose_lt each
    refine ⟨some a, len, cap, (List.range len).map g, rfl, by simp, hl, fun i f hf => ?_⟩
    have hil : i < len := by
      have := (List.getElem?_eq_some_iff.1 hf).1
      simpa using this
    have hfg : f = g i := by
      rw [List.getElem?_map, List.getElem?_range hil] at hf
      exact (Option.some.inj hf).symm
    subst hfg
    obtain ⟨q0, q1, q2, q3⟩ := hg i hil
    obtain ⟨z0, _, _, _⟩ := hg 0 (by omega)
    obtain ⟨_, _, _, _, hsp⟩ := World.shape?_of_cell? z0
    obtain ⟨b, o, s⟩ := a
    have hs : s = none := by simpa [Addr.add] using hsp
    subst hs
    have ea : ∀ j, ((⟨b, o, none⟩ : Addr).add j) = ⟨b, o + j, none⟩ := fun j => by unfold Addr.add; split <;> simp_all
    rw [ea] at q0 q1 q2 q3
    exact ⟨b, o, rfl, q0, q1, q2, q3⟩
#print axioms opened_fates
end Go.Proofs.YtbpcknjobbjmpaaDoor
