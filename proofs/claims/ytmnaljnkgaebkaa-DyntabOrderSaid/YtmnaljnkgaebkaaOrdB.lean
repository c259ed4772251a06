/- An argument of type []uint16, opened in the words of the walk. -/
import Derived.Test.YtmnaljnkgaebkaaOrdA
import Derived.Test.YtmnaljnkgaebkaaKit
import Derived.ChangeSlices
namespace Go.Proofs.Ytmnaljnkgaebkaa
open Go.Joins Go.ChangeShapes Go.WideShapes Go.RowKit Go.Deep
set_option linter.unusedVariables false
set_option linter.unusedSimpArgs false

set_option maxRecDepth 100000 in
theorem opened_u16s {H : Type} {enc : TypeId × Value → H} {W : World} {base fuel : Nat} {held : Bool} {v : Value} {x : DataW H × List MemPlace} (h : DataW.trod enc Try.prog W base (fun _ => true) held fuel 63 [v] = some x) :
    ∃ (os : Option Addr) (n cap : Nat) (zs : List Nat), v = .slice os n cap ∧ zs.length = n ∧ U16N W os zs := by
  rcases open_slice1 Try.underlying63 (by kernel_rfl) h with ⟨hcs, _⟩ | ⟨a, len, cap, m, n, V, D, Pl, hcs, hb, hl, hm, hmm, _, hx⟩
  · obtain rfl := (List.cons.inj hcs).1
    exact ⟨none, 0, 0, [], rfl, rfl, fun i hi => by simp at hi⟩
  · obtain rfl := (List.cons.inj hcs).1
    have hmc : m = cap := by simpa using hmm
    have each : ∀ i, i < len → ∃ z : Nat, z < 65536 ∧ W.cell? (a.add i) = some (.int .u16 (z : Int)) := by
      intro i hi
      obtain ⟨h1, h2⟩ := hx i (by omega)
      obtain ⟨z, k0, _, hw⟩ := DataW.trod_int Try.underlying67 h2
      have hv := (List.cons.inj k0).1
      have e1 : IntKind.u16.min = 0 := rfl
      have e2 : IntKind.u16.max = 65535 := rfl
      simp [Lit.wf] at hw
      refine ⟨z.toNat, by omega, ?_⟩
      rw [h1, hv, Int.toNat_of_nonneg (by omega)]
    obtain ⟨g, hg⟩ := choose_lt each
    refine ⟨some a, len, cap, (List.range len).map g, rfl, by simp, fun i hi => ?_⟩
    have hil : i < len := by simpa using hi
    obtain ⟨_, z0⟩ := hg 0 (by omega)
    obtain ⟨_, _, _, _, hsp⟩ := World.shape?_of_cell? z0
    obtain ⟨b, o, s⟩ := a
    have hs : s = none := by simpa [Addr.add] using hsp
    subst hs
    have hgi : ((List.range len).map g).getD i 0 = g i := by
      rw [List.getD_eq_getElem?_getD, List.getElem?_map, List.getElem?_range hil]
      rfl
    have := (hg i hil).2
    rw [Addr.add_lit] at this
    exact ⟨b, o, rfl, by rw [hgi]; exact this, by rw [hgi]; exact (hg i hil).1⟩
#print axioms opened_u16s
end Go.Proofs.Ytmnaljnkgaebkaa
