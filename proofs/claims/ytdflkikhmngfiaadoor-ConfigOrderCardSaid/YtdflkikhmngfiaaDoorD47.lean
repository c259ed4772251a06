/- An array of two bytes, opened; a small number. -/
import Derived.Test.YtdflkikhmngfiaaDoorD28
import Derived.OpenShut
import Derived.Laws.IdiomArrays
import Derived.WalkKit
import Derived.Lib.SmallJoins
namespace Go.Proofs.YtdflkikhmngfiaaDoor
open Go.Joins Go.ChangeShapes Go.WideShapes Go.RowKit
set_option linter.unusedVariables false
set_option linter.unusedSimpArgs false

theorem u16_nat {x : Int} (h : (Lit.int .u16 x).wf = true) : ∃ n : Nat, x = n ∧ n < 65536 := by
  have m1 : IntKind.u16.min = 0 := rfl
  have m2 : IntKind.u16.max = 65535 := rfl
  simp [Lit.wf, m1, m2] at h
  exact ⟨x.toNat, (Int.toNat_of_nonneg (by omega)).symm, by omega⟩
theorem trod_two {H : Type} {enc : TypeId × Value → H} {P : Program} {w : World} {base : Nat} {spare : Nat → Bool} {held : Bool} {t e : TypeId} {fuel : Nat} {c0 c1 : Value} {x : DataW H × List MemPlace} (ht : P.underlying t = some (.array 2 e)) (hce : P.cellsOf e = 1)
    (h : DataW.trod enc P w base spare held fuel t [c0, c1] = some x) : ∃ y0 y1 n, DataW.trod enc P w base spare held n e [c0] = some y0 ∧ DataW.trod enc P w base spare held n e [c1] = some y1 := by
  cases fuel with
  | zero => simp [DataW.trod] at h
  | succ n =>
    unfold DataW.trod at h
    rw [ht] at h
    have r2 : List.range 2 = [0, 1] := rfl
    simp [r2, hce] at h
    obtain ⟨_, h⟩ := h
    cases h0 : DataW.trod enc P w base spare held n e [c0] with
    | none => simp [h0] at h
    | some y0 =>
      cases h1 : DataW.trod enc P w base spare held n e [c1] with
      | none => simp [h0, h1] at h
      | some y1 => exact ⟨y0, y1, n, h0, h1⟩
set_option maxRecDepth 100000 in
theorem open_u8x2 {H : Type} {enc : TypeId × Value → H} {W : World} {r : Reach} {b0 base : Nat} {sp : Nat → Bool} {held : Bool} {v : Value} {d : DataW H} {ps : List MemPlace}
    (hv : Value.okWide Tryd.prog W r b0 48 v) (hd : DataW.Trod enc Tryd.prog W base sp held 48 v d ps) :
    ∃ a b : Nat, v = .agg #[.int .u8 (a : Int), .int .u8 (b : Int)] ∧ a < 256 ∧ b < 256 := by
  simp only [Value.okWide, Tryd.underlying48] at hv
  obtain ⟨cs, rfl, hs, _⟩ := hv
  have hs2 : cs.size = 2 := by rw [hs]; kernel_rfl
  obtain ⟨fuel, hf⟩ := hd
  obtain ⟨c0, c1, rfl⟩ : ∃ c0 c1, cs = #[c0, c1] := by
    obtain ⟨l⟩ := cs
    match l, hs2 with
    | [a, b], _ => exact ⟨a, b, rfl⟩
  obtain ⟨y0, y1, n, h0, h1⟩ := trod_two Tryd.underlying48 (by kernel_rfl) hf
  have e1 : IntKind.u8.min = 0 := rfl
  have e2 : IntKind.u8.max = 255 := rfl
  obtain ⟨a, ea, _, wa⟩ := DataW.trod_int Tryd.underlying5 h0
  obtain ⟨b, eb, _, wb⟩ := DataW.trod_int Tryd.underlying5 h1
  simp only [Lit.wf, Bool.and_eq_true, decide_eq_true_eq, e1, e2] at wa wb
  simp only [List.cons.injEq, and_true] at ea eb
  subst ea
  subst eb
  refine ⟨a.toNat, b.toNat, ?_, by omega, by omega⟩
  rw [Int.toNat_of_nonneg wa.1, Int.toNat_of_nonneg wb.1]
end Go.Proofs.YtdflkikhmngfiaaDoor

