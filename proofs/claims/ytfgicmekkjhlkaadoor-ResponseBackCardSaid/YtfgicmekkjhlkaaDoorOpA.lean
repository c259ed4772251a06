/- An array of three small numbers, opened. -/
import Derived.Test.YtfgicmekkjhlkaaDoorNum
import Derived.OpenShut
import Derived.Laws.IdiomArrays
import Derived.WalkKit
import Derived.Lib.SmallJoins
namespace Go.Proofs.YtfgicmekkjhlkaaDoor
open Go.Joins Go.ChangeShapes Go.WideShapes Go.RowKit
set_option linter.unusedVariables false
set_option linter.unusedSimpArgs false

set_option maxRecDepth 100000 in
theorem open_u16x3 {H : Type} {enc : TypeId × Value → H} {W : World} {r : Reach} {b0 base : Nat} {sp : Nat → Bool} {held : Bool} {v : Value} {d : DataW H} {ps : List MemPlace}
    (hv : Value.okWide Tryd.prog W r b0 46 v) (hd : DataW.Trod enc Tryd.prog W base sp held 46 v d ps) :
    ∃ a b c : Nat, v = .agg #[.int .u16 (a : Int), .int .u16 (b : Int), .int .u16 (c : Int)] ∧ a < 65536 ∧ b < 65536 ∧ c < 65536 := by
  simp only [Value.okWide, Tryd.underlying46] at hv
  obtain ⟨cs, rfl, hs, _⟩ := hv
  have hs3 : cs.size = 3 := by rw [hs]; kernel_rfl
  obtain ⟨fuel, hf⟩ := hd
  obtain ⟨c0, c1, c2, rfl⟩ : ∃ c0 c1 c2, cs = #[c0, c1, c2] := by
    obtain ⟨l⟩ := cs
    match l, hs3 with
    | [a, b, c], _ => exact ⟨a, b, c, rfl⟩
  obtain ⟨y0, y1, y2, n, _, h0, h1, h2⟩ := trod_array3 Tryd.underlying46 (by kernel_rfl) hf
  have e1 : IntKind.u16.min = 0 := rfl
  have e2 : IntKind.u16.max = 65535 := rfl
  obtain ⟨a, ea, _, wa⟩ := DataW.trod_int Tryd.underlying45 h0
  obtain ⟨b, eb, _, wb⟩ := DataW.trod_int Tryd.underlying45 h1
  obtain ⟨c, ec, _, wc⟩ := DataW.trod_int Tryd.underlying45 h2
  simp only [Lit.wf, Bool.and_eq_true, decide_eq_true_eq, e1, e2] at wa wb wc
  simp only [List.cons.injEq, and_true] at ea eb ec
  subst ea
  subst eb
  subst ec
  refine ⟨a.toNat, b.toNat, c.toNat, ?_, by omega, by omega, by omega⟩
  rw [Int.toNat_of_nonneg wa.1, Int.toNat_of_nonneg wb.1, Int.toNat_of_nonneg wc.1]
theorem u32_nat {x : Int} (h : (Lit.int .u32 x).wf = true) : ∃ n : Nat, x = n ∧ n < 4294967296 := by
  have e1 : IntKind.u32.min = 0 := rfl
  have e2 : IntKind.u32.max = 4294967295 := rfl
  simp only [Lit.wf, Bool.and_eq_true, decide_eq_true_eq, e1, e2] at h
  exact ⟨x.toNat, by omega, by omega⟩
#print axioms open_u16x3
end Go.Proofs.YtfgicmekkjhlkaaDoor
