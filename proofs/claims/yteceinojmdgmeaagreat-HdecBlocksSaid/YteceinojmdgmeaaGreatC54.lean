/- Bytes of an argument, in the words of the walks. -/
import Derived.Test.YteceinojmdgmeaaGreatC07
import Derived.Lib.SlBytesRowKit
namespace Go.Proofs.YteceinojmdgmeaaGreat
open Go.RowKit
set_option linter.unusedVariables false
set_option linter.unusedSimpArgs false

theorem bytesN_of {W : World} {oa : Option Addr} {n : Nat} {xs : List Int} (hx : xs.length = n) (hB : Lib.BytesIn W oa n xs) (hr : ∀ x ∈ xs, 0 ≤ x ∧ x < 256) :
    (xs.map Int.toNat).length = n ∧ BytesN W oa (xs.map Int.toNat) ∧ ∀ i, i < (xs.map Int.toNat).length → (xs.map Int.toNat).getD i 0 < 256 := by
  have hl : (xs.map Int.toNat).length = n := by rw [List.length_map, hx]
  have hg : ∀ i, i < n → ∃ x : Int, xs[i]? = some x ∧ 0 ≤ x ∧ x < 256 ∧ (xs.map Int.toNat).getD i 0 = x.toNat ∧ xs.getD i 0 = x := fun i hi => by
    have hi' : i < xs.length := by omega
    have h := hr _ (List.getElem_mem hi')
    exact ⟨xs[i], List.getElem?_eq_getElem hi', h.1, h.2, by simp [List.getD_eq_getElem?_getD, List.getElem?_eq_getElem hi'], by simp [List.getD_eq_getElem?_getD, List.getElem?_eq_getElem hi']⟩
  refine ⟨hl, fun i hi => ?_, fun i hi => ?_⟩
  · rw [hl] at hi
    obtain ⟨b, o, rfl, hc⟩ := hB (by omega)
    obtain ⟨x, _, h1, h2, h3, h4⟩ := hg i hi
    refine ⟨_, rfl, ?_⟩
    rw [show (⟨b, o, none⟩ : Addr).add i = ⟨b, o + i, none⟩ from by unfold Addr.add; split <;> simp_all, hc i hi, h3, h4, Int.toNat_of_nonneg h1]
  · rw [hl] at hi
    obtain ⟨x, _, h1, h2, h3, _⟩ := hg i hi
    rw [h3]
    omega
end Go.Proofs.YteceinojmdgmeaaGreat

