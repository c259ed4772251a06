/- What every right program does with three fields: footmanlaw04.awake. -/
import Derived.Test.YtmnaljnkgaebkaaFldA
import Derived.Test.YtmnaljnkgaebkaaFldG
import Derived.Test.YtmnaljnkgaebkaaFldF
namespace Go.Proofs.Ytmnaljnkgaebkaa
open Go.RowKit
set_option linter.unusedVariables false
set_option linter.unusedSimpArgs false

def ba (x : UInt8) : ByteArray := ⟨#[x]⟩
def fA : Fld := ⟨ba 97, ba 98, false⟩
def fC : Fld := ⟨ba 99, ba 100, false⟩
def fCn : Fld := ⟨ba 99, ba 100, true⟩
def fE : Fld := ⟨ba 101, ba 102, false⟩
theorem addL_1 : addL 80 [] fA = [fA] := by rfl
theorem addL_2 : addL 80 [fA] fCn = [fC, fA] := by rfl
theorem addL_3 : addL 80 [fC, fA] fE = [fE, fC] := by rfl
theorem res_1 : resL 80 40 [fE, fC] = [fE] ∧ resM 80 40 [fE, fC] = 40 ∧ resE 80 40 [fE, fC] = 0 := ⟨rfl, rfl, rfl⟩
theorem res_2 : resL 80 4097 [fE, fC] = [fE, fC] ∧ resM 80 4097 [fE, fC] = 80 ∧ resE 80 4097 [fE, fC] = 8 := ⟨rfl, rfl, rfl⟩
theorem light_1 : ∀ f ∈ [fA, fC, fE], lightF f = true := by
  intro f hf
  simp at hf
  rcases hf with rfl | rfl | rfl <;> rfl
/-- Where a field stands is told by DFound alone. -/
theorem NamG.uniq {g : Nat → Fld} {n : ByteArray} {k m m' : Nat} (h : NamG g n k m) (h' : NamG g n k m') : m = m' := by
  rcases h with ⟨h1, h2⟩ | ⟨q, h1, h2, h3, h4⟩ <;> rcases h' with ⟨i1, i2⟩ | ⟨r, i1, i2, i3, i4⟩
  · omega
  · exact absurd i3 (h2 r i1)
  · exact absurd h3 (i2 q h1)
  · rcases Nat.lt_trichotomy q r with hlt | heq | hgt
    · exact absurd h3 (i4 q hlt)
    · omega
    · exact absurd i3 (h4 r hgt)
theorem DFound.uniq {L : List Fld} {n v : ByteArray} {p p' : Nat} {x x' : Bool} (h : DFound L n v p x) (h' : DFound L n v p' x') : p = p' ∧ x = x' := by
  rcases h with ⟨rfl, k, hk, rfl, h1, h2, h3⟩ | ⟨rfl, h1, h2⟩ <;> rcases h' with ⟨rfl, j, hj, rfl, i1, i2, i3⟩ | ⟨rfl, i1, i2⟩
  · refine ⟨?_, rfl⟩
    rcases Nat.lt_trichotomy k j with hlt | heq | hgt
    · exact absurd ⟨h1, h2⟩ (i3 k hlt)
    · omega
    · exact absurd ⟨i1, i2⟩ (h3 j hgt)
  · exact absurd ⟨h1, h2⟩ (i1 k hk)
  · exact absurd ⟨i1, i2⟩ (h1 j hj)
  · exact ⟨h2.uniq i2, rfl⟩
theorem stN_ne_a : ∀ k, k < 61 → stN k ≠ ba 97 := by
  have h : ∀ k, k < 61 → (stN k).data.toList ≠ [97] := by decide +kernel
  exact fun k hk e => h k hk (by rw [e]; rfl)
theorem found_1 : DFound [fC, fA] (ba 97) (ba 98) 63 true := by
  refine .inl ⟨rfl, 62, by decide, rfl, rfl, rfl, fun j hj => ?_⟩
  rintro ⟨h1, _⟩
  by_cases hj1 : j < 61
  · rw [gOf_st hj1] at h1
    exact stN_ne_a j hj1 h1
  · obtain rfl : j = 61 := by omega
    exact absurd (congrArg (fun b => b.data.toList) h1) (by decide)
theorem found_2 : DFound [fE, fC] (ba 97) (ba 98) 0 false := by
  have hno : ∀ j, j < 63 → (gOf [fE, fC] j).name ≠ ba 97 := fun j hj h1 => by
    by_cases hj1 : j < 61
    · rw [gOf_st hj1] at h1
      exact stN_ne_a j hj1 h1
    · rcases (show j = 61 ∨ j = 62 from by omega) with rfl | rfl
      · exact absurd (congrArg (fun b => b.data.toList) h1) (by decide)
      · exact absurd (congrArg (fun b => b.data.toList) h1) (by decide)
  exact .inr ⟨rfl, fun j hj h => hno j hj h.1, .inl ⟨rfl, hno⟩⟩
#print axioms found_2
end Go.Proofs.Ytmnaljnkgaebkaa
