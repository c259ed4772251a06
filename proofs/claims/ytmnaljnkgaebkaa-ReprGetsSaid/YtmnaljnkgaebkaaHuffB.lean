/- The bits of a text by the codes, and what they come to as bytes. No program in sight. -/
import Derived.Test.YtmnaljnkgaebkaaHuffP
namespace Go.Proofs.Ytmnaljnkgaebkaa
set_option linter.unusedVariables false
set_option linter.unusedSimpArgs false

/-- How many bits a text's codes have. -/
def bitsLen : List UInt8 → Nat
  | [] => 0
  | c :: l => lenOf c.toNat + bitsLen l
theorem bitsLen_append (a b : List UInt8) : bitsLen (a ++ b) = bitsLen a + bitsLen b := by
  induction a with
  | nil => simp [bitsLen]
  | cons c a ih => simp only [List.cons_append, bitsLen, ih]; omega
theorem bitsLen_snoc (l : List UInt8) (c : UInt8) : bitsLen (l ++ [c]) = bitsLen l + lenOf c.toNat := by simp [bitsLen_append, bitsLen]
theorem bitsLen_le (l : List UInt8) : bitsLen l ≤ 30 * l.length := by
  induction l with
  | nil => simp [bitsLen]
  | cons c l ih =>
    have := (len_range c.toNat c.toNat_lt).2
    simp only [bitsLen, List.length_cons]
    omega
/-- How many bytes a text's bits are. -/
def sizeL (l : List UInt8) : Nat := (bitsLen l + 7) / 8
end Go.Proofs.Ytmnaljnkgaebkaa
