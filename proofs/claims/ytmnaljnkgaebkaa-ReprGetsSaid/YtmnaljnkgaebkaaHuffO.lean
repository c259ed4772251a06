/- Encode's steps on numbers: what is held, what is done. No walk in sight. -/
import Derived.Test.YtmnaljnkgaebkaaHuffQ
import Derived.Laws.BitsAllLaws
import Derived.IntWalk
namespace Go.Proofs.Ytmnaljnkgaebkaa
open Go.RowKit
set_option linter.unusedVariables false
set_option linter.unusedSimpArgs false

/-- What waits of bits: their number; the bytes that are done. -/
def heldOf (B : List Nat) : Nat := valB (B.drop (8 * (B.length / 8)))
def doneOf (B : List Nat) : List Nat := packN (B.length / 8) B
theorem held_lt (B : List Nat) (hb : isBits B) : heldOf B < 2 ^ (B.length % 8) := by
  have h : isBits (B.drop (8 * (B.length / 8))) := fun b m => hb b (List.mem_of_mem_drop m)
  have := valB_lt _ h
  rw [List.length_drop] at this
  unfold heldOf
  have e : B.length - 8 * (B.length / 8) = B.length % 8 := by omega
  rwa [e] at this
theorem pow_le_of (a b : Nat) (h : a ≤ b) : 2 ^ a ≤ 2 ^ b := Nat.pow_le_pow_right (by decide) h
/-- What waits with a code behind. -/
def heldNext (B : List Nat) (c : UInt8) : Nat := valB ((B ++ byteBits c).drop (8 * (B.length / 8)))
theorem heldNext_eq (B : List Nat) (c : UInt8) : heldNext B c = heldOf B * 2 ^ lenOf c.toNat + codeOf c.toNat := by
  unfold heldNext heldOf
  rw [List.drop_append_of_le_length (by omega), valB_append, byteBits_len, byteBits_val]
theorem next_bits (B : List Nat) (c : UInt8) (hb : isBits B) : isBits ((B ++ byteBits c).drop (8 * (B.length / 8))) :=
  fun b m => isBits_mk hb (bitsN_bits _ _) b (List.mem_of_mem_drop m)
theorem next_len (B : List Nat) (c : UInt8) : ((B ++ byteBits c).drop (8 * (B.length / 8))).length = B.length % 8 + lenOf c.toNat := by
  rw [List.length_drop, List.length_append, byteBits_len]
  omega
theorem heldNext_lt (B : List Nat) (c : UInt8) (hb : isBits B) : heldNext B c < 2 ^ (B.length % 8 + lenOf c.toNat) := by
  have := valB_lt _ (next_bits B c hb)
  rwa [next_len] at this
theorem heldNext_small (B : List Nat) (c : UInt8) (hb : isBits B) : heldNext B c < 274877906944 := by
  have h1 := heldNext_lt B c hb
  have h2 := (len_range c.toNat c.toNat_lt).2
  have := pow_le_of (B.length % 8 + lenOf c.toNat) 38 (by omega)
  omega
theorem shl_fact (B : List Nat) (c : UInt8) (hb : isBits B) : IntKind.u64.wrap ((heldOf B : Int) * 2 ^ lenOf c.toNat) = ((heldOf B * 2 ^ lenOf c.toNat : Nat) : Int) := by
  have h1 := heldNext_small B c hb
  rw [heldNext_eq] at h1
  have e : ((heldOf B : Int) * 2 ^ lenOf c.toNat) = ((heldOf B * 2 ^ lenOf c.toNat : Nat) : Int) := by simp
  rw [e]
  generalize heldOf B * 2 ^ lenOf c.toNat = x at h1 ⊢
  exact IntWalk.u64_in _ (by omega)
theorem or_fact (B : List Nat) (c : UInt8) (hb : isBits B) : bits BinOp.or IntKind.u64 ((heldOf B * 2 ^ lenOf c.toNat : Nat) : Int) (codeOf c.toNat : Nat) = (heldNext B c : Nat) := by
  have h1 := heldNext_small B c hb
  rw [heldNext_eq] at h1
  rw [heldNext_eq, u64_or_nat _ _ (by omega) (by omega), Nat.mul_comm, Nat.two_pow_add_eq_or_of_lt (code_lt _ c.toNat_lt)]
theorem shr_fact (B : List Nat) (c : UInt8) (hb : isBits B) (j m : Nat) (h : m + 8 * (j + 1) = B.length % 8 + lenOf c.toNat) :
    IntKind.u8.wrap ((heldNext B c : Int) / 2 ^ m) = ((valB (((B ++ byteBits c).drop (8 * (B.length / 8 + j))).take 8) : Nat) : Int) := by
  have hl := next_len B c
  have hm := byte_mid _ (next_bits B c hb) j m (by omega)
  rw [List.drop_drop, show 8 * (B.length / 8) + 8 * j = 8 * (B.length / 8 + j) from by omega] at hm
  rw [← hm]
  unfold heldNext
  generalize valB ((B ++ byteBits c).drop (8 * (B.length / 8))) = x
  have e : ((x : Int) / 2 ^ m) = ((x / 2 ^ m : Nat) : Int) := by simp
  rw [e]
  generalize x / 2 ^ m = y
  simp [IntKind.wrap, IntKind.signed, IntKind.bits]
theorem and_fact (B : List Nat) (c : UInt8) (hb : isBits B) (j m : Nat) (h : m + 8 * j = B.length % 8 + lenOf c.toNat) (h8 : m < 8) :
    bits BinOp.and IntKind.u64 (heldNext B c : Nat) ((2 ^ m - 1 : Nat) : Int) = ((heldOf (B ++ byteBits c) : Nat) : Int) := by
  have hs := heldNext_small B c hb
  have hl := next_len B c
  have hm := low_bits _ (next_bits B c hb) (8 * j) m (by omega)
  have hp := pow_le_of m 8 (by omega)
  rw [u64_and_nat _ _ (by omega) (by omega), Nat.and_two_pow_sub_one_eq_mod]
  unfold heldNext
  rw [hm, List.drop_drop]
  unfold heldOf
  have e : 8 * (B.length / 8) + 8 * j = 8 * ((B ++ byteBits c).length / 8) := by rw [List.length_append, byteBits_len]; omega
  rw [e]
theorem done_step (B2 : List Nat) (n : Nat) : packN (n + 1) B2 = packN n B2 ++ [valB ((B2.drop (8 * n)).take 8)] := packN_succ n B2
theorem done_next (B : List Nat) (c : UInt8) : packN (B.length / 8 + 0) (B ++ byteBits c) = doneOf B := by
  rw [Nat.add_zero, packN_append _ _ _ (by omega)]; rfl
theorem done_end (B : List Nat) (c : UInt8) (j m : Nat) (h : m + 8 * j = B.length % 8 + lenOf c.toNat) (h8 : m < 8) :
    packN (B.length / 8 + j) (B ++ byteBits c) = doneOf (B ++ byteBits c) ∧ m = (B ++ byteBits c).length % 8 := by
  unfold doneOf
  rw [List.length_append, byteBits_len]
  constructor
  · congr 1; omega
  · omega
theorem last_fact (B : List Nat) (hb : isBits B) (h : 0 < B.length % 8) :
    IntKind.u64.wrap ((heldOf B : Int) * 2 ^ (8 - B.length % 8)) = ((heldOf B * 2 ^ (8 - B.length % 8) : Nat) : Int) ∧ heldOf B * 2 ^ (8 - B.length % 8) < 256
    ∧ bits BinOp.or IntKind.u8 ((heldOf B * 2 ^ (8 - B.length % 8) : Nat) : Int) ((2 ^ (8 - B.length % 8) - 1 : Nat) : Int) = ((heldOf B * 2 ^ (8 - B.length % 8) + (2 ^ (8 - B.length % 8) - 1) : Nat) : Int) := by
  have h1 := held_lt B hb
  have h2 : B.length % 8 + (8 - B.length % 8) = 8 := by omega
  generalize 8 - B.length % 8 = m at h2 ⊢
  have h3 : heldOf B * 2 ^ m < 256 := by
    have : heldOf B * 2 ^ m < 2 ^ (B.length % 8) * 2 ^ m := (Nat.mul_lt_mul_right (Nat.two_pow_pos m)).2 h1
    rwa [← Nat.pow_add, h2] at this
  have hp := pow_le_of m 7 (by omega)
  have hp1 := Nat.two_pow_pos m
  refine ⟨?_, h3, ?_⟩
  · have e : ((heldOf B : Int) * 2 ^ m) = ((heldOf B * 2 ^ m : Nat) : Int) := by simp
    rw [e]
    generalize heldOf B * 2 ^ m = x at h3 ⊢
    exact IntWalk.u64_in _ (by omega)
  · rw [u8_or_nat _ _ (by omega) (by omega), Nat.mul_comm, Nat.two_pow_add_eq_or_of_lt (by omega)]
theorem enc_end (l : List UInt8) (h : (textBits l).length % 8 = 0) : encL l = doneOf (textBits l) := by
  rw [textBits_len] at h
  unfold doneOf
  rw [encL_full l h, textBits_len]
theorem enc_last (l : List UInt8) (h : 0 < (textBits l).length % 8) : encL l = doneOf (textBits l) ++ [heldOf (textBits l) * 2 ^ (8 - (textBits l).length % 8) + (2 ^ (8 - (textBits l).length % 8) - 1)] := by
  rw [textBits_len] at h
  unfold doneOf heldOf
  rw [encL_part l h, textBits_len]
end Go.Proofs.Ytmnaljnkgaebkaa
