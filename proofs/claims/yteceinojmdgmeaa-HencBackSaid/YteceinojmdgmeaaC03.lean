/- HuffQ · HuffO: joined by a program, for a claim has at most 60 files. -/
import Derived.Test.YteceinojmdgmeaaC02
import Derived.Laws.BitsAllLaws
import Derived.IntWalk
/- Bits as numbers, bytes out of bits: what a text's bits are as bytes. No program in sight. -/
namespace Go.Proofs.Yteceinojmdgmeaa
set_option linter.unusedVariables false
set_option linter.unusedSimpArgs false

/-- The number that bits tell, the highest first. -/
def valB (l : List Nat) : Nat := l.foldl (fun n b => 2 * n + b) 0
/-- n bits of a number, the highest first. -/
def bitsN : Nat → Nat → List Nat
  | 0, _ => []
  | n + 1, v => bitsN n (v / 2) ++ [v % 2]
def isBits (l : List Nat) : Prop := ∀ b ∈ l, b < 2
theorem valB_snoc (l : List Nat) (b : Nat) : valB (l ++ [b]) = 2 * valB l + b := by simp [valB]
theorem valB_append (l r : List Nat) : valB (l ++ r) = valB l * 2 ^ r.length + valB r := by
  refine snocInd (P := fun r => valB (l ++ r) = valB l * 2 ^ r.length + valB r) (by simp [valB]) ?_ r
  intro r b ih
  rw [← List.append_assoc, valB_snoc, valB_snoc, ih, List.length_append, List.length_singleton, Nat.pow_succ]
  have : 2 * (valB l * 2 ^ r.length) = valB l * (2 ^ r.length * 2) := by rw [Nat.mul_comm 2, Nat.mul_assoc]
  omega
theorem isBits_append {l r : List Nat} (h : isBits (l ++ r)) : isBits l ∧ isBits r := ⟨fun b hb => h b (List.mem_append_left _ hb), fun b hb => h b (List.mem_append_right _ hb)⟩
theorem isBits_mk {l r : List Nat} (h : isBits l) (h' : isBits r) : isBits (l ++ r) := fun b hb => (List.mem_append.1 hb).elim (h b) (h' b)
theorem valB_lt (l : List Nat) : isBits l → valB l < 2 ^ l.length := by
  refine snocInd (P := fun l => isBits l → valB l < 2 ^ l.length) (by simp [valB]) ?_ l
  intro l b ih h
  obtain ⟨h1, h2⟩ := isBits_append h
  have := ih h1
  have := h2 b (by simp)
  rw [valB_snoc, List.length_append, List.length_singleton, Nat.pow_succ]
  omega
theorem bitsN_len (n v : Nat) : (bitsN n v).length = n := by
  induction n generalizing v with
  | zero => rfl
  | succ n ih => simp [bitsN, ih]
theorem bitsN_bits (n v : Nat) : isBits (bitsN n v) := by
  induction n generalizing v with
  | zero => intro b hb; simp [bitsN] at hb
  | succ n ih => exact isBits_mk (ih _) (by intro b hb; simp at hb; omega)
theorem valB_bitsN (n v : Nat) : v < 2 ^ n → valB (bitsN n v) = v := by
  induction n generalizing v with
  | zero => intro h; simp [bitsN, valB] at h ⊢; omega
  | succ n ih =>
    intro h
    rw [Nat.pow_succ] at h
    rw [bitsN, valB_snoc, ih (v / 2) (by omega)]
    omega

/-- n bytes out of bits. -/
def packN : Nat → List Nat → List Nat
  | 0, _ => []
  | n + 1, l => valB (l.take 8) :: packN n (l.drop 8)
theorem packN_len (n : Nat) (l : List Nat) : (packN n l).length = n := by
  induction n generalizing l with
  | zero => rfl
  | succ n ih => simp [packN, ih]
theorem packN_append (n : Nat) (l r : List Nat) (h : 8 * n ≤ l.length) : packN n (l ++ r) = packN n l := by
  induction n generalizing l with
  | zero => rfl
  | succ n ih =>
    rw [packN, packN, List.take_append_of_le_length (by omega), List.drop_append_of_le_length (by omega), ih _ (by simp; omega)]
theorem packN_add (n m : Nat) (l : List Nat) : packN (n + m) l = packN n l ++ packN m (l.drop (8 * n)) := by
  induction n generalizing l with
  | zero => simp [packN]
  | succ n ih =>
    rw [Nat.succ_add, packN, packN, ih, List.cons_append, List.drop_drop, show 8 + 8 * n = 8 * (n + 1) from by omega]
theorem packN_succ (n : Nat) (l : List Nat) : packN (n + 1) l = packN n l ++ [valB ((l.drop (8 * n)).take 8)] := by
  rw [packN_add]; rfl
/-- A byte in the midst of bits, out of their number. -/
theorem byte_mid (l : List Nat) (hb : isBits l) (j m : Nat) (h : l.length = 8 * (j + 1) + m) : valB l / 2 ^ m % 256 = valB ((l.drop (8 * j)).take 8) := by
  have e : l = l.take (8 * j) ++ ((l.drop (8 * j)).take 8 ++ l.drop (8 * (j + 1))) := by
    have e1 : (l.drop (8 * j)).drop 8 = l.drop (8 * (j + 1)) := by rw [List.drop_drop]; congr 1
    rw [← e1, List.take_append_drop, List.take_append_drop]
  have hm : (l.drop (8 * (j + 1))).length = m := by rw [List.length_drop]; omega
  have h8 : ((l.drop (8 * j)).take 8).length = 8 := by rw [List.length_take, List.length_drop]; omega
  have hb' := hb
  rw [e] at hb'
  obtain ⟨_, hb1⟩ := isBits_append hb'
  obtain ⟨hb2, hb3⟩ := isBits_append hb1
  have l1 := valB_lt _ hb2
  have l2 := valB_lt _ hb3
  rw [h8] at l1
  rw [hm] at l2
  have hv : valB l = (valB (l.take (8 * j)) * 256 + valB ((l.drop (8 * j)).take 8)) * 2 ^ m + valB (l.drop (8 * (j + 1))) := by
    conv => lhs; rw [e]
    rw [← List.append_assoc, valB_append, hm, valB_append, h8]
  rw [hv, Nat.mul_comm _ (2 ^ m), Nat.mul_add_div (Nat.two_pow_pos m), Nat.div_eq_of_lt l2]
  simp only [Nat.add_zero]
  omega
theorem low_bits (l : List Nat) (hb : isBits l) (j m : Nat) (h : l.length = j + m) : valB l % 2 ^ m = valB (l.drop j) := by
  have hm : (l.drop j).length = m := by rw [List.length_drop]; omega
  have hb' := hb
  rw [← List.take_append_drop j l] at hb'
  have l2 := valB_lt _ (isBits_append hb').2
  rw [hm] at l2
  conv => lhs; rw [← List.take_append_drop j l]
  rw [valB_append, hm, Nat.mul_comm, Nat.mul_add_mod, Nat.mod_eq_of_lt l2]

/-- A byte's bits, and a text's. -/
def byteBits (c : UInt8) : List Nat := bitsN (lenOf c.toNat) (codeOf c.toNat)
def textBits : List UInt8 → List Nat
  | [] => []
  | c :: l => byteBits c ++ textBits l
theorem textBits_append (a b : List UInt8) : textBits (a ++ b) = textBits a ++ textBits b := by
  induction a with
  | nil => rfl
  | cons c a ih => simp [textBits, ih]
theorem textBits_snoc (l : List UInt8) (c : UInt8) : textBits (l ++ [c]) = textBits l ++ byteBits c := by simp [textBits_append, textBits]
theorem byteBits_len (c : UInt8) : (byteBits c).length = lenOf c.toNat := bitsN_len _ _
theorem textBits_len (l : List UInt8) : (textBits l).length = bitsLen l := by
  induction l with
  | nil => rfl
  | cons c l ih => simp [textBits, bitsLen, ih, byteBits_len]
theorem textBits_bits (l : List UInt8) : isBits (textBits l) := by
  induction l with
  | nil => intro b hb; simp [textBits] at hb
  | cons c l ih => exact isBits_mk (bitsN_bits _ _) ih
theorem code_lt (c : Nat) (h : c < 256) : codeOf c < 2 ^ lenOf c := by
  have hz : (List.zip codeL lenL)[c]? = some (codeOf c, lenOf c) := by
    unfold codeOf lenOf
    rw [List.getElem?_zip_eq_some]
    rw [List.getD_eq_getElem?_getD, List.getD_eq_getElem?_getD, List.getElem?_eq_getElem (by rw [codeL_len]; exact h), List.getElem?_eq_getElem (by rw [lenL_len]; exact h)]
    exact ⟨rfl, rfl⟩
  have := List.all_eq_true.1 code_all _ (List.mem_of_getElem? hz)
  simpa using this
theorem byteBits_val (c : UInt8) : valB (byteBits c) = codeOf c.toNat := valB_bitsN _ _ (code_lt _ c.toNat_lt)

/-- Ones behind bits, up to a whole byte. -/
def padL (b : List Nat) : List Nat := b ++ List.replicate ((8 - b.length % 8) % 8) 1
/-- A text's bits as bytes. -/
def encL (l : List UInt8) : List Nat := packN (sizeL l) (padL (textBits l))
theorem padL_len (b : List Nat) : (padL b).length = 8 * ((b.length + 7) / 8) := by
  unfold padL
  rw [List.length_append, List.length_replicate]
  omega
theorem ones_bits (n : Nat) : isBits (List.replicate n 1) := fun b hb => by have := (List.mem_replicate.1 hb).2; omega
theorem valB_ones (n : Nat) : valB (List.replicate n 1) = 2 ^ n - 1 := by
  induction n with
  | zero => rfl
  | succ n ih =>
    rw [List.replicate_succ', valB_snoc, ih, Nat.pow_succ]
    have := Nat.two_pow_pos n
    omega
/-- The bytes, the full ones first. -/
theorem encL_full (l : List UInt8) (h : bitsLen l % 8 = 0) : encL l = packN (bitsLen l / 8) (textBits l) := by
  unfold encL sizeL padL
  rw [textBits_len, h]
  have e : (bitsLen l + 7) / 8 = bitsLen l / 8 := by omega
  rw [e]
  simp
theorem encL_part (l : List UInt8) (h : 0 < bitsLen l % 8) :
    encL l = packN (bitsLen l / 8) (textBits l) ++ [valB ((textBits l).drop (8 * (bitsLen l / 8))) * 2 ^ (8 - bitsLen l % 8) + (2 ^ (8 - bitsLen l % 8) - 1)] := by
  have hlen := textBits_len l
  have e : (bitsLen l + 7) / 8 = bitsLen l / 8 + 1 := by omega
  have e2 : (8 - bitsLen l % 8) % 8 = 8 - bitsLen l % 8 := by omega
  have hpad : padL (textBits l) = textBits l ++ List.replicate (8 - bitsLen l % 8) 1 := by unfold padL; rw [hlen, e2]
  unfold encL sizeL
  rw [e, packN_succ, hpad, packN_append _ _ _ (by omega)]
  congr 2
  rw [List.drop_append_of_le_length (by omega), List.take_of_length_le (by rw [List.length_append, List.length_drop, List.length_replicate]; omega), valB_append, List.length_replicate, valB_ones]
end Go.Proofs.Yteceinojmdgmeaa


/- Encode's steps on numbers: what is held, what is done. No walk in sight. -/
namespace Go.Proofs.Yteceinojmdgmeaa
open Go.RowKit
set_option linter.unusedVariables false
set_option linter.unusedSimpArgs false

/-- What waits of bits: their number; the bytes that are done. -/
def heldOf (B : List Nat) : Nat := valB (B.drop (8 * (B.length / 8)))
def doneOf (B : List Nat) : List Nat := packN (B.length / 8) B
theorem held_lt (B : List Nat) (hb : isBits B) : heldOf B < 2 ^ (B.length % 8) := by
  have h : isBits (B.drop (8 * (B.length / 8))) := fun b m => hb b (List.mem_of_mem_drop m)
  have := valB_lt _ h
  rw [List.length_drop] at this
  unfold heldOf
  have e : B.length - 8 * (B.length / 8) = B.length % 8 := by omega
  rwa [e] at this
theorem pow_le_of (a b : Nat) (h : a ≤ b) : 2 ^ a ≤ 2 ^ b := Nat.pow_le_pow_right (by decide) h
/-- What waits with a code behind. -/
def heldNext (B : List Nat) (c : UInt8) : Nat := valB ((B ++ byteBits c).drop (8 * (B.length / 8)))
theorem heldNext_eq (B : List Nat) (c : UInt8) : heldNext B c = heldOf B * 2 ^ lenOf c.toNat + codeOf c.toNat := by
  unfold heldNext heldOf
  rw [List.drop_append_of_le_length (by omega), valB_append, byteBits_len, byteBits_val]
theorem next_bits (B : List Nat) (c : UInt8) (hb : isBits B) : isBits ((B ++ byteBits c).drop (8 * (B.length / 8))) :=
  fun b m => isBits_mk hb (bitsN_bits _ _) b (List.mem_of_mem_drop m)
theorem next_len (B : List Nat) (c : UInt8) : ((B ++ byteBits c).drop (8 * (B.length / 8))).length = B.length % 8 + lenOf c.toNat := by
  rw [List.length_drop, List.length_append, byteBits_len]
  omega
theorem heldNext_lt (B : List Nat) (c : UInt8) (hb : isBits B) : heldNext B c < 2 ^ (B.length % 8 + lenOf c.toNat) := by
  have := valB_lt _ (next_bits B c hb)
  rwa [next_len] at this
theorem heldNext_small (B : List Nat) (c : UInt8) (hb : isBits B) : heldNext B c < 274877906944 := by
  have h1 := heldNext_lt B c hb
  have h2 := (len_range c.toNat c.toNat_lt).2
  have := pow_le_of (B.length % 8 + lenOf c.toNat) 38 (by omega)
  omega
theorem shl_fact (B : List Nat) (c : UInt8) (hb : isBits B) : IntKind.u64.wrap ((heldOf B : Int) * 2 ^ lenOf c.toNat) = ((heldOf B * 2 ^ lenOf c.toNat : Nat) : Int) := by
  have h1 := heldNext_small B c hb
  rw [heldNext_eq] at h1
  have e : ((heldOf B : Int) * 2 ^ lenOf c.toNat) = ((heldOf B * 2 ^ lenOf c.toNat : Nat) : Int) := by simp
  rw [e]
  generalize heldOf B * 2 ^ lenOf c.toNat = x at h1 ⊢
  exact IntWalk.u64_in _ (by omega)
theorem or_fact (B : List Nat) (c : UInt8) (hb : isBits B) : bits BinOp.or IntKind.u64 ((heldOf B * 2 ^ lenOf c.toNat : Nat) : Int) (codeOf c.toNat : Nat) = (heldNext B c : Nat) := by
  have h1 := heldNext_small B c hb
  rw [heldNext_eq] at h1
  rw [heldNext_eq, u64_or_nat _ _ (by omega) (by omega), Nat.mul_comm, Nat.two_pow_add_eq_or_of_lt (code_lt _ c.toNat_lt)]
theorem shr_fact (B : List Nat) (c : UInt8) (hb : isBits B) (j m : Nat) (h : m + 8 * (j + 1) = B.length % 8 + lenOf c.toNat) :
    IntKind.u8.wrap ((heldNext B c : Int) / 2 ^ m) = ((valB (((B ++ byteBits c).drop (8 * (B.length / 8 + j))).take 8) : Nat) : Int) := by
  have hl := next_len B c
  have hm := byte_mid _ (next_bits B c hb) j m (by omega)
  rw [List.drop_drop, show 8 * (B.length / 8) + 8 * j = 8 * (B.length / 8 + j) from by omega] at hm
  rw [← hm]
  unfold heldNext
  generalize valB ((B ++ byteBits c).drop (8 * (B.length / 8))) = x
  have e : ((x : Int) / 2 ^ m) = ((x / 2 ^ m : Nat) : Int) := by simp
  rw [e]
  generalize x / 2 ^ m = y
  simp [IntKind.wrap, IntKind.signed, IntKind.bits]
theorem and_fact (B : List Nat) (c : UInt8) (hb : isBits B) (j m : Nat) (h : m + 8 * j = B.length % 8 + lenOf c.toNat) (h8 : m < 8) :
    bits BinOp.and IntKind.u64 (heldNext B c : Nat) ((2 ^ m - 1 : Nat) : Int) = ((heldOf (B ++ byteBits c) : Nat) : Int) := by
  have hs := heldNext_small B c hb
  have hl := next_len B c
  have hm := low_bits _ (next_bits B c hb) (8 * j) m (by omega)
  have hp := pow_le_of m 8 (by omega)
  rw [u64_and_nat _ _ (by omega) (by omega), Nat.and_two_pow_sub_one_eq_mod]
  unfold heldNext
  rw [hm, List.drop_drop]
  unfold heldOf
  have e : 8 * (B.length / 8) + 8 * j = 8 * ((B ++ byteBits c).length / 8) := by rw [List.length_append, byteBits_len]; omega
  rw [e]
theorem done_step (B2 : List Nat) (n : Nat) : packN (n + 1) B2 = packN n B2 ++ [valB ((B2.drop (8 * n)).take 8)] := packN_succ n B2
theorem done_next (B : List Nat) (c : UInt8) : packN (B.length / 8 + 0) (B ++ byteBits c) = doneOf B := by
  rw [Nat.add_zero, packN_append _ _ _ (by omega)]; rfl
theorem done_end (B : List Nat) (c : UInt8) (j m : Nat) (h : m + 8 * j = B.length % 8 + lenOf c.toNat) (h8 : m < 8) :
    packN (B.length / 8 + j) (B ++ byteBits c) = doneOf (B ++ byteBits c) ∧ m = (B ++ byteBits c).length % 8 := by
  unfold doneOf
  rw [List.length_append, byteBits_len]
  constructor
  · congr 1; omega
  · omega
theorem last_fact (B : List Nat) (hb : isBits B) (h : 0 < B.length % 8) :
    IntKind.u64.wrap ((heldOf B : Int) * 2 ^ (8 - B.length % 8)) = ((heldOf B * 2 ^ (8 - B.length % 8) : Nat) : Int) ∧ heldOf B * 2 ^ (8 - B.length % 8) < 256
    ∧ bits BinOp.or IntKind.u8 ((heldOf B * 2 ^ (8 - B.length % 8) : Nat) : Int) ((2 ^ (8 - B.length % 8) - 1 : Nat) : Int) = ((heldOf B * 2 ^ (8 - B.length % 8) + (2 ^ (8 - B.length % 8) - 1) : Nat) : Int) := by
  have h1 := held_lt B hb
  have h2 : B.length % 8 + (8 - B.length % 8) = 8 := by omega
  generalize 8 - B.length % 8 = m at h2 ⊢
  have h3 : heldOf B * 2 ^ m < 256 := by
    have : heldOf B * 2 ^ m < 2 ^ (B.length % 8) * 2 ^ m := (Nat.mul_lt_mul_right (Nat.two_pow_pos m)).2 h1
    rwa [← Nat.pow_add, h2] at this
  have hp := pow_le_of m 7 (by omega)
  have hp1 := Nat.two_pow_pos m
  refine ⟨?_, h3, ?_⟩
  · have e : ((heldOf B : Int) * 2 ^ m) = ((heldOf B * 2 ^ m : Nat) : Int) := by simp
    rw [e]
    generalize heldOf B * 2 ^ m = x at h3 ⊢
    exact IntWalk.u64_in _ (by omega)
  · rw [u8_or_nat _ _ (by omega) (by omega), Nat.mul_comm, Nat.two_pow_add_eq_or_of_lt (by omega)]
theorem enc_end (l : List UInt8) (h : (textBits l).length % 8 = 0) : encL l = doneOf (textBits l) := by
  rw [textBits_len] at h
  unfold doneOf
  rw [encL_full l h, textBits_len]
theorem enc_last (l : List UInt8) (h : 0 < (textBits l).length % 8) : encL l = doneOf (textBits l) ++ [heldOf (textBits l) * 2 ^ (8 - (textBits l).length % 8) + (2 ^ (8 - (textBits l).length % 8) - 1)] := by
  rw [textBits_len] at h
  unfold doneOf heldOf
  rw [encL_part l h, textBits_len]
end Go.Proofs.Yteceinojmdgmeaa

