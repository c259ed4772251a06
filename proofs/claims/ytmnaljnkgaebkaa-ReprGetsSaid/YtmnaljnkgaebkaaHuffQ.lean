/- Bits as numbers, bytes out of bits: what a text's bits are as bytes. No program in sight. -/
import Derived.Test.YtmnaljnkgaebkaaHuffB
namespace Go.Proofs.Ytmnaljnkgaebkaa
set_option linter.unusedVariables false
set_option linter.unusedSimpArgs false

/-- The number that bits tell, the highest first. -/
def valB (l : List Nat) : Nat := l.foldl (fun n b => 2 * n + b) 0
/-- n bits of a number, the highest first. -/
def bitsN : Nat → Nat → List Nat
  | 0, _ => []
  | n + 1, v => bitsN n (v / 2) ++ [v % 2]
def isBits (l : List Nat) : Prop := ∀ b ∈ l, b < 2
theorem valB_snoc (l : List Nat) (b : Nat) : valB (l ++ [b]) = 2 * valB l + b := by simp [valB]
theorem valB_append (l r : List Nat) : valB (l ++ r) = valB l * 2 ^ r.length + valB r := by
  refine snocInd (P := fun r => valB (l ++ r) = valB l * 2 ^ r.length + valB r) (by simp [valB]) ?_ r
  intro r b ih
  rw [← List.append_assoc, valB_snoc, valB_snoc, ih, List.length_append, List.length_singleton, Nat.pow_succ]
  have : 2 * (valB l * 2 ^ r.length) = valB l * (2 ^ r.length * 2) := by rw [Nat.mul_comm 2, Nat.mul_assoc]
  omega
theorem isBits_append {l r : List Nat} (h : isBits (l ++ r)) : isBits l ∧ isBits r := ⟨fun b hb => h b (List.mem_append_left _ hb), fun b hb => h b (List.mem_append_right _ hb)⟩
theorem isBits_mk {l r : List Nat} (h : isBits l) (h' : isBits r) : isBits (l ++ r) := fun b hb => (List.mem_append.1 hb).elim (h b) (h' b)
theorem valB_lt (l : List Nat) : isBits l → valB l < 2 ^ l.length := by
  refine snocInd (P := fun l => isBits l → valB l < 2 ^ l.length) (by simp [valB]) ?_ l
  intro l b ih h
  obtain ⟨h1, h2⟩ := isBits_append h
  have := ih h1
  have := h2 b (by simp)
  rw [valB_snoc, List.length_append, List.length_singleton, Nat.pow_succ]
  omega
theorem bitsN_len (n v : Nat) : (bitsN n v).length = n := by
  induction n generalizing v with
  | zero => rfl
  | succ n ih => simp [bitsN, ih]
theorem bitsN_bits (n v : Nat) : isBits (bitsN n v) := by
  induction n generalizing v with
  | zero => intro b hb; simp [bitsN] at hb
  | succ n ih => exact isBits_mk (ih _) (by intro b hb; simp at hb; omega)
theorem valB_bitsN (n v : Nat) : v < 2 ^ n → valB (bitsN n v) = v := by
  induction n generalizing v with
  | zero => intro h; simp [bitsN, valB] at h ⊢; omega
  | succ n ih =>
    intro h
    rw [Nat.pow_succ] at h
    rw [bitsN, valB_snoc, ih (v / 2) (by omega)]
    omega

/-- n bytes out of bits. -/
def packN : Nat → List Nat → List Nat
  | 0, _ => []
  | n + 1, l => valB (l.take 8) :: packN n (l.drop 8)
theorem packN_len (n : Nat) (l : List Nat) : (packN n l).length = n := by
  induction n generalizing l with
  | zero => rfl
  | succ n ih => simp [packN, ih]
theorem packN_append (n : Nat) (l r : List Nat) (h : 8 * n ≤ l.length) : packN n (l ++ r) = packN n l := by
  induction n generalizing l with
  | zero => rfl
  | succ n ih =>
    rw [packN, packN, List.take_append_of_le_length (by omega), List.drop_append_of_le_length (by omega), ih _ (by simp; omega)]
theorem packN_add (n m : Nat) (l : List Nat) : packN (n + m) l = packN n l ++ packN m (l.drop (8 * n)) := by
  induction n generalizing l with
  | zero => simp [packN]
  | succ n ih =>
    rw [Nat.succ_add, packN, packN, ih, List.cons_append, List.drop_drop, show 8 + 8 * n = 8 * (n + 1) from by omega]
theorem packN_succ (n : Nat) (l : List Nat) : packN (n + 1) l = packN n l ++ [valB ((l.drop (8 * n)).take 8)] := by
  rw [packN_add]; rfl
/-- A byte in the midst of bits, out of their number. -/
theorem byte_mid (l : List Nat) (hb : isBits l) (j m : Nat) (h : l.length = 8 * (j + 1) + m) : valB l / 2 ^ m % 256 = valB ((l.drop (8 * j)).take 8) := by
  have e : l = l.take (8 * j) ++ ((l.drop (8 * j)).take 8 ++ l.drop (8 * (j + 1))) := by
    have e1 : (l.drop (8 * j)).drop 8 = l.drop (8 * (j + 1)) := by rw [List.drop_drop]; congr 1
    rw [← e1, List.take_append_drop, List.take_append_drop]
  have hm : (l.drop (8 * (j + 1))).length = m := by rw [List.length_drop]; omega
  have h8 : ((l.drop (8 * j)).take 8).length = 8 := by rw [List.length_take, List.length_drop]; omega
  have hb' := hb
  rw [e] at hb'
  obtain ⟨_, hb1⟩ := isBits_append hb'
  obtain ⟨hb2, hb3⟩ := isBits_append hb1
  have l1 := valB_lt _ hb2
  have l2 := valB_lt _ hb3
  rw [h8] at l1
  rw [hm] at l2
  have hv : valB l = (valB (l.take (8 * j)) * 256 + valB ((l.drop (8 * j)).take 8)) * 2 ^ m + valB (l.drop (8 * (j + 1))) := by
    conv => lhs; rw [e]
    rw [← List.append_assoc, valB_append, hm, valB_append, h8]
  rw [hv, Nat.mul_comm _ (2 ^ m), Nat.mul_add_div (Nat.two_pow_pos m), Nat.div_eq_of_lt l2]
  simp only [Nat.add_zero]
  omega
theorem low_bits (l : List Nat) (hb : isBits l) (j m : Nat) (h : l.length = j + m) : valB l % 2 ^ m = valB (l.drop j) := by
  have hm : (l.drop j).length = m := by rw [List.length_drop]; omega
  have hb' := hb
  rw [← List.take_append_drop j l] at hb'
  have l2 := valB_lt _ (isBits_append hb').2
  rw [hm] at l2
  conv => lhs; rw [← List.take_append_drop j l]
  rw [valB_append, hm, Nat.mul_comm, Nat.mul_add_mod, Nat.mod_eq_of_lt l2]

/-- A byte's bits, and a text's. -/
def byteBits (c : UInt8) : List Nat := bitsN (lenOf c.toNat) (codeOf c.toNat)
def textBits : List UInt8 → List Nat
  | [] => []
  | c :: l => byteBits c ++ textBits l
theorem textBits_append (a b : List UInt8) : textBits (a ++ b) = textBits a ++ textBits b := by
  induction a with
  | nil => rfl
  | cons c a ih => simp [textBits, ih]
theorem textBits_snoc (l : List UInt8) (c : UInt8) : textBits (l ++ [c]) = textBits l ++ byteBits c := by simp [textBits_append, textBits]
theorem byteBits_len (c : UInt8) : (byteBits c).length = lenOf c.toNat := bitsN_len _ _
theorem textBits_len (l : List UInt8) : (textBits l).length = bitsLen l := by
  induction l with
  | nil => rfl
  | cons c l ih => simp [textBits, bitsLen, ih, byteBits_len]
theorem textBits_bits (l : List UInt8) : isBits (textBits l) := by
  induction l with
  | nil => intro b hb; simp [textBits] at hb
  | cons c l ih => exact isBits_mk (bitsN_bits _ _) ih
theorem code_lt (c : Nat) (h : c < 256) : codeOf c < 2 ^ lenOf c := by
  have hz : (List.zip codeL lenL)[c]? = some (codeOf c, lenOf c) := by
    unfold codeOf lenOf
    rw [List.getElem?_zip_eq_some]
    rw [List.getD_eq_getElem?_getD, List.getD_eq_getElem?_getD, List.getElem?_eq_getElem (by rw [codeL_len]; exact h), List.getElem?_eq_getElem (by rw [lenL_len]; exact h)]
    exact ⟨rfl, rfl⟩
  have := List.all_eq_true.1 code_all _ (List.mem_of_getElem? hz)
  simpa using this
theorem byteBits_val (c : UInt8) : valB (byteBits c) = codeOf c.toNat := valB_bitsN _ _ (code_lt _ c.toNat_lt)

/-- Ones behind bits, up to a whole byte. -/
def padL (b : List Nat) : List Nat := b ++ List.replicate ((8 - b.length % 8) % 8) 1
/-- A text's bits as bytes. -/
def encL (l : List UInt8) : List Nat := packN (sizeL l) (padL (textBits l))
theorem padL_len (b : List Nat) : (padL b).length = 8 * ((b.length + 7) / 8) := by
  unfold padL
  rw [List.length_append, List.length_replicate]
  omega
theorem ones_bits (n : Nat) : isBits (List.replicate n 1) := fun b hb => by have := (List.mem_replicate.1 hb).2; omega
theorem valB_ones (n : Nat) : valB (List.replicate n 1) = 2 ^ n - 1 := by
  induction n with
  | zero => rfl
  | succ n ih =>
    rw [List.replicate_succ', valB_snoc, ih, Nat.pow_succ]
    have := Nat.two_pow_pos n
    omega
/-- The bytes, the full ones first. -/
theorem encL_full (l : List UInt8) (h : bitsLen l % 8 = 0) : encL l = packN (bitsLen l / 8) (textBits l) := by
  unfold encL sizeL padL
  rw [textBits_len, h]
  have e : (bitsLen l + 7) / 8 = bitsLen l / 8 := by omega
  rw [e]
  simp
theorem encL_part (l : List UInt8) (h : 0 < bitsLen l % 8) :
    encL l = packN (bitsLen l / 8) (textBits l) ++ [valB ((textBits l).drop (8 * (bitsLen l / 8))) * 2 ^ (8 - bitsLen l % 8) + (2 ^ (8 - bitsLen l % 8) - 1)] := by
  have hlen := textBits_len l
  have e : (bitsLen l + 7) / 8 = bitsLen l / 8 + 1 := by omega
  have e2 : (8 - bitsLen l % 8) % 8 = 8 - bitsLen l % 8 := by omega
  have hpad : padL (textBits l) = textBits l ++ List.replicate (8 - bitsLen l % 8) 1 := by unfold padL; rw [hlen, e2]
  unfold encL sizeL
  rw [e, packN_succ, hpad, packN_append _ _ _ (by omega)]
  congr 2
  rw [List.drop_append_of_le_length (by omega), List.take_of_length_le (by rw [List.length_append, List.length_drop, List.length_replicate]; omega), valB_append, List.length_replicate, valB_ones]
end Go.Proofs.Ytmnaljnkgaebkaa
