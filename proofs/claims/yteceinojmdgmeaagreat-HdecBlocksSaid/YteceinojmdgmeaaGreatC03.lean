/- HuffB · HuffS · HuffQ: joined by a program, for a claim has at most 60 files. -/
import Derived.Test.YteceinojmdgmeaaGreatC00
import Derived.Test.YteceinojmdgmeaaGreatC01
/- The bits of a text by the codes, and what they come to as bytes. No program in sight. -/
namespace Go.Proofs.YteceinojmdgmeaaGreat
set_option linter.unusedVariables false
set_option linter.unusedSimpArgs false

/-- How many bits a text's codes have. -/
def bitsLen : List UInt8 → Nat
  | [] => 0
  | c :: l => lenOf c.toNat + bitsLen l
theorem bitsLen_append (a b : List UInt8) : bitsLen (a ++ b) = bitsLen a + bitsLen b := by
  induction a with
  | nil => simp [bitsLen]
  | cons c a ih => simp only [List.cons_append, bitsLen, ih]; omega
theorem bitsLen_snoc (l : List UInt8) (c : UInt8) : bitsLen (l ++ [c]) = bitsLen l + lenOf c.toNat := by simp [bitsLen_append, bitsLen]
theorem bitsLen_le (l : List UInt8) : bitsLen l ≤ 30 * l.length := by
  induction l with
  | nil => simp [bitsLen]
  | cons c l ih =>
    have := (len_range c.toNat c.toNat_lt).2
    simp only [bitsLen, List.length_cons]
    omega
/-- How many bytes a text's bits are. -/
def sizeL (l : List UInt8) : Nat := (bitsLen l + 7) / 8
end Go.Proofs.YteceinojmdgmeaaGreat


/- What huff.Size and footmanref02.Size return: how many bytes a text's bits are. -/
namespace Go.Proofs.YteceinojmdgmeaaGreat
open Go.RowKit
set_option linter.unusedVariables false
set_option linter.unusedSimpArgs false

theorem tl (s : ByteArray) : s.toList = s.data.toList := ByteArray.toList_eq s
theorem sz (s : ByteArray) : s.size = s.data.toList.length := by simp only [Array.length_toList]; rfl
theorem byte_at (s : ByteArray) (k : Nat) (h : k < s.size) : s.data.toList[k]'(by rw [← sz]; exact h) = s[k] := by rfl
theorem take_byte (s : ByteArray) (k : Nat) (h : k < s.size) : s.data.toList.take (k + 1) = s.data.toList.take k ++ [s[k]] := by
  rw [take_snoc _ _ (by rw [← sz]; exact h), byte_at s k h]
theorem take_all (s : ByteArray) : s.data.toList.take s.size = s.data.toList := List.take_of_length_le (by rw [← sz]; exact Nat.le_refl _)
theorem byte_lt (c : UInt8) : c.toNat < 256 := c.toNat_lt
theorem retI {a b : Int} (h : a = b) : Ending.returned (.int .i64 a) = .returned (.int .i64 b) := by rw [h]
theorem bits_step (s : ByteArray) (k : Nat) (h : k < s.size) (hs : s.size ≤ 1000000) : bitsLen (s.data.toList.take (k + 1)) = bitsLen (s.data.toList.take k) + lenOf s[k].toNat ∧ bitsLen (s.data.toList.take k) ≤ 30000000 := by
  refine ⟨by rw [take_byte s k h, bitsLen_snoc], ?_⟩
  have h1 := bitsLen_le (s.data.toList.take k)
  have h2 := List.length_take_le k s.data.toList
  have h3 : (s.data.toList.take k).length ≤ s.data.toList.length := by simp only [List.length_take]; omega
  have h4 := sz s
  omega
theorem bits_end (s : ByteArray) (hs : s.size ≤ 1000000) : bitsLen (s.data.toList.take s.size) = bitsLen s.data.toList ∧ bitsLen s.data.toList ≤ 30000000 := by
  rw [take_all]
  have h1 := bitsLen_le s.data.toList
  have h4 := sz s
  exact ⟨rfl, by omega⟩

/-- The table of lengths as a text. -/
def tabS : ByteArray := ⟨(lenL.map UInt8.ofNat).toArray⟩
theorem tabS_list : tabS.data.toList = lenL.map UInt8.ofNat := by simp [tabS]
theorem tabS_at (c : Nat) (hc : c < 256) : ∃ h : c < tabS.size, tabS[c].toNat = lenOf c := by
  have hs : tabS.size = 256 := by rw [sz, tabS_list, List.length_map, lenL_len]
  refine ⟨by omega, ?_⟩
  rw [← byte_at tabS c (by omega)]
  simp only [tabS_list, List.getElem_map]
  have h1 : lenL[c]'(by rw [lenL_len]; exact hc) = lenOf c := by
    unfold lenOf
    rw [List.getD_eq_getElem?_getD, List.getElem?_eq_getElem (by rw [lenL_len]; exact hc)]
    rfl
  rw [h1]
  have := (len_range c hc).2
  simp; omega
theorem idx_run (c : Nat) (hc : c < 256) (o : Oper) (X : ByteArray) (hX : X = tabS) (ho : o.op = .index 9 (.const (.string X)) (.tmp 3)) (a : Act) (ha : a.eval (.tmp 3) = .int .i64 (c : Int)) (w : World) :
    (execOp a.eval o).run Tryz.prog w = .ok (.value (.int .u8 (lenOf c : Nat))) w := by
  obtain ⟨h1, h2⟩ := tabS_at c hc
  subst hX
  have hr := run_index_string (P := Tryz.prog) (w := w) 9 tabS .i64 (c : Int) Tryz.underlying9
  have hk : a.eval (.const (.string tabS)) = .string tabS := rfl
  unfold execOp
  simp only [ho, ha, hk, Sem.run_bind, hr]
  simp [h1, h2]

set_option maxRecDepth 100000 in
theorem refLength_any (c : Nat) (hc : c < 256) (w : World) : Calls Tryz.prog 88 #[.int .i64 (c : Int)] w fun e w' => e = .returned (.int .i64 (lenOf c : Nat)) ∧ w = w' := by
  obtain ⟨n1, n2⟩ := len_range c hc
  have hwr : IntKind.i64.wrap ((lenOf c : Nat) : Int) = (lenOf c : Nat) := IntWalk.i64_in _ (by omega)
  go_enter Tryz.func88, Tryz.ntmps88
  go_wp2_with (refine Great.wpList_readTo rfl (some 4) rfl (.int .u8 (lenOf c : Nat)) (idx_run c hc _ _ (by kernel_rfl) rfl _ rfl _) ?_)
  go_ret
  exact ⟨rfl, rfl⟩
theorem sizeL_eq (s : ByteArray) : ((bitsLen s.data.toList : Nat) + 7 : Int) / 8 = (sizeL s.data.toList : Nat) := by unfold sizeL; omega

/-- A block holds a text's bytes; below it, B and the lengths are as HasLens says. -/
structure HasText (h : Nat) (s : ByteArray) (W : World) : Prop where
  cell : ∀ k, (hk : k < s.size) → W.cell? ⟨h, k, none⟩ = some (.int .u8 s[k].toNat)
theorem text_new (W : World) (e : TypeId) (s : ByteArray) : HasText W.heap.size s (Lib.bytesWorld W e s) := ⟨fun k hk => by
  rw [Lib.bytesWorld_cell W e s k hk, List.getD_eq_getElem?_getD, List.getElem?_eq_getElem (by rw [← sz]; exact hk), byte_at s k hk]
  rfl⟩
theorem bytesWorld_below (w : World) (e : TypeId) (s : ByteArray) : Below w.heap.size w (Lib.bytesWorld w e s) :=
  ⟨by unfold Lib.bytesWorld World.freeze; split <;> rfl, by unfold Lib.bytesWorld World.freeze; split <;> rfl, by unfold Lib.bytesWorld World.freeze; split <;> rfl, by rw [Lib.bytesWorld_size]; omega, fun k hk => Lib.bytesWorld_at_old w e s k hk⟩

end Go.Proofs.YteceinojmdgmeaaGreat


/- Bits as numbers, bytes out of bits: what a text's bits are as bytes. No program in sight. -/
namespace Go.Proofs.YteceinojmdgmeaaGreat
set_option linter.unusedVariables false
set_option linter.unusedSimpArgs false

/-- The number that bits tell, the highest first. -/
def valB (l : List Nat) : Nat := l.foldl (fun n b => 2 * n + b) 0
/-- n bits of a number, the highest first. -/
def bitsN : Nat → Nat → List Nat
  | 0, _ => []
  | n + 1, v => bitsN n (v / 2) ++ [v % 2]
def isBits (l : List Nat) : Prop := ∀ b ∈ l, b < 2
theorem valB_snoc (l : List Nat) (b : Nat) : valB (l ++ [b]) = 2 * valB l + b := by simp [valB]
theorem valB_append (l r : List Nat) : valB (l ++ r) = valB l * 2 ^ r.length + valB r := by
  refine snocInd (P := fun r => valB (l ++ r) = valB l * 2 ^ r.length + valB r) (by simp [valB]) ?_ r
  intro r b ih
  rw [← List.append_assoc, valB_snoc, valB_snoc, ih, List.length_append, List.length_singleton, Nat.pow_succ]
  have : 2 * (valB l * 2 ^ r.length) = valB l * (2 ^ r.length * 2) := by rw [Nat.mul_comm 2, Nat.mul_assoc]
  omega
theorem isBits_append {l r : List Nat} (h : isBits (l ++ r)) : isBits l ∧ isBits r := ⟨fun b hb => h b (List.mem_append_left _ hb), fun b hb => h b (List.mem_append_right _ hb)⟩
theorem isBits_mk {l r : List Nat} (h : isBits l) (h' : isBits r) : isBits (l ++ r) := fun b hb => (List.mem_append.1 hb).elim (h b) (h' b)
theorem valB_lt (l : List Nat) : isBits l → valB l < 2 ^ l.length := by
  refine snocInd (P := fun l => isBits l → valB l < 2 ^ l.length) (by simp [valB]) ?_ l
  intro l b ih h
  obtain ⟨h1, h2⟩ := isBits_append h
  have := ih h1
  have := h2 b (by simp)
  rw [valB_snoc, List.length_append, List.length_singleton, Nat.pow_succ]
  omega
theorem bitsN_len (n v : Nat) : (bitsN n v).length = n := by
  induction n generalizing v with
  | zero => rfl
  | succ n ih => simp [bitsN, ih]
theorem bitsN_bits (n v : Nat) : isBits (bitsN n v) := by
  induction n generalizing v with
  | zero => intro b hb; simp [bitsN] at hb
  | succ n ih => exact isBits_mk (ih _) (by intro b hb; simp at hb; omega)
theorem valB_bitsN (n v : Nat) : v < 2 ^ n → valB (bitsN n v) = v := by
  induction n generalizing v with
  | zero => intro h; simp [bitsN, valB] at h ⊢; omega
  | succ n ih =>
    intro h
    rw [Nat.pow_succ] at h
    rw [bitsN, valB_snoc, ih (v / 2) (by omega)]
    omega

/-- n bytes out of bits. -/
def packN : Nat → List Nat → List Nat
  | 0, _ => []
  | n + 1, l => valB (l.take 8) :: packN n (l.drop 8)
theorem packN_len (n : Nat) (l : List Nat) : (packN n l).length = n := by
  induction n generalizing l with
  | zero => rfl
  | succ n ih => simp [packN, ih]
theorem packN_append (n : Nat) (l r : List Nat) (h : 8 * n ≤ l.length) : packN n (l ++ r) = packN n l := by
  induction n generalizing l with
  | zero => rfl
  | succ n ih =>
    rw [packN, packN, List.take_append_of_le_length (by omega), List.drop_append_of_le_length (by omega), ih _ (by simp; omega)]
theorem packN_add (n m : Nat) (l : List Nat) : packN (n + m) l = packN n l ++ packN m (l.drop (8 * n)) := by
  induction n generalizing l with
  | zero => simp [packN]
  | succ n ih =>
    rw [Nat.succ_add, packN, packN, ih, List.cons_append, List.drop_drop, show 8 + 8 * n = 8 * (n + 1) from by omega]
theorem packN_succ (n : Nat) (l : List Nat) : packN (n + 1) l = packN n l ++ [valB ((l.drop (8 * n)).take 8)] := by
  rw [packN_add]; rfl
/-- A byte in the midst of bits, out of their number. -/
theorem byte_mid (l : List Nat) (hb : isBits l) (j m : Nat) (h : l.length = 8 * (j + 1) + m) : valB l / 2 ^ m % 256 = valB ((l.drop (8 * j)).take 8) := by
  have e : l = l.take (8 * j) ++ ((l.drop (8 * j)).take 8 ++ l.drop (8 * (j + 1))) := by
    have e1 : (l.drop (8 * j)).drop 8 = l.drop (8 * (j + 1)) := by rw [List.drop_drop]; congr 1
    rw [← e1, List.take_append_drop, List.take_append_drop]
  have hm : (l.drop (8 * (j + 1))).length = m := by rw [List.length_drop]; omega
  have h8 : ((l.drop (8 * j)).take 8).length = 8 := by rw [List.length_take, List.length_drop]; omega
  have hb' := hb
  rw [e] at hb'
  obtain ⟨_, hb1⟩ := isBits_append hb'
  obtain ⟨hb2, hb3⟩ := isBits_append hb1
  have l1 := valB_lt _ hb2
  have l2 := valB_lt _ hb3
  rw [h8] at l1
  rw [hm] at l2
  have hv : valB l = (valB (l.take (8 * j)) * 256 + valB ((l.drop (8 * j)).take 8)) * 2 ^ m + valB (l.drop (8 * (j + 1))) := by
    conv => lhs; rw [e]
    rw [← List.append_assoc, valB_append, hm, valB_append, h8]
  rw [hv, Nat.mul_comm _ (2 ^ m), Nat.mul_add_div (Nat.two_pow_pos m), Nat.div_eq_of_lt l2]
  simp only [Nat.add_zero]
  omega
theorem low_bits (l : List Nat) (hb : isBits l) (j m : Nat) (h : l.length = j + m) : valB l % 2 ^ m = valB (l.drop j) := by
  have hm : (l.drop j).length = m := by rw [List.length_drop]; omega
  have hb' := hb
  rw [← List.take_append_drop j l] at hb'
  have l2 := valB_lt _ (isBits_append hb').2
  rw [hm] at l2
  conv => lhs; rw [← List.take_append_drop j l]
  rw [valB_append, hm, Nat.mul_comm, Nat.mul_add_mod, Nat.mod_eq_of_lt l2]

/-- A byte's bits, and a text's. -/
def byteBits (c : UInt8) : List Nat := bitsN (lenOf c.toNat) (codeOf c.toNat)
def textBits : List UInt8 → List Nat
  | [] => []
  | c :: l => byteBits c ++ textBits l
theorem textBits_append (a b : List UInt8) : textBits (a ++ b) = textBits a ++ textBits b := by
  induction a with
  | nil => rfl
  | cons c a ih => simp [textBits, ih]
theorem textBits_snoc (l : List UInt8) (c : UInt8) : textBits (l ++ [c]) = textBits l ++ byteBits c := by simp [textBits_append, textBits]
theorem byteBits_len (c : UInt8) : (byteBits c).length = lenOf c.toNat := bitsN_len _ _
theorem textBits_len (l : List UInt8) : (textBits l).length = bitsLen l := by
  induction l with
  | nil => rfl
  | cons c l ih => simp [textBits, bitsLen, ih, byteBits_len]
theorem textBits_bits (l : List UInt8) : isBits (textBits l) := by
  induction l with
  | nil => intro b hb; simp [textBits] at hb
  | cons c l ih => exact isBits_mk (bitsN_bits _ _) ih
theorem code_lt (c : Nat) (h : c < 256) : codeOf c < 2 ^ lenOf c := by
  have hz : (List.zip codeL lenL)[c]? = some (codeOf c, lenOf c) := by
    unfold codeOf lenOf
    rw [List.getElem?_zip_eq_some]
    rw [List.getD_eq_getElem?_getD, List.getD_eq_getElem?_getD, List.getElem?_eq_getElem (by rw [codeL_len]; exact h), List.getElem?_eq_getElem (by rw [lenL_len]; exact h)]
    exact ⟨rfl, rfl⟩
  have := List.all_eq_true.1 code_all _ (List.mem_of_getElem? hz)
  simpa using this
theorem byteBits_val (c : UInt8) : valB (byteBits c) = codeOf c.toNat := valB_bitsN _ _ (code_lt _ c.toNat_lt)

/-- Ones behind bits, up to a whole byte. -/
def padL (b : List Nat) : List Nat := b ++ List.replicate ((8 - b.length % 8) % 8) 1
/-- A text's bits as bytes. -/
def encL (l : List UInt8) : List Nat := packN (sizeL l) (padL (textBits l))
theorem padL_len (b : List Nat) : (padL b).length = 8 * ((b.length + 7) / 8) := by
  unfold padL
  rw [List.length_append, List.length_replicate]
  omega
theorem ones_bits (n : Nat) : isBits (List.replicate n 1) := fun b hb => by have := (List.mem_replicate.1 hb).2; omega
theorem valB_ones (n : Nat) : valB (List.replicate n 1) = 2 ^ n - 1 := by
  induction n with
  | zero => rfl
  | succ n ih =>
    rw [List.replicate_succ', valB_snoc, ih, Nat.pow_succ]
    have := Nat.two_pow_pos n
    omega
/-- The bytes, the full ones first. -/
theorem encL_full (l : List UInt8) (h : bitsLen l % 8 = 0) : encL l = packN (bitsLen l / 8) (textBits l) := by
  unfold encL sizeL padL
  rw [textBits_len, h]
  have e : (bitsLen l + 7) / 8 = bitsLen l / 8 := by omega
  rw [e]
  simp
theorem encL_part (l : List UInt8) (h : 0 < bitsLen l % 8) :
    encL l = packN (bitsLen l / 8) (textBits l) ++ [valB ((textBits l).drop (8 * (bitsLen l / 8))) * 2 ^ (8 - bitsLen l % 8) + (2 ^ (8 - bitsLen l % 8) - 1)] := by
  have hlen := textBits_len l
  have e : (bitsLen l + 7) / 8 = bitsLen l / 8 + 1 := by omega
  have e2 : (8 - bitsLen l % 8) % 8 = 8 - bitsLen l % 8 := by omega
  have hpad : padL (textBits l) = textBits l ++ List.replicate (8 - bitsLen l % 8) 1 := by unfold padL; rw [hlen, e2]
  unfold encL sizeL
  rw [e, packN_succ, hpad, packN_append _ _ _ (by omega)]
  congr 2
  rw [List.drop_append_of_le_length (by omega), List.take_of_length_le (by rw [List.length_append, List.length_drop, List.length_replicate]; omega), valB_append, List.length_replicate, valB_ones]
end Go.Proofs.YteceinojmdgmeaaGreat

