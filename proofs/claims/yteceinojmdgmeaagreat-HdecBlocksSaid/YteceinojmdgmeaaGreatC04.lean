/- HuffO · HuffN · HuffT · HuffU: joined by a program, for a claim has at most 60 files. -/
import Derived.Test.YteceinojmdgmeaaGreatC03
import Derived.Laws.BitsAllLaws
import Derived.IntWalk
import Derived.Maps.AppendAt
import Derived.BigQuiet
import Derived.Deep.RegionLaw
import Derived.Deep.AppendLies
import Derived.Deep.Onto
/- Encode's steps on numbers: what is held, what is done. No walk in sight. -/
namespace Go.Proofs.YteceinojmdgmeaaGreat
open Go.RowKit
set_option linter.unusedVariables false
set_option linter.unusedSimpArgs false

/-- What waits of bits: their number; the bytes that are done. -/
def heldOf (B : List Nat) : Nat := valB (B.drop (8 * (B.length / 8)))
def doneOf (B : List Nat) : List Nat := packN (B.length / 8) B
theorem held_lt (B : List Nat) (hb : isBits B) : heldOf B < 2 ^ (B.length % 8) := by
  have h : isBits (B.drop (8 * (B.length / 8))) := fun b m => hb b (List.mem_of_mem_drop m)
  have := valB_lt _ h
  rw [List.length_drop] at this
  unfold heldOf
  have e : B.length - 8 * (B.length / 8) = B.length % 8 := by omega
  rwa [e] at this
theorem pow_le_of (a b : Nat) (h : a ≤ b) : 2 ^ a ≤ 2 ^ b := Nat.pow_le_pow_right (by decide) h
/-- What waits with a code behind. -/
def heldNext (B : List Nat) (c : UInt8) : Nat := valB ((B ++ byteBits c).drop (8 * (B.length / 8)))
theorem heldNext_eq (B : List Nat) (c : UInt8) : heldNext B c = heldOf B * 2 ^ lenOf c.toNat + codeOf c.toNat := by
  unfold heldNext heldOf
  rw [List.drop_append_of_le_length (by omega), valB_append, byteBits_len, byteBits_val]
theorem next_bits (B : List Nat) (c : UInt8) (hb : isBits B) : isBits ((B ++ byteBits c).drop (8 * (B.length / 8))) :=
  fun b m => isBits_mk hb (bitsN_bits _ _) b (List.mem_of_mem_drop m)
theorem next_len (B : List Nat) (c : UInt8) : ((B ++ byteBits c).drop (8 * (B.length / 8))).length = B.length % 8 + lenOf c.toNat := by
  rw [List.length_drop, List.length_append, byteBits_len]
  omega
theorem heldNext_lt (B : List Nat) (c : UInt8) (hb : isBits B) : heldNext B c < 2 ^ (B.length % 8 + lenOf c.toNat) := by
  have := valB_lt _ (next_bits B c hb)
  rwa [next_len] at this
theorem heldNext_small (B : List Nat) (c : UInt8) (hb : isBits B) : heldNext B c < 274877906944 := by
  have h1 := heldNext_lt B c hb
  have h2 := (len_range c.toNat c.toNat_lt).2
  have := pow_le_of (B.length % 8 + lenOf c.toNat) 38 (by omega)
  omega
theorem shl_fact (B : List Nat) (c : UInt8) (hb : isBits B) : IntKind.u64.wrap ((heldOf B : Int) * 2 ^ lenOf c.toNat) = ((heldOf B * 2 ^ lenOf c.toNat : Nat) : Int) := by
  have h1 := heldNext_small B c hb
  rw [heldNext_eq] at h1
  have e : ((heldOf B : Int) * 2 ^ lenOf c.toNat) = ((heldOf B * 2 ^ lenOf c.toNat : Nat) : Int) := by simp
  rw [e]
  generalize heldOf B * 2 ^ lenOf c.toNat = x at h1 ⊢
  exact IntWalk.u64_in _ (by omega)
theorem or_fact (B : List Nat) (c : UInt8) (hb : isBits B) : bits BinOp.or IntKind.u64 ((heldOf B * 2 ^ lenOf c.toNat : Nat) : Int) (codeOf c.toNat : Nat) = (heldNext B c : Nat) := by
  have h1 := heldNext_small B c hb
  rw [heldNext_eq] at h1
  rw [heldNext_eq, u64_or_nat _ _ (by omega) (by omega), Nat.mul_comm, Nat.two_pow_add_eq_or_of_lt (code_lt _ c.toNat_lt)]
theorem shr_fact (B : List Nat) (c : UInt8) (hb : isBits B) (j m : Nat) (h : m + 8 * (j + 1) = B.length % 8 + lenOf c.toNat) :
    IntKind.u8.wrap ((heldNext B c : Int) / 2 ^ m) = ((valB (((B ++ byteBits c).drop (8 * (B.length / 8 + j))).take 8) : Nat) : Int) := by
  have hl := next_len B c
  have hm := byte_mid _ (next_bits B c hb) j m (by omega)
  rw [List.drop_drop, show 8 * (B.length / 8) + 8 * j = 8 * (B.length / 8 + j) from by omega] at hm
  rw [← hm]
  unfold heldNext
  generalize valB ((B ++ byteBits c).drop (8 * (B.length / 8))) = x
  have e : ((x : Int) / 2 ^ m) = ((x / 2 ^ m : Nat) : Int) := by simp
  rw [e]
  generalize x / 2 ^ m = y
  simp [IntKind.wrap, IntKind.signed, IntKind.bits]
theorem and_fact (B : List Nat) (c : UInt8) (hb : isBits B) (j m : Nat) (h : m + 8 * j = B.length % 8 + lenOf c.toNat) (h8 : m < 8) :
    bits BinOp.and IntKind.u64 (heldNext B c : Nat) ((2 ^ m - 1 : Nat) : Int) = ((heldOf (B ++ byteBits c) : Nat) : Int) := by
  have hs := heldNext_small B c hb
  have hl := next_len B c
  have hm := low_bits _ (next_bits B c hb) (8 * j) m (by omega)
  have hp := pow_le_of m 8 (by omega)
  rw [u64_and_nat _ _ (by omega) (by omega), Nat.and_two_pow_sub_one_eq_mod]
  unfold heldNext
  rw [hm, List.drop_drop]
  unfold heldOf
  have e : 8 * (B.length / 8) + 8 * j = 8 * ((B ++ byteBits c).length / 8) := by rw [List.length_append, byteBits_len]; omega
  rw [e]
theorem done_step (B2 : List Nat) (n : Nat) : packN (n + 1) B2 = packN n B2 ++ [valB ((B2.drop (8 * n)).take 8)] := packN_succ n B2
theorem done_next (B : List Nat) (c : UInt8) : packN (B.length / 8 + 0) (B ++ byteBits c) = doneOf B := by
  rw [Nat.add_zero, packN_append _ _ _ (by omega)]; rfl
theorem done_end (B : List Nat) (c : UInt8) (j m : Nat) (h : m + 8 * j = B.length % 8 + lenOf c.toNat) (h8 : m < 8) :
    packN (B.length / 8 + j) (B ++ byteBits c) = doneOf (B ++ byteBits c) ∧ m = (B ++ byteBits c).length % 8 := by
  unfold doneOf
  rw [List.length_append, byteBits_len]
  constructor
  · congr 1; omega
  · omega
theorem last_fact (B : List Nat) (hb : isBits B) (h : 0 < B.length % 8) :
    IntKind.u64.wrap ((heldOf B : Int) * 2 ^ (8 - B.length % 8)) = ((heldOf B * 2 ^ (8 - B.length % 8) : Nat) : Int) ∧ heldOf B * 2 ^ (8 - B.length % 8) < 256
    ∧ bits BinOp.or IntKind.u8 ((heldOf B * 2 ^ (8 - B.length % 8) : Nat) : Int) ((2 ^ (8 - B.length % 8) - 1 : Nat) : Int) = ((heldOf B * 2 ^ (8 - B.length % 8) + (2 ^ (8 - B.length % 8) - 1) : Nat) : Int) := by
  have h1 := held_lt B hb
  have h2 : B.length % 8 + (8 - B.length % 8) = 8 := by omega
  generalize 8 - B.length % 8 = m at h2 ⊢
  have h3 : heldOf B * 2 ^ m < 256 := by
    have : heldOf B * 2 ^ m < 2 ^ (B.length % 8) * 2 ^ m := (Nat.mul_lt_mul_right (Nat.two_pow_pos m)).2 h1
    rwa [← Nat.pow_add, h2] at this
  have hp := pow_le_of m 7 (by omega)
  have hp1 := Nat.two_pow_pos m
  refine ⟨?_, h3, ?_⟩
  · have e : ((heldOf B : Int) * 2 ^ m) = ((heldOf B * 2 ^ m : Nat) : Int) := by simp
    rw [e]
    generalize heldOf B * 2 ^ m = x at h3 ⊢
    exact IntWalk.u64_in _ (by omega)
  · rw [u8_or_nat _ _ (by omega) (by omega), Nat.mul_comm, Nat.two_pow_add_eq_or_of_lt (by omega)]
theorem enc_end (l : List UInt8) (h : (textBits l).length % 8 = 0) : encL l = doneOf (textBits l) := by
  rw [textBits_len] at h
  unfold doneOf
  rw [encL_full l h, textBits_len]
theorem enc_last (l : List UInt8) (h : 0 < (textBits l).length % 8) : encL l = doneOf (textBits l) ++ [heldOf (textBits l) * 2 ^ (8 - (textBits l).length % 8) + (2 ^ (8 - (textBits l).length % 8) - 1)] := by
  rw [textBits_len] at h
  unfold doneOf heldOf
  rw [encL_part l h, textBits_len]
end Go.Proofs.YteceinojmdgmeaaGreat


/- What huff.Encode returns: a text's bits as bytes, in new memory. -/
namespace Go.Proofs.YteceinojmdgmeaaGreat
open Go.RowKit
set_option linter.unusedVariables false
set_option linter.unusedSimpArgs false

theorem owns_below {w w' : World} {base : Nat} {e : TypeId} {size : Nat} {v : Value} {n : Nat} {xs : List Value} (h : w.ownsRow base e size v n xs) (hb : Below w.heap.size w w') : w'.ownsRow base e size v n xs := by
  have hg : w.grownBy w' none := ⟨hb.os, hb.tape, hb.output, hb.size, fun i hi _ => hb.block i hi⟩
  refine h.kept hg ?_
  cases hv : v.ownBlock with
  | none => exact .inl rfl
  | some k => exact .inr (by simp)
/-- A slice of bytes in memory of one's own: it holds these numbers. -/
def OwnB (w : World) (base : Nat) (v : Value) (l : List Nat) : Prop := w.ownsRow base 5 1 v l.length (l.map fun n : Nat => Value.int .u8 (n : Int))
def EncPost (s : ByteArray) (w : World) (e : Ending) (w' : World) : Prop := ∃ v, e = .returned v ∧ OwnB w' w.heap.size v (encL s.data.toList) ∧ Below w.heap.size w w'

structure HasTabs (g gc h : Nat) (s : ByteArray) (W : World) : Prop where
  lens : W.heap[g]? = some (.cells (rowK .u8 lenL) 150 (0, 0))
  codes : W.heap[gc]? = some (.cells (rowK .u32 codeL) 152 (0, 0))
  text : HasText h s W
  ltg : g < W.heap.size
  ltgc : gc < W.heap.size
  lth : h < W.heap.size
theorem HasTabs.keep {g gc h : Nat} {s : ByteArray} {W W' : World} (t : HasTabs g gc h s W) (hb : Below W.heap.size W W') : HasTabs g gc h s W' :=
  ⟨(hb.block g t.ltg).trans t.lens, (hb.block gc t.ltgc).trans t.codes, ⟨fun k hk => (hb.cell (p := ⟨h, k, none⟩) t.lth).trans (t.text.cell k hk)⟩,
    Nat.lt_of_lt_of_le t.ltg hb.size, Nat.lt_of_lt_of_le t.ltgc hb.size, Nat.lt_of_lt_of_le t.lth hb.size⟩

theorem HasTabs.lenCell {g gc h : Nat} {s : ByteArray} {W : World} (t : HasTabs g gc h s W) (c : Nat) (hc : c < 256) : W.cell? ⟨g, c, none⟩ = some (.int .u8 (lenOf c : Nat)) := cell_row t.lens c (by rw [lenL_len]; exact hc)
theorem HasTabs.codeCell {g gc h : Nat} {s : ByteArray} {W : World} (t : HasTabs g gc h s W) (c : Nat) (hc : c < 256) : W.cell? ⟨gc, c, none⟩ = some (.int .u32 (codeOf c : Nat)) := cell_row t.codes c (by rw [codeL_len]; exact hc)
theorem cells_new (w : World) (cs : List Value) (t : TypeId) : ∀ j u, cs[j]? = some u → (w.alloc (.cells cs.toArray t)).cell? ((⟨w.heap.size, 0, none⟩ : Addr).add j) = some u := by
  intro j u hj
  have ha : ((⟨w.heap.size, 0, none⟩ : Addr).add j) = ⟨w.heap.size, j, none⟩ := by unfold Addr.add; split <;> simp_all
  rw [ha, cell_of_row _ _ _ _ _ _ (heap_alloc_new w _)]
  simpa using hj
theorem info_parts {t : TypeId} {z : Option Value} {a b : Nat} (h : (Tryz.prog.info? t).map (fun i => (i.zero, i.size, i.bytes)) = some (z, a, b)) : ∃ i, Tryz.prog.info? t = some i ∧ i.zero = z ∧ i.size = a ∧ i.bytes = b := by
  cases hi : Tryz.prog.info? t with
  | none => rw [hi] at h; simp at h
  | some i => rw [hi] at h; simp at h; exact ⟨i, rfl, h.1, h.2.1, h.2.2⟩
theorem code_small (c : UInt8) : codeOf c.toNat < 1073741824 := by
  have h1 := code_lt c.toNat c.toNat_lt
  have h2 := (len_range c.toNat c.toNat_lt).2
  have := pow_le_of (lenOf c.toNat) 30 h2
  omega
theorem mask_fact (M : Nat) (h : M < 8) : IntKind.u64.wrap (IntKind.u64.wrap (2 ^ M) - 1) = ((2 ^ M - 1 : Nat) : Int) := by
  have : ∀ M : Fin 8, IntKind.u64.wrap (IntKind.u64.wrap (2 ^ M.val) - 1) = ((2 ^ M.val - 1 : Nat) : Int) := by decide
  exact this ⟨M, h⟩
theorem mask8_fact (M : Nat) (h : M < 8) : IntKind.u8.wrap (IntKind.u8.wrap (2 ^ M) - 1) = ((2 ^ M - 1 : Nat) : Int) := by
  have : ∀ M : Fin 8, IntKind.u8.wrap (IntKind.u8.wrap (2 ^ M.val) - 1) = ((2 ^ M.val - 1 : Nat) : Int) := by decide
  exact this ⟨M, h⟩
def byteV (n : Nat) : Value := .int .u8 (n : Int)
theorem u8_info : (Tryz.prog.info? 5).map (fun i => (i.zero, i.size, i.bytes)) = some (some (.int .u8 0), 1, 1) := by kernel_rfl
theorem ownB_snoc {w : World} {base : Nat} {v : Value} {l : List Nat} {b : Nat} (h : w.ownsRow base 5 1 v (l.length + 1) (l.map (fun n : Nat => Value.int .u8 (n : Int)) ++ [Value.int .u8 (b : Int)])) : OwnB w base v (l ++ [b]) := by
  unfold OwnB
  rw [List.length_append, List.map_append]
  exact h
theorem ownB_to {w : World} {base : Nat} {v : Value} {l l' : List Nat} (h : OwnB w base v l) (e : l = l') : OwnB w base v l' := e ▸ h
def bitsTo (s : ByteArray) (k : Nat) : List Nat := textBits (s.data.toList.take k)
theorem bitsTo_zero (s : ByteArray) : bitsTo s 0 = [] := by simp [bitsTo, textBits]
theorem bitsTo_bits (s : ByteArray) (k : Nat) : isBits (bitsTo s k) := textBits_bits _
theorem bitsTo_succ (s : ByteArray) (k : Nat) (h : k < s.size) : bitsTo s (k + 1) = bitsTo s k ++ byteBits s[k] := by
  unfold bitsTo
  rw [take_byte s k h, textBits_snoc]
theorem bitsTo_len (s : ByteArray) (k : Nat) (hk : k ≤ s.size) (hs : s.size ≤ 1000000) : (bitsTo s k).length ≤ 30000000 := by
  unfold bitsTo
  rw [textBits_len]
  have h1 := bitsLen_le (s.data.toList.take k)
  have h3 : (s.data.toList.take k).length ≤ s.data.toList.length := by simp only [List.length_take]; omega
  have h4 := sz s
  omega
theorem bitsTo_all (s : ByteArray) : bitsTo s s.size = textBits s.data.toList := by unfold bitsTo; rw [take_all]

end Go.Proofs.YteceinojmdgmeaaGreat


/- The tree that the codes make, as a row of numbers, two for each place. No program in sight. -/
namespace Go.Proofs.YteceinojmdgmeaaGreat
set_option linter.unusedVariables false
set_option linter.unusedSimpArgs false

/-- One step down the tree, which grows where there is no place. -/
def stepL (s : List Int × Nat) (b : Nat) : List Int × Nat :=
  if s.1.getD (2 * s.2 + b) 0 = 0 then ((s.1 ++ [0, 0]).set (2 * s.2 + b) (s.1.length / 2 : Nat), s.1.length / 2) else (s.1, (s.1.getD (2 * s.2 + b) 0).toNat)
/-- What a step wants. -/
def okS (s : List Int × Nat) (b : Nat) : Bool := decide (2 * s.2 + 1 < s.1.length) && decide (s.1.length ≤ 1000) && decide (s.1.length % 2 = 0) && decide (0 ≤ s.1.getD (2 * s.2 + b) 0)
def runOk (s : List Int × Nat) : List Nat → Bool
  | [] => true
  | b :: l => okS s b && runOk (stepL s b) l
theorem runOk_at : ∀ (l : List Nat) (s : List Int × Nat), runOk s l = true → ∀ k, (h : k < l.length) → okS ((l.take k).foldl stepL s) l[k] = true
  | [], _, _, k, h => absurd h (Nat.not_lt_zero k)
  | b :: l, s, hr, 0, h => by simp only [runOk, Bool.and_eq_true] at hr; exact hr.1
  | b :: l, s, hr, k + 1, h => by
    simp only [runOk, Bool.and_eq_true] at hr
    exact runOk_at l (stepL s b) hr.2 k (by simpa using h)
def codeBits (c : Nat) : List Nat := bitsN (lenOf c) (codeOf c)
/-- A byte's code put into the tree. -/
def plantL (t : List Int) (c : Nat) : List Int :=
  let s := ((codeBits c).take (lenOf c - 1)).foldl stepL (t, 0)
  s.1.set (2 * s.2 + codeOf c % 2) (-1 - c)
/-- The tree behind k bytes. -/
def tSt : Nat → List Int
  | 0 => [0, 0]
  | k + 1 => plantL (tSt k) k
def tOk : Nat → Nat → List Int → List Int → Bool
  | 0, _, t, goal => decide (t = goal)
  | n + 1, k, t, goal => runOk (t, 0) (codeBits k) && tOk n (k + 1) (plantL t k) goal
theorem tOk_run : ∀ (n k : Nat) (goal : List Int), tOk n k (tSt k) goal = true → ∀ j, k ≤ j → j < k + n → runOk (tSt j, 0) (codeBits j) = true
  | 0, k, _, _, j, h1, h2 => by omega
  | n + 1, k, goal, h, j, h1, h2 => by
    simp only [tOk, Bool.and_eq_true] at h
    by_cases hj : j = k
    · subst hj; exact h.1
    · exact tOk_run n (k + 1) goal h.2 j (by omega) (by omega)
theorem tOk_end : ∀ (n k : Nat) (goal : List Int), tOk n k (tSt k) goal = true → tSt (k + n) = goal
  | 0, k, goal, h => by simpa [tOk] using h
  | n + 1, k, goal, h => by
    simp only [tOk, Bool.and_eq_true] at h
    have := tOk_end n (k + 1) goal h.2
    rwa [show k + 1 + n = k + (n + 1) from by omega] at this
/-- The whole tree. -/
def treeL : List Int := [66, 1, 93, 2, 104, 3, 119, 4, 144, 5, 75, 6, 123, 7, 71, 8, 77, 9, 73, 10, 11, 13, 12, 102, -1, -37, 127, 14, 128, 15, 98, 16, -124, 17, 124, 18, 150, 19, 20, 25, 199, 21, 216, 22, 23, 162, 24, 161, -2, -136, 167, 26, 41, 27, 191, 28, 211, 29, 229, 30, 31, 45, 32, 38, 33, 35, -255, 34, -3, -4, 36, 37, -5, -6, -7, -8, 39, 52, 40, 51, -9, -12, 208, 42, 43, 165, -240, 44, -10, -143, 55, 46, 63, 47, 147, 48, -250, 49, 50, 59, -11, -14, -13, -15, 53, 54, -16, -17, -18, -19, 56, 60, 57, 58, -20, -21, -22, -24, -23, 0, 61, 62, -25, -26, -27, -28, 64, 65, -29, -30, -31, -32, 85, 67, 68, 82, 143, 69, 70, 81, -33, -38, 72, 79, -34, -35, -125, 74, -36, -63, 76, 80, -39, -43, -64, 78, -40, -44, -41, -42, -45, -60, -46, -47, 83, 90, 84, 89, -48, -52, 86, 130, 87, 88, -49, -50, -51, -98, -53, -54, 91, 92, -55, -56, -57, -58, 99, 94, 138, 95, 142, 96, 97, 103, -59, -67, -61, -97, 100, 132, 101, 129, -62, -66, -65, -92, -68, -69, 105, 112, 106, 109, 107, 108, -70, -71, -72, -73, 110, 111, -74, -75, -76, -77, 113, 116, 114, 115, -78, -79, -80, -81, 117, 118, -82, -83, -84, -85, 120, 136, 121, 122, -86, -87, -88, -90, -89, -91, 125, 155, 126, 148, -93, -196, -94, -127, -95, -126, -96, -99, 131, 135, -100, -102, 133, 134, -101, -103, -104, -105, -106, -112, 137, 141, -107, -108, 139, 140, -109, -110, -111, -113, -114, -119, -115, -118, -116, -117, 145, 146, -120, -121, -122, -123, -128, -221, -209, 149, -129, -131, 196, 151, 152, 178, 153, 158, -231, 154, -130, -133, 156, 175, 157, 204, -132, -163, 159, 160, -134, -135, -137, -147, -138, -139, 163, 164, -140, -141, -142, -144, 166, 171, -145, -146, 168, 185, 169, 173, 170, 172, -148, -150, -149, -160, -151, -152, 174, 181, -153, -156, 241, 176, 177, 188, -154, -162, 179, 183, 180, 182, -155, -157, -158, -159, -161, -164, 184, 190, -165, -170, 186, 194, 187, 189, -166, -167, -168, -173, -169, -175, -171, -174, 192, 218, 193, 234, -172, -207, 195, 203, -176, -181, 197, 235, 198, 202, -177, -178, 200, 206, 201, 205, -179, -182, -180, -210, -183, -184, -185, -195, -186, -187, 207, 210, -188, -190, 209, 215, -189, -192, -191, -197, 212, 224, 213, 222, 214, 221, -193, -194, -198, -232, 217, 243, -199, -229, 245, 219, 220, 244, -200, -208, -201, -202, 223, 228, -203, -206, 237, 225, 248, 226, -256, 227, -204, -205, -211, -214, 230, 249, 231, 239, 232, 233, -212, -213, -215, -222, -216, -226, 236, 242, -217, -218, 238, 246, -219, -220, 240, 247, -223, -224, -225, -227, -228, -230, -233, -234, -235, -236, -237, -238, -239, -241, -242, -245, -243, -244, 250, 253, 251, 252, -246, -247, -248, -249, 254, 255, -251, -252, -253, -254]
set_option maxRecDepth 100000 in
theorem tree_ok : tOk 256 0 (tSt 0) treeL = true := by decide +kernel
theorem plant_ok (c : Nat) (h : c < 256) : runOk (tSt c, 0) (codeBits c) = true := tOk_run 256 0 treeL tree_ok c (Nat.zero_le _) (by omega)
theorem tSt_end : tSt 256 = treeL := tOk_end 256 0 treeL tree_ok
end Go.Proofs.YteceinojmdgmeaaGreat


/- What (*huff.Coder).plant does: a byte's code put into the coder's tree. -/
namespace Go.Proofs.YteceinojmdgmeaaGreat
open Go.RowKit
set_option linter.unusedVariables false
set_option linter.unusedSimpArgs false

/-- Below B nothing has turned but the block p. -/
structure Near (p B : Nat) (w w' : World) : Prop where
  os : w'.os = w.os
  tape : w'.tape = w.tape
  output : w'.output = w.output
  size : w.heap.size ≤ w'.heap.size
  block : ∀ k, k < B → k ≠ p → w'.heap[k]? = w.heap[k]?
theorem Near.refl (p B : Nat) (w : World) : Near p B w w := ⟨rfl, rfl, rfl, Nat.le_refl _, fun _ _ _ => rfl⟩
theorem Near.trans {p B : Nat} {a b c : World} (h : Near p B a b) (k : Near p B b c) : Near p B a c :=
  ⟨k.os.trans h.os, k.tape.trans h.tape, k.output.trans h.output, Nat.le_trans h.size k.size, fun i hi hp => (k.block i hi hp).trans (h.block i hi hp)⟩
theorem Near.mono {p B B' : Nat} {w w' : World} (h : Near p B w w') (hB : B' ≤ B) : Near p B' w w' := ⟨h.os, h.tape, h.output, h.size, fun k hk hp => h.block k (Nat.lt_of_lt_of_le hk hB) hp⟩
theorem Near.drew {p B : Nat} {a w : World} (h : Near p B a w) : Near p B a w.drew := ⟨h.os, h.tape, h.output, h.size, h.block⟩
theorem Near.of {p B : Nat} {w w' : World} (h : Below B w w') : Near p B w w' := ⟨h.os, h.tape, h.output, h.size, fun k hk _ => h.block k hk⟩
theorem Near.below {p B : Nat} {w w' : World} (h : Near p B w w') (hp : p < B) : Below p w w' := ⟨h.os, h.tape, h.output, h.size, fun k hk => h.block k (by omega) (by omega)⟩
theorem Near.alloc {p B : Nat} {a w : World} (h : Near p B a w) (hB : B ≤ w.heap.size) (o : Obj) : Near p B a (w.alloc o) :=
  h.trans (Near.of ((Below.refl B w).alloc hB o))
theorem Near.setCell {p B : Nat} {a w : World} (h : Near p B a w) {q : Addr} (hq : q.block = p ∨ B ≤ q.block) (u : Value) : Near p B a (w.setCell q u) :=
  h.trans ⟨rfl, rfl, rfl, by simp [World.setCell], fun k hk hp => Below.heap_setCell _ _ _ _ (by omega)⟩
theorem Near.grown {p B : Nat} {a w w' : World} {row : Option Nat} (h : Near p B a w) (hg : w.grownBy w' row) (hB : B ≤ w.heap.size) (hr : ∀ k, row = some k → B ≤ k) : Near p B a w' :=
  h.trans (Near.of ((Below.refl B w).grown hg hB hr))
/-- A coder's block: whether its tree is made, its lock, the tree, how often it was made. -/
def CRow (p : Nat) (W : World) (d m : Int) (tv : Value) (bt : Int) : Prop := W.heap[p]? = some (.cells #[.int .u32 d, .int .i32 m, .int .u32 0, tv, .int .i64 bt] 139 (0, 0))
theorem CRow.cell {p : Nat} {W : World} {d m : Int} {tv : Value} {bt : Int} (h : CRow p W d m tv bt) :
    W.cell? ⟨p, 0, none⟩ = some (.int .u32 d) ∧ W.cell? ⟨p, 1, none⟩ = some (.int .i32 m) ∧ W.cell? ⟨p, 2, none⟩ = some (.int .u32 0) ∧ W.cell? ⟨p, 3, none⟩ = some tv ∧ W.cell? ⟨p, 4, none⟩ = some (.int .i64 bt) := by
  refine ⟨?_, ?_, ?_, ?_, ?_⟩ <;> (rw [cell_of_row _ _ _ _ _ _ h]; rfl)
theorem CRow.frozen {p : Nat} {W : World} {d m : Int} {tv : Value} {bt : Int} (h : CRow p W d m tv bt) (i : Nat) : W.frozen? ⟨p, i, none⟩ = false := frozen_row h i
theorem CRow.step {p : Nat} {W W' : World} {d m : Int} {tv : Value} {bt : Int} (h : CRow p W d m tv bt) (e : W'.heap[p]? = W.heap[p]?) : CRow p W' d m tv bt := e.trans h
theorem CRow.lt {p : Nat} {W : World} {d m : Int} {tv : Value} {bt : Int} (h : CRow p W d m tv bt) : p < W.heap.size := by
  by_cases hp : p < W.heap.size
  · exact hp
  · unfold CRow at h; rw [Array.getElem?_eq_none (by omega)] at h; simp at h
theorem CRow.setTree {p : Nat} {W : World} {d m : Int} {tv : Value} {bt : Int} (h : CRow p W d m tv bt) (tv' : Value) : CRow p (W.setCell ⟨p, 3, none⟩ tv') d m tv' bt := heap_setCell_same W p 3 _ _ tv' h
theorem CRow.other {p : Nat} {W : World} {d m : Int} {tv : Value} {bt : Int} (h : CRow p W d m tv bt) (g i : Nat) (hg : p ≠ g) (u : Value) : CRow p (W.setCell ⟨g, i, none⟩ u) d m tv bt := (Below.heap_setCell W ⟨g, i, none⟩ u p hg).trans h
/-- A tree in memory of one's own. -/
def TreeV (W : World) (B : Nat) (tv : Value) (t : List Int) : Prop := W.ownsRow B 142 2 tv (t.length / 2) (t.map (Value.int .i64))
theorem node_info : (Tryz.prog.info? 142).map (fun i => (i.zero, i.size, i.bytes)) = some (some (.agg #[.int .i64 0, .int .i64 0]), 2, 16) := by kernel_rfl
theorem coder_size : (Tryz.prog.info? 139).map (fun i => (i.zero, i.size)) = some (some (.agg #[.int .u32 0, .int .i32 0, .int .u32 0, .slice none 0 0, .int .i64 0]), 5) := by kernel_rfl
end Go.Proofs.YteceinojmdgmeaaGreat

