/- HuffB · HuffS: joined by a program, for a claim has at most 60 files. -/
import Derived.Test.YteceinojmdgmeaaC00
import Derived.Test.YteceinojmdgmeaaC01
/- The bits of a text by the codes, and what they come to as bytes. No program in sight. -/
namespace Go.Proofs.Yteceinojmdgmeaa
set_option linter.unusedVariables false
set_option linter.unusedSimpArgs false

/-- How many bits a text's codes have. -/
def bitsLen : List UInt8 → Nat
  | [] => 0
  | c :: l => lenOf c.toNat + bitsLen l
theorem bitsLen_append (a b : List UInt8) : bitsLen (a ++ b) = bitsLen a + bitsLen b := by
  induction a with
  | nil => simp [bitsLen]
  | cons c a ih => simp only [List.cons_append, bitsLen, ih]; omega
theorem bitsLen_snoc (l : List UInt8) (c : UInt8) : bitsLen (l ++ [c]) = bitsLen l + lenOf c.toNat := by simp [bitsLen_append, bitsLen]
theorem bitsLen_le (l : List UInt8) : bitsLen l ≤ 30 * l.length := by
  induction l with
  | nil => simp [bitsLen]
  | cons c l ih =>
    have := (len_range c.toNat c.toNat_lt).2
    simp only [bitsLen, List.length_cons]
    omega
/-- How many bytes a text's bits are. -/
def sizeL (l : List UInt8) : Nat := (bitsLen l + 7) / 8
end Go.Proofs.Yteceinojmdgmeaa


/- What huff.Size and footmanref02.Size return: how many bytes a text's bits are. -/
namespace Go.Proofs.Yteceinojmdgmeaa
open Go.RowKit
set_option linter.unusedVariables false
set_option linter.unusedSimpArgs false

theorem tl (s : ByteArray) : s.toList = s.data.toList := ByteArray.toList_eq s
theorem sz (s : ByteArray) : s.size = s.data.toList.length := by simp only [Array.length_toList]; rfl
theorem byte_at (s : ByteArray) (k : Nat) (h : k < s.size) : s.data.toList[k]'(by rw [← sz]; exact h) = s[k] := by rfl
theorem take_byte (s : ByteArray) (k : Nat) (h : k < s.size) : s.data.toList.take (k + 1) = s.data.toList.take k ++ [s[k]] := by
  rw [take_snoc _ _ (by rw [← sz]; exact h), byte_at s k h]
theorem take_all (s : ByteArray) : s.data.toList.take s.size = s.data.toList := List.take_of_length_le (by rw [← sz]; exact Nat.le_refl _)
theorem byte_lt (c : UInt8) : c.toNat < 256 := c.toNat_lt
theorem retI {a b : Int} (h : a = b) : Ending.returned (.int .i64 a) = .returned (.int .i64 b) := by rw [h]
theorem bits_step (s : ByteArray) (k : Nat) (h : k < s.size) (hs : s.size ≤ 1000000) : bitsLen (s.data.toList.take (k + 1)) = bitsLen (s.data.toList.take k) + lenOf s[k].toNat ∧ bitsLen (s.data.toList.take k) ≤ 30000000 := by
  refine ⟨by rw [take_byte s k h, bitsLen_snoc], ?_⟩
  have h1 := bitsLen_le (s.data.toList.take k)
  have h2 := List.length_take_le k s.data.toList
  have h3 : (s.data.toList.take k).length ≤ s.data.toList.length := by simp only [List.length_take]; omega
  have h4 := sz s
  omega
theorem bits_end (s : ByteArray) (hs : s.size ≤ 1000000) : bitsLen (s.data.toList.take s.size) = bitsLen s.data.toList ∧ bitsLen s.data.toList ≤ 30000000 := by
  rw [take_all]
  have h1 := bitsLen_le s.data.toList
  have h4 := sz s
  exact ⟨rfl, by omega⟩

/-- The table of lengths as a text. -/
def tabS : ByteArray := ⟨(lenL.map UInt8.ofNat).toArray⟩
theorem tabS_list : tabS.data.toList = lenL.map UInt8.ofNat := by simp [tabS]
theorem tabS_at (c : Nat) (hc : c < 256) : ∃ h : c < tabS.size, tabS[c].toNat = lenOf c := by
  have hs : tabS.size = 256 := by rw [sz, tabS_list, List.length_map, lenL_len]
  refine ⟨by omega, ?_⟩
  rw [← byte_at tabS c (by omega)]
  simp only [tabS_list, List.getElem_map]
  have h1 : lenL[c]'(by rw [lenL_len]; exact hc) = lenOf c := by
    unfold lenOf
    rw [List.getD_eq_getElem?_getD, List.getElem?_eq_getElem (by rw [lenL_len]; exact hc)]
    rfl
  rw [h1]
  have := (len_range c hc).2
  simp; omega
theorem idx_run (c : Nat) (hc : c < 256) (o : Oper) (X : ByteArray) (hX : X = tabS) (ho : o.op = .index 9 (.const (.string X)) (.tmp 3)) (a : Act) (ha : a.eval (.tmp 3) = .int .i64 (c : Int)) (w : World) :
    (execOp a.eval o).run Try.prog w = .ok (.value (.int .u8 (lenOf c : Nat))) w := by
  obtain ⟨h1, h2⟩ := tabS_at c hc
  subst hX
  have hr := run_index_string (P := Try.prog) (w := w) 9 tabS .i64 (c : Int) Try.underlying9
  have hk : a.eval (.const (.string tabS)) = .string tabS := rfl
  unfold execOp
  simp only [ho, ha, hk, Sem.run_bind, hr]
  simp [h1, h2]

theorem sizeL_eq (s : ByteArray) : ((bitsLen s.data.toList : Nat) + 7 : Int) / 8 = (sizeL s.data.toList : Nat) := by unfold sizeL; omega

/-- A block holds a text's bytes; below it, B and the lengths are as HasLens says. -/
structure HasText (h : Nat) (s : ByteArray) (W : World) : Prop where
  cell : ∀ k, (hk : k < s.size) → W.cell? ⟨h, k, none⟩ = some (.int .u8 s[k].toNat)
theorem text_new (W : World) (e : TypeId) (s : ByteArray) : HasText W.heap.size s (Lib.bytesWorld W e s) := ⟨fun k hk => by
  rw [Lib.bytesWorld_cell W e s k hk, List.getD_eq_getElem?_getD, List.getElem?_eq_getElem (by rw [← sz]; exact hk), byte_at s k hk]
  rfl⟩
theorem bytesWorld_below (w : World) (e : TypeId) (s : ByteArray) : Below w.heap.size w (Lib.bytesWorld w e s) :=
  ⟨by unfold Lib.bytesWorld World.freeze; split <;> rfl, by unfold Lib.bytesWorld World.freeze; split <;> rfl, by unfold Lib.bytesWorld World.freeze; split <;> rfl, by rw [Lib.bytesWorld_size]; omega, fun k hk => Lib.bytesWorld_at_old w e s k hk⟩

set_option maxRecDepth 100000 in
set_option maxHeartbeats 1000000 in
theorem size_any (s : ByteArray) (hs : s.size ≤ 1000000) (w : World) : Calls Try.prog 76 #[.string s] w fun e w' => e = .returned (.int .i64 (sizeL s.data.toList : Nat)) ∧ Below w.heap.size w w' := by
  go_enter Try.func76, Try.ntmps76
  go_wp2_with fail
  refine (lengths_any _).mono ?_
  rintro e w1 ⟨rfl, hb1⟩
  have hconv := fun W => Lib.run_convert_string_bytes (P := Try.prog) W 9 23 5 s Try.underlying9 Try.underlying23 Try.underlying5
  have hL : HasLens w.heap.size w1.heap.size w ((w1.alloc (.cells (rowK .u8 z256) 137)).setRow w1.heap.size (rowK .u8 lenL)) :=
    ⟨setRow_heap _ _ _ _ _ _ (heap_alloc_new w1 _), below_setRow (hb1.alloc hb1.size _) hb1.size _, by have := hb1.size; simp; omega, by simp⟩
  clear hb1
  go_wp2_with (first
    | (refine Great.wpList_allocTo rfl _ rfl _ _ (alloc256b _ _ _ _ _ _ _) ?_)
    | (refine wpList_store_row rfl _ _ _ rfl w1.heap.size (rowK .u8 lenL) rfl rfl _ _ (heap_alloc_new w1 _) (by kernel_rfl) (by kernel_rfl) (by kernel_rfl) ?_; generalize (w1.alloc (.cells (rowK .u8 z256) 137)).setRow w1.heap.size (rowK .u8 lenL) = W1 at hL ⊢; generalize w1.heap.size = g at hL ⊢))
  have hL2 : HasLens w.heap.size g w (Lib.bytesWorld W1 5 s) := hL.step (bytesWorld_below W1 _ s)
  have hT := text_new W1 5 s
  generalize Lib.bytesWorld W1 5 s = W2 at hL2 hT ⊢
  generalize W1.heap.size = hb at hT ⊢
  clear hconv hL
  go_loop [4, 11] (fun n i => ∃ k : Nat, k ≤ s.size ∧ i = .int .i64 k ∧ n = .int .i64 (bitsLen (s.data.toList.take k) : Nat)) (fun _ i => s.size - (intOf i).toNat)
  case atStart => exact ⟨0, Nat.zero_le _, rfl, rfl⟩
  case round =>
    obtain ⟨k, hk, rfl, rfl⟩ := hrel
    by_cases hlt : k < s.size
    · obtain ⟨h1, h2⟩ := bits_step s k hlt hs
      have H1 := Lib.hid h1
      clear h1
      have hb := byte_lt s[k]
      have hbi : ((s[k].toNat : Nat) : Int) < 256 := by omega
      obtain ⟨n1, n2⟩ := len_range s[k].toNat hb
      have hc1 := hT.cell k hlt
      have hc2 := hL2.cell s[k].toNat hb
      go_wp2_with fail
      go_round
      case rel => exact ⟨k + 1, by omega, by go_num, by rw [H1.out]; go_num⟩
      case measure => simp [intOf]; omega
    · obtain rfl : k = s.size := by omega
      obtain ⟨h1, h2⟩ := bits_end s hs
      rw [h1]
      have HE := Lib.hid (sizeL_eq s)
      clear h1
      go_wp2_with fail
      go_ret
      exact ⟨retI (by have := HE.out; omega), hL2.below⟩
end Go.Proofs.Yteceinojmdgmeaa

