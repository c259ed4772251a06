/- DecR · DecS · RepE: joined by a program, for a claim has at most 60 files. -/
import Derived.Test.YteceinojmdgmeaaC07
import Derived.Test.YteceinojmdgmeaaC09
import Derived.Test.YteceinojmdgmeaaC10
/- Decoding what was encoded: the plain law. No program in sight. -/
namespace Go.Proofs.Yteceinojmdgmeaa
set_option linter.unusedVariables false
set_option linter.unusedSimpArgs false

theorem bitsN_valB : ∀ (n : Nat) (l : List Nat), l.length = n → isBits l → bitsN n (valB l) = l
  | 0, l, h, _ => by rw [List.length_eq_zero_iff.1 h]; rfl
  | n + 1, l, h, hb => by
    have hne : l ≠ [] := by intro e; subst e; simp at h
    rw [← List.dropLast_concat_getLast hne] at hb ⊢
    have hl : l.dropLast.length = n := by rw [List.length_dropLast, h]; rfl
    have hlast : l.getLast hne < 2 := hb _ (List.mem_append_right _ (List.mem_singleton.2 rfl))
    rw [valB_snoc, bitsN, show (2 * valB l.dropLast + l.getLast hne) / 2 = valB l.dropLast from by omega, show (2 * valB l.dropLast + l.getLast hne) % 2 = l.getLast hne from by omega, bitsN_valB n _ hl (isBits_append hb).1]
theorem bytesBits_cons (b : Nat) (l : List Nat) : bytesBits (b :: l) = bitsN 8 b ++ bytesBits l := by simp [bytesBits]
theorem bytesBits_pack : ∀ (n : Nat) (L : List Nat), L.length = 8 * n → isBits L → bytesBits (packN n L) = L
  | 0, L, h, _ => by
    obtain rfl : L = [] := List.length_eq_zero_iff.1 (by omega)
    rfl
  | n + 1, L, h, hb => by
    have h8 : (L.take 8).length = 8 := by rw [List.length_take]; omega
    have hs := isBits_append (l := L.take 8) (r := L.drop 8) (by rw [List.take_append_drop]; exact hb)
    rw [packN, bytesBits_cons, bitsN_valB 8 _ h8 hs.1, bytesBits_pack n _ (by rw [List.length_drop]; omega) hs.2, List.take_append_drop]
theorem padL_bits {b : List Nat} (h : isBits b) : isBits (padL b) := isBits_mk h (ones_bits _)
theorem bytesBits_enc (l : List UInt8) : bytesBits (encL l) = padL (textBits l) := by
  unfold encL
  refine bytesBits_pack _ _ ?_ (padL_bits (textBits_bits l))
  rw [padL_len, textBits_len]
  rfl
/-- What is read ahead stays ahead. -/
theorem dStep_out (a o : Nat) (f : Bool) (out : List UInt8) (b : Nat) : dStep (a, o, f, out) b = (dStep (a, o, f, []) b).map fun s => (s.1, s.2.1, s.2.2.1, out ++ s.2.2.2) := by
  unfold dStep
  simp only
  generalize treeL.getD (a * 2 + b) 0 = V
  split
  · rfl
  · split
    · simp
    · simp
theorem dRun_out (l : List Nat) : ∀ (a o : Nat) (f : Bool) (out : List UInt8), dRun (a, o, f, out) l = (dRun (a, o, f, []) l).map fun s => (s.1, s.2.1, s.2.2.1, out ++ s.2.2.2) := by
  induction l with
  | nil => intro a o f out; simp [dRun]
  | cons b l ih =>
    intro a o f out
    simp only [dRun]
    rw [dStep_out a o f out b]
    cases h : dStep (a, o, f, []) b with
    | none => rfl
    | some s =>
      obtain ⟨a1, o1, f1, out1⟩ := s
      simp only [Option.map_some, Option.bind_some]
      rw [ih a1 o1 f1 (out ++ out1), ih a1 o1 f1 out1]
      cases dRun (a1, o1, f1, []) l <;> simp
def codeReads (t : List (Nat × Nat)) : Nat → Bool
  | 0 => true
  | n + 1 => codeReads t n && (let x := t.getD n (0, 0); decide (dRun d0 (bitsN x.2 x.1) = some (0, 0, true, [UInt8.ofNat n])))
theorem codeReads_at (t : List (Nat × Nat)) : ∀ n, codeReads t n = true → ∀ c, c < n → dRun d0 (bitsN (t.getD c (0, 0)).2 (t.getD c (0, 0)).1) = some (0, 0, true, [UInt8.ofNat c])
  | 0, _, c, h => absurd h (Nat.not_lt_zero c)
  | n + 1, h, c, hc => by
    simp only [codeReads, Bool.and_eq_true, decide_eq_true_eq] at h
    by_cases e : c = n
    · subst e; exact h.2
    · exact codeReads_at t n h.1 c (by omega)
set_option maxRecDepth 100000 in
theorem reads_all : codeReads (codeL.zip lenL) 256 = true := by decide +kernel
theorem reads_code (c : UInt8) : dRun d0 (byteBits c) = some (0, 0, true, [c]) := by
  have h := codeReads_at _ 256 reads_all c.toNat c.toNat_lt
  have h1 : c.toNat < codeL.length := by rw [codeL_len]; exact c.toNat_lt
  have h2 : c.toNat < lenL.length := by rw [lenL_len]; exact c.toNat_lt
  have hz : c.toNat < (codeL.zip lenL).length := by rw [List.length_zip]; omega
  have e : (codeL.zip lenL).getD c.toNat (0, 0) = (codeOf c.toNat, lenOf c.toNat) := by
    rw [List.getD_eq_getElem?_getD, List.getElem?_eq_getElem hz, Option.getD_some, List.getElem_zip]
    simp [codeOf, lenOf, List.getD_eq_getElem?_getD, List.getElem?_eq_getElem h1, List.getElem?_eq_getElem h2]
  rw [e] at h
  unfold byteBits
  simpa using h
theorem reads_text : ∀ (l out : List UInt8), dRun (0, 0, true, out) (textBits l) = some (0, 0, true, out ++ l)
  | [], out => by simp [textBits, dRun]
  | c :: l, out => by
    have e : textBits (c :: l) = byteBits c ++ textBits l := rfl
    rw [e, dRun_append, dRun_out (byteBits c) 0 0 true out]
    have := reads_code c
    unfold d0 at this
    rw [this]
    simp only [Option.map_some, Option.bind_some]
    rw [reads_text l (out ++ [c])]
    simp
def onesRead : Nat → Bool
  | 0 => true
  | n + 1 => onesRead n && (match dRun d0 (List.replicate n 1) with | some (_, o, f, l) => decide (o = n) && f && decide (l = []) | none => false)
set_option maxRecDepth 100000 in
theorem ones_all : onesRead 8 = true := by decide +kernel
theorem onesRead_at : ∀ n, onesRead n = true → ∀ r, r < n → ∃ a, dRun d0 (List.replicate r 1) = some (a, r, true, [])
  | 0, _, c, h => absurd h (Nat.not_lt_zero c)
  | n + 1, h, r, hr => by
    simp only [onesRead, Bool.and_eq_true] at h
    by_cases e : r = n
    · subst e
      have := h.2
      split at this
      · rename_i a o f l hd
        simp only [Bool.and_eq_true, decide_eq_true_eq] at this
        obtain ⟨⟨rfl, rfl⟩, rfl⟩ := this
        exact ⟨a, hd⟩
      · cases this
    · exact onesRead_at n h.1 r (by omega)
/-- What is encoded is decoded. -/
theorem dec_enc (l : List UInt8) : decL (encL l) = some l := by
  unfold decL
  rw [bytesBits_enc]
  unfold padL
  generalize hr : (8 - (textBits l).length % 8) % 8 = r
  have hr8 : r < 8 := by omega
  obtain ⟨a, ha⟩ := onesRead_at 8 ones_all r hr8
  rw [dRun_append]
  have h1 := reads_text l []
  unfold d0 at ha ⊢
  rw [h1]
  simp only [Option.bind_some, List.nil_append]
  rw [dRun_out _ 0 0 true l, ha]
  simp only [Option.map_some, List.append_nil]
  rw [if_neg (by simp; omega)]
theorem valB_byte (l : List Nat) (hb : isBits l) (h : l.length ≤ 8) : valB l < 256 := by
  have h1 := valB_lt l hb
  have h2 : 2 ^ l.length ≤ 2 ^ 8 := Nat.pow_le_pow_right (by decide) h
  have h3 : (2 : Nat) ^ 8 = 256 := by decide
  omega
theorem packN_byte : ∀ (n : Nat) (L : List Nat), isBits L → ∀ x ∈ packN n L, x < 256
  | 0, L, _, x, hx => by simp [packN] at hx
  | n + 1, L, hb, x, hx => by
    have hs := isBits_append (l := L.take 8) (r := L.drop 8) (by rw [List.take_append_drop]; exact hb)
    rw [packN, List.mem_cons] at hx
    rcases hx with rfl | hx
    · exact valB_byte _ hs.1 (by rw [List.length_take]; omega)
    · exact packN_byte n _ hs.2 x hx
theorem encL_byte (l : List UInt8) : ∀ x ∈ encL l, x < 256 := packN_byte _ _ (padL_bits (textBits_bits l))
def encU (l : List UInt8) : List UInt8 := (encL l).map UInt8.ofNat
theorem encU_nat (l : List UInt8) : (encU l).map UInt8.toNat = encL l := by
  unfold encU
  rw [List.map_map]
  conv => rhs; rw [← List.map_id (encL l)]
  refine List.map_congr_left fun x hx => ?_
  have := encL_byte l x hx
  simp; omega
theorem encU_inj {l r : List UInt8} (h : encU l = encU r) : l = r := by
  have e : encL l = encL r := by rw [← encU_nat l, ← encU_nat r, h]
  have h1 := dec_enc l
  rw [e, dec_enc r] at h1
  exact (Option.some.inj h1).symm
theorem encL_len (l : List UInt8) : (encL l).length = sizeL l := packN_len _ _
end Go.Proofs.Yteceinojmdgmeaa


/- HuffBack: what the law's function does: for every two texts it returns true. -/
namespace Go.Proofs.Yteceinojmdgmeaa
open Go.RowKit
set_option linter.unusedVariables false
set_option linter.unusedSimpArgs false

theorem decode_str (p : Nat) (w : World) (hr : Ready p w) (oa : Option Addr) (n cap : Nat) (s : ByteArray) (hs : s.size ≤ 1000) (hn : (encL s.data.toList).length = n) (hb : BytesN w oa (encL s.data.toList)) (hp : ∀ a, oa = some a → a.block ≠ p) (hlen : n ≤ 1000000) :
    Calls Try.prog 94 #[.pointer (some ⟨p, 0, none⟩), .slice oa n cap] w fun e w' => e = .returned (.tuple #[.string s, .int .i64 0]) ∧ Done p w' 1 ∧ Near p w.heap.size w w' := by
  subst hn
  refine (decode_text p w hr oa cap _ _ (dec_enc s.data.toList) hb hp hlen (fun i hi => ?_)).mono ?_
  · rw [List.getD_eq_getElem?_getD, List.getElem?_eq_getElem hi]
    exact encL_byte _ _ (List.getElem_mem hi)
  · rintro e w' ⟨rfl, h⟩
    exact ⟨by simp, h⟩
theorem toList_ne {a b : ByteArray} (h : ¬ a = b) : (a.toList == b.toList) = false := beq_false_of_ne (fun e => h (by
  rw [ByteArray.toList_eq, ByteArray.toList_eq] at e
  cases a; cases b; simp only at e; congr 1; exact Array.toList_inj.1 e))
theorem textBits_le : ∀ l : List UInt8, (textBits l).length ≤ 30 * l.length
  | [] => by simp [textBits]
  | c :: l => by
    have e : textBits (c :: l) = byteBits c ++ textBits l := rfl
    have h := textBits_le l
    have h2 := (len_range c.toNat c.toNat_lt).2
    rw [e, List.length_append, byteBits_len, List.length_cons]
    omega
theorem sizeL_le (s : ByteArray) (h : s.size ≤ 300) : sizeL s.data.toList ≤ 10000 := by
  have h1 := textBits_len s.data.toList
  have h2 := textBits_le s.data.toList
  have h3 : s.data.toList.length = s.size := by rw [Array.length_toList]; rfl
  unfold sizeL
  omega

end Go.Proofs.Yteceinojmdgmeaa


/- repr.GetText. -/
namespace Go.Proofs.Yteceinojmdgmeaa
open Go.RowKit
set_option linter.unusedVariables false
set_option linter.unusedSimpArgs false

def bsB (bs : List Nat) : ByteArray := ⟨(bs.map UInt8.ofNat).toArray⟩
theorem conv_bytes (W : World) (oa : Option Addr) (n cap : Nat) (bs : List Nat) (hn : bs.length = n) (h : BytesN W oa bs) (hb : ∀ i, i < bs.length → bs.getD i 0 < 256) :
    (convert 23 9 (.slice oa n cap)).run Try.prog W = .ok (.string (bsB bs)) W := by
  subst hn
  cases oa with
  | none =>
    have : bs = [] := by
      cases bs with
      | nil => rfl
      | cons x l => obtain ⟨a, ha, _⟩ := h 0 (by simp); cases ha
    subst this
    rw [run_convert_bytes_string W _ _ 5 none _ _ Try.underlying23 Try.underlying5 Try.underlying9]
    rfl
  | some a =>
    have hl : (bs.map UInt8.ofNat).length = bs.length := by simp
    rw [← hl]
    refine run_convert_bytes_back W _ _ 5 a cap (bs.map UInt8.ofNat) Try.underlying23 Try.underlying5 Try.underlying9 (fun j hj => ?_)
    rw [hl] at hj
    obtain ⟨a', ha, hc⟩ := h j hj
    obtain rfl := Option.some.inj ha
    have h2 := hb j hj
    rw [hc]
    rw [List.getD_eq_getElem?_getD, List.getElem?_eq_getElem hj, Option.getD_some] at h2
    simp [List.getD_eq_getElem?_getD, List.getElem?_eq_getElem hj]
    omega
theorem getGo_ok (bs : List Nat) : ∀ j i n, (getGo bs j i n).2.2 = 0 → i + 2 ≤ (getGo bs j i n).2.1 ∧ (getGo bs j i n).2.1 ≤ bs.length ∧ (getGo bs j i n).1 ≤ 268435455
  | 0, i, n, h => by simp [getGo] at h
  | j + 1, i, n, h => by
    unfold getGo at h ⊢
    cases hc : bs[i + 1]? with
    | none => rw [hc] at h; simp at h
    | some c =>
      rw [hc] at h
      have hl : i + 1 < bs.length := (List.getElem?_eq_some_iff.1 hc).1
      simp only at h ⊢
      split at h
      · rename_i h1
        rw [if_pos h1]
        have := getGo_ok bs j (i + 1) _ h
        omega
      · rename_i h1
        rw [if_neg h1]
        split at h
        · simp at h
        · rename_i h2
          rw [if_neg h2]
          simp only
          omega
theorem getN_ok (bs : List Nat) (k : Nat) (hk : K4 k) (h : (getN bs k).2.2 = 0) : 1 ≤ (getN bs k).2.1 ∧ (getN bs k).2.1 ≤ bs.length ∧ (getN bs k).1 ≤ 268435455 := by
  cases bs with
  | nil => simp [getN] at h
  | cons b l =>
    have hm : 2 ^ k ≤ 128 := by rcases hk with rfl | rfl | rfl | rfl <;> decide
    unfold getN at h ⊢
    simp only at h ⊢
    split at h
    · rename_i h1
      rw [if_pos h1]
      simp only [List.length_cons]
      omega
    · rename_i h1
      rw [if_neg h1]
      have := getGo_ok (b :: l) 5 0 _ h
      omega
/-- A text got from bytes: it, how many bytes it has, the error. -/
def textG (bs : List Nat) : ByteArray × Nat × Nat :=
  if (getN bs 7).2.2 ≠ 0 then (ByteArray.empty, 0, (getN bs 7).2.2)
  else if 4096 < (getN bs 7).1 then (ByteArray.empty, 0, 5)
  else if bs.length < (getN bs 7).2.1 + (getN bs 7).1 then (ByteArray.empty, 0, 3)
  else if bs.getD 0 0 < 128 then (bsB ((bs.drop (getN bs 7).2.1).take (getN bs 7).1), (getN bs 7).2.1 + (getN bs 7).1, 0)
  else match decL ((bs.drop (getN bs 7).2.1).take (getN bs 7).1) with
    | none => (ByteArray.empty, 0, 4)
    | some l => (⟨l.toArray⟩, (getN bs 7).2.1 + (getN bs 7).1, 0)
def TextGPost (bs : List Nat) (w : World) (e : Ending) (w' : World) : Prop := e = .returned (.tuple #[.string (textG bs).1, .int .i64 ((textG bs).2.1 : Nat), .int .i64 ((textG bs).2.2 : Nat)]) ∧ Below w.heap.size w w'
theorem BytesN.part {W : World} {b o : Nat} {bs : List Nat} (h : BytesN W (some ⟨b, o, none⟩) bs) (i n : Nat) : BytesN W (some ⟨b, o + i, none⟩) ((bs.drop i).take n) := by
  intro j hj
  rw [List.length_take, List.length_drop] at hj
  obtain ⟨b', o', e, hc⟩ := h.at (i := i + j) (by omega)
  obtain ⟨rfl, rfl, _⟩ := Addr.mk.inj (Option.some.inj e)
  refine ⟨_, rfl, ?_⟩
  rw [Addr.add_lit, Nat.add_assoc, hc]
  simp only [List.getD_eq_getElem?_getD]
  rw [List.getElem?_take_of_lt (by omega), List.getElem?_drop]
theorem u8_and128 (c : Nat) (hc : c < 256) : bits BinOp.and IntKind.u8 (c : Int) 128 = if c < 128 then 0 else 128 := by
  have h : ∀ c, c < 256 → c &&& 128 = if c < 128 then 0 else 128 := by decide +kernel
  have h1 := u8_and_nat c 128 hc (by decide)
  rw [h c hc] at h1
  rw [show (128 : Int) = ((128 : Nat) : Int) from rfl, h1]
  split <;> rfl
end Go.Proofs.Yteceinojmdgmeaa

