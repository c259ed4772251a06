/- DocF · RefU · DecU · RefV · RefW · DocG · DocH: joined by a program, for a claim has at most 60 files. -/
import Derived.Test.YteceinojmdgmeaaC44
import Derived.Test.YteceinojmdgmeaaC24
import Derived.Test.YteceinojmdgmeaaC10
import Derived.Deep.RegionHeld
import Derived.Test.YteceinojmdgmeaaC31
import Derived.Test.YteceinojmdgmeaaC32
import Derived.Test.YteceinojmdgmeaaC34
/- The document's numbers with a prefix: footmanref01.Get. -/
namespace Go.Proofs.Yteceinojmdgmeaa
open Go.RowKit
set_option linter.unusedVariables false
set_option linter.unusedSimpArgs false

end Go.Proofs.Yteceinojmdgmeaa


/- The document's unpack: bytes as bits. -/
namespace Go.Proofs.Yteceinojmdgmeaa
open Go.RowKit
set_option linter.unusedVariables false
set_option linter.unusedSimpArgs false

theorem int_info : (Try.prog.info? 3).map (fun i => (i.zero, i.size, i.bytes)) = some (some (.int .i64 0), 1, 8) := by kernel_rfl
/-- Ints of one's own. -/
def OwnJ (w : World) (base : Nat) (v : Value) (l : List Nat) : Prop := w.ownsRow base 3 1 v l.length (l.map fun n : Nat => Value.int .i64 (n : Int))
theorem ownI_to {w : World} {base : Nat} {v : Value} {l l' : List Nat} (h : OwnJ w base v l) (e : l = l') : OwnJ w base v l' := e ▸ h
theorem ownI_app {W : World} {B : Nat} {v : Value} {l r : List Nat} {n m : Nat} (hn : l.length = n) (hm : r.length = m)
    (h : W.ownsRow B 3 1 v (n + m) (l.map (fun n : Nat => Value.int .i64 (n : Int)) ++ r.map (fun n : Nat => Value.int .i64 (n : Int)))) : OwnJ W B v (l ++ r) := by
  unfold OwnJ
  rw [List.length_append, hn, hm, List.map_append]
  exact h
/-- The place value at the j-th bit, and 0 behind the last. -/
def kAt (j : Nat) : Nat := if j < 8 then 2 ^ (7 - j) else 0
theorem kAt_half (j : Nat) (h : j < 8) : kAt j / 2 = kAt (j + 1) := by
  unfold kAt
  rw [if_pos h]
  by_cases h7 : j + 1 < 8
  · rw [if_pos h7, show 7 - j = 7 - (j + 1) + 1 from by omega, Nat.pow_succ, Nat.mul_div_cancel _ (by decide)]
  · obtain rfl : j = 7 := by omega
    rfl
theorem kAt_pos (j : Nat) (h : j < 8) : 0 < kAt j ∧ kAt j ≤ 128 := by
  unfold kAt
  rw [if_pos h]
  have h2 : 2 ^ (7 - j) ≤ 2 ^ 7 := Nat.pow_le_pow_right (by decide) (by omega)
  exact ⟨Nat.two_pow_pos _, by simpa using h2⟩
def UnpackPost (l : List Nat) (w : World) (e : Ending) (w' : World) : Prop := ∃ v, e = .returned v ∧ OwnJ w' w.heap.size v l ∧ Below w.heap.size w w'
end Go.Proofs.Yteceinojmdgmeaa


/- The document's way to decode, as a plain law: greedy reading and encoding again tell what the tree tells. No program in sight. -/
namespace Go.Proofs.Yteceinojmdgmeaa
set_option linter.unusedVariables false
set_option linter.unusedSimpArgs false

/-- Each way down the tree spells the code of the byte where it ends. -/
def dfs : Nat → Nat → List Nat → Bool
  | 0, _, _ => false
  | n + 1, a, path =>
    (let V := treeL.getD (a * 2 + 0) 0; if V = 0 then true else if V < 0 then decide (path ++ [0] = codeBits (-1 - V).toNat ∧ (-1 - V).toNat < 256) else dfs n V.toNat (path ++ [0])) &&
    (let V := treeL.getD (a * 2 + 1) 0; if V = 0 then true else if V < 0 then decide (path ++ [1] = codeBits (-1 - V).toNat ∧ (-1 - V).toNat < 256) else dfs n V.toNat (path ++ [1]))
set_option maxRecDepth 100000 in
theorem dfs_ok : dfs 31 0 [] = true := by decide +kernel
def allOnes (l : List Nat) : Bool := l.all (· == 1)
/-- Some byte's code begins l. -/
def HasCode (l : List Nat) : Prop := ∃ c n, c < 256 ∧ n ≤ l.length ∧ l.take n = codeBits c
theorem dfs_branch {n a b : Nat} {path : List Nat} (hb : b < 2) (h : dfs (n + 1) a path = true) :
    treeL.getD (a * 2 + b) 0 = 0 ∨ (treeL.getD (a * 2 + b) 0 < 0 ∧ path ++ [b] = codeBits (-1 - treeL.getD (a * 2 + b) 0).toNat ∧ (-1 - treeL.getD (a * 2 + b) 0).toNat < 256) ∨ (0 < treeL.getD (a * 2 + b) 0 ∧ dfs n (treeL.getD (a * 2 + b) 0).toNat (path ++ [b]) = true) := by
  simp only [dfs, Bool.and_eq_true] at h
  have hb' : b = 0 ∨ b = 1 := by omega
  rcases hb' with rfl | rfl
  · have h1 := h.1
    generalize treeL.getD (a * 2 + 0) 0 = V at h1
    split at h1
    · left; assumption
    · split at h1
      · right; left; rename_i hv; simp only [decide_eq_true_eq] at h1; exact ⟨hv, h1⟩
      · right; right; exact ⟨by omega, h1⟩
  · have h1 := h.2
    generalize treeL.getD (a * 2 + 1) 0 = V at h1
    split at h1
    · left; assumption
    · split at h1
      · right; left; rename_i hv; simp only [decide_eq_true_eq] at h1; exact ⟨hv, h1⟩
      · right; right; exact ⟨by omega, h1⟩
theorem dfs_run : ∀ (l : List Nat) (n a o : Nat) (f : Bool) (path : List Nat), isBits l → dfs n a path = true →
    dRun (a, o, f, []) l = none ∨ (∃ a', dRun (a, o, f, []) l = some (a', o + l.length, f && allOnes l, [])) ∨ (∃ c m, c < 256 ∧ m ≤ l.length ∧ path ++ l.take m = codeBits c)
  | [], n, a, o, f, path, _, _ => .inr (.inl ⟨a, by simp [dRun, allOnes]⟩)
  | b :: l, 0, a, o, f, path, _, h => by simp [dfs] at h
  | b :: l, n + 1, a, o, f, path, hb, h => by
    have hb2 : b < 2 := hb b List.mem_cons_self
    have hbl : isBits l := fun x hx => hb x (List.mem_cons_of_mem _ hx)
    have hs : dStep (a, o, f, []) b = if treeL.getD (a * 2 + b) 0 = 0 then none else if treeL.getD (a * 2 + b) 0 < 0 then some (0, 0, true, [] ++ [UInt8.ofNat (-1 - treeL.getD (a * 2 + b) 0).toNat]) else some ((treeL.getD (a * 2 + b) 0).toNat, o + 1, f && (b == 1), []) := rfl
    simp only [dRun]
    rcases dfs_branch hb2 h with hv | ⟨hv, hp, hc⟩ | ⟨hv, hd⟩
    · left; rw [hs, if_pos hv]; rfl
    · right; right
      exact ⟨_, 1, hc, by simp, by simpa using hp⟩
    · rw [hs, if_neg (by omega), if_neg (by omega)]
      simp only [Option.bind_some]
      rcases dfs_run l n _ (o + 1) (f && (b == 1)) (path ++ [b]) hbl hd with h1 | ⟨a', h1⟩ | ⟨c, m, h1, h2, h3⟩
      · left; exact h1
      · right; left
        refine ⟨a', ?_⟩
        rw [h1]
        simp only [allOnes, List.all_cons, List.length_cons, Bool.and_assoc]
        rw [show o + 1 + l.length = o + (l.length + 1) from by omega]
      · right; right
        exact ⟨c, m + 1, h1, by simp; omega, by rw [← h3]; simp⟩
theorem ones_of : ∀ l : List Nat, allOnes l = true → l = List.replicate l.length 1
  | [], _ => rfl
  | b :: l, h => by
    simp only [allOnes, List.all_cons, Bool.and_eq_true, beq_iff_eq] at h
    have := ones_of l h.2
    rw [List.length_cons, List.replicate_succ, ← this, h.1]
theorem bitsN_valB8 (x : Nat) (h : x < 256) : valB (bitsN 8 x) = x := valB_bitsN 8 x (by simpa using h)
theorem pack_bytes : ∀ bs : List Nat, (∀ x ∈ bs, x < 256) → packN bs.length (bytesBits bs) = bs
  | [], _ => rfl
  | x :: bs, h => by
    have h8 : (bitsN 8 x).length = 8 := bitsN_len _ _
    rw [bytesBits_cons, List.length_cons, packN, List.take_append_of_le_length (by omega), List.drop_append_of_le_length (by omega), List.take_of_length_le (by omega), List.drop_of_length_le (by omega), List.nil_append, bitsN_valB8 x (h x List.mem_cons_self), pack_bytes bs (fun y hy => h y (List.mem_cons_of_mem _ hy))]
/-- What the greedy reading tells. -/
theorem greedy_law (bs : List Nat) (T : List UInt8) (r : List Nat) (hbs : ∀ x ∈ bs, x < 256) (hL : bytesBits bs = textBits T ++ r) (hr : isBits r) (hno : ¬ HasCode r) :
    decL bs = if encL T = bs then some T else none := by
  by_cases he : encL T = bs
  · rw [if_pos he, ← he]
    exact dec_enc T
  · rw [if_neg he]
    unfold decL
    rw [hL, dRun_append]
    have h1 := reads_text T []
    unfold d0
    rw [h1]
    simp only [Option.bind_some, List.nil_append]
    rw [dRun_out r 0 0 true T]
    rcases dfs_run r 31 0 0 true [] hr dfs_ok with h2 | ⟨a', h2⟩ | ⟨c, m, h3, h4, h5⟩
    · rw [h2]; rfl
    · rw [h2]
      simp only [Option.map_some, Nat.zero_add, Bool.true_and, List.append_nil]
      by_cases h8 : 8 ≤ r.length
      · rw [if_pos (.inl h8)]
      · cases ho : allOnes r with
        | false => simp
        | true =>
          exfalso
          apply he
          have hr1 := ones_of r ho
          have hlen : 8 * bs.length = (textBits T).length + r.length := by rw [← bytesBits_len, hL, List.length_append]
          have e1 : r.length = (8 - (textBits T).length % 8) % 8 := by omega
          have e2 : sizeL T = bs.length := by
            have := textBits_len T
            unfold sizeL
            omega
          unfold encL padL
          rw [← e1, ← hr1, ← hL, e2]
          exact pack_bytes bs hbs
    · exact absurd ⟨c, m, h3, h4, by simpa using h5⟩ hno
end Go.Proofs.Yteceinojmdgmeaa


/- The document's find: the byte whose code begins bits. -/
namespace Go.Proofs.Yteceinojmdgmeaa
open Go.RowKit
set_option linter.unusedVariables false
set_option linter.unusedSimpArgs false

/-- Ints in memory. -/
def IntsN (W : World) (oa : Option Addr) (l : List Nat) : Prop := ∀ i, i < l.length → ∃ a, oa = some a ∧ W.cell? (a.add i) = some (.int .i64 (l.getD i 0 : Nat))
theorem IntsN.below {W W' : World} {oa : Option Addr} {l : List Nat} (h : IntsN W oa l) (hn : Below W.heap.size W W') : IntsN W' oa l := by
  intro i hi
  obtain ⟨a, ha, hc⟩ := h i hi
  exact ⟨a, ha, (cell_eq (hn.block _ (World.block_lt_of_cell? _ _ hc))).trans hc⟩
def FindPost (r : List Nat) (w : World) (e : Ending) (w' : World) : Prop :=
  w' = w ∧ ((∃ c n, c < 256 ∧ lenOf c = n ∧ n ≤ r.length ∧ r.take n = codeBits c ∧ e = .returned (.tuple #[.int .u8 (c : Nat), .int .i64 (n : Nat)])) ∨ (¬ HasCode r ∧ e = .returned (.tuple #[.int .u8 0, .int .i64 0])))
/-- No code that is shorter than k begins r. -/
def Fnd (r : List Nat) (k : Nat) : Prop := ∀ c, c < 256 → lenOf c < k → lenOf c ≤ r.length → r.take (lenOf c) ≠ codeBits c
/-- No code of k bits of a byte below y is hd. -/
def FndI (k hd y : Nat) : Prop := ∀ c, c < y → lenOf c = k → codeOf c ≠ hd
theorem FndI.step {k hd y : Nat} (h : FndI k hd y) (h2 : lenOf y = k → codeOf y ≠ hd) : FndI k hd (y + 1) := by
  intro c hc hl
  by_cases e : c = y
  · subst e; exact h2 hl
  · exact h c (by omega) hl
theorem code_is {r : List Nat} {k c : Nat} (hr : isBits r) (hk : k ≤ r.length) (hl : lenOf c = k) (h : codeOf c = valB (r.take k)) : r.take k = codeBits c := by
  unfold codeBits
  rw [hl, h]
  exact (bitsN_valB k (r.take k) (by rw [List.length_take]; omega) (fun b hb => hr b (List.mem_of_mem_take hb))).symm
theorem is_code {r : List Nat} {k c : Nat} (hc : c < 256) (hl : lenOf c = k) (h : r.take k = codeBits c) : codeOf c = valB (r.take k) := by
  rw [h]
  unfold codeBits
  exact (valB_bitsN _ _ (code_lt c hc)).symm
theorem Fnd.next {r : List Nat} {k hd : Nat} (h : Fnd r k) (hd2 : hd = valB (r.take k)) (hi : FndI k hd 256) : Fnd r (k + 1) := by
  intro c hc hl hle he
  by_cases e : lenOf c = k
  · rw [e] at he
    exact hi c hc e ((is_code hc e he).trans hd2.symm)
  · exact h c hc (by omega) hle he
theorem Fnd.none {r : List Nat} {k : Nat} (h : Fnd r k) (hk : r.length < k ∨ 30 < k) : ¬ HasCode r := by
  rintro ⟨c, n, hc, hn, he⟩
  have h1 : n = lenOf c := by
    have := congrArg List.length he
    rw [List.length_take] at this
    unfold codeBits at this
    rw [bitsN_len] at this
    omega
  subst h1
  have h2 := (len_range c hc).2
  exact h c hc (by omega) hn he
theorem valB_take1 (r : List Nat) (k : Nat) (h : k < r.length) : valB (r.take (k + 1)) = 2 * valB (r.take k) + r.getD k 0 := by
  rw [List.take_succ_eq_append_getElem h, valB_snoc, List.getD_eq_getElem?_getD, List.getElem?_eq_getElem h]
  rfl
theorem valB_take_lt (r : List Nat) (k : Nat) (hr : isBits r) (h : k ≤ 30) : valB (r.take k) < 1073741824 := by
  have h1 := valB_lt (r.take k) (fun b hb => hr b (List.mem_of_mem_take hb))
  have h2 : 2 ^ (r.take k).length ≤ 2 ^ 30 := Nat.pow_le_pow_right (by decide) (by rw [List.length_take]; omega)
  have h3 : (2 : Nat) ^ 30 = 1073741824 := by decide
  omega

end Go.Proofs.Yteceinojmdgmeaa


/- The document's Decode tells what the tree tells. -/
namespace Go.Proofs.Yteceinojmdgmeaa
open Go.RowKit
set_option linter.unusedVariables false
set_option linter.unusedSimpArgs false

theorem ownI_ints {w : World} {B : Nat} {v : Value} {l : List Nat} (h : OwnJ w B v l) : ∃ oa cap, v = .slice oa l.length cap ∧ l.length ≤ cap ∧ IntsN w oa l := by
  rcases h.2 with ⟨rfl, h0⟩ | ⟨g, cap, cur, rfl, hb, hg, hn, hm, hs, ht⟩
  · exact ⟨none, 0, by rw [h0], by omega, fun i hi => by omega⟩
  · refine ⟨some ⟨g, 0, none⟩, cap, rfl, hn, fun i hi => ⟨_, rfl, ?_⟩⟩
    exact World.ownsRow.cells h rfl i _ (by simp [List.getElem?_eq_getElem hi])
theorem noCode_nil : ¬ HasCode [] := by
  rintro ⟨c, n, hc, hn, he⟩
  have h := congrArg List.length he
  unfold codeBits at h
  rw [bitsN_len] at h
  have := (len_range c hc).1
  simp at h
  omega
theorem textBits_ge : ∀ l : List UInt8, 5 * l.length ≤ (textBits l).length
  | [] => by simp [textBits]
  | c :: l => by
    have e : textBits (c :: l) = byteBits c ++ textBits l := rfl
    have h := textBits_ge l
    have h2 := (len_range c.toNat c.toNat_lt).1
    rw [e, List.length_append, byteBits_len, List.length_cons]
    omega
def bsS (bs : List Nat) : ByteArray := ⟨(bs.map UInt8.ofNat).toArray⟩
theorem conv_arg (W : World) (oa : Option Addr) (cap : Nat) (bs : List Nat) (h : BytesN W oa bs) (hb : ∀ i, i < bs.length → bs.getD i 0 < 256) :
    (convert 23 9 (.slice oa bs.length cap)).run Try.prog W = .ok (.string (bsS bs)) W := by
  cases oa with
  | none =>
    have : bs = [] := by
      cases bs with
      | nil => rfl
      | cons x l => obtain ⟨a, ha, _⟩ := h 0 (by simp); cases ha
    subst this
    rw [run_convert_bytes_string W _ _ 5 none _ _ Try.underlying23 Try.underlying5 Try.underlying9]
    rfl
  | some a =>
    have hl : (bs.map UInt8.ofNat).length = bs.length := by simp
    rw [← hl]
    refine run_convert_bytes_back W _ _ 5 a cap (bs.map UInt8.ofNat) Try.underlying23 Try.underlying5 Try.underlying9 (fun j hj => ?_)
    rw [hl] at hj
    obtain ⟨a', ha, hc⟩ := h j hj
    obtain rfl := Option.some.inj ha
    have h2 := hb j hj
    rw [hc]
    rw [List.getD_eq_getElem?_getD, List.getElem?_eq_getElem hj, Option.getD_some] at h2
    simp [List.getD_eq_getElem?_getD, List.getElem?_eq_getElem hj]
    omega
theorem encS_eq {T : List UInt8} {bs : List Nat} {s : ByteArray} (hs : s.data.toList = T) (hb : ∀ x ∈ bs, x < 256) : encS s = bsS bs ↔ encL T = bs := by
  unfold encS bsS encU
  rw [hs]
  constructor
  · intro h
    have e := congrArg (fun b => b.data.toList.map UInt8.toNat) h
    simp only [List.toList_toArray, List.map_map] at e
    have h1 : ∀ l : List Nat, (∀ x ∈ l, x < 256) → l.map (UInt8.toNat ∘ UInt8.ofNat) = l := fun l hl => by
      conv => rhs; rw [← List.map_id l]
      refine List.map_congr_left fun x hx => ?_
      have := hl x hx
      simp; omega
    rw [h1 _ (encL_byte T), h1 _ hb] at e
    exact e
  · intro h; rw [h]
theorem decV_some (T : List UInt8) : decV (some T) = .tuple #[.string ⟨T.toArray⟩, .int .i64 0] := rfl
def RefDecPost (bs : List Nat) (w : World) (e : Ending) (w' : World) : Prop := e = .returned (decV (decL bs)) ∧ Below w.heap.size w w'
end Go.Proofs.Yteceinojmdgmeaa


/- The document's texts: footmanref05.GetText. -/
namespace Go.Proofs.Yteceinojmdgmeaa
open Go.RowKit
set_option linter.unusedVariables false
set_option linter.unusedSimpArgs false

end Go.Proofs.Yteceinojmdgmeaa


/- The document's items: footmanref05.kind, literal, head. -/
namespace Go.Proofs.Yteceinojmdgmeaa
open Go.RowKit
set_option linter.unusedVariables false
set_option linter.unusedSimpArgs false

/-- The document's item in a block (as it is got). -/
def KRow (W : World) (q : Nat) (k : Nat) (i : Int) (nm vl : ByteArray) : Prop := W.heap[q]? = some (.cells #[.int .u8 (k : Int), .int .i64 i, .string nm, .string vl] 42 (0, 0))
theorem KRow.c0 {W : World} {q k : Nat} {i : Int} {nm vl : ByteArray} (h : KRow W q k i nm vl) : W.cell? ⟨q, 0, none⟩ = some (.int .u8 (k : Int)) := cell_of_row _ _ _ _ _ _ h
theorem KRow.c1 {W : World} {q k : Nat} {i : Int} {nm vl : ByteArray} (h : KRow W q k i nm vl) : W.cell? ⟨q, 1, none⟩ = some (.int .i64 i) := cell_of_row _ _ _ _ _ _ h
theorem KRow.c2 {W : World} {q k : Nat} {i : Int} {nm vl : ByteArray} (h : KRow W q k i nm vl) : W.cell? ⟨q, 2, none⟩ = some (.string nm) := cell_of_row _ _ _ _ _ _ h
theorem KRow.c3 {W : World} {q k : Nat} {i : Int} {nm vl : ByteArray} (h : KRow W q k i nm vl) : W.cell? ⟨q, 3, none⟩ = some (.string vl) := cell_of_row _ _ _ _ _ _ h
theorem KRow.z {W : World} {q k : Nat} {i : Int} {nm vl : ByteArray} (h : KRow W q k i nm vl) (j : Nat) : W.frozen? ⟨q, j, none⟩ = false := frozen_of_row _ _ _ _ _ h
theorem KRow.lt {W : World} {q k : Nat} {i : Int} {nm vl : ByteArray} (h : KRow W q k i nm vl) : q < W.heap.size := World.block_lt_of_cell? W ⟨q, 0, none⟩ h.c0
theorem KRow.step {W W' : World} {q k : Nat} {i : Int} {nm vl : ByteArray} (h : KRow W q k i nm vl) (hb : Below W.heap.size W W') : KRow W' q k i nm vl := (hb.block q h.lt).trans h
theorem KRow.set1 {W : World} {q k : Nat} {i : Int} {nm vl : ByteArray} (h : KRow W q k i nm vl) (i' : Int) : KRow (W.setCell ⟨q, 1, none⟩ (.int .i64 i')) q k i' nm vl := heap_setCell_same W q 1 _ _ _ h
theorem KRow.set2 {W : World} {q k : Nat} {i : Int} {nm vl : ByteArray} (h : KRow W q k i nm vl) (s : ByteArray) : KRow (W.setCell ⟨q, 2, none⟩ (.string s)) q k i s vl := heap_setCell_same W q 2 _ _ _ h
theorem KRow.set3 {W : World} {q k : Nat} {i : Int} {nm vl : ByteArray} (h : KRow W q k i nm vl) (s : ByteArray) : KRow (W.setCell ⟨q, 3, none⟩ (.string s)) q k i nm s := heap_setCell_same W q 3 _ _ _ h
theorem KRow.other {W : World} {q k : Nat} {i : Int} {nm vl : ByteArray} (h : KRow W q k i nm vl) (p j : Nat) (hp : p ≠ q) (x : Value) : KRow (W.setCell ⟨p, j, none⟩ x) q k i nm vl := (Below.heap_setCell _ _ _ _ (fun e => hp (by simpa using e.symm))).trans h
theorem KRow.alloc {W : World} {q k : Nat} {i : Int} {nm vl : ByteArray} (h : KRow W q k i nm vl) (o : Obj) : KRow (W.alloc o) q k i nm vl := h.step ((Below.refl _ _).alloc (Nat.le_refl _) o)
theorem KRow.new (W : World) (k : Nat) (i : Int) (nm vl : ByteArray) : KRow (W.alloc (.cells #[.int .u8 (k : Int), .int .i64 i, .string nm, .string vl] 42)) W.heap.size k i nm vl := heap_alloc_new W _
theorem elit_any (k : Nat) (hk : k < 256) (w : World) : Calls Try.prog 66 #[.int .u8 (k : Int)] w fun e w' => e = .returned (.bool (litK k)) ∧ w' = w := by
  by_cases h1 : 1 ≤ k
  · have q1 : decide ((1 : Int) ≤ (k : Int)) = true := decide_eq_true (by omega)
    by_cases h3 : k ≤ 3
    · have q2 : decide ((k : Int) ≤ 3) = true := decide_eq_true (by omega)
      have HL := Lib.hid (show litK k = true from by unfold litK; rw [decide_eq_true h1, decide_eq_true h3]; rfl)
      go_enter Try.func66, Try.ntmps66
      go_wp2_with fail
      go_ret
      exact ⟨by rw [HL.out]; rfl, rfl⟩
    · have q2 : decide ((k : Int) ≤ 3) = false := decide_eq_false (by omega)
      have HL := Lib.hid (show litK k = false from by unfold litK; rw [decide_eq_false h3, Bool.and_false])
      go_enter Try.func66, Try.ntmps66
      go_wp2_with fail
      go_ret
      exact ⟨by rw [HL.out]; rfl, rfl⟩
  · have q1 : decide ((1 : Int) ≤ (k : Int)) = false := decide_eq_false (by omega)
    have HL := Lib.hid (show litK k = false from by unfold litK; rw [decide_eq_false h1, Bool.false_and])
    go_enter Try.func66, Try.ntmps66
    go_wp2_with fail
    go_ret
    exact ⟨by rw [HL.out]; rfl, rfl⟩
end Go.Proofs.Yteceinojmdgmeaa

