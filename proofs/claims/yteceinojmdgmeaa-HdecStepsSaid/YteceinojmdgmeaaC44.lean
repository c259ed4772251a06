/- DocA · DocB · RefC · RefD · RefE · RefF · RefG · DocC: joined by a program, for a claim has at most 60 files. -/
import Derived.Test.YteceinojmdgmeaaC23
import Derived.Test.YteceinojmdgmeaaC04
import Derived.Test.YteceinojmdgmeaaC03
import Derived.Test.YteceinojmdgmeaaC09
import Derived.Laws.AppendOwnNone
import Derived.Test.YteceinojmdgmeaaC11
import Derived.Test.YteceinojmdgmeaaC33
/- The document's numbers with a prefix (footmanref01): pow, Rest. -/
namespace Go.Proofs.Yteceinojmdgmeaa
open Go.RowKit
set_option linter.unusedVariables false
set_option linter.unusedSimpArgs false

end Go.Proofs.Yteceinojmdgmeaa


/- The document's numbers with a prefix: footmanref01.Put. -/
namespace Go.Proofs.Yteceinojmdgmeaa
open Go.RowKit
set_option linter.unusedVariables false
set_option linter.unusedSimpArgs false

end Go.Proofs.Yteceinojmdgmeaa


/- The document's way to a byte's code, in plain words: all bytes of one length, then those of the next. No program in sight. -/
namespace Go.Proofs.Yteceinojmdgmeaa
set_option linter.unusedVariables false
set_option linter.unusedSimpArgs false

/-- Code, how many bits it has, whether it is the first. -/
abbrev CSt := Nat × Nat × Bool
def cUp (n : Nat) (s : CSt) : CSt := ((if s.2.2 then s.1 else s.1 + 1) * 2 ^ (n - s.2.1), n, false)
def cRow (n : Nat) (s : CSt) : Nat → CSt
  | 0 => s
  | x + 1 => if lenOf x = n then cUp n (cRow n s x) else cRow n s x
/-- Ahead of the row n + 1. -/
def cStart : Nat → CSt
  | 0 => (0, 0, true)
  | n + 1 => cRow (n + 1) (cStart n) 256
def chkRow (n : Nat) : List (Nat × Nat) → CSt → Option CSt
  | [], s => some s
  | (c, l) :: t, s => if l = n then (if (cUp n s).1 = c ∧ s.2.1 ≤ n then chkRow n t (cUp n s) else none) else chkRow n t s
def chkAll (t : List (Nat × Nat)) : Nat → Nat → CSt → Bool
  | 0, _, _ => true
  | f + 1, n, s => match chkRow n t s with
    | none => false
    | some s' => decide (s'.2.1 ≤ n) && chkAll t f (n + 1) s'
set_option maxRecDepth 100000 in
theorem chk_okC : chkAll (codeL.zip lenL) 30 1 (0, 0, true) = true := by decide +kernel
theorem zipAt (x : Nat) (h : x < 256) : (codeL.zip lenL).drop x = (codeOf x, lenOf x) :: (codeL.zip lenL).drop (x + 1) := by
  have h1 : x < codeL.length := by rw [codeL_len]; exact h
  have h2 : x < lenL.length := by rw [lenL_len]; exact h
  have hz : x < (codeL.zip lenL).length := by rw [List.length_zip]; omega
  rw [List.drop_eq_getElem_cons hz, List.getElem_zip]
  simp [codeOf, lenOf, List.getD_eq_getElem?_getD, List.getElem?_eq_getElem h1, List.getElem?_eq_getElem h2]
theorem zipLen : (codeL.zip lenL).length = 256 := by rw [List.length_zip, codeL_len, lenL_len]; rfl
theorem chkRow_at (n : Nat) (s t : CSt) : ∀ (d x : Nat), x + d = 256 → chkRow n ((codeL.zip lenL).drop x) (cRow n s x) = some t →
    t = cRow n s 256 ∧ ∀ y, x ≤ y → y < 256 → lenOf y = n → (cUp n (cRow n s y)).1 = codeOf y ∧ (cRow n s y).2.1 ≤ n
  | 0, x, hx, h => by
    obtain rfl : x = 256 := by omega
    rw [List.drop_of_length_le (by rw [zipLen]; exact Nat.le_refl _)] at h
    exact ⟨(Option.some.inj h).symm, fun y h1 h2 _ => by omega⟩
  | d + 1, x, hx, h => by
    rw [zipAt x (by omega)] at h
    simp only [chkRow] at h
    by_cases hl : lenOf x = n
    · rw [if_pos hl] at h
      split at h
      · rename_i hc
        have e : cRow n s (x + 1) = cUp n (cRow n s x) := by simp only [cRow, if_pos hl]
        rw [← e] at h
        obtain ⟨h1, h2⟩ := chkRow_at n s t d (x + 1) (by omega) h
        refine ⟨h1, fun y hy1 hy2 hy3 => ?_⟩
        by_cases e2 : y = x
        · subst e2; exact hc
        · exact h2 y (by omega) hy2 hy3
      · cases h
    · rw [if_neg hl] at h
      have e : cRow n s (x + 1) = cRow n s x := by simp only [cRow, if_neg hl]
      rw [← e] at h
      obtain ⟨h1, h2⟩ := chkRow_at n s t d (x + 1) (by omega) h
      refine ⟨h1, fun y hy1 hy2 hy3 => ?_⟩
      by_cases e2 : y = x
      · subst e2; exact absurd hy3 hl
      · exact h2 y (by omega) hy2 hy3
theorem chkAll_at : ∀ (f n : Nat), chkAll (codeL.zip lenL) f (n + 1) (cStart n) = true → ∀ m, n ≤ m → m < n + f →
    (∀ y, y < 256 → lenOf y = m + 1 → (cUp (m + 1) (cRow (m + 1) (cStart m) y)).1 = codeOf y ∧ (cRow (m + 1) (cStart m) y).2.1 ≤ m + 1)
  | 0, n, _, m, h1, h2 => by omega
  | f + 1, n, h, m, h1, h2 => by
    simp only [chkAll] at h
    cases hr : chkRow (n + 1) (codeL.zip lenL) (cStart n) with
    | none => rw [hr] at h; cases h
    | some t =>
      rw [hr] at h
      simp only [Bool.and_eq_true, decide_eq_true_eq] at h
      obtain ⟨e, h3⟩ := chkRow_at (n + 1) (cStart n) t 256 0 rfl hr
      by_cases e2 : m = n
      · subst e2
        exact fun y hy1 hy2 => h3 y (Nat.zero_le _) hy1 hy2
      · have e4 : cStart (n + 1) = t := e.symm
        rw [← e4] at h
        exact chkAll_at f (n + 1) h.2 m (by omega) (by omega)
/-- The state when the byte x is looked at for the length n. -/
def cAt (n x : Nat) : CSt := cRow n (cStart (n - 1)) x
theorem cAt_code (n x : Nat) (h1 : 1 ≤ n) (h2 : n ≤ 30) (hx : x < 256) (hl : lenOf x = n) : (cUp n (cAt n x)).1 = codeOf x ∧ (cAt n x).2.1 ≤ n := by
  obtain ⟨m, rfl⟩ : ∃ m, n = m + 1 := ⟨n - 1, by omega⟩
  exact chkAll_at 30 0 chk_okC m (Nat.zero_le _) (by omega) x hx hl
theorem cAt_zero : cAt 1 0 = (0, 0, true) := rfl
theorem cAt_next (n : Nat) (h : 1 ≤ n) : cAt n 256 = cAt (n + 1) 0 := by
  obtain ⟨m, rfl⟩ : ∃ m, n = m + 1 := ⟨n - 1, by omega⟩
  rfl
theorem cAt_up (n x : Nat) (h : lenOf x = n) : cAt n (x + 1) = cUp n (cAt n x) := by simp only [cAt, cRow, if_pos h]
theorem cAt_skip (n x : Nat) (h : ¬ lenOf x = n) : cAt n (x + 1) = cAt n x := by simp only [cAt, cRow, if_neg h]
end Go.Proofs.Yteceinojmdgmeaa


/- What the document's Code returns: the same code and the same length. -/
namespace Go.Proofs.Yteceinojmdgmeaa
open Go.RowKit
set_option linter.unusedVariables false
set_option linter.unusedSimpArgs false

theorem code_lt30 (c : Nat) (h : c < 256) : codeOf c < 1073741824 := by
  have h1 := code_lt c h
  have h2 := (len_range c h).2
  have h3 : 2 ^ lenOf c ≤ 2 ^ 30 := Nat.pow_le_pow_right (by decide) h2
  have h4 : (2 : Nat) ^ 30 = 1073741824 := by decide
  omega
theorem up_le {C A k j : Nat} (h : A + j ≤ k) : C * 2 ^ j ≤ C * 2 ^ (k - A) := Nat.mul_le_mul_left _ (Nat.pow_le_pow_right (by decide) (by omega))

end Go.Proofs.Yteceinojmdgmeaa


/- The document's bits of a code, and of a text. -/
namespace Go.Proofs.Yteceinojmdgmeaa
open Go.RowKit
set_option linter.unusedVariables false
set_option linter.unusedSimpArgs false

theorem bitsN_head : ∀ (j v : Nat), bitsN (j + 1) v = (v / 2 ^ j % 2) :: bitsN j v
  | 0, v => by simp [bitsN]
  | j + 1, v => by
    have h := bitsN_head j (v / 2)
    have e : v / 2 / 2 ^ j = v / 2 ^ (j + 1) := by rw [Nat.div_div_eq_div_mul, Nat.pow_succ, Nat.mul_comm]
    rw [bitsN, h, e]
    rfl
theorem lit_bits {C D B : Nat} {W : World} (h : bitsN (0 + 1) C = (D % 2) :: bitsN 0 C) (hb : B ≤ W.heap.size) :
    OwnB (W.alloc (.cells #[Value.int .u8 ((D : Int) % 2)] 5)) B (.slice (some ⟨W.heap.size, 0, none⟩) 1 1) (bitsN 1 C) := by
  rw [show bitsN 1 C = [D % 2] from h]
  exact World.ownsRow.mono (World.ownsRow_lit W #[Value.int .u8 ((D : Int) % 2)] 1 (Nat.le_refl _) (by decide) rfl) hb
theorem bits_more {C D B j : Nat} {W : World} {v : Value} (h : bitsN (j + 1) C = (D % 2) :: bitsN j C)
    (ho : W.ownsRow B 5 1 v (1 + j) ([Value.int .u8 ((D : Int) % 2)] ++ (bitsN j C).map (fun n : Nat => Value.int .u8 (n : Int)))) : OwnB W B v (bitsN (j + 1) C) := by
  have e : (bitsN (j + 1) C).length = 1 + j := by rw [bitsN_len]; omega
  unfold OwnB
  rw [e, h]
  exact ho
def BitsPost (l : List Nat) (w : World) (e : Ending) (w' : World) : Prop := ∃ v, e = .returned v ∧ OwnB w' w.heap.size v l ∧ Below w.heap.size w w'
end Go.Proofs.Yteceinojmdgmeaa


/- The document's bits of a text, with ones behind. -/
namespace Go.Proofs.Yteceinojmdgmeaa
open Go.RowKit
set_option linter.unusedVariables false
set_option linter.unusedSimpArgs false

theorem ownB_appR {W : World} {B : Nat} {v : Value} {l r : List Nat} {n m : Nat} (hn : l.length = n) (hm : r.length = m)
    (h : W.ownsRow B 5 1 v (n + m) (l.map (fun n : Nat => Value.int .u8 (n : Int)) ++ r.map (fun n : Nat => Value.int .u8 (n : Int)))) : OwnB W B v (l ++ r) := by
  unfold OwnB
  rw [List.length_append, hn, hm, List.map_append]
  exact h
def sliceLenV : Value → Nat
  | .slice _ n _ => n
  | _ => 0
theorem one_cells (l : List Nat) : ∀ u ∈ l.map (fun n : Nat => Value.int .u8 (n : Int)), u.oneCell' = true := by
  intro u hu
  obtain ⟨n, _, rfl⟩ := List.mem_map.1 hu
  rfl
end Go.Proofs.Yteceinojmdgmeaa


/- The document's Encode: the same bytes. -/
namespace Go.Proofs.Yteceinojmdgmeaa
open Go.RowKit
set_option linter.unusedVariables false
set_option linter.unusedSimpArgs false

theorem valB_take (L : List Nat) (q k : Nat) (h : 8 * q + k < L.length) : valB ((L.drop (8 * q)).take (k + 1)) = 2 * valB ((L.drop (8 * q)).take k) + L.getD (8 * q + k) 0 := by
  have hk : k < (L.drop (8 * q)).length := by rw [List.length_drop]; omega
  rw [List.take_succ_eq_append_getElem hk, valB_snoc, List.getElem_drop, List.getD_eq_getElem?_getD, List.getElem?_eq_getElem h]
  rfl
theorem isBits_get {L : List Nat} (h : isBits L) (i : Nat) : L.getD i 0 < 2 := by
  by_cases hi : i < L.length
  · rw [List.getD_eq_getElem?_getD, List.getElem?_eq_getElem hi]; exact h _ (List.getElem_mem hi)
  · rw [List.getD_eq_getElem?_getD, List.getElem?_eq_none (by omega)]; decide
theorem isBits_part {L : List Nat} (h : isBits L) (q k : Nat) : isBits ((L.drop q).take k) := fun b hb => h b (List.mem_of_mem_drop (List.mem_of_mem_take hb))
def encS (s : ByteArray) : ByteArray := ⟨(encU s.data.toList).toArray⟩
/-- A value that is the text A once converted, in every world that keeps what is there. -/
def Conv (v : Value) (A : ByteArray) (w : World) : Prop := ∀ W, Below w.heap.size w W → (convert 23 9 v).run Try.prog W = .ok (.string A) W
def ConvPost (A : ByteArray) (w : World) (e : Ending) (w' : World) : Prop := ∃ v, e = .returned v ∧ Conv v A w' ∧ Below w.heap.size w w'
theorem conv_of {s : ByteArray} {w : World} {B : Nat} {v : Value} (h : OwnB w B v (encL s.data.toList)) : Conv v (encS s) w := fun W hb =>
  text_own W B v (encU s.data.toList) (OwnB.step (ownB_to h (encU_nat _).symm) (fun k _ hl => hb.block k hl))
theorem encode_conv (s : ByteArray) (hs : s.size ≤ 1000) (w : World) : Calls Try.prog 78 #[.string s] w (ConvPost (encS s) w) := by
  refine (encode_any s (by omega) w).mono ?_
  rintro e w' ⟨v, rfl, hO, hB⟩
  exact ⟨v, rfl, conv_of hO, hB⟩
structure Far (B : Nat) (w W : World) : Prop where
  below : Below B w W
  base : B ≤ W.heap.size
theorem Far.step {B : Nat} {w W W' : World} (hb : Below W.heap.size W W') (h : Far B w W) : Far B w W' := ⟨h.below.trans (hb.mono h.base), Nat.le_trans h.base hb.size⟩
theorem Far.drew {B : Nat} {w W : World} (h : Far B w W) : Far B w W.drew := ⟨h.below.drew, h.base⟩
end Go.Proofs.Yteceinojmdgmeaa


/- The document's texts: footmanref05.Text. -/
namespace Go.Proofs.Yteceinojmdgmeaa
open Go.RowKit
set_option linter.unusedVariables false
set_option linter.unusedSimpArgs false

theorem putN_len_fg (f g k n : Nat) : (putN f k n).length = (putN g k n).length := by unfold putN; split <;> simp
end Go.Proofs.Yteceinojmdgmeaa

