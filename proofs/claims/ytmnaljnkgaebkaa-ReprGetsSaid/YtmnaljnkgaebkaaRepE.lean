/- repr.GetText. -/
import Derived.Test.YtmnaljnkgaebkaaRepA
import Derived.Test.YtmnaljnkgaebkaaDecS
namespace Go.Proofs.Ytmnaljnkgaebkaa
open Go.RowKit
set_option linter.unusedVariables false
set_option linter.unusedSimpArgs false

def bsB (bs : List Nat) : ByteArray := ⟨(bs.map UInt8.ofNat).toArray⟩
theorem conv_bytes (W : World) (oa : Option Addr) (n cap : Nat) (bs : List Nat) (hn : bs.length = n) (h : BytesN W oa bs) (hb : ∀ i, i < bs.length → bs.getD i 0 < 256) :
    (convert 28 9 (.slice oa n cap)).run Try.prog W = .ok (.string (bsB bs)) W := by
  subst hn
  cases oa with
  | none =>
    have : bs = [] := by
      cases bs with
      | nil => rfl
      | cons x l => obtain ⟨a, ha, _⟩ := h 0 (by simp); cases ha
    subst this
    rw [run_convert_bytes_string W _ _ 5 none _ _ Try.underlying28 Try.underlying5 Try.underlying9]
    rfl
  | some a =>
    have hl : (bs.map UInt8.ofNat).length = bs.length := by simp
    rw [← hl]
    refine run_convert_bytes_back W _ _ 5 a cap (bs.map UInt8.ofNat) Try.underlying28 Try.underlying5 Try.underlying9 (fun j hj => ?_)
    rw [hl] at hj
    obtain ⟨a', ha, hc⟩ := h j hj
    obtain rfl := Option.some.inj ha
    have h2 := hb j hj
    rw [hc]
    rw [List.getD_eq_getElem?_getD, List.getElem?_eq_getElem hj, Option.getD_some] at h2
    simp [List.getD_eq_getElem?_getD, List.getElem?_eq_getElem hj]
    omega
theorem getGo_ok (bs : List Nat) : ∀ j i n, (getGo bs j i n).2.2 = 0 → i + 2 ≤ (getGo bs j i n).2.1 ∧ (getGo bs j i n).2.1 ≤ bs.length ∧ (getGo bs j i n).1 ≤ 268435455
  | 0, i, n, h => by simp [getGo] at h
  | j + 1, i, n, h => by
    unfold getGo at h ⊢
    cases hc : bs[i + 1]? with
    | none => rw [hc] at h; simp at h
    | some c =>
      rw [hc] at h
      have hl : i + 1 < bs.length := (List.getElem?_eq_some_iff.1 hc).1
      simp only at h ⊢
      split at h
      · rename_i h1
        rw [if_pos h1]
        have := getGo_ok bs j (i + 1) _ h
        omega
      · rename_i h1
        rw [if_neg h1]
        split at h
        · simp at h
        · rename_i h2
          rw [if_neg h2]
          simp only
          omega
theorem getN_ok (bs : List Nat) (k : Nat) (hk : K4 k) (h : (getN bs k).2.2 = 0) : 1 ≤ (getN bs k).2.1 ∧ (getN bs k).2.1 ≤ bs.length ∧ (getN bs k).1 ≤ 268435455 := by
  cases bs with
  | nil => simp [getN] at h
  | cons b l =>
    have hm : 2 ^ k ≤ 128 := by rcases hk with rfl | rfl | rfl | rfl <;> decide
    unfold getN at h ⊢
    simp only at h ⊢
    split at h
    · rename_i h1
      rw [if_pos h1]
      simp only [List.length_cons]
      omega
    · rename_i h1
      rw [if_neg h1]
      have := getGo_ok (b :: l) 5 0 _ h
      omega
/-- A text got from bytes: it, how many bytes it has, the error. -/
def textG (bs : List Nat) : ByteArray × Nat × Nat :=
  if (getN bs 7).2.2 ≠ 0 then (ByteArray.empty, 0, (getN bs 7).2.2)
  else if 4096 < (getN bs 7).1 then (ByteArray.empty, 0, 5)
  else if bs.length < (getN bs 7).2.1 + (getN bs 7).1 then (ByteArray.empty, 0, 3)
  else if bs.getD 0 0 < 128 then (bsB ((bs.drop (getN bs 7).2.1).take (getN bs 7).1), (getN bs 7).2.1 + (getN bs 7).1, 0)
  else match decL ((bs.drop (getN bs 7).2.1).take (getN bs 7).1) with
    | none => (ByteArray.empty, 0, 4)
    | some l => (⟨l.toArray⟩, (getN bs 7).2.1 + (getN bs 7).1, 0)
def TextGPost (bs : List Nat) (w : World) (e : Ending) (w' : World) : Prop := e = .returned (.tuple #[.string (textG bs).1, .int .i64 ((textG bs).2.1 : Nat), .int .i64 ((textG bs).2.2 : Nat)]) ∧ Below w.heap.size w w'
theorem BytesN.part {W : World} {b o : Nat} {bs : List Nat} (h : BytesN W (some ⟨b, o, none⟩) bs) (i n : Nat) : BytesN W (some ⟨b, o + i, none⟩) ((bs.drop i).take n) := by
  intro j hj
  rw [List.length_take, List.length_drop] at hj
  obtain ⟨b', o', e, hc⟩ := h.at (i := i + j) (by omega)
  obtain ⟨rfl, rfl, _⟩ := Addr.mk.inj (Option.some.inj e)
  refine ⟨_, rfl, ?_⟩
  rw [Addr.add_lit, Nat.add_assoc, hc]
  simp only [List.getD_eq_getElem?_getD]
  rw [List.getElem?_take_of_lt (by omega), List.getElem?_drop]
theorem u8_and128 (c : Nat) (hc : c < 256) : bits BinOp.and IntKind.u8 (c : Int) 128 = if c < 128 then 0 else 128 := by
  have h : ∀ c, c < 256 → c &&& 128 = if c < 128 then 0 else 128 := by decide +kernel
  have h1 := u8_and_nat c 128 hc (by decide)
  rw [h c hc] at h1
  rw [show (128 : Int) = ((128 : Nat) : Int) from rfl, h1]
  split <;> rfl
#print axioms BytesN.part
end Go.Proofs.Ytmnaljnkgaebkaa
