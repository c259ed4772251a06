/- Texts cut, split and joined, in plain words: lists of bytes. -/
import Derived.Test.YtbpcknjobbjmpaaDoorQryX
namespace Go.Proofs.YtbpcknjobbjmpaaDoor
open Go.RowKit
set_option linter.unusedVariables false
set_option linter.unusedSimpArgs false

def cutL (c : UInt8) : List UInt8 → List UInt8 × List UInt8 × Bool
  | [] => ([], [], false)
  | b :: l => if b = c then ([], l, true) else (b :: (cutL c l).1, (cutL c l).2.1, (cutL c l).2.2)
def splL (c : UInt8) : List UInt8 → List (List UInt8)
  | [] => [[]]
  | b :: l => if b = c then [] :: splL c l else (match splL c l with | [] => [[b]] | x :: r => (b :: x) :: r)
def joinL (c : UInt8) : List (List UInt8) → List UInt8
  | [] => []
  | [x] => x
  | x :: y :: r => x ++ c :: joinL c (y :: r)
theorem cutL_cons (c b : UInt8) (l : List UInt8) : cutL c (b :: l) = if b = c then ([], l, true) else (b :: (cutL c l).1, (cutL c l).2.1, (cutL c l).2.2) := rfl
theorem splL_cons (c b : UInt8) (l : List UInt8) : splL c (b :: l) = if b = c then [] :: splL c l else (match splL c l with | [] => [[b]] | x :: r => (b :: x) :: r) := rfl
theorem splL_ne (c : UInt8) : ∀ l, splL c l ≠ []
  | [] => by simp [splL]
  | b :: l => by
    unfold splL
    split
    · simp
    · split <;> simp
theorem cutL_hit (c : UInt8) : ∀ l, (cutL c l).2.2 = true → splL c l = (cutL c l).1 :: splL c (cutL c l).2.1
  | [], h => by simp [cutL] at h
  | b :: l, h => by
    rw [cutL_cons] at h ⊢
    rw [splL_cons]
    by_cases e : b = c
    · rw [if_pos e, if_pos e]
    · rw [if_neg e] at h ⊢
      rw [if_neg e]
      simp only at h ⊢
      rw [cutL_hit c l h]
theorem cutL_miss (c : UInt8) : ∀ l, (cutL c l).2.2 = false → splL c l = [l] ∧ (cutL c l).1 = l ∧ (cutL c l).2.1 = []
  | [], h => ⟨rfl, rfl, rfl⟩
  | b :: l, h => by
    unfold cutL at h ⊢
    unfold splL
    by_cases e : b = c
    · rw [if_pos e] at h; cases h
    · rw [if_neg e] at h ⊢
      rw [if_neg e]
      simp only at h ⊢
      obtain ⟨h1, h2, h3⟩ := cutL_miss c l h
      rw [h1, h2, h3]
      exact ⟨rfl, rfl, rfl⟩
theorem cutL_no (c : UInt8) : ∀ l, c ∉ (cutL c l).1
  | [] => by simp [cutL]
  | b :: l => by
    unfold cutL
    by_cases e : b = c
    · rw [if_pos e]; simp
    · rw [if_neg e]
      simp only [List.mem_cons, not_or]
      exact ⟨fun h => e h.symm, cutL_no c l⟩
theorem cutL_app (c : UInt8) (b : List UInt8) : ∀ a, c ∉ a → cutL c (a ++ c :: b) = (a, b, true)
  | [], _ => by simp [cutL]
  | x :: a, h => by
    simp only [List.mem_cons, not_or] at h
    rw [List.cons_append]
    unfold cutL
    rw [if_neg (fun e => h.1 e.symm), cutL_app c b a h.2]
theorem cutL_none (c : UInt8) : ∀ a, c ∉ a → cutL c a = (a, [], false)
  | [], _ => rfl
  | x :: a, h => by
    simp only [List.mem_cons, not_or] at h
    unfold cutL
    rw [if_neg (fun e => h.1 e.symm), cutL_none c a h.2]
theorem cutL_mem (c : UInt8) : ∀ l x, x ∈ (cutL c l).1 → x ∈ l
  | [], x, h => by simp [cutL] at h
  | b :: l, x, h => by
    unfold cutL at h
    by_cases e : b = c
    · rw [if_pos e] at h; simp at h
    · rw [if_neg e] at h
      rcases List.mem_cons.1 h with h | h
      · exact List.mem_cons.2 (.inl h)
      · exact List.mem_cons.2 (.inr (cutL_mem c l x h))
theorem cutL_len (c : UInt8) : ∀ l, (cutL c l).2.2 = true → (cutL c l).2.1.length < l.length
  | [], h => by simp [cutL] at h
  | b :: l, h => by
    unfold cutL at h ⊢
    by_cases e : b = c
    · rw [if_pos e]; simp
    · rw [if_neg e] at h ⊢
      have := cutL_len c l h
      simp only [List.length_cons]
      omega
theorem index_cut (c : UInt8) : ∀ l : List UInt8, ((cutL c l).2.2 = false → Lib.index l [c] = -1) ∧ ((cutL c l).2.2 = true → Lib.index l [c] = ((cutL c l).1.length : Int) ∧ (cutL c l).1 = l.take (cutL c l).1.length ∧ (cutL c l).2.1 = l.drop ((cutL c l).1.length + 1))
  | [] => ⟨fun _ => rfl, fun h => by simp [cutL] at h⟩
  | b :: l => by
    obtain ⟨h1, h2⟩ := index_cut c l
    have hp : [c].isPrefixOf (b :: l) = (c == b) := by simp [List.isPrefixOf]
    unfold cutL Lib.index
    rw [hp]
    by_cases e : b = c
    · subst e
      simp
    · have e' : (c == b) = false := beq_eq_false_iff_ne.2 (fun h => e h.symm)
      rw [if_neg e, e']
      simp only
      constructor
      · intro h
        rw [h1 h]
        rfl
      · intro h
        obtain ⟨a1, a2, a3⟩ := h2 h
        have hne : (Lib.index l [c] == -1) = false := beq_eq_false_iff_ne.2 (by omega)
        rw [hne, a1]
        refine ⟨by simp, ?_, ?_⟩
        · rw [List.length_cons, List.take_succ_cons, ← a2]
        · rw [List.length_cons, List.drop_succ_cons]; exact a3
theorem cut_eq (c : UInt8) (l : List UInt8) : Lib.cut l [c] = cutL c l := by
  obtain ⟨h1, h2⟩ := index_cut c l
  unfold Lib.cut
  cases h : (cutL c l).2.2 with
  | false =>
    rw [h1 h, if_neg (by omega)]
    obtain ⟨_, b1, b2⟩ := cutL_miss c l h
    exact Prod.ext b1.symm (Prod.ext b2.symm h.symm)
  | true =>
    obtain ⟨a1, a2, a3⟩ := h2 h
    rw [if_pos (by omega), a1, Int.toNat_natCast]
    exact Prod.ext a2.symm (Prod.ext a3.symm h.symm)
theorem dl_ext (l : List UInt8) (s : ByteArray) (k : Nat) (h : l = s.data.toList) : (s.extract k s.size).data.toList = l.drop k := by rw [Lib.extract_to_end, h]
/-- The library's pieces are the plain ones. -/
theorem parts_eq (c : UInt8) : ∀ (n : Nat) (s : ByteArray), s.size ≤ n → (partsS s c).map (·.data.toList) = splL c s.data.toList := by
  intro n
  induction n with
  | zero =>
    intro s hs
    have hn : s.data.toList = [] := List.eq_nil_of_length_eq_zero (by rw [← sz]; omega)
    have hi : Lib.indexB s ⟨#[c]⟩ = -1 := by
      show Lib.index s.data.toList [c] = -1
      rw [hn]; rfl
    unfold partsS
    rw [Lib.countB_miss s _ hi, Lib.splitB_zero, hn]
    simp [hn, splL]
  | succ n ih =>
    intro s hs
    obtain ⟨h1, h2⟩ := index_cut c s.data.toList
    cases h : (cutL c s.data.toList).2.2 with
    | false =>
      have hi : Lib.indexB s ⟨#[c]⟩ = -1 := h1 h
      unfold partsS
      rw [Lib.countB_miss s _ hi, Lib.splitB_zero, (cutL_miss c _ h).1]
      rfl
    | true =>
      obtain ⟨a1, a2, a3⟩ := h2 h
      have hi : Lib.indexB s ⟨#[c]⟩ = ((cutL c s.data.toList).1.length : Int) := a1
      have hlen := cutL_len c _ h
      have h1s : (ByteArray.mk #[c]).size = 1 := rfl
      have hsz : (s.extract ((cutL c s.data.toList).1.length + 1) s.size).size ≤ n := by
        rw [sz, Lib.extract_to_end, ← a3]
        rw [← sz] at hlen
        omega
      have := ih _ hsz
      unfold partsS at this ⊢
      rw [Lib.countB_hit s ⟨#[c]⟩ _ (Nat.le_refl 1) hi, Nat.add_comm 1, Lib.splitB_hit _ _ _ _ _ hi, List.map_cons, h1s, this, Lib.extract_to_end, ← a3, cutL_hit c _ h]
      congr 1
      rw [Nat.add_zero, Lib.extract_from_zero]
      exact a2.symm
#print axioms parts_eq
end Go.Proofs.YtbpcknjobbjmpaaDoor
