/- The document's way to decode, as a plain law: greedy reading and encoding again tell what the tree tells. No program in sight. -/
import Derived.Test.YtmnaljnkgaebkaaDecR
namespace Go.Proofs.Ytmnaljnkgaebkaa
set_option linter.unusedVariables false
set_option linter.unusedSimpArgs false

/-- Each way down the tree spells the code of the byte where it ends. -/
def dfs : Nat → Nat → List Nat → Bool
  | 0, _, _ => false
  | n + 1, a, path =>
    (let V := treeL.getD (a * 2 + 0) 0; if V = 0 then true else if V < 0 then decide (path ++ [0] = codeBits (-1 - V).toNat ∧ (-1 - V).toNat < 256) else dfs n V.toNat (path ++ [0])) &&
    (let V := treeL.getD (a * 2 + 1) 0; if V = 0 then true else if V < 0 then decide (path ++ [1] = codeBits (-1 - V).toNat ∧ (-1 - V).toNat < 256) else dfs n V.toNat (path ++ [1]))
set_option maxRecDepth 100000 in
theorem dfs_ok : dfs 31 0 [] = true := by decide +kernel
def allOnes (l : List Nat) : Bool := l.all (· == 1)
/-- Some byte's code begins l. -/
def HasCode (l : List Nat) : Prop := ∃ c n, c < 256 ∧ n ≤ l.length ∧ l.take n = codeBits c
theorem dfs_branch {n a b : Nat} {path : List Nat} (hb : b < 2) (h : dfs (n + 1) a path = true) :
    treeL.getD (a * 2 + b) 0 = 0 ∨ (treeL.getD (a * 2 + b) 0 < 0 ∧ path ++ [b] = codeBits (-1 - treeL.getD (a * 2 + b) 0).toNat ∧ (-1 - treeL.getD (a * 2 + b) 0).toNat < 256) ∨ (0 < treeL.getD (a * 2 + b) 0 ∧ dfs n (treeL.getD (a * 2 + b) 0).toNat (path ++ [b]) = true) := by
  simp only [dfs, Bool.and_eq_true] at h
  have hb' : b = 0 ∨ b = 1 := by omega
  rcases hb' with rfl | rfl
  · have h1 := h.1
    generalize treeL.getD (a * 2 + 0) 0 = V at h1
    split at h1
    · left; assumption
    · split at h1
      · right; left; rename_i hv; simp only [decide_eq_true_eq] at h1; exact ⟨hv, h1⟩
      · right; right; exact ⟨by omega, h1⟩
  · have h1 := h.2
    generalize treeL.getD (a * 2 + 1) 0 = V at h1
    split at h1
    · left; assumption
    · split at h1
      · right; left; rename_i hv; simp only [decide_eq_true_eq] at h1; exact ⟨hv, h1⟩
      · right; right; exact ⟨by omega, h1⟩
theorem dfs_run : ∀ (l : List Nat) (n a o : Nat) (f : Bool) (path : List Nat), isBits l → dfs n a path = true →
    dRun (a, o, f, []) l = none ∨ (∃ a', dRun (a, o, f, []) l = some (a', o + l.length, f && allOnes l, [])) ∨ (∃ c m, c < 256 ∧ m ≤ l.length ∧ path ++ l.take m = codeBits c)
  | [], n, a, o, f, path, _, _ => .inr (.inl ⟨a, by simp [dRun, allOnes]⟩)
  | b :: l, 0, a, o, f, path, _, h => by simp [dfs] at h
  | b :: l, n + 1, a, o, f, path, hb, h => by
    have hb2 : b < 2 := hb b List.mem_cons_self
    have hbl : isBits l := fun x hx => hb x (List.mem_cons_of_mem _ hx)
    have hs : dStep (a, o, f, []) b = if treeL.getD (a * 2 + b) 0 = 0 then none else if treeL.getD (a * 2 + b) 0 < 0 then some (0, 0, true, [] ++ [UInt8.ofNat (-1 - treeL.getD (a * 2 + b) 0).toNat]) else some ((treeL.getD (a * 2 + b) 0).toNat, o + 1, f && (b == 1), []) := rfl
    simp only [dRun]
    rcases dfs_branch hb2 h with hv | ⟨hv, hp, hc⟩ | ⟨hv, hd⟩
    · left; rw [hs, if_pos hv]; rfl
    · right; right
      exact ⟨_, 1, hc, by simp, by simpa using hp⟩
    · rw [hs, if_neg (by omega), if_neg (by omega)]
      simp only [Option.bind_some]
      rcases dfs_run l n _ (o + 1) (f && (b == 1)) (path ++ [b]) hbl hd with h1 | ⟨a', h1⟩ | ⟨c, m, h1, h2, h3⟩
      · left; exact h1
      · right; left
        refine ⟨a', ?_⟩
        rw [h1]
        simp only [allOnes, List.all_cons, List.length_cons, Bool.and_assoc]
        rw [show o + 1 + l.length = o + (l.length + 1) from by omega]
      · right; right
        exact ⟨c, m + 1, h1, by simp; omega, by rw [← h3]; simp⟩
theorem ones_of : ∀ l : List Nat, allOnes l = true → l = List.replicate l.length 1
  | [], _ => rfl
  | b :: l, h => by
    simp only [allOnes, List.all_cons, Bool.and_eq_true, beq_iff_eq] at h
    have := ones_of l h.2
    rw [List.length_cons, List.replicate_succ, ← this, h.1]
theorem bitsN_valB8 (x : Nat) (h : x < 256) : valB (bitsN 8 x) = x := valB_bitsN 8 x (by simpa using h)
theorem pack_bytes : ∀ bs : List Nat, (∀ x ∈ bs, x < 256) → packN bs.length (bytesBits bs) = bs
  | [], _ => rfl
  | x :: bs, h => by
    have h8 : (bitsN 8 x).length = 8 := bitsN_len _ _
    rw [bytesBits_cons, List.length_cons, packN, List.take_append_of_le_length (by omega), List.drop_append_of_le_length (by omega), List.take_of_length_le (by omega), List.drop_of_length_le (by omega), List.nil_append, bitsN_valB8 x (h x List.mem_cons_self), pack_bytes bs (fun y hy => h y (List.mem_cons_of_mem _ hy))]
/-- What the greedy reading tells. -/
theorem greedy_law (bs : List Nat) (T : List UInt8) (r : List Nat) (hbs : ∀ x ∈ bs, x < 256) (hL : bytesBits bs = textBits T ++ r) (hr : isBits r) (hno : ¬ HasCode r) :
    decL bs = if encL T = bs then some T else none := by
  by_cases he : encL T = bs
  · rw [if_pos he, ← he]
    exact dec_enc T
  · rw [if_neg he]
    unfold decL
    rw [hL, dRun_append]
    have h1 := reads_text T []
    unfold d0
    rw [h1]
    simp only [Option.bind_some, List.nil_append]
    rw [dRun_out r 0 0 true T]
    rcases dfs_run r 31 0 0 true [] hr dfs_ok with h2 | ⟨a', h2⟩ | ⟨c, m, h3, h4, h5⟩
    · rw [h2]; rfl
    · rw [h2]
      simp only [Option.map_some, Nat.zero_add, Bool.true_and, List.append_nil]
      by_cases h8 : 8 ≤ r.length
      · rw [if_pos (.inl h8)]
      · cases ho : allOnes r with
        | false => simp
        | true =>
          exfalso
          apply he
          have hr1 := ones_of r ho
          have hlen : 8 * bs.length = (textBits T).length + r.length := by rw [← bytesBits_len, hL, List.length_append]
          have e1 : r.length = (8 - (textBits T).length % 8) % 8 := by omega
          have e2 : sizeL T = bs.length := by
            have := textBits_len T
            unfold sizeL
            omega
          unfold encL padL
          rw [← e1, ← hr1, ← hL, e2]
          exact pack_bytes bs hbs
    · exact absurd ⟨c, m, h3, h4, by simpa using h5⟩ hno
end Go.Proofs.Ytmnaljnkgaebkaa
