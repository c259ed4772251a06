/- Plain functions and laws on lists of bytes: what a number's digits, and the text ahead of a byte, come to. No program in sight. -/
namespace Go.Proofs.YtecmccihldjicaaDoor

/-- Is a byte a digit? -/
def digB (c : UInt8) : Bool := decide (48 ≤ c.toNat ∧ c.toNat ≤ 57)
/-- The number that digits tell. -/
def numVal (l : List UInt8) : Nat := l.foldl (fun n c => n * 10 + (c.toNat - 48)) 0
/-- Is a text a right number: one to nine digits, with no nought ahead of others? -/
def numOk (l : List UInt8) : Bool := !l.isEmpty && decide (l.length ≤ 9) && !(decide (1 < l.length) && l.head? == some 48) && l.all digB
/-- The number, or nought where the text is none. -/
def numI (l : List UInt8) : Int := if numOk l then (numVal l : Int) else 0

/-- Induction on a list from its end. -/
theorem snocInd {α : Type} {P : List α → Prop} (h0 : P []) (h1 : ∀ l a, P l → P (l ++ [a])) (l : List α) : P l := by
  have h : ∀ r : List α, P r.reverse := by
    intro r
    induction r with
    | nil => exact h0
    | cons a r ih => rw [List.reverse_cons]; exact h1 _ _ ih
  simpa using h l.reverse

theorem numVal_snoc (l : List UInt8) (c : UInt8) : numVal (l ++ [c]) = numVal l * 10 + (c.toNat - 48) := by simp [numVal]
theorem numVal_lt (l : List UInt8) : l.all digB = true → numVal l < 10 ^ l.length := by
  refine snocInd (P := fun l => l.all digB = true → numVal l < 10 ^ l.length) (by simp [numVal]) ?_ l
  intro l c ih h
  · 
    simp only [List.all_append, Bool.and_eq_true, List.all_cons, List.all_nil, Bool.and_true] at h
    have h1 := ih h.1
    have h2 : 48 ≤ c.toNat ∧ c.toNat ≤ 57 := by simpa [digB] using h.2
    rw [numVal_snoc, List.length_append, List.length_singleton, Nat.pow_succ]
    omega
theorem pow_le9 (n : Nat) (h : n ≤ 9) : 10 ^ n ≤ 1000000000 := by
  have : 10 ^ n ≤ 10 ^ 9 := Nat.pow_le_pow_right (by omega) h
  simpa using this
theorem numVal_lt9 (l : List UInt8) (h : l.all digB = true) (h9 : l.length ≤ 9) : numVal l < 1000000000 :=
  Nat.lt_of_lt_of_le (numVal_lt l h) (pow_le9 _ h9)
theorem numI_range (l : List UInt8) : 0 ≤ numI l ∧ numI l < 1000000000 := by
  unfold numI
  split
  · rename_i h
    simp only [numOk, Bool.and_eq_true, decide_eq_true_eq] at h
    have := numVal_lt9 l h.2 h.1.1.2
    omega
  · omega

theorem take_snoc (l : List UInt8) (k : Nat) (h : k < l.length) : l.take (k + 1) = l.take k ++ [l[k]] :=
  List.take_succ_eq_append_getElem h

end Go.Proofs.YtecmccihldjicaaDoor
