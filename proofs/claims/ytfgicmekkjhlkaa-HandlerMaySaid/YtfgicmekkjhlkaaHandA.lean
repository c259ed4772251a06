/- Plain laws of the handler's paths: a path ahead of its question mark, and the route that it leads to. No program in sight. -/
import Derived.Test.YtfgicmekkjhlkaaPure
import Derived.Lib.IndexLaws
namespace Go.Proofs.Ytfgicmekkjhlkaa
set_option linter.unusedVariables false
set_option linter.unusedSimpArgs false

/-- A path without what stands from a question mark on. -/
def plainL : List UInt8 → List UInt8
  | [] => []
  | a :: l => if a = 63 then [] else a :: plainL l
def noMark (l : List UInt8) : Bool := l.all (fun c => c != 63)

theorem plain_pos {a : UInt8} (l : List UInt8) (h : ¬ a = 63) : plainL (a :: l) = a :: plainL l := by rw [plainL, if_neg h]
theorem plain_neg {a : UInt8} (l : List UInt8) (h : a = 63) : plainL (a :: l) = [] := by rw [plainL, if_pos h]
theorem noMark_cons {a : UInt8} {l : List UInt8} (h : noMark (a :: l) = true) : ¬ a = 63 ∧ noMark l = true := by simpa [noMark] using h
theorem plain_of_noMark {l : List UInt8} (h : noMark l = true) : plainL l = l := by
  induction l with
  | nil => rfl
  | cons a l ih => rw [plain_pos l (noMark_cons h).1, ih (noMark_cons h).2]
theorem plain_append {l r : List UInt8} (h : noMark l = true) : plainL (l ++ 63 :: r) = l := by
  induction l with
  | nil => rfl
  | cons a l ih => rw [List.cons_append, plain_pos _ (noMark_cons h).1, ih (noMark_cons h).2]
theorem noMark_plain (l : List UInt8) : noMark (plainL l) = true := by
  induction l with
  | nil => rfl
  | cons a l ih =>
    by_cases h : a = 63
    · rw [plain_neg l h]; rfl
    · rw [plain_pos l h]
      unfold noMark at ih ⊢
      simp only [List.all_cons, ih, Bool.and_true]
      simpa using h
theorem plain_plain (l : List UInt8) : plainL (plainL l) = plainL l := plain_of_noMark (noMark_plain l)
theorem plain_mark (l r : List UInt8) : plainL (l ++ 63 :: r) = plainL l := by
  induction l with
  | nil => rfl
  | cons a l ih =>
    by_cases h : a = 63
    · rw [List.cons_append, plain_neg _ h, plain_neg _ h]
    · rw [List.cons_append, plain_pos _ h, plain_pos _ h, ih]

theorem plain_index (l : List UInt8) : (Lib.indexByte l 63 = -1 ∧ plainL l = l) ∨ ∃ k : Nat, Lib.indexByte l 63 = k ∧ k < l.length ∧ plainL l = l.take k := by
  induction l with
  | nil => exact .inl ⟨rfl, rfl⟩
  | cons a l ih =>
    by_cases h : a = 63
    · subst h
      exact .inr ⟨0, rfl, by simp, rfl⟩
    · have hb : (a == 63) = false := by simpa using h
      rw [plain_pos l h]
      simp only [Lib.indexByte, hb]
      rcases ih with ⟨h1, h2⟩ | ⟨k, h1, h2, h3⟩
      · left
        rw [h1, h2]
        exact ⟨rfl, rfl⟩
      · right
        refine ⟨k + 1, ?_, by simp only [List.length_cons]; omega, by rw [h3]; rfl⟩
        rw [h1]
        have : ((k : Int) == -1) = false := by rw [beq_eq_false_iff_ne]; omega
        simp [this]

theorem noMark_take_succ (l : List UInt8) (k : Nat) (h : k < l.length) (h1 : noMark (l.take k) = true) (h2 : ¬ l[k] = 63) : noMark (l.take (k + 1)) = true := by
  rw [take_snoc l k h]
  unfold noMark at h1 ⊢
  rw [List.all_append, h1]
  simp [h2]
theorem plain_take (l : List UInt8) (k : Nat) (h : k < l.length) (h1 : noMark (l.take k) = true) (h2 : l[k] = 63) : plainL l = l.take k := by
  have e : l = l.take k ++ 63 :: l.drop (k + 1) := by
    rw [← h2, ← List.drop_eq_getElem_cons h, List.take_append_drop]
  exact (congrArg plainL e).trans (plain_append h1)

/-- The five rows of the table: cost, status, size, path. -/
def rC : Nat → Int | 0 => 1 | 1 => 12 | 2 => 3 | 3 => 2 | _ => 1
def rS : Nat → Int | 0 => 200 | 1 => 200 | 2 => 200 | 3 => 500 | _ => 204
def rL : Nat → Int | 0 => 5 | 1 => 20 | 2 => 3000 | 3 => 0 | _ => 0
def rP : Nat → List UInt8 | 0 => [47] | 1 => [47, 115, 108, 111, 119] | 2 => [47, 98, 105, 103] | 3 => [47, 102, 97, 105, 108] | _ => [47, 101, 109, 112, 116, 121]
def workP : List UInt8 := [47, 119, 111, 114, 107, 47]

/-- Does a path ask for work, and for how much? -/
def workOk (p : List UInt8) : Bool := workP.isPrefixOf p && numOk (p.drop 6) && decide (1 ≤ numVal (p.drop 6)) && decide (numVal (p.drop 6) ≤ 1000)
/-- What a path without a mark leads to: cost, status, size. -/
def routeOf (p : List UInt8) : Int × Int × Int :=
  if p = rP 0 then (rC 0, rS 0, rL 0) else if p = rP 1 then (rC 1, rS 1, rL 1) else if p = rP 2 then (rC 2, rS 2, rL 2) else if p = rP 3 then (rC 3, rS 3, rL 3) else if p = rP 4 then (rC 4, rS 4, rL 4)
  else if workOk p then ((numVal (p.drop 6) : Int), 200, ((numVal (p.drop 6) % 64 : Nat) : Int)) else (1, 404, 0)

theorem route_hit (p : List UInt8) (k : Nat) (hk : k < 5) (h : p = rP k) : routeOf p = (rC k, rS k, rL k) := by
  subst h
  match k, hk with
  | 0, _ => rfl
  | 1, _ => rfl
  | 2, _ => rfl
  | 3, _ => rfl
  | 4, _ => rfl
theorem route_miss (p : List UInt8) (h : ∀ j, j < 5 → p ≠ rP j) : routeOf p = if workOk p then ((numVal (p.drop 6) : Int), 200, ((numVal (p.drop 6) % 64 : Nat) : Int)) else (1, 404, 0) := by
  unfold routeOf
  rw [if_neg (h 0 (by omega)), if_neg (h 1 (by omega)), if_neg (h 2 (by omega)), if_neg (h 3 (by omega)), if_neg (h 4 (by omega))]
theorem workOk_eq (p : List UInt8) : workOk p = true ↔ workP.isPrefixOf p = true ∧ numOk (p.drop 6) = true ∧ 1 ≤ numVal (p.drop 6) ∧ numVal (p.drop 6) ≤ 1000 := by
  unfold workOk
  simp only [Bool.and_eq_true, decide_eq_true_eq, and_assoc]
theorem route_work (p : List UInt8) (h : ∀ j, j < 5 → p ≠ rP j) (h0 : workP.isPrefixOf p = true) (h1 : numOk (p.drop 6) = true) (h2 : (1 : Int) ≤ numI (p.drop 6)) (h3 : numI (p.drop 6) ≤ 1000) :
    routeOf p = (numI (p.drop 6), 200, numI (p.drop 6) % 64) := by
  have hv : numI (p.drop 6) = numVal (p.drop 6) := by simp [numI, h1]
  rw [route_miss p h, if_pos ((workOk_eq p).2 ⟨h0, h1, by omega, by omega⟩), hv]
  simp
theorem route_none (p : List UInt8) (h : ∀ j, j < 5 → p ≠ rP j) (h0 : ¬ (workP.isPrefixOf p = true ∧ numOk (p.drop 6) = true ∧ (1 : Int) ≤ numI (p.drop 6) ∧ numI (p.drop 6) ≤ 1000)) : routeOf p = (1, 404, 0) := by
  rw [route_miss p h, if_neg]
  intro hw
  obtain ⟨a, b, c, d⟩ := (workOk_eq p).1 hw
  have hv : numI (p.drop 6) = numVal (p.drop 6) := by simp [numI, b]
  exact h0 ⟨a, b, by omega, by omega⟩
/-- A cost lies between 1 and 1000, a status between 100 and 599, a size between 0 and 3000. -/
theorem route_range (p : List UInt8) : 1 ≤ (routeOf p).1 ∧ (routeOf p).1 ≤ 1000 ∧ 100 ≤ (routeOf p).2.1 ∧ (routeOf p).2.1 ≤ 599 ∧ 0 ≤ (routeOf p).2.2 ∧ (routeOf p).2.2 ≤ 3000 := by
  by_cases h : ∃ j, j < 5 ∧ p = rP j
  · obtain ⟨j, hj, hp⟩ := h
    rw [route_hit p j hj hp]
    match j, hj with
    | 0, _ => decide
    | 1, _ => decide
    | 2, _ => decide
    | 3, _ => decide
    | 4, _ => decide
  · have h' : ∀ j, j < 5 → p ≠ rP j := fun j hj e => h ⟨j, hj, e⟩
    rw [route_miss p h']
    split
    · rename_i hw
      obtain ⟨_, _, c, d⟩ := (workOk_eq p).1 hw
      refine ⟨?_, ?_, ?_, ?_, ?_, ?_⟩ <;> simp only <;> omega
    · decide

theorem plain_length (l : List UInt8) : (plainL l).length ≤ l.length := by
  induction l with
  | nil => exact Nat.le_refl _
  | cons a l ih =>
    by_cases h : a = 63
    · rw [plain_neg l h]; simp
    · rw [plain_pos l h]; simp only [List.length_cons]; omega

/-- May a method be? -/
def allowedL (m : List UInt8) : Bool := m == [71, 69, 84] || m == [72, 69, 65, 68] || m == [80, 79, 83, 84]
/-- A job: cost, status, length, retry, body. -/
def lookL (m p : List UInt8) : Int × Int × Int × Int × Int :=
  if allowedL m then ((routeOf (plainL p)).1, (routeOf (plainL p)).2.1, (routeOf (plainL p)).2.2, 0, if m == [72, 69, 65, 68] then 0 else (routeOf (plainL p)).2.2) else (1, 405, 0, 0, 0)

theorem not_work_short (p : List UInt8) (h : ¬ 6 < p.length) : ¬ (workP.isPrefixOf p = true ∧ numOk (p.drop 6) = true ∧ (1 : Int) ≤ numI (p.drop 6) ∧ numI (p.drop 6) ≤ 1000) := by
  rintro ⟨_, h2, _⟩
  rw [List.drop_eq_nil_of_le (by omega)] at h2
  simp [numOk] at h2
theorem prefix_take (p : List UInt8) (h : 6 < p.length) : workP.isPrefixOf p = (p.take 6 == workP) := by
  rw [Bool.eq_iff_iff, List.isPrefixOf_iff_prefix, List.prefix_iff_eq_take, beq_iff_eq]
  exact ⟨fun e => e.symm, fun e => e.symm⟩
end Go.Proofs.Ytfgicmekkjhlkaa
