/- The board of what was counted, in plain words: what each cell has, and what a fate changes. -/
import Derived.Tactics
import Derived.Lib.BitFns
namespace Go.Proofs.YtbpcknjobbjmpaaDoor
set_option linter.unusedVariables false
set_option linter.unusedSimpArgs false

theorem snocRec {α : Type} {P : List α → Prop} (h0 : P []) (h1 : ∀ V f, P V → P (V ++ [f])) (V : List α) : P V := by
  have h : ∀ l : List α, P l.reverse := fun l => by
    induction l with
    | nil => exact h0
    | cons a l ih => rw [List.reverse_cons]; exact h1 _ _ ih
  have := h V.reverse
  rwa [List.reverse_reverse] at this
/-- A fate: its connection, its stream, its kind, its cost. -/
structure Fat where
  c : Int
  s : Int
  k : Int
  n : Int
def Fat.ok (f : Fat) : Bool := decide (0 ≤ f.k) && decide (f.k < 5) && decide (0 ≤ f.n) && decide (f.n ≤ 2047)
theorem Fat.ok_iff (f : Fat) : f.ok = true ↔ 0 ≤ f.k ∧ f.k < 5 ∧ 0 ≤ f.n ∧ f.n ≤ 2047 := by
  unfold Fat.ok; simp only [Bool.and_eq_true, decide_eq_true_eq]; constructor
  · rintro ⟨⟨⟨a, b⟩, c⟩, d⟩; exact ⟨a, b, c, d⟩
  · rintro ⟨a, b, c, d⟩; exact ⟨⟨⟨a, b⟩, c⟩, d⟩
/-- A cost's size. -/
def szN (n : Nat) : Nat := min (Lib.bitLen n) 11
def szI (c : Int) : Nat := szN c.toNat
theorem szI_lt (c : Int) : szI c < 12 := by unfold szI szN; omega
structure Tal where
  n : Int
  c : Int
  m : Int
def Tal.add (t : Tal) (cost : Int) : Tal := ⟨t.n + 1, t.c + cost, max t.m cost⟩
def Tal.at (t : Tal) (r : Nat) : Int := if r = 0 then t.n else if r = 1 then t.c else t.m
def tstep (p : Fat → Bool) (t : Tal) (f : Fat) : Tal := if p f then t.add f.n else t
def tal (p : Fat → Bool) (V : List Fat) : Tal := V.foldl (tstep p) ⟨0, 0, 0⟩
theorem tal_snoc (p : Fat → Bool) (V : List Fat) (f : Fat) : tal p (V ++ [f]) = tstep p (tal p V) f := by unfold tal; rw [List.foldl_append]; rfl
/-- Whose cells the q-th group is: of all, or of a kind. -/
def grp (q : Nat) (f : Fat) : Bool := q == 0 || f.k == (q : Int) - 1
def hst (j : Nat) (V : List Fat) : Int := (V.countP fun f => szI f.n == j : Nat)
theorem hst_snoc (j : Nat) (V : List Fat) (f : Fat) : hst j (V ++ [f]) = if szI f.n = j then hst j V + 1 else hst j V := by
  unfold hst; rw [List.countP_append, List.countP_singleton]; by_cases h : szI f.n = j <;> simp [h]
/-- The cells of a board. -/
def cellA (V : List Fat) (i : Nat) : Int := if i < 18 then (tal (grp (i / 3)) V).at (i % 3) else hst (i - 18) V
def upd (A : Nat → Int) (i : Nat) (x : Int) : Nat → Int := fun j => if j = i then x else A j
theorem upd_same (A : Nat → Int) (i : Nat) (x : Int) : upd A i x i = x := by simp [upd]
theorem upd_other (A : Nat → Int) (i j : Nat) (x : Int) (h : j ≠ i) : upd A i x j = A j := by simp [upd, h]
def add3 (A : Nat → Int) (o : Nat) (x : Int) : Nat → Int := upd (upd (upd A o (A o + 1)) (o + 1) (A (o + 1) + x)) (o + 2) (max (A (o + 2)) x)
def countA (A : Nat → Int) (k : Nat) (x : Int) : Nat → Int := upd (add3 (add3 A 0 x) (3 + 3 * k) x) (18 + szI x) (A (18 + szI x) + 1)
theorem add3_at (A : Nat → Int) (q : Nat) (x : Int) (i : Nat) :
    add3 A (3 * q) x i = if i / 3 = q then (if i % 3 = 0 then A i + 1 else if i % 3 = 1 then A i + x else max (A i) x) else A i := by
  unfold add3 upd
  by_cases hq : i / 3 = q
  · rw [if_pos hq]
    have h3 : i % 3 = 0 ∨ i % 3 = 1 ∨ i % 3 = 2 := by omega
    rcases h3 with h | h | h
    · have e : i = 3 * q := by omega
      simp [e]
    · have e : i = 3 * q + 1 := by omega
      simp [e]
    · have e : i = 3 * q + 2 := by omega
      simp [e]
  · rw [if_neg hq, if_neg (by omega), if_neg (by omega), if_neg (by omega)]
theorem count_cells (V : List Fat) (f : Fat) (h : f.ok = true) (i : Nat) (hi : i < 30) : countA (cellA V) f.k.toNat f.n i = cellA (V ++ [f]) i := by
  obtain ⟨h1, h2, h3, h4⟩ := (f.ok_iff).1 h
  have hz := szI_lt f.n
  unfold countA
  have e0 : add3 (cellA V) 0 f.n = add3 (cellA V) (3 * 0) f.n := rfl
  have e1 : ∀ A, add3 A (3 + 3 * f.k.toNat) f.n = add3 A (3 * (1 + f.k.toNat)) f.n := fun A => by rw [show 3 + 3 * f.k.toNat = 3 * (1 + f.k.toNat) by omega]
  rw [e0, e1]
  by_cases hlt : i < 18
  · rw [upd_other _ _ _ _ (by omega), add3_at, add3_at]
    unfold cellA
    rw [if_pos hlt, if_pos hlt, tal_snoc]
    unfold tstep
    have hr : i % 3 = 0 ∨ i % 3 = 1 ∨ i % 3 = 2 := by omega
    by_cases hq0 : i / 3 = 0
    · have hg : grp (i / 3) f = true := by simp [grp, hq0]
      rw [if_pos hg, if_neg (by omega), if_pos hq0]
      rcases hr with h | h | h <;> simp [h, Tal.at, Tal.add]
    · by_cases hq : i / 3 = 1 + f.k.toNat
      · have hg : grp (i / 3) f = true := by unfold grp; simp only [Bool.or_eq_true, beq_iff_eq]; right; omega
        rw [if_pos hg, if_pos hq, if_neg hq0]
        rcases hr with h | h | h <;> simp [h, Tal.at, Tal.add]
      · have hg : grp (i / 3) f = false := by unfold grp; simp only [Bool.or_eq_false_iff, beq_eq_false_iff_ne, ne_eq]; exact ⟨hq0, by omega⟩
        rw [hg, if_neg hq, if_neg hq0]; simp
  · have hc : cellA (V ++ [f]) i = hst (i - 18) (V ++ [f]) := by unfold cellA; rw [if_neg hlt]
    rw [hc, hst_snoc]
    by_cases hs : i = 18 + szI f.n
    · rw [hs, upd_same, if_pos (by omega)]
      unfold cellA; rw [if_neg (by omega)]
    · rw [upd_other _ _ _ _ hs, if_neg (by omega), add3_at, add3_at, if_neg (by omega), if_neg (by omega)]
      unfold cellA; rw [if_neg hlt]
theorem tal_bound (p : Fat → Bool) : ∀ (V : List Fat), (∀ f ∈ V, f.ok = true) → 0 ≤ (tal p V).n ∧ (tal p V).n ≤ V.length ∧ 0 ≤ (tal p V).c ∧ (tal p V).c ≤ 2047 * V.length ∧ 0 ≤ (tal p V).m ∧ (tal p V).m ≤ 2047 := by
  intro V
  induction V using snocRec with
  | h0 => intro _; simp [tal]
  | h1 V f ih =>
    intro h
    have h' := ih fun g hg => h g (by simp [hg])
    obtain ⟨_, _, h3, h4⟩ := (f.ok_iff).1 (h f (by simp))
    rw [tal_snoc]; unfold tstep
    have hl : ((V ++ [f]).length : Int) = V.length + 1 := by simp
    rw [hl]
    split
    · simp only [Tal.add]; omega
    · omega
theorem hst_bound (j : Nat) (V : List Fat) : 0 ≤ hst j V ∧ hst j V ≤ V.length := by
  unfold hst; have := List.countP_le_length (p := fun f => szI f.n == j) (l := V); omega
theorem cellA_bound (V : List Fat) (h : ∀ f ∈ V, f.ok = true) (hl : V.length ≤ 100) (i : Nat) : 0 ≤ cellA V i ∧ cellA V i ≤ 204700 := by
  unfold cellA
  split
  · have := tal_bound (grp (i / 3)) V h
    unfold Tal.at
    split
    · omega
    · split <;> omega
  · have := hst_bound (i - 18) V; omega
/-- What is told of a kind. -/
def ofT (V : List Fat) (kind : Int) : Tal := if 0 ≤ kind ∧ kind < 5 then tal (grp (1 + kind.toNat)) V else ⟨0, 0, 0⟩
def allT (V : List Fat) : Tal := tal (grp 0) V
theorem allT_n (V : List Fat) : (allT V).n = V.length := by
  unfold allT
  induction V using snocRec with
  | h0 => simp [tal]
  | h1 V f ih => rw [tal_snoc]; unfold tstep; simp [grp, Tal.add, ih]
def shareN (V : List Fat) (kind : Int) : Int := if V.length = 0 then 0 else (ofT V kind).n * 1000 / V.length
end Go.Proofs.YtbpcknjobbjmpaaDoor
