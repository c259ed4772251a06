/- What the two boards tell is one: plain laws. -/
import Derived.Test.YtbpcknjobbjmpaaDoorStaK
namespace Go.Proofs.YtbpcknjobbjmpaaDoor
open Go.RowKit
set_option linter.unusedVariables false
set_option linter.unusedSimpArgs false

theorem pk_grp (k : Nat) : pk (k : Int) = grp (1 + k) := by
  funext f
  unfold pk grp
  have h1 : decide ((k : Int) < 0) = false := decide_eq_false (by omega)
  have h2 : ((1 + k : Nat) == 0) = false := by simp
  have h3 : ((1 + k : Nat) : Int) - 1 = k := by omega
  rw [h1, h2, h3]
theorem pk_all : pk (-1) = grp 0 := by funext f; simp [pk, grp]
theorem dofT_of (V : List Fat) (k : Nat) (hk : k < 5) : dofT V (k : Int) = tal (grp (1 + k)) V := by
  unfold dofT
  rw [if_pos ⟨by omega, by omega⟩]
  unfold sumT
  rw [pk_grp]
theorem cellA_of (V : List Fat) (k r : Nat) (hk : k < 6) (hr : r < 3) : cellA V (3 * k + r) = (tal (grp k) V).at r := by
  unfold cellA
  rw [if_pos (by omega), show (3 * k + r) / 3 = k by omega, show (3 * k + r) % 3 = r by omega]
theorem kn_of (V : List Fat) (k : Int) : kn (cellA V) k = (dofT V k).n ∧ kc (cellA V) k = (dofT V k).c ∧ km (cellA V) k = (dofT V k).m := by
  by_cases hk : 0 ≤ k ∧ k < 5
  · obtain ⟨q, rfl⟩ : ∃ q : Nat, k = q := ⟨k.toNat, by omega⟩
    have hq : q < 5 := by omega
    unfold kn kc km
    rw [if_pos hk, if_pos hk, if_pos hk, dofT_of V q hq, Int.toNat_natCast]
    have c0 := cellA_of V (1 + q) 0 (by omega) (by omega)
    have c1 := cellA_of V (1 + q) 1 (by omega) (by omega)
    have c2 := cellA_of V (1 + q) 2 (by omega) (by omega)
    rw [show 3 * (1 + q) + 0 = 3 + 3 * q by omega] at c0
    rw [show 3 * (1 + q) + 1 = 3 + 3 * q + 1 by omega] at c1
    rw [show 3 * (1 + q) + 2 = 3 + 3 * q + 2 by omega] at c2
    exact ⟨c0, c1, c2⟩
  · unfold kn kc km dofT
    rw [if_neg hk, if_neg hk, if_neg hk, if_neg hk]
    exact ⟨rfl, rfl, rfl⟩
theorem kindA_of (V : List Fat) (k : Int) : kindA (cellA V) k = (dofT V k).val := by
  obtain ⟨h1, h2, h3⟩ := kn_of V k
  rw [kindA_eq, h1, h2, h3]
  rfl
theorem allA_of (V : List Fat) : cellA V 0 = (sumT V (-1)).n ∧ cellA V 1 = (sumT V (-1)).c ∧ cellA V 2 = (sumT V (-1)).m := by
  unfold sumT
  rw [pk_all]
  exact ⟨cellA_of V 0 0 (by omega) (by omega), cellA_of V 0 1 (by omega) (by omega), cellA_of V 0 2 (by omega) (by omega)⟩
theorem cellA_zero (V : List Fat) : cellA V 0 = V.length := by
  rw [cellA_of V 0 0 (by omega) (by omega)]
  exact allT_n V
theorem share_of (V : List Fat) (k : Int) : shareA (cellA V) k = dshareN V k := by
  unfold shareA dshareN
  rw [cellA_zero, (kn_of V k).1]
  by_cases h : V.length = 0
  · rw [if_pos h, if_pos (by omega)]
  · rw [if_neg h, if_neg (by omega), Int.mul_comm]
theorem cellA_le (V : List Fat) (h : ∀ f ∈ V, f.ok = true) (hl : V.length ≤ 100) (i : Nat) : 0 ≤ cellA V i ∧ cellA V i ≤ 300000 := by
  have := cellA_bound V h hl i; omega
theorem natA_of (V : List Fat) (k : Nat) (hk : k < 5) : natA (cellA V) k = ((dofT V (k : Int)).n.toNat, (dofT V (k : Int)).c.toNat) := by
  obtain ⟨h1, h2, _⟩ := kn_of V (k : Int)
  unfold kn at h1
  unfold kc at h2
  rw [if_pos ⟨by omega, by omega⟩, Int.toNat_natCast] at h1 h2
  unfold natA
  rw [h1, h2]
def dnat (V : List Fat) (k : Nat) : Nat × Nat := ((dofT V (k : Int)).n.toNat, (dofT V (k : Int)).c.toNat)
theorem lines_of (V : List Fat) : linesL (natA (cellA V)) 5 = linesL (dnat V) 5 := by
  unfold linesL
  refine List.map_congr_left fun k hk => ?_
  rw [natA_of V k (List.mem_range.1 hk)]
  rfl
theorem hist_of (V : List Fat) (j : Nat) : cellA V (18 + j) = hst j V := by
  unfold cellA
  rw [if_neg (by omega), show 18 + j - 18 = j by omega]
/-! The order -/
theorem tstep_comm (p : Fat → Bool) (t : Tal) (f g : Fat) : tstep p (tstep p t f) g = tstep p (tstep p t g) f := by
  unfold tstep
  by_cases hf : p f <;> by_cases hg : p g
  all_goals simp only [hf, hg, if_true, if_false, Tal.add]
  · congr 1
    · omega
    · omega
  all_goals rfl
theorem tal_cons (p : Fat → Bool) (f : Fat) (V : List Fat) : tal p (f :: V) = tstep p (tal p V) f := by
  induction V using snocRec with
  | h0 => rfl
  | h1 V g ih => rw [← List.cons_append, tal_snoc, ih, tal_snoc, tstep_comm]
theorem tal_rev (p : Fat → Bool) (V : List Fat) : tal p V.reverse = tal p V := by
  induction V with
  | nil => rfl
  | cons f V ih => rw [List.reverse_cons, tal_snoc, ih, tal_cons]
theorem cellA_rev (V : List Fat) (i : Nat) : cellA V.reverse i = cellA V i := by
  unfold cellA hst
  rw [tal_rev, List.countP_reverse]
def sumK (V : List Fat) (K : Nat) : Tal := ⟨((List.range K).map fun k : Nat => (dofT V (k : Int)).n).sum, ((List.range K).map fun k : Nat => (dofT V (k : Int)).c).sum, (List.range K).foldl (fun (x : Int) (k : Nat) => max x (dofT V (k : Int)).m) 0⟩
theorem sumK_succ (V : List Fat) (K : Nat) : sumK V (K + 1) = ⟨(sumK V K).n + (dofT V (K : Int)).n, (sumK V K).c + (dofT V (K : Int)).c, max (sumK V K).m (dofT V (K : Int)).m⟩ := by
  unfold sumK
  rw [List.range_succ, List.map_append, List.map_append, List.sum_append, List.sum_append, List.foldl_append]
  simp
theorem dofT_snoc (V : List Fat) (f : Fat) (k : Nat) (hk : k < 5) : dofT (V ++ [f]) (k : Int) = if f.k = k then (dofT V (k : Int)).add f.n else dofT V (k : Int) := by
  rw [dofT_of _ _ hk, dofT_of _ _ hk, tal_snoc]
  unfold tstep
  have hg : grp (1 + k) f = decide (f.k = k) := by
    unfold grp
    have h2 : ((1 + k : Nat) == 0) = false := by simp
    have h3 : ((1 + k : Nat) : Int) - 1 = k := by omega
    rw [h2, h3]
    simp
    exact Bool.eq_iff_iff.2 (by simp)
  rw [hg]
  by_cases h : f.k = k <;> simp [h]
theorem sumK_five (V : List Fat) (h : ∀ f ∈ V, f.ok = true) : sumK V 5 = allT V := by
  induction V using snocRec with
  | h0 => simp [sumK, dofT, sumT, tal, allT, List.range, List.range.loop]
  | h1 V f ih =>
    have ih := ih fun g hg => h g (by simp [hg])
    obtain ⟨h1, h2, h3, h4⟩ := (f.ok_iff).1 (h f (by simp))
    have e : allT (V ++ [f]) = (allT V).add f.n := by
      unfold allT; rw [tal_snoc]; unfold tstep; simp [grp]
    rw [e, ← ih]
    obtain ⟨q, hq⟩ : ∃ q : Nat, f.k = q := ⟨f.k.toNat, by omega⟩
    have hq5 : q < 5 := by omega
    simp only [sumK_succ, dofT_snoc V f 0 (by omega), dofT_snoc V f 1 (by omega), dofT_snoc V f 2 (by omega), dofT_snoc V f 3 (by omega), dofT_snoc V f 4 (by omega), hq]
    have h5 : q = 0 ∨ q = 1 ∨ q = 2 ∨ q = 3 ∨ q = 4 := by omega
    rcases h5 with rfl | rfl | rfl | rfl | rfl
    all_goals
      simp [Tal.add, sumK]
      omega
end Go.Proofs.YtbpcknjobbjmpaaDoor
