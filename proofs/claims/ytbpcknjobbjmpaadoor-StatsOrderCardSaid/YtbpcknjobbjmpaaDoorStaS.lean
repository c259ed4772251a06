/- It is nothing in which order fates are counted: plain laws, and the walk. -/
import Derived.Test.YtbpcknjobbjmpaaDoorStaM
import Derived.Test.YtbpcknjobbjmpaaDoorStaW
import Derived.Deep.RegionHeld3
namespace Go.Proofs.YtbpcknjobbjmpaaDoor
open Go.RowKit
set_option linter.unusedVariables false
set_option linter.unusedSimpArgs false

def okL (L : List Fat) : List Fat := L.filter Fat.ok
theorem okL_ok (L : List Fat) : ∀ f ∈ okL L, f.ok = true := fun f hf => (List.mem_filter.1 hf).2
theorem okL_len (L : List Fat) : (okL L).length ≤ L.length := List.length_filter_le _ _
theorem okL_take (L : List Fat) (k : Nat) (f : Fat) (h : L[k]? = some f) : okL (L.take (k + 1)) = if f.ok then okL (L.take k) ++ [f] else okL (L.take k) := by
  have : L.take (k + 1) = L.take k ++ [f] := by rw [List.take_add_one, h]; rfl
  unfold okL
  rw [this, List.filter_append]
  by_cases hf : f.ok = true <;> simp [hf]
theorem okL_rev (L : List Fat) : okL L.reverse = (okL L).reverse := by unfold okL; rw [List.filter_reverse]
theorem okL_takeLen (L : List Fat) (k n : Nat) (hk : k ≤ n) (hn : n ≤ 100) : (okL (L.take k)).length ≤ 100 := by
  have := okL_len (L.take k)
  rw [List.length_take] at this
  omega
/-- A fate counted: the cells behind it. -/
theorem cells_okL (L : List Fat) (k : Nat) (f : Fat) (h : L[k]? = some f) (i : Nat) (hi : i < 30) :
    (if f.ok then countA (cellA (okL (L.take k))) f.k.toNat f.n else cellA (okL (L.take k))) i = cellA (okL (L.take (k + 1))) i := by
  rw [okL_take L k f h]
  by_cases hf : f.ok = true
  · rw [if_pos hf, if_pos hf]; exact count_cells _ f hf i hi
  · rw [if_neg hf, if_neg hf]
def sumH (V : List Fat) (K : Nat) : Int := ((List.range K).map fun j : Nat => hst j V).sum
theorem sumH_succ (V : List Fat) (K : Nat) : sumH V (K + 1) = sumH V K + hst K V := by
  unfold sumH; rw [List.range_succ, List.map_append, List.sum_append]; simp
theorem sumH_bound (V : List Fat) (hl : V.length ≤ 100) (K : Nat) : 0 ≤ sumH V K ∧ sumH V K ≤ 100 * K := by
  induction K with
  | zero => simp [sumH]
  | succ K ih => rw [sumH_succ]; have := hst_bound K V; omega
theorem sumH_snoc (V : List Fat) (f : Fat) (K : Nat) : sumH (V ++ [f]) K = if szI f.n < K then sumH V K + 1 else sumH V K := by
  induction K with
  | zero => simp [sumH]
  | succ K ih =>
    rw [sumH_succ, sumH_succ, ih, hst_snoc]
    by_cases h : szI f.n < K
    · rw [if_pos h, if_neg (by omega), if_pos (by omega)]; omega
    · by_cases h2 : szI f.n = K
      · rw [if_neg h, if_pos h2, if_pos (by omega)]; omega
      · rw [if_neg h, if_neg h2, if_neg (by omega)]
theorem sumH_all (V : List Fat) : sumH V 12 = V.length := by
  induction V using snocRec with
  | h0 => simp [sumH, hst, List.range, List.range.loop]
  | h1 V f ih => rw [sumH_snoc, if_pos (szI_lt f.n), ih]; simp
theorem sumK_bound (V : List Fat) (h : ∀ f ∈ V, f.ok = true) (hl : V.length ≤ 100) (K : Nat) : 0 ≤ (sumK V K).n ∧ (sumK V K).n ≤ 100 * K ∧ 0 ≤ (sumK V K).c ∧ (sumK V K).c ≤ 204700 * K := by
  induction K with
  | zero => simp [sumK]
  | succ K ih => rw [sumK_succ]; have := dofT_bound V (K : Int) h; simp only; omega
def shK (V : List Fat) (K : Nat) : Int := ((List.range K).map fun j : Nat => dshareN V (j : Int)).sum
theorem shK_succ (V : List Fat) (K : Nat) : shK V (K + 1) = shK V K + dshareN V (K : Int) := by
  unfold shK; rw [List.range_succ, List.map_append, List.sum_append]; simp
theorem share_bound (V : List Fat) (h : ∀ f ∈ V, f.ok = true) (k : Int) : 0 ≤ dshareN V k ∧ dshareN V k ≤ 1000 := by
  unfold dshareN
  have hb := dofT_bound V k h
  split
  · omega
  · rename_i hz
    constructor
    · exact Int.ediv_nonneg (by omega) (by omega)
    · exact Int.ediv_le_of_le_mul (by omega) (by omega)
theorem shK_bound (V : List Fat) (h : ∀ f ∈ V, f.ok = true) (K : Nat) : 0 ≤ shK V K ∧ shK V K ≤ 1000 * K := by
  induction K with
  | zero => simp [shK]
  | succ K ih => rw [shK_succ]; have := share_bound V h (K : Int); omega
theorem sumK5n (V : List Fat) (h : ∀ f ∈ V, f.ok = true) : (dofT V 0).n + (dofT V 1).n + (dofT V 2).n + (dofT V 3).n + (dofT V 4).n = V.length := by
  have e := congrArg Tal.n (sumK_five V h)
  rw [allT_n] at e
  rw [← e]
  simp [sumK, List.range, List.range.loop]
  omega
theorem shK5 (V : List Fat) : shK V 5 = dshareN V 0 + dshareN V 1 + dshareN V 2 + dshareN V 3 + dshareN V 4 := by
  simp [shK, List.range, List.range.loop]
  omega
theorem sh_nil (V : List Fat) (h : V.length = 0) : shK V 5 = 0 := by
  rw [shK5]; unfold dshareN; simp only [if_pos h]; rfl
theorem sh_all (V : List Fat) (h : ∀ f ∈ V, f.ok = true) : shK V 5 ≤ 1000 ∧ (V.length ≠ 0 → shK V 5 ≠ 0) := by
  by_cases hz : V.length = 0
  · rw [sh_nil V hz]; exact ⟨by omega, fun e => absurd hz e⟩
  have hs := sumK5n V h
  have e : ∀ k, dshareN V k = 1000 * (dofT V k).n / V.length := fun k => if_neg hz
  have hN : (0 : Int) < V.length := by omega
  have lo : ∀ k, dshareN V k * V.length ≤ 1000 * (dofT V k).n := fun k => by rw [e]; exact Int.ediv_mul_le _ (by omega)
  have hi : ∀ k, 1000 * (dofT V k).n < (dshareN V k + 1) * V.length := fun k => by rw [e]; exact Int.lt_ediv_add_one_mul_self _ hN
  have l0 := lo 0
  have l1 := lo 1
  have l2 := lo 2
  have l3 := lo 3
  have l4 := lo 4
  have h0 := hi 0
  have h1 := hi 1
  have h2 := hi 2
  have h3 := hi 3
  have h4 := hi 4
  have hb := fun k => (share_bound V h k).1
  have b0 := hb 0
  have b1 := hb 1
  have b2 := hb 2
  have b3 := hb 3
  have b4 := hb 4
  rw [shK5]
  constructor
  · by_cases hc : dshareN V 0 + dshareN V 1 + dshareN V 2 + dshareN V 3 + dshareN V 4 ≤ 1000
    · exact hc
    · have := Int.mul_le_mul_of_nonneg_right (show (1001 : Int) ≤ dshareN V 0 + dshareN V 1 + dshareN V 2 + dshareN V 3 + dshareN V 4 by omega) (Int.le_of_lt hN)
      rw [Int.add_mul, Int.add_mul, Int.add_mul, Int.add_mul] at this
      omega
  · intro _ hc
    have z0 : dshareN V 0 = 0 := by omega
    have z1 : dshareN V 1 = 0 := by omega
    have z2 : dshareN V 2 = 0 := by omega
    have z3 : dshareN V 3 = 0 := by omega
    have z4 : dshareN V 4 = 0 := by omega
    rw [z0] at h0
    rw [z1] at h1
    rw [z2] at h2
    rw [z3] at h3
    rw [z4] at h4
    omega
theorem OwnS.near {p : Nat} {w w' : World} {B : Nat} {v : Value} {L : List ByteArray} (h : OwnS w B v L) (hp : p < B) (hb : Near p w.heap.size w w') : OwnS w' B v L := by
  refine ⟨h.1, ?_⟩
  rcases h.2 with h0 | ⟨g, cap, cur, e, hb2, hg, h1⟩
  · exact .inl h0
  · exact .inr ⟨g, cap, cur, e, hb2, (hb.block g (Array.getElem?_eq_some_iff.1 hg).1 (by omega)).trans hg, h1⟩
theorem OwnS.strs {w : World} {B n cap : Nat} {oa : Option Addr} {L : List ByteArray} (h : OwnS w B (.slice oa n cap) L) : StrsN w oa L := by
  obtain ⟨oa', cap', e, hs⟩ := h.form
  obtain ⟨rfl, _, _⟩ := Value.slice.inj e
  exact hs
theorem IntsN.below {W W' : World} {oa : Option Addr} {n : Nat} {H : Nat → Int} (h : IntsN W oa n H) (hn : Below W.heap.size W W') : IntsN W' oa n H := by
  intro i hi
  obtain ⟨a, ha, hc⟩ := h i hi
  exact ⟨a, ha, (cell_eq (hn.block _ (World.block_lt_of_cell? _ _ hc))).trans hc⟩
theorem row_below {W W' : World} {s : Nat} {o : Obj} (h : W.heap[s]? = some o) (hb : Below W.heap.size W W') : W'.heap[s]? = some o := (hb.block s (Array.getElem?_eq_some_iff.1 h).1).trans h
theorem row_near {W W' : World} {s p : Nat} {o : Obj} (h : W.heap[s]? = some o) (hp : s ≠ p) (hb : Near p W.heap.size W W') : W'.heap[s]? = some o := (hb.block s (Array.getElem?_eq_some_iff.1 h).1 hp).trans h
end Go.Proofs.YtbpcknjobbjmpaaDoor
