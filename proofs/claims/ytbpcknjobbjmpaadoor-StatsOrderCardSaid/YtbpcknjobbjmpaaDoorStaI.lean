/- The document's board: a list of fates; sizes and sums. -/
import Derived.Test.YtbpcknjobbjmpaaDoorStaH
import Derived.Deep.Cut
namespace Go.Proofs.YtbpcknjobbjmpaaDoor
open Go.RowKit
set_option linter.unusedVariables false
set_option linter.unusedSimpArgs false

/-- Fates in memory. -/
def FatesN (W : World) (oa : Option Addr) (L : List Fat) : Prop := ∀ i f, L[i]? = some f → ∃ b o, oa = some ⟨b, o, none⟩ ∧
  W.cell? ⟨b, o + i * 4, none⟩ = some (.int .i64 f.c) ∧ W.cell? ⟨b, o + i * 4 + 1, none⟩ = some (.int .i64 f.s) ∧ W.cell? ⟨b, o + i * 4 + 2, none⟩ = some (.int .i64 f.k) ∧ W.cell? ⟨b, o + i * 4 + 3, none⟩ = some (.int .i64 f.n)
theorem FatesN.below {W W' : World} {oa : Option Addr} {L : List Fat} (h : FatesN W oa L) (hn : Below W.heap.size W W') : FatesN W' oa L := by
  intro i f hf
  obtain ⟨b, o, ha, h1, h2, h3, h4⟩ := h i f hf
  have e : W'.heap[b]? = W.heap[b]? := hn.block b (World.block_lt_of_cell? _ _ h1)
  exact ⟨b, o, ha, (cell_eq e).trans h1, (cell_eq e).trans h2, (cell_eq e).trans h3, (cell_eq e).trans h4⟩
theorem i64_wf {n : Int} (h1 : -9223372036854775808 ≤ n) (h2 : n ≤ 9223372036854775807) : (Lit.int .i64 n).wf = true := by
  have e1 : IntKind.i64.min = -9223372036854775808 := rfl
  have e2 : IntKind.i64.max = 9223372036854775807 := rfl
  simp only [Lit.wf, Bool.and_eq_true, decide_eq_true_eq, e1, e2]; omega
theorem i64_of {n : Int} (h : (Lit.int .i64 n).wf = true) : -9223372036854775808 ≤ n ∧ n ≤ 9223372036854775807 := by
  have e1 : IntKind.i64.min = -9223372036854775808 := rfl
  have e2 : IntKind.i64.max = 9223372036854775807 := rfl
  simpa only [Lit.wf, Bool.and_eq_true, decide_eq_true_eq, e1, e2] using h
set_option maxRecDepth 100000 in
theorem dsize_any (c : Int) (hc : (Lit.int .i64 c).wf = true) (w : World) : Calls Tryd.prog 26 #[.int .i64 c] w fun e w' => e = .returned (.int .i64 (szI c : Nat)) ∧ w' = w := by
  have hb := i64_of hc
  by_cases h : 0 < c
  · obtain ⟨u0, rfl⟩ : ∃ u0 : Nat, c = u0 := ⟨c.toNat, by omega⟩
    unfold szI
    rw [Int.toNat_natCast]
    have h63 : u0 < 2 ^ 63 := by omega
    clear h hb hc
    unfold szN
    go_enter Tryd.func26, Tryd.ntmps26
    go_wp2_with fail
    go_loopw [0, 3] (fun cc nn wr => ∃ u k : Nat, cc = .int .i64 u ∧ nn = .int .i64 k ∧ k ≤ 11 ∧ u < 2 ^ 63 ∧ min (k + Lib.bitLen u) 11 = min (Lib.bitLen u0) 11 ∧ wr = w) (fun cc _ _ => (intOf cc).toNat)
    case atStart => exact ⟨u0, 0, rfl, rfl, by omega, h63, by rw [Nat.zero_add], rfl⟩
    case round =>
      obtain ⟨u, k, rfl, rfl, hk, hu, he, rfl⟩ := hrel
      by_cases hu0 : u = 0
      · subst hu0
        have hz : Lib.bitLen 0 = 0 := rfl
        rw [hz] at he
        have hv : min (Lib.bitLen u0) 11 = k := by omega
        have HV := Lib.hid hv
        go_wp2_with fail
        go_ret
        refine ⟨?_, rfl⟩
        rw [HV.out]
        rfl
      · have q1 : decide ((0 : Int) < (u : Int)) = true := decide_eq_true (by omega)
        by_cases hk11 : k = 11
        · subst hk11
          have hv : min (Lib.bitLen u0) 11 = 11 := by omega
          have HV := Lib.hid hv
          go_wp2_with fail
          go_ret
          refine ⟨?_, rfl⟩
          rw [HV.out]
          rfl
        · have q2 : decide ((k : Int) < 11) = true := decide_eq_true (by omega)
          have hd : (u : Int).tdiv 2 = ((u / 2 : Nat) : Int) := rfl
          have hx : (u : Int) / 2 = ((u / 2 : Nat) : Int) := rfl
          have hh := Lib.bitLen_half u hu0 (by omega)
          have hu2 : u / 2 < u := by omega
          generalize u / 2 = u2 at hd hx hh hu2
          have hw1 : IntKind.i64.wrap (u2 : Int) = (u2 : Int) := IntWalk.i64_in _ (by omega)
          have hw2 : IntKind.i64.wrap ((k : Int) + 1) = (k : Int) + 1 := IntWalk.i64_in _ (by omega)
          have hfin := Lib.hid (show min (k + 1 + Lib.bitLen u2) 11 = min (Lib.bitLen u0) 11 from by omega)
          clear he hh
          go_wp2_with fail
          refine ⟨⟨u2, k + 1, rfl, rfl, by omega, by omega, hfin.out, by trivial⟩, ?_⟩
          simp [intOf]
          omega
  · have hz : szI c = 0 := by unfold szI; rw [show c.toNat = 0 by omega]; rfl
    rw [hz]
    have q1 : decide ((0 : Int) < c) = false := decide_eq_false h
    clear hz hb hc
    go_enter Tryd.func26, Tryd.ntmps26
    go_wp2_with fail
    go_loopw [0, 3] (fun cc nn wr => cc = .int .i64 c ∧ nn = .int .i64 0 ∧ wr = w) (fun _ _ _ => 0)
    case atStart => exact ⟨rfl, rfl, rfl⟩
    case round =>
      obtain ⟨rfl, rfl, rfl⟩ := hrel
      go_wp2_with fail
      go_ret
      exact ⟨rfl, rfl⟩
end Go.Proofs.YtbpcknjobbjmpaaDoor
