/- The document's board: what it tells of a kind, of all, and shares; two lists compared. -/
import Derived.Test.YtbpcknjobbjmpaaDoorStaJ
namespace Go.Proofs.YtbpcknjobbjmpaaDoor
open Go.RowKit
set_option linter.unusedVariables false
set_option linter.unusedSimpArgs false

def dofT (V : List Fat) (kind : Int) : Tal := if 0 ≤ kind ∧ kind < 5 then sumT V kind else ⟨0, 0, 0⟩
set_option maxRecDepth 100000 in
set_option maxHeartbeats 1000000 in
theorem dof_any (oa : Option Addr) (n cap : Nat) (V : List Fat) (hn : V.length = n) (hl : n ≤ 100) (hok : ∀ f ∈ V, f.ok = true) (kind : Int) (w : World) (hf : FatesN w oa V) :
    Calls Tryd.prog 12 #[.slice oa n cap, .int .i64 kind] w fun e w' => e = .returned (dofT V kind).val ∧ Below w.heap.size w w' := by
  have HN := Lib.hid ((Below.refl w.heap.size w).alloc (Nat.le_refl _) (.cells #[.int .i64 0, .int .i64 0, .int .i64 0] 34))
  have HF1 := Lib.hid (hf.below ((Below.refl w.heap.size w).alloc (Nat.le_refl _) (.cells #[.int .i64 0, .int .i64 0, .int .i64 0] 34)))
  by_cases h0 : kind < 0
  · have q0 : decide (kind < 0) = true := decide_eq_true h0
    have hv : dofT V kind = ⟨0, 0, 0⟩ := if_neg (by omega)
    rw [hv]
    unfold Tal.val
    go_enter Tryd.func12, Tryd.ntmps12
    go_wp2_with fail
    refine bodyPost_ret (v := .agg #[.int .i64 0, .int .i64 0, .int .i64 0]) (by simp [results, Tryd.results12, go_sem]) rfl ⟨rfl, HN.out⟩
  · have q0 : decide (kind < 0) = false := decide_eq_false h0
    by_cases h5 : kind < 5
    · have q1 : decide ((5 : Int) ≤ kind) = false := decide_eq_false (by omega)
      have hv : dofT V kind = sumT V kind := if_pos (by omega)
      rw [hv]
      have CS := Lib.hid (sum_any oa n cap V hn hl hok kind _ HF1.out)
      unfold Tal.val at CS ⊢
      generalize sumT V kind = T at CS ⊢
      go_enter Tryd.func12, Tryd.ntmps12
      go_wp2_with (first
        | (go_at_call 41; refine CS.out.mono ?_; rintro e w' ⟨rfl, hb⟩; have hr := (hb.block w.heap.size (by simp)).trans (heap_alloc_new w (.cells #[.int .i64 0, .int .i64 0, .int .i64 0] 34)); obtain ⟨⟨r0, r1, r2⟩, z0, z1, z2⟩ := res3 hr; obtain ⟨s0, s1, s2⟩ := store3 hr (.int .i64 T.n) (.int .i64 T.c) (.int .i64 T.m); have HD := Lib.hid (HN.out.trans (hb.mono (by simp))); clear hb))
      refine bodyPost_ret (v := .agg #[.int .i64 T.n, .int .i64 T.c, .int .i64 T.m]) (by simp [results, Tryd.results12, go_sem, s0, s1, s2]) rfl ⟨rfl, ?_⟩
      have HD := HD.out
      repeat' (first | exact HD | (with_reducible refine Below.setCell ?_ ?_ _))
      all_goals (first | exact Nat.le_refl _ | omega | (simp; done))
    · have q1 : decide ((5 : Int) ≤ kind) = true := decide_eq_true (by omega)
      have hv : dofT V kind = ⟨0, 0, 0⟩ := if_neg (by omega)
      rw [hv]
      unfold Tal.val
      go_enter Tryd.func12, Tryd.ntmps12
      go_wp2_with fail
      refine bodyPost_ret (v := .agg #[.int .i64 0, .int .i64 0, .int .i64 0]) (by simp [results, Tryd.results12, go_sem]) rfl ⟨rfl, HN.out⟩
set_option maxRecDepth 100000 in
set_option maxHeartbeats 1000000 in
theorem dall_any (oa : Option Addr) (n cap : Nat) (V : List Fat) (hn : V.length = n) (hl : n ≤ 100) (hok : ∀ f ∈ V, f.ok = true) (w : World) (hf : FatesN w oa V) :
    Calls Tryd.prog 15 #[.slice oa n cap] w fun e w' => e = .returned (sumT V (-1)).val ∧ Below w.heap.size w w' := by
  have HN := Lib.hid ((Below.refl w.heap.size w).alloc (Nat.le_refl _) (.cells #[.int .i64 0, .int .i64 0, .int .i64 0] 34))
  have HF1 := Lib.hid (hf.below ((Below.refl w.heap.size w).alloc (Nat.le_refl _) (.cells #[.int .i64 0, .int .i64 0, .int .i64 0] 34)))
  have CS := Lib.hid (sum_any oa n cap V hn hl hok (-1) _ HF1.out)
  unfold Tal.val at CS ⊢
  generalize sumT V (-1) = T at CS ⊢
  go_enter Tryd.func15, Tryd.ntmps15
  go_wp2_with (first
    | (go_at_call 41; refine CS.out.mono ?_; rintro e w' ⟨rfl, hb⟩; have hr := (hb.block w.heap.size (by simp)).trans (heap_alloc_new w (.cells #[.int .i64 0, .int .i64 0, .int .i64 0] 34)); obtain ⟨⟨r0, r1, r2⟩, z0, z1, z2⟩ := res3 hr; obtain ⟨s0, s1, s2⟩ := store3 hr (.int .i64 T.n) (.int .i64 T.c) (.int .i64 T.m); have HD := Lib.hid (HN.out.trans (hb.mono (by simp))); clear hb))
  refine bodyPost_ret (v := .agg #[.int .i64 T.n, .int .i64 T.c, .int .i64 T.m]) (by simp [results, Tryd.results15, go_sem, s0, s1, s2]) rfl ⟨rfl, ?_⟩
  have HD := HD.out
  repeat' (first | exact HD | (with_reducible refine Below.setCell ?_ ?_ _))
  all_goals (first | exact Nat.le_refl _ | omega | (simp; done))
theorem dsum_f0 (a b c : Int) (w : World) : (Instr.field 34 (.agg #[.int .i64 a, .int .i64 b, .int .i64 c]) 0).run Tryd.prog w = .ok (.int .i64 a) w := by kernel_rfl
theorem dsum_f1 (a b c : Int) (w : World) : (Instr.field 34 (.agg #[.int .i64 a, .int .i64 b, .int .i64 c]) 1).run Tryd.prog w = .ok (.int .i64 b) w := by kernel_rfl
def dshareN (V : List Fat) (kind : Int) : Int := if V.length = 0 then 0 else 1000 * (dofT V kind).n / V.length
theorem dofT_bound (V : List Fat) (kind : Int) (h : ∀ f ∈ V, f.ok = true) : 0 ≤ (dofT V kind).n ∧ (dofT V kind).n ≤ V.length ∧ 0 ≤ (dofT V kind).c ∧ (dofT V kind).c ≤ 2047 * V.length := by
  unfold dofT
  split
  · have := tal_bound (pk kind) V h; unfold sumT; omega
  · simp; omega
set_option maxRecDepth 100000 in
set_option maxHeartbeats 1000000 in
theorem dshare_any (oa : Option Addr) (n cap : Nat) (V : List Fat) (hn : V.length = n) (hl : n ≤ 100) (hok : ∀ f ∈ V, f.ok = true) (kind : Int) (w : World) (hf : FatesN w oa V) :
    Calls Tryd.prog 20 #[.slice oa n cap, .int .i64 kind] w fun e w' => e = .returned (.int .i64 (dshareN V kind)) ∧ Below w.heap.size w w' := by
  have CO := Lib.hid (dof_any oa n cap V hn hl hok kind w hf)
  have hb := dofT_bound V kind hok
  have hsf := dsum_f0
  by_cases h0 : n = 0
  · subst h0
    have hv : dshareN V kind = 0 := if_pos hn
    rw [hv]
    go_enter Tryd.func20, Tryd.ntmps20
    go_wp2_with fail
    go_ret
    exact ⟨rfl, Below.refl _ _⟩
  · have hv : dshareN V kind = 1000 * (dofT V kind).n / V.length := if_neg (by omega)
    rw [hv, hn]
    rw [hn] at hb
    unfold Tal.val at CO
    generalize dofT V kind = T at CO hb ⊢
    have q0 : ((n : Int) == 0) = false := by simp; omega
    have hm : IntKind.i64.wrap (1000 * T.n) = 1000 * T.n := IntWalk.i64_in _ (by omega)
    have hdiv : (1000 * T.n).tdiv (n : Int) = 1000 * T.n / (n : Int) := Int.tdiv_eq_ediv_of_nonneg (by omega)
    have hr : 0 ≤ 1000 * T.n / (n : Int) ∧ 1000 * T.n / (n : Int) ≤ 1000000 := by
      constructor
      · exact Int.ediv_nonneg (by omega) (by omega)
      · exact Int.le_trans (Int.ediv_le_self _ (by omega)) (by omega)
    have hw2 : IntKind.i64.wrap (1000 * T.n / (n : Int)) = 1000 * T.n / (n : Int) := IntWalk.i64_in _ (by omega)
    go_enter Tryd.func20, Tryd.ntmps20
    go_wp2_with (first
      | (go_at_call 12; refine CO.out.mono ?_; rintro e w' ⟨rfl, hbl⟩; have HD := Lib.hid hbl; clear hbl))
    go_ret
    exact ⟨rfl, HD.out⟩
def sameS : List ByteArray → List ByteArray → Bool
  | [], [] => true
  | x :: a, y :: b => x.toList == y.toList && sameS a b
  | _, _ => false
theorem sameS_self : ∀ L : List ByteArray, sameS L L = true
  | [] => rfl
  | x :: l => by simp [sameS, sameS_self l]
set_option maxRecDepth 100000 in
set_option maxHeartbeats 1000000 in
theorem sameLines_any (oa ob : Option Addr) (n cap cap' : Nat) (L : List ByteArray) (hn : L.length = n) (hl : n ≤ 1000) (w : World) (ha : StrsN w oa L) (hb : StrsN w ob L) :
    Calls Tryd.prog 21 #[.slice oa n cap, .slice ob n cap'] w fun e w' => e = .returned (.bool true) ∧ Below w.heap.size w w' := by
  have HA := Lib.hid ha
  have HB := Lib.hid hb
  clear ha hb
  go_enter Tryd.func21, Tryd.ntmps21
  go_wp2_with fail
  go_loopw [5] (fun ii wr => ∃ k : Nat, ii = .int .i64 k ∧ k ≤ n ∧ Below w.heap.size w wr) (fun ii _ => n - (intOf ii).toNat)
  case atStart => exact ⟨0, rfl, by omega, Below.refl _ _⟩
  case round =>
    obtain ⟨k, rfl, hk, hbw⟩ := hrel
    have HBW := Lib.hid hbw
    clear hbw
    by_cases hlt : k < n
    · have q4 : decide ((k : Int) < (n : Int)) = true := decide_eq_true (by omega)
      have q5 : (k : Int) < (n : Int) := by omega
      have hw5 : IntKind.i64.wrap ((k : Int) + 1) = (k : Int) + 1 := IntWalk.i64_in _ (by omega)
      obtain ⟨s, hsk⟩ : ∃ s, L[k]? = some s := ⟨L[k]'(by omega), List.getElem?_eq_getElem _⟩
      obtain ⟨a, rfl, c1⟩ := HA.out k s hsk
      obtain ⟨b, rfl, c2⟩ := HB.out k s hsk
      have d1 := (cell_eq (HBW.out.block _ (World.block_lt_of_cell? _ _ c1))).trans c1
      have d2 := (cell_eq (HBW.out.block _ (World.block_lt_of_cell? _ _ c2))).trans c2
      clear c1 c2
      go_upto_region 6 with fail
      go_region
      all_goals (
        go_wp2_with fail
        refine ⟨⟨k + 1, rfl, hlt, HBW.out.drew⟩, ?_⟩
        simp [intOf]
        omega)
    · have q4 : decide ((k : Int) < (n : Int)) = false := decide_eq_false (by omega)
      go_wp2_with fail
      go_ret
      exact ⟨rfl, HBW.out⟩
def IntsN (W : World) (oa : Option Addr) (n : Nat) (H : Nat → Int) : Prop := ∀ i, i < n → ∃ a, oa = some a ∧ W.cell? (a.add i) = some (.int .i64 (H i))
theorem Twelve.ints {W : World} {B : Nat} {v : Value} {H : Nat → Int} (h : Twelve W B v H) : ∃ oa, v = .slice oa 12 12 ∧ IntsN W oa 12 H := by
  obtain ⟨g, e, hr, _⟩ := h
  refine ⟨_, e, fun i hi => ⟨_, rfl, ?_⟩⟩
  have e2 : (⟨g, 0, none⟩ : Addr).add i = ⟨g, i, none⟩ := by unfold Addr.add; split <;> simp_all
  rw [e2, cell_of_row _ _ _ _ _ _ hr]
  exact nrow_at 12 H i hi
set_option maxRecDepth 100000 in
set_option maxHeartbeats 1000000 in
theorem sameInts_any (oa ob : Option Addr) (n cap cap' : Nat) (H H' : Nat → Int) (hH : ∀ i, i < n → H i = H' i) (hl : n ≤ 1000) (w : World) (ha : IntsN w oa n H) (hb : IntsN w ob n H') :
    Calls Tryd.prog 16 #[.slice oa n cap, .slice ob n cap'] w fun e w' => e = .returned (.bool true) ∧ Below w.heap.size w w' := by
  have HA := Lib.hid ha
  have HB := Lib.hid hb
  clear ha hb
  go_enter Tryd.func16, Tryd.ntmps16
  go_wp2_with fail
  go_loopw [5] (fun ii wr => ∃ k : Nat, ii = .int .i64 k ∧ k ≤ n ∧ Below w.heap.size w wr) (fun ii _ => n - (intOf ii).toNat)
  case atStart => exact ⟨0, rfl, by omega, Below.refl _ _⟩
  case round =>
    obtain ⟨k, rfl, hk, hbw⟩ := hrel
    have HBW := Lib.hid hbw
    clear hbw
    by_cases hlt : k < n
    · have q4 : decide ((k : Int) < (n : Int)) = true := decide_eq_true (by omega)
      have q5 : (k : Int) < (n : Int) := by omega
      have hw5 : IntKind.i64.wrap ((k : Int) + 1) = (k : Int) + 1 := IntWalk.i64_in _ (by omega)
      have hh := hH k hlt
      obtain ⟨a, rfl, c1⟩ := HA.out k hlt
      obtain ⟨b, rfl, c2⟩ := HB.out k hlt
      rw [← hh] at c2
      have d1 := (cell_eq (HBW.out.block _ (World.block_lt_of_cell? _ _ c1))).trans c1
      have d2 := (cell_eq (HBW.out.block _ (World.block_lt_of_cell? _ _ c2))).trans c2
      clear c1 c2
      go_upto_region 6 with fail
      go_region
      all_goals (
        go_wp2_with fail
        refine ⟨⟨k + 1, rfl, hlt, HBW.out.drew⟩, ?_⟩
        simp [intOf]
        omega)
    · have q4 : decide ((k : Int) < (n : Int)) = false := decide_eq_false (by omega)
      go_wp2_with fail
      go_ret
      exact ⟨rfl, HBW.out⟩
end Go.Proofs.YtbpcknjobbjmpaaDoor
