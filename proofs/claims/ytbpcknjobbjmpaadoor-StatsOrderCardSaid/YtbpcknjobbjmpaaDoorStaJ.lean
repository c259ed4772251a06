/- The document's sums. -/
import Derived.Test.YtbpcknjobbjmpaaDoorStaI
namespace Go.Proofs.YtbpcknjobbjmpaaDoor
open Go.RowKit
set_option linter.unusedVariables false
set_option linter.unusedSimpArgs false

def pk (kind : Int) (f : Fat) : Bool := decide (kind < 0) || f.k == kind
def sumT (V : List Fat) (kind : Int) : Tal := tal (pk kind) V
def Tal.val (t : Tal) : Value := .agg #[.int .i64 t.n, .int .i64 t.c, .int .i64 t.m]
def Tal.row (t : Tal) : Array Value := #[.int .i64 t.n, .int .i64 t.c, .int .i64 t.m]
theorem sumT_succ (V : List Fat) (kind : Int) (k : Nat) (f : Fat) (h : V[k]? = some f) : sumT (V.take (k + 1)) kind = tstep (pk kind) (sumT (V.take k) kind) f := by
  have hk : k < V.length := (List.getElem?_eq_some_iff.1 h).1
  have : V.take (k + 1) = V.take k ++ [f] := by
    rw [List.take_add_one, h]; rfl
  unfold sumT
  rw [this, tal_snoc]
set_option maxRecDepth 100000 in
set_option maxHeartbeats 4000000 in
theorem sum_any (oa : Option Addr) (n cap : Nat) (V : List Fat) (hn : V.length = n) (hl : n ≤ 100) (hok : ∀ f ∈ V, f.ok = true) (kind : Int) (w : World) (hf : FatesN w oa V) :
    Calls Tryd.prog 41 #[.slice oa n cap, .int .i64 kind] w fun e w' => e = .returned (sumT V kind).val ∧ Below w.heap.size w w' := by
  have HF := Lib.hid hf
  have HOK := Lib.hid hok
  clear hf hok
  go_enter Tryd.func41, Tryd.ntmps41
  go_wp2_with fail
  have hrow1 := heap_alloc_new w (.cells #[.int .i64 0, .int .i64 0, .int .i64 0] 34)
  have hrow2 := heap_alloc_new (w.alloc (.cells #[.int .i64 0, .int .i64 0, .int .i64 0] 34)) (.cells #[.int .i64 0, .int .i64 0, .int .i64 0] 34)
  have hb2 := ((Below.refl w.heap.size w).alloc (Nat.le_refl _) (.cells #[.int .i64 0, .int .i64 0, .int .i64 0] 34)).alloc (by simp) (.cells #[.int .i64 0, .int .i64 0, .int .i64 0] 34)
  have hrow1' := (Below.heap_alloc (w.alloc (.cells #[.int .i64 0, .int .i64 0, .int .i64 0] 34)) (.cells #[.int .i64 0, .int .i64 0, .int .i64 0] 34) w.heap.size (by simp)).trans hrow1
  have hsz1 : (w.alloc (.cells #[.int .i64 0, .int .i64 0, .int .i64 0] 34)).heap.size = w.heap.size + 1 := by simp
  rw [hsz1] at hrow2
  generalize (w.alloc (.cells #[.int .i64 0, .int .i64 0, .int .i64 0] 34)).alloc (.cells #[.int .i64 0, .int .i64 0, .int .i64 0] 34) = w2 at hrow1' hrow2 hb2 ⊢
  have HB2 := Lib.hid hb2
  have HR1 := Lib.hid hrow1'
  have HR2 := Lib.hid hrow2
  clear hb2 hrow1 hrow1' hrow2 hsz1
  go_loopw [6] (fun ii wr => ∃ k : Nat, ii = .int .i64 k ∧ k ≤ n ∧ wr.heap[w.heap.size + 1]? = some (.cells (sumT (V.take k) kind).row 34 (0, 0)) ∧ wr.heap[w.heap.size]? = some (.cells #[.int .i64 0, .int .i64 0, .int .i64 0] 34 (0, 0)) ∧ Below w.heap.size w wr) (fun ii _ => n - (intOf ii).toNat)
  case atStart => exact ⟨0, rfl, by omega, HR2.out, HR1.out, HB2.out⟩
  case round =>
    obtain ⟨k, rfl, hk, hrow, hres, hb⟩ := hrel
    have HRW := Lib.hid hrow
    have HRS := Lib.hid hres
    have HBW := Lib.hid hb
    clear hrow hres hb
    by_cases hlt : k < n
    · have q4 : decide ((k : Int) < (n : Int)) = true := decide_eq_true (by omega)
      have q5 : (k : Int) < (n : Int) := by omega
      have hw5 : IntKind.i64.wrap ((k : Int) + 1) = (k : Int) + 1 := IntWalk.i64_in _ (by omega)
      obtain ⟨f, hfk⟩ : ∃ f, V[k]? = some f := ⟨V[k]'(by omega), List.getElem?_eq_getElem _⟩
      have hfok := (f.ok_iff).1 (HOK.out f (List.mem_of_getElem? hfk))
      obtain ⟨b, o, rfl, c1, c2, c3, c4⟩ := (HF.out.below HBW.out) k f hfk
      have hS := sumT_succ V kind k f hfk
      have hbd := tal_bound (pk kind) (V.take k) (fun g hg => HOK.out g (List.mem_of_mem_take hg))
      have hlen : (V.take k).length ≤ 100 := by rw [List.length_take]; omega
      have HS := Lib.hid hS
      clear hS
      change 0 ≤ (sumT (V.take k) kind).n ∧ (sumT (V.take k) kind).n ≤ _ ∧ 0 ≤ (sumT (V.take k) kind).c ∧ (sumT (V.take k) kind).c ≤ _ ∧ 0 ≤ (sumT (V.take k) kind).m ∧ (sumT (V.take k) kind).m ≤ _ at hbd
      generalize sumT (V.take k) kind = T at hbd HS HRW
      obtain ⟨⟨r0, r1, r2⟩, z0, z1, z2⟩ := res3 HRW.out
      have hw1 : IntKind.i64.wrap (T.n + 1) = T.n + 1 := IntWalk.i64_in _ (by omega)
      have hw2 : IntKind.i64.wrap (T.c + f.n) = T.c + f.n := IntWalk.i64_in _ (by omega)
      have hst := heap_setCell_same _ _ 2 _ _ (.int .i64 (max T.m f.n)) (heap_setCell_same _ _ 1 _ _ (.int .i64 (T.c + f.n)) (heap_setCell_same _ _ 0 _ _ (.int .i64 (T.n + 1)) HRW.out))
      have hres' : (((wr.setCell ⟨w.heap.size + 1, 0, none⟩ (.int .i64 (T.n + 1))).setCell ⟨w.heap.size + 1, 1, none⟩ (.int .i64 (T.c + f.n))).setCell ⟨w.heap.size + 1, 2, none⟩ (.int .i64 (max T.m f.n))).heap[w.heap.size]? = some (.cells #[.int .i64 0, .int .i64 0, .int .i64 0] 34 (0, 0)) :=
        (heap_setCell_other _ _ _ _ (by simp)).trans ((heap_setCell_other _ _ _ _ (by simp)).trans ((heap_setCell_other _ _ _ _ (by simp)).trans HRS.out))
      have hbb := ((HBW.out.setCell (p := ⟨w.heap.size + 1, 0, none⟩) (by simp) (.int .i64 (T.n + 1))).setCell (p := ⟨w.heap.size + 1, 1, none⟩) (by simp) (.int .i64 (T.c + f.n))).setCell (p := ⟨w.heap.size + 1, 2, none⟩) (by simp) (.int .i64 (max T.m f.n))
      have HST := Lib.hid hst
      have HRE := Lib.hid hres'
      have HBB := Lib.hid hbb
      clear hst hres' hbb hbd
      by_cases hp : pk kind f = true
      · rw [show tstep (pk kind) T f = T.add f.n from by unfold tstep; rw [if_pos hp]] at HS
        by_cases hkn : kind < 0
        · have q1 : decide (kind < 0) = true := decide_eq_true hkn
          go_upto_region 6 with fail
          go_region
          all_goals (
            go_wp2_with fail
            refine ⟨⟨k + 1, rfl, hlt, by rw [HS.out]; exact HST.out, HRE.out, ⟨HBB.out.os, HBB.out.tape, HBB.out.output, HBB.out.size, HBB.out.block⟩⟩, ?_⟩
            simp [intOf]
            omega)
        · have q1 : decide (kind < 0) = false := decide_eq_false hkn
          have q2 : (f.k == kind) = true := by unfold pk at hp; simpa [q1] using hp
          go_upto_region 6 with fail
          go_region
          all_goals (
            go_wp2_with fail
            refine ⟨⟨k + 1, rfl, hlt, by rw [HS.out]; exact HST.out, HRE.out, ⟨HBB.out.os, HBB.out.tape, HBB.out.output, HBB.out.size, HBB.out.block⟩⟩, ?_⟩
            simp [intOf]
            omega)
      · rw [show tstep (pk kind) T f = T from by unfold tstep; rw [if_neg hp]] at HS
        have hkn : ¬ kind < 0 := fun e => hp (by unfold pk; simp [e])
        have q1 : decide (kind < 0) = false := decide_eq_false hkn
        have q2 : (f.k == kind) = false := by
          cases hx : (f.k == kind) with
          | false => rfl
          | true => exact absurd (by unfold pk; rw [hx]; simp) hp
        go_wp2_with fail
        refine ⟨⟨k + 1, rfl, hlt, by rw [HS.out]; exact HRW.out, HRS.out, HBW.out⟩, ?_⟩
        simp [intOf]
        omega
    · have q4 : decide ((k : Int) < (n : Int)) = false := decide_eq_false (by omega)
      have q5 : ¬ (k : Int) < (n : Int) := by omega
      obtain rfl : k = n := by omega
      have hall : V.take k = V := by rw [List.take_of_length_le (by omega)]
      rw [hall] at HRW
      obtain ⟨⟨r0, r1, r2⟩, z0, z1, z2⟩ := res3 HRW.out
      obtain ⟨⟨p0, p1, p2⟩, y0, y1, y2⟩ := res3 HRS.out
      obtain ⟨s0, s1, s2⟩ := store3 HRS.out (.int .i64 (sumT V kind).n) (.int .i64 (sumT V kind).c) (.int .i64 (sumT V kind).m)
      go_wp2_with fail
      refine bodyPost_ret (v := .agg #[.int .i64 (sumT V kind).n, .int .i64 (sumT V kind).c, .int .i64 (sumT V kind).m]) (by simp [results, Tryd.results41, go_sem, s0, s1, s2]) rfl ⟨rfl, ?_⟩
      have HD := HBW.out
      repeat' (first | exact HD | (with_reducible refine Below.setCell ?_ ?_ _))
      all_goals (first | exact Nat.le_refl _ | omega | (simp; done))
end Go.Proofs.YtbpcknjobbjmpaaDoor
