/- FldS · FldT: joined by a program, for a claim has at most 60 files. -/
import Derived.Test.YteceinojmdgmeaaC11
/- What a table's fields count: dyntab.Size and the document's Sum and Size. -/
namespace Go.Proofs.Yteceinojmdgmeaa
open Go.RowKit
set_option linter.unusedVariables false
set_option linter.unusedSimpArgs false

def Fld.sz (f : Fld) : Nat := f.name.size + f.value.size + 32
def sumF : List Fld → Nat
  | [] => 0
  | f :: l => f.sz + sumF l
theorem sumF_append (a b : List Fld) : sumF (a ++ b) = sumF a + sumF b := by
  induction a with
  | nil => simp [sumF]
  | cons x l ih => simp only [List.cons_append, sumF, ih]; omega
theorem sumF_take (L : List Fld) (k : Nat) (h : k < L.length) : sumF (L.take (k + 1)) = sumF (L.take k) + L[k].sz := by
  rw [List.take_succ_eq_append_getElem h, sumF_append]
  simp [sumF]
theorem sumF_le (L : List Fld) (k : Nat) (hl : ∀ f ∈ L, lightF f = true) : sumF (L.take k) ≤ 80032 * k := by
  induction k with
  | zero => simp [sumF]
  | succ k ih =>
    by_cases h : k < L.length
    · have := hl L[k] (List.getElem_mem h)
      simp only [lightF, Bool.and_eq_true, decide_eq_true_eq] at this
      rw [sumF_take L k h]
      unfold Fld.sz
      omega
    · rw [List.take_of_length_le (by omega)]
      rw [List.take_of_length_le (by omega)] at ih
      omega
def tabV (m : Int) (oa : Option Addr) (n cap : Nat) : Value := .agg #[.int .i64 m, .slice oa n cap]
set_option maxRecDepth 100000 in
set_option maxHeartbeats 1000000 in
theorem size_tab (m : Int) (oa : Option Addr) (n cap : Nat) (L : List Fld) (hn : L.length = n) (hl : ∀ f ∈ L, lightF f = true) (hn30 : n ≤ 1000) (w : World) (hf : FieldsN w oa L) :
    Calls Try.prog 71 #[.agg #[.int .i64 m, .slice oa n cap]] w fun e w' => e = .returned (.int .i64 (sumF L : Nat)) ∧ Below w.heap.size w w' := by
  have HN := Lib.hid hn
  have HF := Lib.hid hf
  have HL := Lib.hid hl
  clear hn hf hl
  go_enter Try.func71, Try.ntmps71
  go_wp2_with fail
  go_loopw [3, 9] (fun s i wr => ∃ k : Nat, k ≤ n ∧ i = .int .i64 k ∧ s = .int .i64 (sumF (L.take k) : Nat) ∧ Below w.heap.size w wr) (fun _ i _ => n - (intOf i).toNat)
  case atStart => exact ⟨0, Nat.zero_le _, rfl, rfl, (Below.refl _ _).alloc (Nat.le_refl _) _⟩
  case round =>
    obtain ⟨k, hk, rfl, rfl, bk⟩ := hrel
    have BK := Lib.hid bk
    clear bk
    by_cases hlt : k < n
    · have hki : (k : Int) < (n : Int) := by omega
      have hkL : k < L.length := by rw [HN.out]; exact hlt
      have hsl := sumF_le L k HL.out
      have HT := Lib.hid (sumF_take L k hkL)
      have hlf := HL.out L[k] (List.getElem_mem hkL)
      obtain ⟨b, o, rfl, h1, h2, h3⟩ := (HF.out.below BK.out) k L[k] (List.getElem?_eq_getElem hkL)
      generalize L[k] = f at h1 h2 h3 HT hlf
      obtain ⟨nm, vl, nv⟩ := f
      simp only [Fld.sz, lightF, Bool.and_eq_true, decide_eq_true_eq] at h1 h2 h3 HT hlf
      generalize sumF (L.take k) = S at hsl HT ⊢
      go_wp2_with fail
      refine (field_size nm vl nv (by omega) (by omega) _).mono ?_
      rintro e w5 ⟨rfl, hb⟩
      have B5 := Lib.hid ((BK.out.alloc BK.out.size _).trans (hb.mono (by have := BK.out.size; simp; omega)))
      clear hb
      have hw : IntKind.i64.wrap ((S : Int) + ((nm.size : Int) + (vl.size : Int) + 32)) = ((S + (nm.size + vl.size + 32) : Nat) : Int) := by
        rw [show (S : Int) + ((nm.size : Int) + (vl.size : Int) + 32) = ((S + (nm.size + vl.size + 32) : Nat) : Int) from by simp]
        exact IntWalk.i64_in _ (by omega)
      go_wp2_with fail
      go_roundw
      case rel => exact ⟨k + 1, by omega, by go_num, by rw [HT.out]; simp, B5.out⟩
      case measure => simp [intOf]; omega
    · obtain rfl : k = n := by omega
      rw [List.take_of_length_le (by rw [HN.out]; exact Nat.le_refl _)]
      go_wp2_with fail
      go_ret
      exact ⟨rfl, BK.out⟩
end Go.Proofs.Yteceinojmdgmeaa


/- The field at a place: dyntab.At. -/
namespace Go.Proofs.Yteceinojmdgmeaa
open Go.RowKit
set_option linter.unusedVariables false
set_option linter.unusedSimpArgs false

def zeroF : Fld := ⟨ByteArray.empty, ByteArray.empty, false⟩
/-- What stands at a place, and whether anything does. -/
def atF (L : List Fld) (i : Int) : Fld × Bool :=
  if i < 1 then (zeroF, false) else if i ≤ 61 then (⟨stN (i - 1).toNat, stV (i - 1).toNat, false⟩, true) else match L[(i - 62).toNat]? with | some f => (f, true) | none => (zeroF, false)
def AtPost (L : List Fld) (i : Int) (w : World) (e : Ending) (w' : World) : Prop := e = .returned (.tuple #[.agg #[.string (atF L i).1.name, .string (atF L i).1.value, .bool (atF L i).1.never], .bool (atF L i).2]) ∧ Below w.heap.size w w'
set_option maxRecDepth 100000 in
set_option maxHeartbeats 1000000 in
theorem dAt_any (m : Int) (oa : Option Addr) (n cap : Nat) (L : List Fld) (hn : L.length = n) (i : Int) (hi : (Lit.int .i64 i).wf = true) (w : World) (hf : FieldsN w oa L) :
    Calls Try.prog 85 #[.agg #[.int .i64 m, .slice oa n cap], .int .i64 i] w (AtPost L i w) := by
  have e1 : IntKind.i64.min = -9223372036854775808 := rfl
  have e2 : IntKind.i64.max = 9223372036854775807 := rfl
  simp only [Lit.wf, Bool.and_eq_true, decide_eq_true_eq, e1, e2] at hi
  clear e1 e2
  have HN := Lib.hid hn
  have HF := Lib.hid hf
  clear hn hf
  by_cases h61 : i ≤ 61
  · have hS : ∃ (f : Fld) (x : Bool), atF L i = (f, x) ∧ ∀ W, Calls Try.prog 92 #[.int .i64 i] W fun e w' => e = .returned (.tuple #[.agg #[.string f.name, .string f.value, .bool f.never], .bool x]) ∧ Below W.heap.size W w' := by
      by_cases h1 : i < 1
      · exact ⟨zeroF, false, by unfold atF; rw [if_pos h1], fun W => stAt_out i (.inl h1) W⟩
      · refine ⟨⟨stN (i - 1).toNat, stV (i - 1).toNat, false⟩, true, by unfold atF; rw [if_neg h1, if_pos h61], fun W => stAt_in (i - 1).toNat (by omega) i (by omega) W⟩
    obtain ⟨⟨nm, vl, nv⟩, x, hat, hc⟩ := hS
    have HAT := Lib.hid hat
    have HC := Lib.hid hc
    clear hat hc
    go_enter Try.func85, Try.ntmps85
    go_wp2_with fail
    refine (HC.out _).mono ?_
    rintro e w1 ⟨rfl, hb⟩
    simp only
    have h9 : (w.alloc (.cells #[.int .i64 m, .slice oa n cap] 28)).heap.size = w.heap.size + 1 := Array.size_push _
    have hrow : w1.heap[w.heap.size + 1]? = some (.cells #[.string ByteArray.empty, .string ByteArray.empty, .bool false] 25 (0, 0)) := by
      rw [hb.block (w.heap.size + 1) (by simp), ← h9]
      exact heap_alloc_new _ _
    clear h9
    have hB : Below w.heap.size w (w1.setRow (w.heap.size + 1) #[.string nm, .string vl, .bool nv]) := below_setRow ((((Below.refl _ _).alloc (Nat.le_refl _) _).alloc (by simp) _).trans (hb.mono (by simp; omega))) (by omega) _
    have HB := Lib.hid hB
    have HR2 := Lib.hid (setRow_heap _ _ _ #[.string nm, .string vl, .bool nv] _ _ hrow)
    clear hb hB
    go_wp2_with (refine wpList_store_row rfl _ _ _ rfl (w.heap.size + 1) #[.string nm, .string vl, .bool nv] rfl rfl _ _ hrow (by kernel_rfl) (by kernel_rfl) (by kernel_rfl) ?_)
    have q : ∀ j : Nat, (w1.setRow (w.heap.size + 1) #[.string nm, .string vl, .bool nv]).cell? ⟨w.heap.size + 1, j, none⟩ = #[Value.string nm, .string vl, .bool nv][j]? := fun j => cell_of_row _ _ _ _ _ _ HR2.out
    have q0 := q 0
    have q1 := q 1
    have q2 := q 2
    clear q
    refine bodyPost_ret (v := .tuple #[.agg #[.string nm, .string vl, .bool nv], .bool x]) (by simp [results, Try.results85, go_sem, q0, q1, q2]) rfl ⟨by rw [HAT.out], HB.out⟩
  · have h61b : decide (i ≤ 61) = false := by simp; omega
    have hw : IntKind.i64.wrap (i - 62) = i - 62 := IntWalk.i64_in _ (by omega)
    have h1 : ¬ i < 1 := by omega
    by_cases hlt : i - 62 < (n : Int)
    · obtain ⟨k, hk⟩ : ∃ k : Nat, i - 62 = (k : Int) := ⟨(i - 62).toNat, by omega⟩
      have hkL : k < L.length := by rw [HN.out]; omega
      have HAT := Lib.hid (show atF L i = (L[k], true) from by
        unfold atF
        rw [if_neg h1, if_neg h61, hk, Int.toNat_natCast, List.getElem?_eq_getElem hkL])
      have hwk : IntKind.i64.wrap (i - 62) = (k : Int) := hw.trans hk
      rw [hk] at hlt
      clear hw
      have hkn : (k : Int) < (n : Int) := hlt
      obtain ⟨b, o, rfl, g1, g2, g3⟩ := HF.out k L[k] (List.getElem?_eq_getElem hkL)
      have hbw := World.block_lt_of_cell? _ _ g1
      generalize L[k] = f at g1 g2 g3 HAT
      obtain ⟨nm, vl, nv⟩ := f
      simp only at g1 g2 g3 hbw
      have HB := Lib.hid (((Below.refl w.heap.size w).alloc (Nat.le_refl _) (.cells #[.int .i64 m, .slice (some ⟨b, o, none⟩) n cap] 28)).alloc (by simp) (.cells #[.string nm, .string vl, .bool nv] 25))
      clear hk hlt h61 h1
      go_enter Try.func85, Try.ntmps85
      go_wp2_with fail
      refine bodyPost_ret (v := .tuple #[.agg #[.string nm, .string vl, .bool nv], .bool true]) (by simp [results, Try.results85, go_sem]) rfl ⟨by rw [HAT.out], HB.out⟩
    · have hk : ¬ (i - 62 < (n : Int)) := hlt
      have HAT := Lib.hid (show atF L i = (zeroF, false) from by
        unfold atF
        rw [if_neg h1, if_neg h61, List.getElem?_eq_none (by rw [HN.out]; omega)])
      have HB := Lib.hid (((Below.refl w.heap.size w).alloc (Nat.le_refl _) (.cells #[.int .i64 m, .slice oa n cap] 28)).alloc (by simp) (.cells #[.string ByteArray.empty, .string ByteArray.empty, .bool false] 25))
      clear hlt h61 h1
      go_enter Try.func85, Try.ntmps85
      go_wp2_with fail
      refine bodyPost_ret (v := .tuple #[.agg #[.string ByteArray.empty, .string ByteArray.empty, .bool false], .bool false]) (by simp [results, Try.results85, go_sem]; rfl) rfl ⟨by rw [HAT.out]; rfl, HB.out⟩
end Go.Proofs.Yteceinojmdgmeaa

