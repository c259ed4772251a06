/- UnA · UnB · UnC: joined by a program, for a claim has at most 60 files. -/
import Derived.RangeFuncNested
import Derived.RangeFuncBound
import Derived.RangeFuncCalls
import Derived.RangeFuncLeaves
import Derived.RangeFuncBox
import Derived.RangeFuncFrom
import Derived.Shelf.Abstract
import Derived.Shelf.RegionOpen
import Derived.WalkKit
import Derived.OwnWalkIn
import Derived.TacticsInMore
import Derived.LoopNIn
import Derived.LoopIn
import Derived.Lib.Hide
import Derived.Lib.SliceRun
import Derived.Laws.StructEq
import Derived.Laws.Rows
import Derived.IntWalk
import Derived.Deep.Draws
import Derived.Test.YtdkgckgpdogimaaGreatDoorChecked
import Derived.Maps.AppendAt
/- unack.Greatest ranges over a function: what it goes over. -/
namespace Go.Proofs.YtdkgckgpdogimaaGreatDoor
open Go.RowKit Go.Shelf
set_option linter.unusedVariables false
set_option linter.unusedSimpArgs false
attribute [local go_sem] Oper.semAt_some

/-- All rows but one stay. -/
def KpG (g : Nat) (W W' : World) : Prop := ∀ (j : Nat) (arr : Array Value) (el : TypeId) (fz : Nat × Nat), j ≠ g → W.heap[j]? = some (.cells arr el fz) → W'.heap[j]? = some (.cells arr el fz)
/-- The queue's items, and their pairs. -/
structure QRow (W : World) (g : Nat) (oa : Option Addr) (n : Nat) (ia : Nat → Option Addr) (im ic : Nat → Nat) (is : Nat → Int) (pi pv : Nat → Nat → Nat) : Prop where
  q : ∀ k, k < n → ∃ b o arr el fz, oa = some ⟨b, o, none⟩ ∧ b ≠ g ∧ W.heap[b]? = some (.cells arr el fz) ∧ arr[o + 2 * k]? = some (.slice (ia k) (im k) (ic k)) ∧ arr[o + 2 * k + 1]? = some (.int .i64 (is k))
  p : ∀ k, k < n → ∀ j, j < im k → ∃ b o arr el fz, ia k = some ⟨b, o, none⟩ ∧ b ≠ g ∧ W.heap[b]? = some (.cells arr el fz) ∧ arr[o + 2 * j]? = some (.int .u16 (pi k j : Int)) ∧ arr[o + 2 * j + 1]? = some (.int .u32 (pv k j : Int))
theorem QRow.kept {W W' : World} {g : Nat} {oa : Option Addr} {n : Nat} {ia : Nat → Option Addr} {im ic : Nat → Nat} {is : Nat → Int} {pi pv : Nat → Nat → Nat} (h : QRow W g oa n ia im ic is pi pv) (hk : KpG g W W') : QRow W' g oa n ia im ic is pi pv :=
  ⟨fun k hkn => let ⟨b, o, arr, el, fz, h1, h2, h3, h4⟩ := h.q k hkn; ⟨b, o, arr, el, fz, h1, h2, hk _ _ _ _ h2 h3, h4⟩,
   fun k hkn j hj => let ⟨b, o, arr, el, fz, h1, h2, h3, h4⟩ := h.p k hkn j hj; ⟨b, o, arr, el, fz, h1, h2, hk _ _ _ _ h2 h3, h4⟩⟩
theorem KpG.of_below {g : Nat} {W W' : World} (hb : Below W.heap.size W W') : KpG g W W' := fun j arr el fz hj h => (hb.block j (Array.getElem?_eq_some_iff.1 h).1).trans h
theorem KpG.trans {g : Nat} {A B C : World} (h : KpG g A B) (k : KpG g B C) : KpG g A C := fun j arr el fz hj e => k j arr el fz hj (h j arr el fz hj e)
def vsJ (id : Nat) (pi pv : Nat → Nat → Nat) (k j : Nat) : List Nat := (List.range j).filterMap fun i => if pi k i = id then some (pv k i) else none
def xsK (id : Nat) (im : Nat → Nat) (pi pv : Nat → Nat → Nat) (k : Nat) : List Nat := (List.range k).flatMap fun i => vsJ id pi pv i (im i)
theorem vsJ_succ (id : Nat) (pi pv : Nat → Nat → Nat) (k j : Nat) : vsJ id pi pv k (j + 1) = vsJ id pi pv k j ++ (if pi k j = id then [pv k j] else []) := by
  unfold vsJ
  rw [List.range_succ, List.filterMap_append]
  by_cases h : pi k j = id <;> simp [h]
theorem xsK_succ (id : Nat) (im : Nat → Nat) (pi pv : Nat → Nat → Nat) (k : Nat) : xsK id im pi pv (k + 1) = xsK id im pi pv k ++ vsJ id pi pv k (im k) := by
  unfold xsK
  rw [List.range_succ, List.flatMap_append]
  simp
theorem vsJ_len (id : Nat) (pi pv : Nat → Nat → Nat) (k : Nat) {a b : Nat} (h : a ≤ b) : (vsJ id pi pv k a).length ≤ (vsJ id pi pv k b).length := by
  induction b with
  | zero => obtain rfl : a = 0 := by omega
            exact Nat.le_refl _
  | succ b ih =>
    by_cases h1 : a = b + 1
    · subst h1; exact Nat.le_refl _
    · have := ih (by omega)
      rw [vsJ_succ, List.length_append]
      omega
theorem xsK_len (id : Nat) (im : Nat → Nat) (pi pv : Nat → Nat → Nat) {a b : Nat} (h : a ≤ b) : (xsK id im pi pv a).length ≤ (xsK id im pi pv b).length := by
  induction b with
  | zero => obtain rfl : a = 0 := by omega
            exact Nat.le_refl _
  | succ b ih =>
    by_cases h1 : a = b + 1
    · subst h1; exact Nat.le_refl _
    · have := ih (by omega)
      rw [xsK_succ, List.length_append]
      omega
theorem pre_len {id : Nat} {im : Nat → Nat} {pi pv : Nat → Nat → Nat} {n k j : Nat} (hk : k < n) (hj : j ≤ im k) : (xsK id im pi pv k ++ vsJ id pi pv k j).length < (xsK id im pi pv n).length + 1 := by
  have h1 := xsK_len id im pi pv (show k + 1 ≤ n by omega)
  have h2 := vsJ_len id pi pv k hj
  rw [xsK_succ, List.length_append] at h1
  rw [List.length_append]
  omega
theorem grown_belowU {w w' : World} (hb : Below w.heap.size w w') : w.grownBy w' none := ⟨hb.os, hb.tape, hb.output, hb.size, fun i hi _ => hb.block i hi⟩
abbrev encN (x : Nat) : Array Value := #[.int .i64 (x : Int)]
theorem cell_arr {W : World} {b i : Nat} {arr : Array Value} {el : TypeId} {fz : Nat × Nat} {v : Value} (h : W.heap[b]? = some (.cells arr el fz)) (hv : arr[i]? = some v) : W.cell? ⟨b, i, none⟩ = some v := by
  unfold World.cell?
  rw [h]
  exact hv
end Go.Proofs.YtdkgckgpdogimaaGreatDoor


/- unack.Greatest ranges over a function: the iterator. -/
namespace Go.Proofs.YtdkgckgpdogimaaGreatDoor
open Go.RowKit Go.Shelf
set_option linter.unusedVariables false
set_option linter.unusedSimpArgs false
attribute [local go_sem] Oper.semAt_some

set_option maxRecDepth 100000 in
set_option maxHeartbeats 4000000 in
theorem values1_in (N0 : Nat) (hN0 : 1 ≤ N0) (l Bq Bi g : Nat) (J Jx : List Nat → World → Prop) (W : World) (oa : Option Addr) (n cap id : Nat) (ia : Nat → Option Addr) (im ic : Nat → Nat) (is : Nat → Int) (pi pv : Nat → Nat → Nat)
    (hn : n < 1000000) (him : ∀ k, k < n → im k < 1000000) (hpv : ∀ k j, pv k j < 4294967296) (hJ : AbidesFrom W.heap.size J)
    (hY : ∀ pre x W1, J pre W1 → pre.length < (xsK id im pi pv n).length + 1 → YieldAt Fence.wide (N0 - 1) Tryz.prog l (encN x) W1 fun e W' =>
      (e = .returned (.bool true) ∧ J (pre ++ [x]) W' ∧ KpG g W1 W') ∨ (e = .returned (.bool false) ∧ Jx (pre ++ [x]) W'))
    (hq : QRow W g oa n ia im ic is pi pv) (hBq : W.heap[Bq]? = some (.cells #[.slice oa n cap] 99)) (hBi : W.heap[Bi]? = some (.cells #[.int .u16 (id : Int)] 175)) (hgq : Bq ≠ g) (hgi : Bi ≠ g) (h0 : J [] W) :
    CallsIn Fence.wide N0 Tryz.prog 327 #[.func (.yield l) #[] #[], .pointer (some ⟨Bq, 0, none⟩), .pointer (some ⟨Bi, 0, none⟩)] W fun e W' => (∃ v, e = .returned v) ∧
      ((∃ ys, ys = xsK id im pi pv n ∧ J ys W') ∨ (∃ pre, True ∧ Jx pre W')) := by
  have HJ := Lib.hid hJ
  have HY := Lib.hid hY
  have HQ := Lib.hid hq
  have HBI := Lib.hid hBi
  have HJ0 := Lib.hid h0
  have hcq : W.cell? ⟨Bq, 0, none⟩ = some (.slice oa n cap) := cell_arr hBq rfl
  clear hJ hY hq hBi h0 hBq
  refine callsIn_of_wp Tryz.func327 rfl trivial ?_ rfl
  simp only [Tryz.ntmps327, List.size_toArray, List.length_cons, List.length_nil, Nat.reduceAdd, Nat.reduceSub, Array.replicate_succ, Array.replicate_zero, List.push_toArray, List.append_toArray, List.nil_append, List.cons_append]
  gi_wp2_with fail
  clear hcq
  gi_loopw [10] (fun i wr => ∃ k : Nat, k ≤ n ∧ i = .int .i64 k ∧ J (xsK id im pi pv k) wr ∧ QRow wr g oa n ia im ic is pi pv ∧ wr.heap[Bi]? = some (.cells #[.int .u16 (id : Int)] 175)) (fun i _ => n - (intOf i).toNat)
  case atStart => exact ⟨0, by omega, rfl, HJ0.out, HQ.out, HBI.out⟩
  case round =>
    obtain ⟨k, hk, rfl, hJs, hqr, hbi⟩ := hrel
    have HJS := Lib.hid hJs
    have HQR := Lib.hid hqr
    have HBR := Lib.hid hbi
    clear hJs hqr hbi
    by_cases hlt : k < n
    · have q4 : decide ((k : Int) < (n : Int)) = true := decide_eq_true (by omega)
      have q5 : (k : Int) < (n : Int) := by omega
      have q6 : ¬ ((k : Int) < 0) := by omega
      have hw5 : IntKind.i64.wrap ((k : Int) + 1) = (k : Int) + 1 := IntWalk.i64_in _ (by omega)
      obtain ⟨b, o, arr, el, fz, hoa, hbg, hb, c1, c2⟩ := HQR.out.q k hlt
      subst hoa
      have e1 : wr.cell? ⟨b, o + k * 2, none⟩ = some (.slice (ia k) (im k) (ic k)) := cell_arr hb (by rw [show o + k * 2 = o + 2 * k by omega]; exact c1)
      have e2 : wr.cell? ⟨b, o + k * 2 + 1, none⟩ = some (.int .i64 (is k)) := cell_arr hb (by rw [show o + k * 2 = o + 2 * k by omega]; exact c2)
      have HLT := Lib.hid hlt
      clear hb c1 c2 hlt
      gi_wp2_with fail
      have hbw : Below wr.heap.size wr (wr.alloc (Obj.cells #[Value.slice (ia k) (im k) (ic k), Value.int IntKind.i64 (is k)] 213)) := (Below.refl _ wr).alloc (Nat.le_refl _) _
      have HJ1 := Lib.hid (HJ.out (xsK id im pi pv k) wr _ none HJS.out (grown_belowU hbw) (fun r e => by cases e))
      have HQ1 := Lib.hid (HQR.out.kept (KpG.of_below hbw))
      have HB1 := Lib.hid ((hbw.block Bi (Array.getElem?_eq_some_iff.1 HBR.out).1).trans HBR.out)
      clear hbw e1 e2 HJS HQR HBR q4 q5 q6
      generalize wr.alloc (Obj.cells #[Value.slice (ia k) (im k) (ic k), Value.int IntKind.i64 (is k)] 213) = w5 at HJ1 HQ1 HB1 ⊢
      gi_loopw [17] (fun i wr => ∃ j : Nat, j ≤ im k ∧ i = .int .i64 j ∧ J (xsK id im pi pv k ++ vsJ id pi pv k j) wr ∧ QRow wr g (some ⟨b, o, none⟩) n ia im ic is pi pv ∧ wr.heap[Bi]? = some (.cells #[.int .u16 (id : Int)] 175)) (fun i _ => im k - (intOf i).toNat)
      case atStart => exact ⟨0, by omega, rfl, by simpa [vsJ] using HJ1.out, HQ1.out, HB1.out⟩
      case round =>
        obtain ⟨j, hj, rfl, hJs, hqr, hbi⟩ := hrel
        have HJS := Lib.hid hJs
        have HQR := Lib.hid hqr
        have HBR := Lib.hid hbi
        clear hJs hqr hbi HJ1 HQ1 HB1
        by_cases hlj : j < im k
        · have q4 : decide ((j : Int) < (im k : Int)) = true := decide_eq_true (by omega)
          have q5 : (j : Int) < (im k : Int) := by omega
          have q6 : ¬ ((j : Int) < 0) := by omega
          have him1 := him k HLT.out
          have hw6 : IntKind.i64.wrap ((j : Int) + 1) = (j : Int) + 1 := IntWalk.i64_in _ (by omega)
          obtain ⟨b2, o2, arr2, el2, fz2, hia, hbg2, hb2, c3, c4⟩ := HQR.out.p k HLT.out j hlj
          have e3 : wr.cell? ⟨b2, o2 + j * 2, none⟩ = some (.int .u16 (pi k j : Int)) := cell_arr hb2 (by rw [show o2 + j * 2 = o2 + 2 * j by omega]; exact c3)
          have e4 : wr.cell? ⟨b2, o2 + j * 2 + 1, none⟩ = some (.int .u32 (pv k j : Int)) := cell_arr hb2 (by rw [show o2 + j * 2 = o2 + 2 * j by omega]; exact c4)
          have hbi := HBR.out
          have e5 : wr.cell? ⟨Bi, 0, none⟩ = some (.int .u16 (id : Int)) := cell_arr hbi rfl
          have hbil : Bi < wr.heap.size := (Array.getElem?_eq_some_iff.1 hbi).1
          have hpv1 := hpv k j
          have hw7 : IntKind.i64.wrap (pv k j : Int) = (pv k j : Int) := IntWalk.i64_in _ (by omega)
          have hbw : Below wr.heap.size wr (wr.alloc (Obj.cells #[Value.int .u16 (pi k j : Int), Value.int .u32 (pv k j : Int)] 177)) := (Below.refl _ wr).alloc (Nat.le_refl _) _
          have HJ2 := Lib.hid (HJ.out (xsK id im pi pv k ++ vsJ id pi pv k j) wr _ none HJS.out (grown_belowU hbw) (fun r e => by cases e))
          have HQ2 := Lib.hid (HQR.out.kept (KpG.of_below hbw))
          have HB2 := Lib.hid ((hbw.block Bi (Array.getElem?_eq_some_iff.1 HBR.out).1).trans HBR.out)
          have HLJ := Lib.hid hlj
          have HVS := Lib.hid (vsJ_succ id pi pv k j)
          have HPL := Lib.hid (pre_len (id := id) (im := im) (pi := pi) (pv := pv) HLT.out (Nat.le_of_lt hlj))
          clear hbi hb2 c3 c4 hbw hlj
          rw [hia]
          by_cases hid : pi k j = id
          · have q7 : ((pi k j : Int) == (id : Int)) = true := by simp [hid]
            have HID := Lib.hid hid
            clear hid
            obtain ⟨fn, tmps, assign, body, hy, hR⟩ := HY.out _ (pv k j) _ HJ2.out HPL.out
            dsimp only [encN] at hy
            gi_wp2_with fail
            refine hR.mono ?_
            rintro e W3 (⟨rfl, hJ3, hk3⟩ | ⟨rfl, hJx3⟩)
            · have HQ3 := Lib.hid (HQ2.out.kept hk3)
              have HB3 := Lib.hid (hk3 Bi _ _ _ hgi HB2.out)
              have HJ3 := Lib.hid hJ3
              clear hy hk3 hJ3
              gi_wp2
              go_roundw
              case rel => exact ⟨j + 1, by have := HLJ.out; omega, by simp, by rw [HVS.out, if_pos HID.out, ← List.append_assoc]; exact HJ3.out, HQ3.out, HB3.out⟩
              case measure => have := HLJ.out; simp [intOf]; omega
            · gi_wp2
              refine bodyPost_ret (results_none rfl _ _ _) rfl ?_
              exact ⟨⟨_, rfl⟩, .inr ⟨_, trivial, hJx3⟩⟩
          · have q7 : ((pi k j : Int) == (id : Int)) = false := by simp; omega
            have HID := Lib.hid hid
            clear hid
            gi_wp2_with fail
            refine ⟨(fun f h => by cases h), ?_⟩
            gi_wp2
            go_roundw
            case rel => exact ⟨j + 1, by have := HLJ.out; omega, by simp, by rw [HVS.out, if_neg HID.out, List.append_nil]; exact HJ2.out, HQ2.out, HB2.out⟩
            case measure => have := HLJ.out; simp [intOf]; omega
        · have q4 : decide ((j : Int) < (im k : Int)) = false := decide_eq_false (by omega)
          obtain rfl : j = im k := by omega
          have HXS := Lib.hid (xsK_succ id im pi pv k)
          gi_wp2
          go_roundw
          case rel => exact ⟨k + 1, by have := HLT.out; omega, by simp, by rw [HXS.out]; exact HJS.out, HQR.out, HBR.out⟩
          case measure => have := HLT.out; simp [intOf]; omega
    · have q4 : decide ((k : Int) < (n : Int)) = false := decide_eq_false (by omega)
      obtain rfl : k = n := by omega
      gi_wp2
      go_end0
      exact ⟨⟨_, rfl⟩, .inl ⟨_, rfl, HJS.out⟩⟩
end Go.Proofs.YtdkgckgpdogimaaGreatDoor


/- unack.Greatest: the walk. -/
namespace Go.Proofs.YtdkgckgpdogimaaGreatDoor
open Go.RowKit Go.Shelf
set_option linter.unusedVariables false
set_option linter.unusedSimpArgs false
attribute [local go_sem] Oper.semAt_some

def mxN (h : Int) (l : List Nat) : Int := l.foldl (fun (a : Int) (x : Nat) => if a < (x : Int) then (x : Int) else a) h
theorem mxN_snoc (h : Int) (l : List Nat) (x : Nat) : mxN h (l ++ [x]) = if mxN h l < (x : Int) then (x : Int) else mxN h l := by
  unfold mxN
  rw [List.foldl_append]
  rfl
theorem values_any (oa : Option Addr) (n cap id : Nat) (w : World) : Calls Tryz.prog 261 #[.slice oa n cap, .int .u16 (id : Int)] w fun e w' =>
    e = .returned (.func (.func 327) #[] #[.pointer (some ⟨w.heap.size, 0, none⟩), .pointer (some ⟨w.heap.size + 1, 0, none⟩)]) ∧ w' = (w.alloc (.cells #[.slice oa n cap] 99)).alloc (.cells #[.int .u16 (id : Int)] 175) := by
  go_enter Tryz.func261, Tryz.ntmps261
  go_wp2_with fail
  go_ret
  exact ⟨rfl, rfl⟩
theorem values_stops (N0 : Nat) (hN0 : 1 ≤ N0) (w : World) (Bq Bi g : Nat) (oa : Option Addr) (n cap id : Nat) (ia : Nat → Option Addr) (im ic : Nat → Nat) (is : Nat → Int) (pi pv : Nat → Nat → Nat)
    (hn : n < 1000000) (him : ∀ k, k < n → im k < 1000000) (hpv : ∀ k j, pv k j < 4294967296)
    (hq : QRow w g oa n ia im ic is pi pv) (hBq : w.heap[Bq]? = some (.cells #[.slice oa n cap] 99)) (hBi : w.heap[Bi]? = some (.cells #[.int .u16 (id : Int)] 175)) (hgq : Bq ≠ g) (hgi : Bi ≠ g) :
    SeqStopsK Fence.wide N0 Tryz.prog 327 #[.pointer (some ⟨Bq, 0, none⟩), .pointer (some ⟨Bi, 0, none⟩)] encN (KpG g) (fun ys => ys = xsK id im pi pv n) (fun _ => True) ((xsK id im pi pv n).length + 1) w := fun l J Jx W hW hJ _ hY h0 => by
  have hk : KpG g w W := KpG.of_below hW
  exact values1_in N0 hN0 l Bq Bi g J Jx W oa n cap id ia im ic is pi pv hn him hpv hJ hY (hq.kept hk) (hk _ _ _ _ hgq hBq) (hk _ _ _ _ hgi hBi) hgq hgi h0
set_option maxRecDepth 100000 in
set_option maxHeartbeats 8000000 in
theorem greatest_any (oa : Option Addr) (n cap id : Nat) (held : Int) (w : World) (ia : Nat → Option Addr) (im ic : Nat → Nat) (is : Nat → Int) (pi pv : Nat → Nat → Nat)
    (hn : n < 1000000) (him : ∀ k, k < n → im k < 1000000) (hpv : ∀ k j, pv k j < 4294967296) (hq : QRow w w.heap.size oa n ia im ic is pi pv) :
    Calls Tryz.prog 193 #[.slice oa n cap, .int .u16 (id : Int), .int .i64 held] w fun e w' => e = .returned (.int .i64 (mxN held (xsK id im pi pv n))) ∧ Below w.heap.size w w' := by
  have HQ := Lib.hid hq
  clear hq
  refine (callsIn_wide (n := 3)).1 ?_
  refine callsIn_of_wp_marks Tryz.func193 rfl trivial ?_ rfl
  simp only [Tryz.ntmps193, List.size_toArray, List.length_cons, List.length_nil, Nat.reduceAdd, Nat.reduceSub, Array.replicate_succ, Array.replicate_zero, List.push_toArray, List.append_toArray, List.nil_append, List.cons_append]
  gi_wp2_with (first
    | (refine ⟨trivial, ?_⟩; gi_at_call 261; refine (callsIn_wide.2 (values_any oa n cap id _)).mono ?_; rintro e w3 ⟨rfl, rfl⟩))
  have hbox := Boxed.new w 3 (.int .i64 held)
  have hb1 := Boxed.new (w.alloc (.cells #[.int .i64 held] 3)) 99 (.slice oa n cap)
  have hb2 := Boxed.new ((w.alloc (.cells #[.int .i64 held] 3)).alloc (.cells #[.slice oa n cap] 99)) 175 (.int .u16 (id : Int))
  simp only [World.size_alloc] at hb1 hb2
  have hbw : Below w.heap.size w (((w.alloc (.cells #[.int .i64 held] 3)).alloc (.cells #[.slice oa n cap] 99)).alloc (.cells #[.int .u16 (id : Int)] 175)) := (((Below.refl _ w).alloc (Nat.le_refl _) _).alloc (by simp) _).alloc (by simp; omega) _
  have hq3 := HQ.out.kept (KpG.of_below hbw)
  have hb1' := hb1.alloc (.cells #[.int .u16 (id : Int)] 175)
  have hbox' := (hbox.alloc (.cells #[.slice oa n cap] 99)).alloc (.cells #[.int .u16 (id : Int)] 175)
  refine wpIn_rangeFunc_ownF rfl (by omega) (gf := 327) (lb := #[.pointer (some ⟨w.heap.size + 1, 0, none⟩), .pointer (some ⟨w.heap.size + 1 + 1, 0, none⟩)]) rfl trivial (enters_of Tryz.func327 (by kernel_rfl) rfl)
    (values_stops (3 - 1) (by omega) _ (w.heap.size + 1) (w.heap.size + 1 + 1) w.heap.size oa n cap id ia im ic is pi pv hn him hpv hq3 hb1' hb2 (by omega) (by omega))
    KpG.trans (fun W l o o' hle hl hc hw j arr el fz hj h => (World.putObj_heap_other (fun e => by subst e; rw [h] at hl; cases hl; cases hc)).trans h) (Below.refl _ _) (fun _ => rfl)
    (fun pre W => Boxed W w.heap.size 3 (.int .i64 (mxN held pre)) ∧ Below w.heap.size w W)
    (fun _ _ _ => False)
    (OwnFrom.and (fun s W W' row hs hg hr => (hg.block w.heap.size (by have := Boxed.lt hs; omega) (fun e => by obtain ⟨hB, _⟩ := hr _ e.symm; simp at hB; omega)).trans hs) (ownFrom_below (Nat.le_refl _) (by simp; omega)))
    (fun _ _ _ _ _ hs _ _ => hs)
    ⟨hbox', hbw⟩
    (fun x => { tmps := #[.slice oa n cap, .int .u16 (id : Int), .int .i64 held, undef, undef, .pointer (some ⟨w.heap.size, 0, none⟩), .int .i64 0, .int .i64 (x : Int), .slice oa n cap, .int .u16 (id : Int), .func (.func 327) #[] #[.pointer (some ⟨w.heap.size + 1, 0, none⟩), .pointer (some ⟨w.heap.size + 1 + 1, 0, none⟩)], .int .i64 (x : Int), undef, undef, undef, undef], defers := [] }) ?assign ?body ?done ?stop
  case assign =>
    intro l x W K hK
    gi_wp2
    exact hK
  case body =>
    rintro l pre x W ⟨hv, hB⟩ hlen
    have hvc := hv.cell
    have hf := hv.frozen
    have HS := Lib.hid (mxN_snoc held pre x)
    have hkp : ∀ v, KpG w.heap.size W (W.setCell ⟨w.heap.size, 0, none⟩ v) := fun v j arr el fz hj h => (Below.heap_setCell _ _ _ j (fun e => hj (by first | exact e | exact e.symm))).trans h
    gi_wp2
    · rename_i h
      refine ⟨KeepsOthers.setCell _ _ _, hkp _, ?_, hB.setCell (Nat.le_refl _) _⟩
      rw [HS.out, if_pos (by omega)]
      exact hv.set _
    · rename_i h
      refine ⟨KeepsOthers.setCell _ _ _, hkp _, ?_, hB.setCell (Nat.le_refl _) _⟩
      rw [HS.out, if_neg (by omega)]
      exact hv.set _
  case done =>
    rintro D ys W hD rfl ⟨hv, hB⟩ hK
    have hvc := hv.cell
    have hbf := hB.trans (belowK_b (w := w) (Nat.le_refl _) _ D _ (.deferred none) (by simp at hD; omega) hK rfl rfl)
    gi_wp2
    refine ⟨by simp, .inl ⟨_, _, rfl, run_takeDeferred hK, ?_⟩⟩
    refine ⟨_, ?_, rfl, hbf⟩
    simp [results, Tryz.results193, go_sem]
  case stop =>
    rintro D c pre W _ _ h _
    exact h.elim
end Go.Proofs.YtdkgckgpdogimaaGreatDoor

