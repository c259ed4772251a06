/- A path's parts, at the path that every right program is asked: query.Parts ranges over a function. -/
import Derived.RangeFuncNested
import Derived.RangeFuncBound
import Derived.RangeFuncCalls
import Derived.RangeFuncLeaves
import Derived.RangeFuncBox
import Derived.RangeFuncFrom
import Derived.Shelf.Abstract
import Derived.Shelf.RegionOpen
import Derived.WalkKit
import Derived.OwnWalkIn
import Derived.TacticsInMore
import Derived.LoopNIn
import Derived.LoopIn
import Derived.Test.YtbpcknjobbjmpaaDoorQryI
namespace Go.Proofs.YtbpcknjobbjmpaaDoor
open Go.RowKit Go.Shelf
set_option linter.unusedVariables false
set_option linter.unusedSimpArgs false
attribute [local go_sem] Oper.semAt_some

def q0 : ByteArray := ⟨#[97, 37, 50, 70, 98]⟩
def q1 : ByteArray := ⟨#[]⟩
def q2 : ByteArray := ⟨#[99]⟩
def t0 : ByteArray := ⟨#[97, 47, 98]⟩
def prow : Array Value := #[.string q0, .string q1, .string q2]
def rP : ByteArray := ⟨#[97, 37, 50, 70, 98, 47, 47, 99]⟩
theorem rP_parts : partsS rP 47 = [q0, q1, q2] := by kernel_rfl
theorem dec_q0 : qdec q0 = (t0, 0) := by
  have e : bytesU q0 = [97, 37, 50, 70, 98] := by decide
  unfold qdec
  rw [e, decL_plain _ _ _ (by decide), decL_code, if_pos (by decide), decL_plain _ _ _ (by decide), decL_nil]
  rfl
theorem dec_q1 : qdec q1 = (q1, 0) := by
  have e : bytesU q1 = [] := by decide
  unfold qdec
  rw [e, decL_nil]
  rfl
theorem dec_q2 : qdec q2 = (q2, 0) := by
  have e : bytesU q2 = [99] := by decide
  unfold qdec
  rw [e, decL_plain _ _ _ (by decide), decL_nil]
  rfl
/-- A text that is not the first part. -/
abbrev TxA := { x : ByteArray // x ≠ q0 }
def xs3 : List TxA := [⟨t0, by decide⟩, ⟨q1, by decide⟩, ⟨q2, by decide⟩]
abbrev encP (x : TxA) : Array Value := #[.string x.1, .int .i64 0]
/-- The parts' own row stays. -/
def KpR (W W' : World) : Prop := ∀ j : Nat, W.heap[j]? = some (Obj.cells prow 9 (0, 0)) → W'.heap[j]? = some (Obj.cells prow 9 (0, 0))
def qk (k : Nat) : ByteArray := if k = 0 then q0 else if k = 1 then q1 else q2
def xk (k : Nat) : TxA := if k = 0 then ⟨t0, by decide⟩ else if k = 1 then ⟨q1, by decide⟩ else ⟨q2, by decide⟩
theorem xs3_take (k : Nat) (h : k < 3) : xs3.take (k + 1) = xs3.take k ++ [xk k] := by
  have : k = 0 ∨ k = 1 ∨ k = 2 := by omega
  rcases this with rfl | rfl | rfl <;> rfl
theorem prow_at (k : Nat) (h : k < 3) : prow[k]? = some (.string (qk k)) := by
  have : k = 0 ∨ k = 1 ∨ k = 2 := by omega
  rcases this with rfl | rfl | rfl <;> rfl
theorem dec_qk (k : Nat) (h : k < 3) : qdec (qk k) = ((xk k).1, 0) := by
  have : k = 0 ∨ k = 1 ∨ k = 2 := by omega
  rcases this with rfl | rfl | rfl
  · exact dec_q0
  · exact dec_q1
  · exact dec_q2
theorem qk_size (k : Nat) : (qk k).size ≤ 5 := by unfold qk; split; decide; split <;> decide
theorem grown_below {w w' : World} (hb : Below w.heap.size w w') : w.grownBy w' none := ⟨hb.os, hb.tape, hb.output, hb.size, fun i hi _ => hb.block i hi⟩
theorem row_below' {W W' : World} {s : Nat} {o : Obj} (h : W.heap[s]? = some o) (hb : Below W.heap.size W W') : W'.heap[s]? = some o := (hb.block s (Array.getElem?_eq_some_iff.1 h).1).trans h
set_option maxRecDepth 100000 in
set_option maxHeartbeats 4000000 in
theorem decoded1_in (n : Nat) (hn : 1 ≤ n) (l Bs Bb : Nat) (J Jx : List TxA → World → Prop) (W : World) (hM : MaxC W) (hJ : AbidesFrom W.heap.size J)
    (hY : ∀ pre x W1, J pre W1 → pre.length < 3 → YieldAt Fence.wide (n - 1) Tryd.prog l (encP x) W1 fun e W' =>
      (e = .returned (.bool true) ∧ J (pre ++ [x]) W' ∧ KpR W1 W') ∨ (e = .returned (.bool false) ∧ Jx (pre ++ [x]) W'))
    (hBs : W.cell? ⟨Bs, 0, none⟩ = some (.string rP)) (hBb : W.cell? ⟨Bb, 0, none⟩ = some (.string ⟨#[47]⟩)) (h0 : J [] W) :
    CallsIn Fence.wide n Tryd.prog 80 #[.func (.yield l) #[] #[], .pointer (some ⟨Bs, 0, none⟩), .pointer (some ⟨Bb, 0, none⟩)] W fun e W' => (∃ v, e = .returned v) ∧
      ((∃ ys, ys = xs3 ∧ J ys W') ∨ (∃ pre, True ∧ Jx pre W')) := by
  obtain ⟨m, hm⟩ := hM
  have hC := Tryd.strings_Split rP ⟨#[47]⟩ m W (by decide) hm (Nat.le_refl 1)
  have hcnt : Lib.countB rP ⟨#[47]⟩ + 1 = 3 := by kernel_rfl
  have hpar : (Lib.splitB ⟨#[47]⟩ 0 (Lib.countB rP ⟨#[47]⟩) rP).map Value.string = prow.toList := by
    have := rP_parts
    unfold partsS at this
    rw [this]
    rfl
  rw [hcnt, hpar] at hC
  have C := Lib.hid hC
  have HJ := Lib.hid hJ
  have HY := Lib.hid hY
  have HR := Lib.hid (show (W.alloc (.cells prow 9)).heap[W.heap.size]? = some (.cells prow 9 (0, 0)) from heap_alloc_new W _)
  have HJ0 := Lib.hid (hJ [] W (W.alloc (.cells prow 9)) none h0 (World.grownBy_alloc W _ none) (fun r e => by cases e))
  have HSZ := Lib.hid (show W.heap.size ≤ (W.alloc (.cells prow 9)).heap.size from by simp)
  have e9 : (prow.toList.toArray) = prow := by simp
  rw [e9] at C
  clear hC hcnt hpar hJ hY h0 hm e9
  refine callsIn_of_wp Tryd.func80 rfl trivial ?_ rfl
  simp only [Tryd.ntmps80, List.size_toArray, List.length_cons, List.length_nil, Nat.reduceAdd, Nat.reduceSub, Array.replicate_succ, Array.replicate_zero, List.push_toArray, List.append_toArray, List.nil_append, List.cons_append]
  gi_wp2_with (first
    | (refine ⟨trivial, ?_⟩; gi_at_call 53; refine (callsIn_wide.2 C.out).mono ?_; rintro e w1 ⟨rfl, rfl⟩))
  generalize hg : W.heap.size = g at HR HJ HSZ ⊢
  generalize W.alloc (.cells prow 9) = w1 at HR HJ0 HSZ ⊢
  clear C hg
  gi_loopw [12] (fun i wr => ∃ k : Nat, k ≤ 3 ∧ i = .int .i64 k ∧ J (xs3.take k) wr ∧ wr.heap[g]? = some (.cells prow 9 (0, 0))) (fun i _ => 3 - (intOf i).toNat)
  case atStart => exact ⟨0, by omega, rfl, HJ0.out, HR.out⟩
  case round =>
    obtain ⟨k, hk, rfl, hJs, hrow⟩ := hrel
    have HJS := Lib.hid hJs
    have HRW := Lib.hid hrow
    clear hJs hrow
    by_cases hlt : k < 3
    · have q4 : decide ((k : Int) < 3) = true := decide_eq_true (by omega)
      have q5 : (k : Int) < 3 := by omega
      have hw5 : IntKind.i64.wrap ((k : Int) + 1) = (k : Int) + 1 := IntWalk.i64_in _ (by omega)
      have hcell := (cell_of_row wr g k _ _ _ HRW.out).trans (prow_at k hlt)
      have hD := qdecode_any (qk k) (by have := qk_size k; omega) wr
      unfold DecPost at hD
      change Calls Tryd.prog 29 #[.string (qk k)] wr (fun e w' => e = .returned (.tuple #[.string (qdec (qk k)).1, .int .i64 ((qdec (qk k)).2 : Nat)]) ∧ Below wr.heap.size wr w') at hD
      rw [dec_qk k hlt] at hD
      have HD := Lib.hid hD
      have HT := Lib.hid (xs3_take k hlt)
      have hlen : (xs3.take k).length < 3 := by rw [List.length_take]; have : xs3.length = 3 := rfl; omega
      clear hD
      generalize qk k = qq at hcell HD
      generalize xk k = xx at HD HT
      generalize xs3.take k = pre at HJS HT hlen
      gi_wp2_with (first
        | (refine ⟨trivial, ?_⟩; gi_at_call 29; refine (callsIn_wide.2 HD.out).mono ?_; rintro e w2 ⟨rfl, hb⟩; have hJ2 := HJ.out pre wr w2 none HJS.out (grown_below hb) (fun r e => by cases e); have HR2 := Lib.hid (row_below' HRW.out hb); obtain ⟨fn, tmps, assign, body, hy, hR⟩ := HY.out pre xx w2 hJ2 hlen; clear hJ2 hb; dsimp only [encP] at hy))
      refine hR.mono ?_
      rintro e W3 (⟨rfl, hJ3, hk3⟩ | ⟨rfl, hJx3⟩)
      · have HR3 := Lib.hid (hk3 g HR2.out)
        have HJ3 := Lib.hid hJ3
        clear hy hk3 hJ3
        gi_wp2
        go_roundw
        case rel => exact ⟨k + 1, by omega, by simp, by rw [HT.out]; exact HJ3.out, HR3.out⟩
        case measure => simp [intOf]; omega
      · gi_wp2
        refine bodyPost_ret (results_none rfl _ _ _) rfl ?_
        exact ⟨⟨_, rfl⟩, .inr ⟨_, trivial, hJx3⟩⟩
    · have q4 : decide ((k : Int) < 3) = false := decide_eq_false (by omega)
      obtain rfl : k = 3 := by omega
      gi_wp2
      go_end0
      exact ⟨⟨_, rfl⟩, .inl ⟨_, rfl, HJS.out⟩⟩
theorem decoded_any (s by_ : ByteArray) (w : World) : Calls Tryd.prog 66 #[.string s, .string by_] w fun e w' =>
    e = .returned (.func (.func 80) #[] #[.pointer (some ⟨w.heap.size, 0, none⟩), .pointer (some ⟨w.heap.size + 1, 0, none⟩)]) ∧ w' = (w.alloc (.cells #[.string s] 9)).alloc (.cells #[.string by_] 9) := by
  go_enter Tryd.func66, Tryd.ntmps66
  go_wp2_with fail
  go_ret
  exact ⟨rfl, rfl⟩
theorem decoded_stops (n : Nat) (hn : 1 ≤ n) (w : World) (hM : MaxC w) (Bs Bb : Nat) (hs : Bs < w.heap.size) (hb : Bb < w.heap.size) (c1 : w.cell? ⟨Bs, 0, none⟩ = some (.string rP)) (c2 : w.cell? ⟨Bb, 0, none⟩ = some (.string ⟨#[47]⟩)) :
    SeqStopsK Fence.wide n Tryd.prog 80 #[.pointer (some ⟨Bs, 0, none⟩), .pointer (some ⟨Bb, 0, none⟩)] encP KpR (fun ys => ys = xs3) (fun _ => True) 3 w := fun l J Jx W hW hJ _ hY h0 =>
  decoded1_in n hn l Bs Bb J Jx W (hM.below hW) hJ hY ((hW.cell (p := ⟨Bs, 0, none⟩) hs).trans c1) ((hW.cell (p := ⟨Bb, 0, none⟩) hb).trans c2) h0
end Go.Proofs.YtbpcknjobbjmpaaDoor
