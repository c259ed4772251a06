/- unack.Greatest ranges over a function: the iterator. -/
import Derived.Test.YtlpapdknggjfkaaGreatDoorC34
namespace Go.Proofs.YtlpapdknggjfkaaGreatDoor
open Go.RowKit Go.Shelf
set_option linter.unusedVariables false
set_option linter.unusedSimpArgs false
attribute [local go_sem] Oper.semAt_some

set_option maxRecDepth 100000 in
set_option maxHeartbeats 4000000 in
theorem values1_in (N0 : Nat) (hN0 : 1 ≤ N0) (l Bq Bi g : Nat) (J Jx : List Nat → World → Prop) (W : World) (oa : Option Addr) (n cap id : Nat) (ia : Nat → Option Addr) (im ic : Nat → Nat) (is : Nat → Int) (pi pv : Nat → Nat → Nat)
    (hn : n < 1000000) (him : ∀ k, k < n → im k < 1000000) (hpv : ∀ k j, pv k j < 4294967296) (hJ : AbidesFrom W.heap.size J)
    (hY : ∀ pre x W1, J pre W1 → pre.length < (xsK id im pi pv n).length + 1 → YieldAt Fence.wide (N0 - 1) Tryz.prog l (encN x) W1 fun e W' =>
      (e = .returned (.bool true) ∧ J (pre ++ [x]) W' ∧ KpG g W1 W') ∨ (e = .returned (.bool false) ∧ Jx (pre ++ [x]) W'))
    (hq : QRow W g oa n ia im ic is pi pv) (hBq : W.heap[Bq]? = some (.cells #[.slice oa n cap] 48)) (hBi : W.heap[Bi]? = some (.cells #[.int .u16 (id : Int)] 203)) (hgq : Bq ≠ g) (hgi : Bi ≠ g) (h0 : J [] W) :
    CallsIn Fence.wide N0 Tryz.prog 336 #[.func (.yield l) #[] #[], .pointer (some ⟨Bq, 0, none⟩), .pointer (some ⟨Bi, 0, none⟩)] W fun e W' => (∃ v, e = .returned v) ∧
      ((∃ ys, ys = xsK id im pi pv n ∧ J ys W') ∨ (∃ pre, True ∧ Jx pre W')) := by
  have HJ := Lib.hid hJ
  have HY := Lib.hid hY
  have HQ := Lib.hid hq
  have HBI := Lib.hid hBi
  have HJ0 := Lib.hid h0
  have hcq : W.cell? ⟨Bq, 0, none⟩ = some (.slice oa n cap) := cell_arr hBq rfl
  clear hJ hY hq hBi h0 hBq
  refine callsIn_of_wp Tryz.func336 rfl trivial ?_ rfl
  simp only [Tryz.ntmps336, List.size_toArray, List.length_cons, List.length_nil, Nat.reduceAdd, Nat.reduceSub, Array.replicate_succ, Array.replicate_zero, List.push_toArray, List.append_toArray, List.nil_append, List.cons_append]
  gi_wp2_with fail
  clear hcq
  gi_loopw [10] (fun i wr => ∃ k : Nat, k ≤ n ∧ i = .int .i64 k ∧ J (xsK id im pi pv k) wr ∧ QRow wr g oa n ia im ic is pi pv ∧ wr.heap[Bi]? = some (.cells #[.int .u16 (id : Int)] 203)) (fun i _ => n - (intOf i).toNat)
  case atStart => exact ⟨0, by omega, rfl, HJ0.out, HQ.out, HBI.out⟩
  case round =>
    obtain ⟨k, hk, rfl, hJs, hqr, hbi⟩ := hrel
    have HJS := Lib.hid hJs
    have HQR := Lib.hid hqr
    have HBR := Lib.hid hbi
    clear hJs hqr hbi
    by_cases hlt : k < n
    · have q4 : decide ((k : Int) < (n : Int)) = true := decide_eq_true (by omega)
      have q5 : (k : Int) < (n : Int) := by omega
      have q6 : ¬ ((k : Int) < 0) := by omega
      have hw5 : IntKind.i64.wrap ((k : Int) + 1) = (k : Int) + 1 := IntWalk.i64_in _ (by omega)
      obtain ⟨b, o, arr, el, fz, hoa, hbg, hb, c1, c2⟩ := HQR.out.q k hlt
      subst hoa
      have e1 : wr.cell? ⟨b, o + k * 2, none⟩ = some (.slice (ia k) (im k) (ic k)) := cell_arr hb (by rw [show o + k * 2 = o + 2 * k by omega]; exact c1)
      have e2 : wr.cell? ⟨b, o + k * 2 + 1, none⟩ = some (.int .i64 (is k)) := cell_arr hb (by rw [show o + k * 2 = o + 2 * k by omega]; exact c2)
      have HLT := Lib.hid hlt
      clear hb c1 c2 hlt
      gi_wp2_with fail
      have hbw : Below wr.heap.size wr (wr.alloc (Obj.cells #[Value.slice (ia k) (im k) (ic k), Value.int IntKind.i64 (is k)] 214)) := (Below.refl _ wr).alloc (Nat.le_refl _) _
      have HJ1 := Lib.hid (HJ.out (xsK id im pi pv k) wr _ none HJS.out (grown_belowU hbw) (fun r e => by cases e))
      have HQ1 := Lib.hid (HQR.out.kept (KpG.of_below hbw))
      have HB1 := Lib.hid ((hbw.block Bi (Array.getElem?_eq_some_iff.1 HBR.out).1).trans HBR.out)
      clear hbw e1 e2 HJS HQR HBR q4 q5 q6
      generalize wr.alloc (Obj.cells #[Value.slice (ia k) (im k) (ic k), Value.int IntKind.i64 (is k)] 214) = w5 at HJ1 HQ1 HB1 ⊢
      gi_loopw [17] (fun i wr => ∃ j : Nat, j ≤ im k ∧ i = .int .i64 j ∧ J (xsK id im pi pv k ++ vsJ id pi pv k j) wr ∧ QRow wr g (some ⟨b, o, none⟩) n ia im ic is pi pv ∧ wr.heap[Bi]? = some (.cells #[.int .u16 (id : Int)] 203)) (fun i _ => im k - (intOf i).toNat)
      case atStart => exact ⟨0, by omega, rfl, by simpa [vsJ] using HJ1.out, HQ1.out, HB1.out⟩
      case round =>
        obtain ⟨j, hj, rfl, hJs, hqr, hbi⟩ := hrel
        have HJS := Lib.hid hJs
        have HQR := Lib.hid hqr
        have HBR := Lib.hid hbi
        clear hJs hqr hbi HJ1 HQ1 HB1
        by_cases hlj : j < im k
        · have q4 : decide ((j : Int) < (im k : Int)) = true := decide_eq_true (by omega)
          have q5 : (j : Int) < (im k : Int) := by omega
          have q6 : ¬ ((j : Int) < 0) := by omega
          have him1 := him k HLT.out
          have hw6 : IntKind.i64.wrap ((j : Int) + 1) = (j : Int) + 1 := IntWalk.i64_in _ (by omega)
          obtain ⟨b2, o2, arr2, el2, fz2, hia, hbg2, hb2, c3, c4⟩ := HQR.out.p k HLT.out j hlj
          have e3 : wr.cell? ⟨b2, o2 + j * 2, none⟩ = some (.int .u16 (pi k j : Int)) := cell_arr hb2 (by rw [show o2 + j * 2 = o2 + 2 * j by omega]; exact c3)
          have e4 : wr.cell? ⟨b2, o2 + j * 2 + 1, none⟩ = some (.int .u32 (pv k j : Int)) := cell_arr hb2 (by rw [show o2 + j * 2 = o2 + 2 * j by omega]; exact c4)
          have hbi := HBR.out
          have e5 : wr.cell? ⟨Bi, 0, none⟩ = some (.int .u16 (id : Int)) := cell_arr hbi rfl
          have hbil : Bi < wr.heap.size := (Array.getElem?_eq_some_iff.1 hbi).1
          have hpv1 := hpv k j
          have hw7 : IntKind.i64.wrap (pv k j : Int) = (pv k j : Int) := IntWalk.i64_in _ (by omega)
          have hbw : Below wr.heap.size wr (wr.alloc (Obj.cells #[Value.int .u16 (pi k j : Int), Value.int .u32 (pv k j : Int)] 205)) := (Below.refl _ wr).alloc (Nat.le_refl _) _
          have HJ2 := Lib.hid (HJ.out (xsK id im pi pv k ++ vsJ id pi pv k j) wr _ none HJS.out (grown_belowU hbw) (fun r e => by cases e))
          have HQ2 := Lib.hid (HQR.out.kept (KpG.of_below hbw))
          have HB2 := Lib.hid ((hbw.block Bi (Array.getElem?_eq_some_iff.1 HBR.out).1).trans HBR.out)
          have HLJ := Lib.hid hlj
          have HVS := Lib.hid (vsJ_succ id pi pv k j)
          have HPL := Lib.hid (pre_len (id := id) (im := im) (pi := pi) (pv := pv) HLT.out (Nat.le_of_lt hlj))
          clear hbi hb2 c3 c4 hbw hlj
          rw [hia]
          by_cases hid : pi k j = id
          · have q7 : ((pi k j : Int) == (id : Int)) = true := by simp [hid]
            have HID := Lib.hid hid
            clear hid
            obtain ⟨fn, tmps, assign, body, hy, hR⟩ := HY.out _ (pv k j) _ HJ2.out HPL.out
            dsimp only [encN] at hy
            gi_wp2_with fail
            refine hR.mono ?_
            rintro e W3 (⟨rfl, hJ3, hk3⟩ | ⟨rfl, hJx3⟩)
            · have HQ3 := Lib.hid (HQ2.out.kept hk3)
              have HB3 := Lib.hid (hk3 Bi _ _ _ hgi HB2.out)
              have HJ3 := Lib.hid hJ3
              clear hy hk3 hJ3
              gi_wp2
              go_roundw
              case rel => exact ⟨j + 1, by have := HLJ.out; omega, by simp, by rw [HVS.out, if_pos HID.out, ← List.append_assoc]; exact HJ3.out, HQ3.out, HB3.out⟩
              case measure => have := HLJ.out; simp [intOf]; omega
            · gi_wp2
              refine bodyPost_ret (results_none rfl _ _ _) rfl ?_
              exact ⟨⟨_, rfl⟩, .inr ⟨_, trivial, hJx3⟩⟩
          · have q7 : ((pi k j : Int) == (id : Int)) = false := by simp; omega
            have HID := Lib.hid hid
            clear hid
            gi_wp2_with fail
            refine ⟨(fun f h => by cases h), ?_⟩
            gi_wp2
            go_roundw
            case rel => exact ⟨j + 1, by have := HLJ.out; omega, by simp, by rw [HVS.out, if_neg HID.out, List.append_nil]; exact HJ2.out, HQ2.out, HB2.out⟩
            case measure => have := HLJ.out; simp [intOf]; omega
        · have q4 : decide ((j : Int) < (im k : Int)) = false := decide_eq_false (by omega)
          obtain rfl : j = im k := by omega
          have HXS := Lib.hid (xsK_succ id im pi pv k)
          gi_wp2
          go_roundw
          case rel => exact ⟨k + 1, by have := HLT.out; omega, by simp, by rw [HXS.out]; exact HJS.out, HQR.out, HBR.out⟩
          case measure => have := HLT.out; simp [intOf]; omega
    · have q4 : decide ((k : Int) < (n : Int)) = false := decide_eq_false (by omega)
      obtain rfl : k = n := by omega
      gi_wp2
      go_end0
      exact ⟨⟨_, rfl⟩, .inl ⟨_, rfl, HJS.out⟩⟩
end Go.Proofs.YtlpapdknggjfkaaGreatDoor

