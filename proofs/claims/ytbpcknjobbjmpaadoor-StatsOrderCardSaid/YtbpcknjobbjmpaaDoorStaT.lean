/- StatsOrder: the walk. -/
import Derived.Test.YtbpcknjobbjmpaaDoorStaS
namespace Go.Proofs.YtbpcknjobbjmpaaDoor
open Go.RowKit
set_option linter.unusedVariables false
set_option linter.unusedSimpArgs false

set_option maxRecDepth 100000 in
set_option maxHeartbeats 20000000 in
theorem statsOrder_any (oa : Option Addr) (n cap : Nat) (L : List Fat) (hn : L.length = n) (w : World) (hT : Tab w) (hf : FatesN w oa L) :
    Calls Tryd.prog 5 #[.slice oa n cap] w fun e w' => e = .returned (.bool true) ∧ Below w.heap.size w w' := by
  have HT := Lib.hid hT
  have HF := Lib.hid hf
  clear hT hf
  by_cases hl : 100 < n
  · have q1 : decide ((100 : Int) < (n : Int)) = true := decide_eq_true (by omega)
    go_enter Tryd.func5, Tryd.ntmps5
    go_wp2_with (first
      | (go_at_call 8; refine (awake_any _ HT.out).mono ?_; rintro e w6 ⟨rfl, hb⟩; have HB6 := Lib.hid hb; clear hb))
    go_ret
    exact ⟨rfl, HB6.out⟩
  have q1 : decide ((100 : Int) < (n : Int)) = false := decide_eq_false (by omega)
  go_enter Tryd.func5, Tryd.ntmps5
  go_wp2_with (first
    | (go_at_call 9; (with_reducible refine (new_any w).mono ?_); rintro e w1 ⟨rfl, hB1, hb1⟩; have HB1 := Lib.hid hB1; have HL1 := Lib.hid hb1; clear hB1 hb1; generalize hpp : w.heap.size = p at HB1 HL1 ⊢)
    | (go_at_call 9; refine (new_any _).mono ?_; rintro e w2 ⟨rfl, hB2, hb2⟩; have HB2 := Lib.hid hB2; have HL2 := Lib.hid hb2; have HPQ := Lib.hid HB1.out.lt; have HB1' := Lib.hid (HB1.out.below HB1.out.lt hb2); clear hB2 hb2; generalize hqq : w1.heap.size = q at HB2 HL2 HPQ ⊢))
  have HPP := Lib.hid hpp
  have hpq := HPQ.out
  clear hpp hqq
  go_loopw [5] (fun ii wr => ∃ (k : Nat), ii = .int .i64 k ∧ k ≤ n ∧ Brd p wr 0 0 (.slice none 0 0) 0 (cellA (okL (L.take k))) ∧ Brd q wr 0 0 (.slice none 0 0) 0 (cellA (okL (L.reverse.take k))) ∧ Below p w wr) (fun ii _ => n - (intOf ii).toNat)
  case atStart => exact ⟨0, rfl, by omega, HB1'.out.cong (fun i _ => (cellA_nil i).symm), HB2.out.cong (fun i _ => (cellA_nil i).symm), HL1.out.trans (HL2.out.mono (Nat.le_of_lt hpq))⟩
  case round =>
    obtain ⟨k, rfl, hk, hbp, hbq, hb⟩ := hrel
    have HBP := Lib.hid hbp
    have HBQ := Lib.hid hbq
    have HB := Lib.hid hb
    clear hbp hbq hb
    have hlen1 := okL_takeLen L k n hk (by omega)
    have hlen2 := okL_takeLen L.reverse k n hk (by omega)
    by_cases hlt : k < n
    · have q4 : decide ((k : Int) < (n : Int)) = true := decide_eq_true (by omega)
      have q5 : (k : Int) < (n : Int) := by omega
      have hw5 : IntKind.i64.wrap ((k : Int) + 1) = (k : Int) + 1 := IntWalk.i64_in _ (by omega)
      have hw6 : IntKind.i64.wrap ((n : Int) - 1) = (n : Int) - 1 := IntWalk.i64_in _ (by omega)
      obtain ⟨m, hm⟩ : ∃ m : Nat, m = n - 1 - k := ⟨_, rfl⟩
      have hw7 : IntKind.i64.wrap ((n : Int) - 1 - (k : Int)) = (m : Int) := by rw [IntWalk.i64_in _ (by omega)]; omega
      have hmn : m < n := by omega
      have hmi : (m : Int) < (n : Int) := by omega
      obtain ⟨f, hfk⟩ : ∃ f, L[k]? = some f := ⟨L[k]'(by omega), List.getElem?_eq_getElem _⟩
      obtain ⟨g, hgk⟩ : ∃ g, L[m]? = some g := ⟨L[m]'(by omega), List.getElem?_eq_getElem _⟩
      have hgr : L.reverse[k]? = some g := by rw [List.getElem?_reverse (by omega), hn, ← hm]; exact hgk
      clear hm
      have HFR := HF.out.below (HPP.out.symm ▸ HB.out)
      obtain ⟨b, o, rfl, c1, c2, c3, c4⟩ := HFR k f hfk
      obtain ⟨b', o', e', g1, g2, g3, g4⟩ := HFR m g hgk
      obtain ⟨rfl, rfl⟩ : b = b' ∧ o = o' := by simpa using e'
      have hbp : b < p := by
        obtain ⟨b', o', e, d1, _⟩ := HF.out k f hfk
        obtain ⟨rfl, rfl⟩ : b = b' ∧ o = o' := by simpa using e
        have := World.block_lt_of_cell? _ _ d1
        rw [← HPP.out]; exact this
      have hplt := HBP.out.lt
      have hqlt := HBQ.out.lt
      have C1 := Lib.hid (count_any p f 0 0 (.slice none 0 0) 0 _ wr HBP.out (cellA_le _ (okL_ok _) hlen1))
      have C2 := Lib.hid (fun W hW => count_any q g 0 0 (.slice none 0 0) 0 _ W hW (cellA_le _ (okL_ok (L.reverse.take k)) hlen2))
      unfold CountPost Fat.val at C1 C2
      clear HFR e'
      go_wp2_with (first
        | (go_at_call 10; (with_reducible refine C1.out.mono ?_); rintro e w3 ⟨rfl, hB3, hN3⟩; have HBP3 := Lib.hid hB3; have HN3 := Lib.hid hN3; have d1 := (cell_eq (a := ⟨b, _, none⟩) (hN3.block b (by omega) (by omega))).trans g1; have d2 := (cell_eq (a := ⟨b, _, none⟩) (hN3.block b (by omega) (by omega))).trans g2; have d3 := (cell_eq (a := ⟨b, _, none⟩) (hN3.block b (by omega) (by omega))).trans g3; have d4 := (cell_eq (a := ⟨b, _, none⟩) (hN3.block b (by omega) (by omega))).trans g4; clear hB3 hN3 c1 c2 c3 c4 g1 g2 g3 g4)
        | (go_at_call 10; refine (C2.out _ (HBQ.out.step (HN3.out.block q hqlt (by omega)))).mono ?_; rintro e w4 ⟨rfl, hB4, hN4⟩; have HBQ4 := Lib.hid hB4; have HN4 := Lib.hid hN4; clear hB4 hN4))
      refine ⟨⟨k + 1, rfl, hlt, ?_, ?_, ?_⟩, ?_⟩
      · exact (HBP3.out.step (HN4.out.block p HBP3.out.lt (by omega))).cong fun i hi => cells_okL L k f hfk i hi
      · exact HBQ4.out.cong fun i hi => cells_okL L.reverse k g hgr i hi
      · exact (HB.out.trans (HN3.out.below hplt)).trans ((HN4.out.below (Nat.lt_of_lt_of_le hqlt HN3.out.size)).mono (by omega))
      · simp [intOf]
        omega
    · have q4 : decide ((k : Int) < (n : Int)) = false := decide_eq_false (by omega)
      obtain rfl : k = n := by omega
      rw [List.take_of_length_le (by omega)] at HBP hlen1
      rw [List.take_of_length_le (by rw [List.length_reverse]; omega), okL_rev] at HBQ
      have hA : cellA (okL L).reverse = cellA (okL L) := funext (cellA_rev (okL L))
      rw [hA] at HBQ
      have HOK := Lib.hid (okL_ok L)
      generalize okL L = V at HBP HBQ HOK hlen1
      clear hA hlen2
      have HAL := Lib.hid (cellA_le V HOK.out hlen1)
      have hplt := HBP.out.lt
      have hqlt := HBQ.out.lt
      go_wp2_with fail
      have hrow0 := heap_alloc_new wr (.cells #[.int .i64 0, .int .i64 0, .int .i64 0] 36)
      have hb0 := (Below.refl wr.heap.size wr).alloc (Nat.le_refl _) (.cells #[.int .i64 0, .int .i64 0, .int .i64 0] 36)
      generalize hss : wr.heap.size = s at hrow0 hb0 hplt hqlt ⊢
      generalize wr.alloc (.cells #[.int .i64 0, .int .i64 0, .int .i64 0] 36) = w5 at hrow0 hb0 ⊢
      have HR5 := Lib.hid hrow0
      have HBP5 := Lib.hid (HBP.out.below hplt hb0)
      have HBQ5 := Lib.hid (HBQ.out.below hqlt hb0)
      have HB5 := Lib.hid (HB.out.trans (hb0.mono (by omega)))
      have hs5 : s < w5.heap.size := (Array.getElem?_eq_some_iff.1 hrow0).1
      clear hrow0 hb0 HBP HBQ HB hss
      go_loopw [7, 9] (fun sv ii wr => ∃ (k : Nat), ii = .int .i64 k ∧ sv = .int .i64 (shK V k) ∧ k ≤ 5 ∧ wr.heap[s]? = some (.cells (sumK V k).row 36 (0, 0)) ∧ Below s w5 wr) (fun _ ii _ => 5 - (intOf ii).toNat)
      case atStart => exact ⟨0, rfl, by simp [shK], by omega, HR5.out, Below.refl _ _⟩
      case round =>
        obtain ⟨k, rfl, rfl, hk, hrow, hb⟩ := hrel
        have HRW := Lib.hid hrow
        have HBW := Lib.hid hb
        clear hrow hb
        have HBPr := Lib.hid (HBP5.out.below hplt HBW.out)
        have HBQr := Lib.hid (HBQ5.out.below hqlt HBW.out)
        have hE4 := fun (j : Int) (W : World) (hW : Brd p W 0 0 (.slice none 0 0) 0 (cellA V)) => share_any p j 0 0 (.slice none 0 0) 0 (cellA V) W hW (by have := HAL.out 0; omega) (by rw [(kn_of V j).1]; have := dofT_bound V j HOK.out; omega)
        by_cases hlt : k < 5
        · have q4 : decide ((k : Int) < 5) = true := decide_eq_true (by omega)
          have hw5 : IntKind.i64.wrap ((k : Int) + 1) = (k : Int) + 1 := IntWalk.i64_in _ (by omega)
          have E1 := Lib.hid (of_any p (k : Int) 0 0 (.slice none 0 0) 0 (cellA V) wr HBPr.out)
          have E4 := Lib.hid (hE4 (k : Int))
          rw [kindA_of] at E1
          rw [share_of] at E4
          have hb1 := sumK_bound V HOK.out hlen1 k
          have hb2 := dofT_bound V (k : Int) HOK.out
          have hb3 := shK_bound V HOK.out k
          have hb4 := share_bound V HOK.out (k : Int)
          have HSU := Lib.hid (sumK_succ V k)
          have HSH := Lib.hid (shK_succ V k)
          unfold Tal.val at E1
          generalize dshareN V (k : Int) = D at E4 hb4 HSH
          generalize shK V k = Sh at hb3 HSH ⊢
          generalize dofT V (k : Int) = T at E1 hb2 HSU
          generalize sumK V k = S at hb1 HSU HRW
          unfold Tal.row at HRW
          have hw6 : IntKind.i64.wrap (Sh + D) = Sh + D := IntWalk.i64_in _ (by omega)
          have hw7 : IntKind.i64.wrap (S.n + T.n) = S.n + T.n := IntWalk.i64_in _ (by omega)
          have hw8 : IntKind.i64.wrap (S.c + T.c) = S.c + T.c := IntWalk.i64_in _ (by omega)
          clear hb1 hb2 hb3 hb4 hE4
          have hsr : s < wr.heap.size := (Array.getElem?_eq_some_iff.1 HRW.out).1
          go_upto_region 15 with (first
            | (go_at_call 13; refine E1.out.mono ?_; rintro e w6 ⟨rfl, hb6⟩; have HB6 := Lib.hid hb6; clear hb6))
          have hrow7 := heap_alloc_new w6 (.cells #[.int .i64 T.n, .int .i64 T.c, .int .i64 T.m] 36)
          have hb7 := HB6.out.alloc HB6.out.size (.cells #[.int .i64 T.n, .int .i64 T.c, .int .i64 T.m] 36)
          have hbx : s < w6.heap.size := Nat.lt_of_lt_of_le hsr HB6.out.size
          generalize w6.heap.size = bx at hrow7 hbx ⊢
          generalize w6.alloc (.cells #[.int .i64 T.n, .int .i64 T.c, .int .i64 T.m] 36) = w7 at hrow7 hb7 ⊢
          have HRW7 := row_below HRW.out hb7
          obtain ⟨⟨r0, r1, r2⟩, z0, z1, z2⟩ := res3 HRW7
          obtain ⟨⟨x0, x1, x2⟩, _, _, _⟩ := res3 hrow7
          have hst := heap_setCell_same _ _ 2 _ _ (.int .i64 (max S.m T.m)) (heap_setCell_same _ _ 1 _ _ (.int .i64 (S.c + T.c)) (heap_setCell_same _ _ 0 _ _ (.int .i64 (S.n + T.n)) HRW7))
          have hbw7 := HBW.out.trans (hb7.mono (Nat.le_of_lt hsr))
          have hbb := ((hbw7.setCell (p := ⟨s, 0, none⟩) (Nat.le_refl s) (.int .i64 (S.n + T.n))).setCell (p := ⟨s, 1, none⟩) (Nat.le_refl s) (.int .i64 (S.c + T.c))).setCell (p := ⟨s, 2, none⟩) (Nat.le_refl s) (.int .i64 (max S.m T.m))
          have HST := Lib.hid hst
          have HBB := Lib.hid hbb
          have HBP8 := Lib.hid (HBP5.out.below hplt hbb)
          clear hst hbb hbw7 hb7 hrow7 HRW7
          go_wp2_with (first
            | (go_at_call 19; refine (E4.out _ HBP8.out).mono ?_; rintro e w9 ⟨rfl, hb9⟩; have HB9 := Lib.hid hb9; clear hb9))
          have hs8 : s < (((w7.setCell ⟨s, 0, none⟩ (.int .i64 (S.n + T.n))).setCell ⟨s, 1, none⟩ (.int .i64 (S.c + T.c))).setCell ⟨s, 2, none⟩ (.int .i64 (max S.m T.m))).heap.size := (Array.getElem?_eq_some_iff.1 HST.out).1
          refine ⟨⟨k + 1, rfl, by rw [HSH.out], hlt, ?_, HBB.out.trans (HB9.out.mono (Nat.le_of_lt hs8))⟩, ?_⟩
          · rw [HSU.out]
            exact row_below HST.out HB9.out
          · simp [intOf]
            omega
        · have q4 : decide ((k : Int) < 5) = false := decide_eq_false (by omega)
          obtain rfl : k = 5 := by omega
          have hsz := sh_all V HOK.out
          have hnil := sh_nil V
          rw [sumK_five V HOK.out] at HRW
          have hall : allT V = sumT V (-1) := by unfold allT sumT; rw [pk_all]
          have hlenV : (sumT V (-1)).n = V.length := by rw [← hall]; exact allT_n V
          rw [hall] at HRW
          have hSH := Lib.hid (sumH_all V)
          have E2 := Lib.hid (fun W pp d nv bt hW => all_any pp d 0 nv bt (cellA V) W hW)
          have E3 := Lib.hid (fun W pp d nv bt hW => hist_any pp d 0 nv bt (cellA V) W hW)
          have E5 := Lib.hid (fun W pp hT hW => lines_first pp (cellA V) HAL.out (.slice none 0 0) 0 (by omega) W hT hW)
          obtain ⟨u0, u1, u2⟩ := allA_of V
          rw [u0, u1, u2] at E2
          unfold sumV at E2
          unfold LinesPost at E5
          unfold HistPost at E3
          have hh : (fun j => cellA V (18 + j)) = fun j => hst j V := funext fun j => hist_of V j
          rw [hh] at E3
          have HHI := Lib.hid (show ∀ i, i < 12 → 0 ≤ hst i V ∧ hst i V ≤ 100 from fun i _ => by have := hst_bound i V; omega)
          have HHS := Lib.hid (fun i => sumH_succ V i)
          have HHB := Lib.hid (fun i => sumH_bound V hlen1 i)
          have HH0 := Lib.hid (show sumH V 0 = 0 from rfl)
          have HLL := linesL_len (natA (cellA V)) 5
          generalize linesL (natA (cellA V)) 5 = LL at *
          generalize sumT V (-1) = U at *
          generalize sumH V = SH at *
          unfold Tal.row at HRW
          clear hh u0 u1 u2 hall hE4
          have E3p := Lib.hid (E3.out _ p _ _ _ HBPr.out)
          go_wp2_with (first
            | (go_at_call 17; refine E3p.out.mono ?_; rintro e w6 ⟨va, rfl, hT6, hb6⟩; obtain ⟨gh, rfl, hT6r, hgh⟩ := hT6; have HB6 := Lib.hid hb6; have HG6 := Lib.hid hT6r; clear hb6 hT6r))
          have HX6 := Lib.hid (row_below HRW.out HB6.out)
          have HBP6 := Lib.hid (HBPr.out.below HBPr.out.lt HB6.out)
          have HBQ6 := Lib.hid (HBQr.out.below HBQr.out.lt HB6.out)
          have HL6 := Lib.hid ((HB5.out.trans (HBW.out.mono (Nat.le_of_lt hplt))).trans (HB6.out.mono (Nat.le_of_lt HBPr.out.lt)))
          clear HB6 HBPr HBQr HRW HBW hgh E3p HR5
          go_loopw [8, 12] (fun nv ii wr => ∃ (j : Nat), ii = .int .i64 j ∧ nv = .int .i64 (SH j) ∧ j ≤ 12 ∧ wr = w6) (fun _ ii _ => 12 - (intOf ii).toNat)
          case atStart => exact ⟨0, rfl, by rw [HH0.out], by omega, rfl⟩
          case round =>
            obtain ⟨j, rfl, rfl, hj, rfl⟩ := hrel
            by_cases hlt : j < 12
            · have q5 : decide ((j : Int) < 12) = true := decide_eq_true (by omega)
              have q6 : (j : Int) < 12 := by omega
              have hw5 : IntKind.i64.wrap ((j : Int) + 1) = (j : Int) + 1 := IntWalk.i64_in _ (by omega)
              have hc := (cell_of_row wr gh j _ _ _ HG6.out).trans (nrow_at 12 _ j hlt)
              have hbj := HHB.out j
              have hbi := HHI.out j hlt
              have hsu := Lib.hid (HHS.out j)
              generalize hst j V = y at hc hbi hsu
              have hw6 : IntKind.i64.wrap (SH j + y) = SH j + y := IntWalk.i64_in _ (by omega)
              generalize SH j = x at hbj hsu hw6 ⊢
              clear hbj hbi
              go_wp2_with fail
              refine ⟨⟨j + 1, rfl, by rw [hsu.out], hlt, by trivial⟩, ?_⟩
              simp [intOf]
              omega
            · have q5 : decide ((j : Int) < 12) = false := decide_eq_false (by omega)
              obtain rfl : j = 12 := by omega
              rw [hSH.out]
              have hEQ : (U.n == (V.length : Int)) = true := by rw [hlenV]; simp
              have hEQ2 : ((V.length : Int) == U.n) = true := by rw [hlenV]; simp
              have hq8 : decide (shK V 5 ≤ 1000) = true := decide_eq_true hsz.1
              obtain ⟨bb, hb1, hb2⟩ : ∃ bb : Bool, (U.n == 0) = bb ∧ (shK V 5 == 0) = bb := by
                by_cases hz : V.length = 0
                · exact ⟨true, by rw [hlenV, hz]; rfl, by rw [hnil hz]; rfl⟩
                · exact ⟨false, by rw [hlenV]; exact beq_eq_false_iff_ne.2 (by omega), beq_eq_false_iff_ne.2 (hsz.2 hz)⟩
              generalize shK V 5 = SK at hq8 hb2 ⊢
              clear hsz hnil hlenV hSH HHI HHS HHB HH0
              go_wp2_with fail
              have HX : wr.drew.heap[s]? = some (.cells #[.int .i64 U.n, .int .i64 U.c, .int .i64 U.m] 36 (0, 0)) := HX6.out
              have HBp : Brd p wr.drew 0 0 (.slice none 0 0) 0 (cellA V) := HBP6.out.step rfl
              have HBq : Brd q wr.drew 0 0 (.slice none 0 0) 0 (cellA V) := HBQ6.out.step rfl
              have HLp : Below p w wr.drew := HL6.out.drew
              have hpc : p < wr.drew.heap.size := HBp.lt
              have HIa : IntsN wr.drew (some ⟨gh, 0, none⟩) 12 (fun j => hst j V) := fun i hi => ⟨_, rfl, by rw [show ((⟨gh, 0, none⟩ : Addr).add i) = ⟨gh, i, none⟩ from by unfold Addr.add; split <;> simp_all]; exact (cell_of_row wr gh i _ _ _ HG6.out).trans (nrow_at 12 _ i hi)⟩
              have HTB := Lib.hid (show ∀ W, Below p w W → TabB p W from fun W hW => (TabB.of HT.out (HPP.out.symm ▸ hW)).mono (Nat.le_of_eq HPP.out))
              have hsp : s ≠ p := by omega
              have hsq : s ≠ q := by omega
              have hqp : q ≠ p := by omega
              have hne := hqp.symm
              have hpqle : p ≤ q := by omega
              have HEND := Lib.hid (show ∀ W, Below p w W → Below w.heap.size w W from fun W hW => HPP.out.symm ▸ hW)
              clear HX6 HBP6 HBQ6 HL6 HT HF HPP HBP5 HBQ5 HB5 HG6
              generalize (fun j => hst j V) = HH at *
              go_region_held3 (fun W => W.cell? ⟨s, 0, none⟩ = some (.int .i64 U.n) ∧ W.cell? ⟨s, 1, none⟩ = some (.int .i64 U.c) ∧ W.cell? ⟨s, 2, none⟩ = some (.int .i64 U.m)) (first | exact (res3 HX).1) (first
                | (go_at_call 14; first
                    | ((with_reducible refine (E2.out _ p _ _ _ HBp).mono ?_); rintro e w' ⟨rfl, hb⟩; have HX := row_below HX hb; have HBp := HBp.below HBp.lt hb; have HBq := HBq.below HBq.lt hb; have HLp := HLp.trans (hb.mono (Nat.le_of_lt hpc)); have hpc := Nat.lt_of_lt_of_le hpc hb.size; (try have HIa := HIa.below hb); clear hb)
                    | ((with_reducible refine (E2.out _ q _ _ _ HBq).mono ?_); rintro e w' ⟨rfl, hb⟩; have HX := row_below HX hb; have HBp := HBp.below HBp.lt hb; have HBq := HBq.below HBq.lt hb; have HLp := HLp.trans (hb.mono (Nat.le_of_lt hpc)); have hpc := Nat.lt_of_lt_of_le hpc hb.size; (try have HIa := HIa.below hb); clear hb))
                | (go_at_call 17; (with_reducible refine (E3.out _ q _ _ _ HBq).mono ?_); rintro e w' ⟨va, rfl, hT, hb⟩; have HX := row_below HX hb; have HBp := HBp.below HBp.lt hb; have HBq := HBq.below HBq.lt hb; have HLp := HLp.trans (hb.mono (Nat.le_of_lt hpc)); have hpc := Nat.lt_of_lt_of_le hpc hb.size; obtain ⟨ob1, rfl, HIb⟩ := hT.ints; have HIa := HIa.below hb; clear hb hT)
                | (go_at_call 16; (with_reducible refine (sameInts_any _ _ 12 12 12 HH HH (fun _ _ => rfl) (by omega) _ HIa HIb).mono ?_); rintro e w' ⟨rfl, hb⟩; have HX := row_below HX hb; have HBp := HBp.below HBp.lt hb; have HBq := HBq.below HBq.lt hb; have HLp := HLp.trans (hb.mono (Nat.le_of_lt hpc)); have hpc := Nat.lt_of_lt_of_le hpc hb.size; clear hb HIa HIb)
                | (go_at_call 22; first
                    | ((with_reducible refine (E5.out _ p (HTB.out _ HLp) HBp).mono ?_); rintro e w' ⟨v, nv, rfl, hO, hB, _, hN⟩; obtain ⟨oa5, cp5, rfl, _⟩ := hO.form; have HOa := hO.mono (Nat.succ_le_of_lt HBq.lt); have HX := row_near HX hsp hN; have HBq := HBq.step (hN.block q HBq.lt hqp); have HLp := HLp.trans (hN.below hpc); have hpc := Nat.lt_of_lt_of_le hpc hN.size; have HBp : Brd p w' 1 0 nv 1 (cellA V) := hB; clear hN hO hB)
                    | ((with_reducible refine (E5.out _ q ((HTB.out _ HLp).mono hpqle) HBq).mono ?_); rintro e w' ⟨v, nv, rfl, hO, hB, _, hN⟩; obtain ⟨ob5, cq5, rfl, HSb⟩ := hO.form; have HOa := HOa.near (Nat.lt_succ_self q) hN; have HSa := HOa.strs; have HX := row_near HX hsq hN; have HBp := HBp.step (hN.block p HBp.lt hne); have HLp := HLp.trans ((hN.below HBq.lt).mono hpqle); have hpc := Nat.lt_of_lt_of_le hpc hN.size; have HBq : Brd q w' 1 0 nv 1 (cellA V) := hB; clear hN hO hB))
                | (go_at_call 21; (with_reducible refine (sameLines_any _ _ 5 _ _ LL HLL (by omega) _ HSa HSb).mono ?_); rintro e w' ⟨rfl, hb⟩; have HX := row_below HX hb; have HBp := HBp.below HBp.lt hb; have HBq := HBq.below HBq.lt hb; have HLp := HLp.trans (hb.mono (Nat.le_of_lt hpc)); have hpc := Nat.lt_of_lt_of_le hpc hb.size; clear hb HSa HSb)
                | (go_at_call 8; (with_reducible refine (awake_any _ (HTB.out _ HLp).tab).mono ?_); rintro e w' ⟨rfl, hb⟩; have HX := row_below HX hb; have HBp := HBp.below HBp.lt hb; have HBq := HBq.below HBq.lt hb; have HLp := HLp.trans (hb.mono (Nat.le_of_lt hpc)); have hpc := Nat.lt_of_lt_of_le hpc hb.size; clear hb))
              all_goals
                go_wp2_with fail
                go_ret
                exact ⟨rfl, HEND.out _ HLp⟩
#print axioms statsOrder_any
end Go.Proofs.YtbpcknjobbjmpaaDoor
