/- footmanref04.Find. -/
import Derived.Test.YtmnaljnkgaebkaaRefAu
import Derived.Test.YtmnaljnkgaebkaaFldF
namespace Go.Proofs.Ytmnaljnkgaebkaa
open Go.RowKit
set_option linter.unusedVariables false
set_option linter.unusedSimpArgs false

theorem atF_gOf (L : List Fld) (j : Nat) (h2 : j < 61 + L.length) : atF L ((j : Int) + 1) = (gOf L j, true) := by
  unfold atF
  rw [if_neg (by omega)]
  by_cases h : j < 61
  · rw [if_pos (by omega), gOf_st h, show ((j : Int) + 1 - 1).toNat = j from by omega]
  · rw [if_neg (by omega)]
    have hl : j - 61 < L.length := by omega
    have e := gOf_dyn hl
    rw [show 61 + (j - 61) = j from by omega] at e
    rw [show ((j : Int) + 1 - 62).toNat = j - 61 from by omega, List.getElem?_eq_getElem hl, e]
set_option maxRecDepth 100000 in
set_option maxHeartbeats 2000000 in
theorem refFind_any (m : Int) (oa : Option Addr) (nn cap : Nat) (L : List Fld) (hn : L.length = nn) (hn100 : nn ≤ 1000) (n v : ByteArray) (w : World) (hf : FieldsN w oa L) :
    Calls Try.prog 30 #[.agg #[.int .i64 m, .slice oa nn cap], .string n, .string v] w (DFindPost L n v w) := by
  have HN := Lib.hid hn
  have HF := Lib.hid hf
  clear hn hf
  have HB0 := Lib.hid ((Below.refl w.heap.size w).alloc (Nat.le_refl _) (.cells #[.int .i64 m, .slice oa nn cap] 46))
  have HT0 := Lib.hid (heap_alloc_new w (.cells #[.int .i64 m, .slice oa nn cap] 46))
  go_enter Try.func30, Try.ntmps30
  go_upto_region 1 with fail
  generalize w.alloc (.cells #[.int .i64 m, .slice oa nn cap] 46) = w1 at HB0 HT0 ⊢
  go_wp2_with fail
  go_loopw [8, 9] (fun nm i wr => ∃ k p : Nat, k ≤ 61 + nn ∧ nm = .int .i64 p ∧ i = .int .i64 ((k : Int) + 1) ∧ NoExG (gOf L) n v k ∧ NamG (gOf L) n k p ∧ wr.heap[w.heap.size]? = some (.cells #[.int .i64 m, .slice oa nn cap] 46 (0, 0)) ∧ FieldsN wr oa L ∧ Below w.heap.size w wr) (fun _ i _ => 62 + nn - (intOf i).toNat)
  case atStart => exact ⟨0, 0, Nat.zero_le _, rfl, rfl, fun j hj => by omega, .inl ⟨rfl, fun j hj => by omega⟩, HT0.out, HF.out.below HB0.out, HB0.out⟩
  case round =>
    obtain ⟨k, p, hk, rfl, rfl, hno, hnam, hrow, hfw, hbw⟩ := hrel
    have HNO := Lib.hid hno
    have HNAM := Lib.hid hnam
    have HROW := Lib.hid hrow
    have HFW := Lib.hid hfw
    have HBW := Lib.hid hbw
    have hp : p ≤ k := hnam.le
    have x0 : wr.cell? ⟨w.heap.size, 0, none⟩ = some (.int .i64 m) := cell_of_row _ _ _ _ _ _ hrow
    have x1 : wr.cell? ⟨w.heap.size, 1, none⟩ = some (.slice oa nn cap) := cell_of_row _ _ _ _ _ _ hrow
    clear hno hnam hrow hfw hbw
    have hw61 : IntKind.i64.wrap (61 + (nn : Int)) = 61 + (nn : Int) := IntWalk.i64_in _ (by omega)
    by_cases hkn : k < 61 + nn
    · have hc : decide ((k : Int) + 1 ≤ 61 + (nn : Int)) = true := decide_eq_true (by omega)
      have hwf : (Lit.int .i64 ((k : Int) + 1)).wf = true := by
        have e1 : IntKind.i64.min = -9223372036854775808 := rfl
        have e2 : IntKind.i64.max = 9223372036854775807 := rfl
        simp [Lit.wf]
        omega
      have hag := atF_gOf L k (by rw [HN.out]; exact hkn)
      have HAT := Lib.hid (show ∀ W, FieldsN W oa L → Calls Try.prog 28 #[.agg #[.int .i64 m, .slice oa nn cap], .int .i64 ((k : Int) + 1)] W fun e w' => e = .returned (.tuple #[.agg #[.string (gOf L k).name, .string (gOf L k).value, .bool (gOf L k).never], .bool true]) ∧ Below W.heap.size W w' from fun W hW =>
        (refAt4_any m oa nn cap L HN.out ((k : Int) + 1) hwf W hW).mono (by
          rintro e w' ⟨rfl, hb⟩
          rw [hag]
          exact ⟨rfl, hb⟩))
      have hw1 : IntKind.i64.wrap ((k : Int) + 1 + 1) = (k : Int) + 1 + 1 := IntWalk.i64_in _ (by omega)
      have HST := Lib.hid (fun h : ¬ ((gOf L k).name = n ∧ (gOf L k).value = v) => HNO.out.step h)
      have HSK := Lib.hid (fun h : (gOf L k).name ≠ n => HNAM.out.skip h)
      have HKE := Lib.hid (fun h : p ≠ 0 => HNAM.out.keep h)
      have HNE := Lib.hid (fun (h : p = 0) (h2 : (gOf L k).name = n) => HNAM.out.new h h2)
      have HYE := Lib.hid (show (gOf L k).name = n → (gOf L k).value = v → DFound L n v (k + 1) true from fun h1 h2 => .inl ⟨rfl, k, by rw [HN.out]; exact hkn, rfl, h1, h2, HNO.out⟩)
      clear hag hwf
      generalize gOf L k = g at HAT HST HSK HNE HYE
      obtain ⟨ga, gb, gc⟩ := g
      simp only at HAT HST HSK HNE HYE
      go_wp2_with fail
      refine (HAT.out _ HFW.out).mono ?_
      rintro e w2 ⟨rfl, hb0⟩
      have hb := hb0.alloc hb0.size (.cells #[.string ga, .string gb, .bool gc] 50)
      have HROW2 := Lib.hid ((hb.block _ (World.block_lt_of_cell? wr ⟨w.heap.size, 0, none⟩ x0)).trans HROW.out)
      have HFW2 := Lib.hid (HFW.out.below hb)
      have HBW2 := Lib.hid (HBW.out.trans (hb.mono HBW.out.size))
      have HG2 := Lib.hid (show FRow (w2.alloc (.cells #[.string ga, .string gb, .bool gc] 50)) w2.heap.size ⟨ga, gb, gc⟩ from heap_alloc_new w2 _)
      clear hb hb0 x0 x1 HROW HFW HBW HAT
      go_upto_region 6 with fail
      generalize w2.heap.size = q9 at HG2 ⊢
      generalize w2.alloc (.cells #[.string ga, .string gb, .bool gc] 50) = w3 at HROW2 HFW2 HBW2 HG2 ⊢
      have g0 := HG2.out.c0
      have g1 := HG2.out.c1
      simp only at g0 g1
      by_cases h1 : ga = n
      · have hN : (ga.toList == n.toList) = true := toList_eq h1
        by_cases h2 : gb = v
        · have hV : (gb.toList == v.toList) = true := toList_eq h2
          have HD := Lib.hid (HYE.out h1 h2)
          go_wp2_with fail
          refine bodyPost_ret (v := .tuple #[.int .i64 ((k : Int) + 1), .bool true]) (by simp [results, Try.results30, go_sem]) rfl ⟨k + 1, true, HD.out, rfl, HBW2.out⟩
        · have hV : (gb.toList == v.toList) = false := toList_ne h2
          have HN2 := Lib.hid (HST.out (fun h => h2 h.2))
          by_cases hp0 : p = 0
          · have hz : ((p : Int) == 0) = true := by simp [hp0]
            have HM := Lib.hid (HNE.out hp0 h1)
            subst hp0
            go_wp2_with fail
            go_roundw
            case rel => exact ⟨k + 1, k + 1, by omega, by go_num, by go_num, HN2.out, HM.out, HROW2.out, HFW2.out, HBW2.out⟩
            case measure => simp [intOf]; omega
          · have hz : ((p : Int) == 0) = false := by simp [hp0]
            have HM := Lib.hid (HKE.out hp0)
            go_wp2_with fail
            go_roundw
            case rel => exact ⟨k + 1, p, by omega, rfl, by go_num, HN2.out, HM.out, HROW2.out, HFW2.out, HBW2.out⟩
            case measure => simp [intOf]; omega
      · have hN : (ga.toList == n.toList) = false := toList_ne h1
        have HN2 := Lib.hid (HST.out (fun h => h1 h.1))
        have HM := Lib.hid (HSK.out h1)
        go_wp2_with fail
        go_roundw
        case rel => exact ⟨k + 1, p, by omega, rfl, by go_num, HN2.out, HM.out, HROW2.out, HFW2.out, HBW2.out⟩
        case measure => simp [intOf]; omega
    · obtain rfl : k = 61 + nn := by omega
      have hc : decide (((61 + nn : Nat) : Int) + 1 ≤ 61 + (nn : Int)) = false := decide_eq_false (by omega)
      have HD := Lib.hid (show DFound L n v p false from .inr ⟨rfl, by rw [HN.out]; exact HNO.out, by rw [HN.out]; exact HNAM.out⟩)
      go_wp2_with fail
      refine bodyPost_ret (v := .tuple #[.int .i64 (p : Int), .bool false]) (by simp [results, Try.results30, go_sem]) rfl ⟨p, false, HD.out, rfl, HBW.out⟩
#print axioms refFind_any
end Go.Proofs.Ytmnaljnkgaebkaa
