/- footmanref04.At. -/
import Derived.Test.YteceinojmdgmeaaGreatC43
import Derived.Test.YteceinojmdgmeaaGreatC15
namespace Go.Proofs.YteceinojmdgmeaaGreat
open Go.RowKit
set_option linter.unusedVariables false
set_option linter.unusedSimpArgs false

theorem atF_low (L : List Fld) (i : Int) (h : i ≤ 61) : atF L i = atF [] i := by
  unfold atF
  by_cases h1 : i < 1
  · rw [if_pos h1, if_pos h1]
  · rw [if_neg h1, if_neg h1, if_pos h, if_pos h]
theorem atF_high (L : List Fld) (i : Int) (h : 61 < i) (h2 : (L.length : Int) < i - 61) : atF L i = (zeroF, false) := by
  unfold atF
  rw [if_neg (by omega), if_neg (by omega), List.getElem?_eq_none (by omega)]
theorem atF_dyn (L : List Fld) (j : Nat) (h : j < L.length) : atF L ((j : Int) + 62) = (L[j], true) := by
  unfold atF
  rw [if_neg (by omega), if_neg (by omega), show ((j : Int) + 62 - 62).toNat = j from by omega, List.getElem?_eq_getElem h]
set_option maxRecDepth 100000 in
set_option maxHeartbeats 2000000 in
theorem refAt4_any (m : Int) (oa : Option Addr) (n cap : Nat) (L : List Fld) (hn : L.length = n) (i : Int) (hi : (Lit.int .i64 i).wf = true) (w : World) (hf : FieldsN w oa L) :
    Calls Tryz.prog 38 #[.agg #[.int .i64 m, .slice oa n cap], .int .i64 i] w (AtPost L i w) := by
  have e1 : IntKind.i64.min = -9223372036854775808 := rfl
  have e2 : IntKind.i64.max = 9223372036854775807 := rfl
  have hrange : -9223372036854775808 ≤ i ∧ i ≤ 9223372036854775807 := by simp [Lit.wf] at hi; omega
  clear e1 e2
  have HN := Lib.hid hn
  have HF := Lib.hid hf
  clear hn hf
  have HB0 := Lib.hid (((Below.refl w.heap.size w).alloc (Nat.le_refl _) (.cells #[.int .i64 m, .slice oa n cap] 24)).alloc (by simp) (.cells #[.string ⟨#[]⟩, .string ⟨#[]⟩, .bool false] 47))
  have HT0 := Lib.hid (two0 w (.cells #[.int .i64 m, .slice oa n cap] 24) (.cells #[.string ⟨#[]⟩, .string ⟨#[]⟩, .bool false] 47))
  have HR0 := Lib.hid (show FRow _ _ ⟨⟨#[]⟩, ⟨#[]⟩, false⟩ from two1 w (.cells #[.int .i64 m, .slice oa n cap] 24) (.cells #[.string ⟨#[]⟩, .string ⟨#[]⟩, .bool false] 47))
  go_enter Tryz.func38, Tryz.ntmps38
  go_upto_region 1 with fail
  generalize (w.alloc (.cells #[.int .i64 m, .slice oa n cap] 24)).alloc (.cells #[.string ⟨#[]⟩, .string ⟨#[]⟩, .bool false] 47) = w1 at HB0 HT0 HR0 ⊢
  have x1 : w1.cell? ⟨w.heap.size, 1, none⟩ = some (.slice oa n cap) := cell_of_row _ _ _ _ _ _ HT0.out
  by_cases h61 : i ≤ 61
  · have hb : decide (i ≤ 61) = true := decide_eq_true h61
    have HA := Lib.hid (fun W => refAt_any i hi h61 W)
    have HL := Lib.hid (atF_low L i h61)
    clear h61 hrange hi
    go_wp2_with fail
    refine (HA.out _).mono ?_
    rintro e w2 ⟨rfl, hbl⟩
    have HB2 := Lib.hid (HB0.out.trans (hbl.mono HB0.out.size))
    have HR2 := Lib.hid (HR0.out.step hbl)
    clear hbl x1
    have r0 := HR2.out.c0
    have r1 := HR2.out.c1
    have r2 := HR2.out.c2
    have z0 := HR2.out.z 0
    have z1 := HR2.out.z 1
    have z2 := HR2.out.z 2
    simp only at r0 r1 r2
    generalize atF [] i = g at HL ⊢
    obtain ⟨⟨ga, gb, gc⟩, x⟩ := g
    simp only
    have HBE := Lib.hid (((HB2.out.setCell (show w.heap.size ≤ (⟨w.heap.size + 1, 0, none⟩ : Addr).block from Nat.le_add_right _ _) (.string ga)).setCell (show w.heap.size ≤ (⟨w.heap.size + 1, 1, none⟩ : Addr).block from Nat.le_add_right _ _) (.string gb)).setCell (show w.heap.size ≤ (⟨w.heap.size + 1, 2, none⟩ : Addr).block from Nat.le_add_right _ _) (.bool gc))
    go_wp2_with fail
    refine bodyPost_ret (v := .tuple #[.agg #[.string ga, .string gb, .bool gc], .bool x]) (by simp [results, Tryz.results38, go_sem, r0, r1, r2]) rfl ⟨by rw [HL.out], HBE.out⟩
  · have hb : decide (i ≤ 61) = false := decide_eq_false h61
    have r0 := HR0.out.c0
    have r1 := HR0.out.c1
    have r2 := HR0.out.c2
    have z0 := HR0.out.z 0
    have z1 := HR0.out.z 1
    have z2 := HR0.out.z 2
    simp only at r0 r1 r2
    by_cases hlt : (n : Int) < i - 61
    · have hw : IntKind.i64.wrap (i - 61) = i - 61 := IntWalk.i64_in _ (by omega)
      have hb2 : decide ((n : Int) < i - 61) = true := decide_eq_true hlt
      have HL := Lib.hid (atF_high L i (by omega) (by rw [HN.out]; exact hlt))
      clear hlt h61 hrange hi
      have HBE := Lib.hid (((HB0.out.setCell (show w.heap.size ≤ (⟨w.heap.size + 1, 0, none⟩ : Addr).block from Nat.le_add_right _ _) (.string ⟨#[]⟩)).setCell (show w.heap.size ≤ (⟨w.heap.size + 1, 1, none⟩ : Addr).block from Nat.le_add_right _ _) (.string ⟨#[]⟩)).setCell (show w.heap.size ≤ (⟨w.heap.size + 1, 2, none⟩ : Addr).block from Nat.le_add_right _ _) (.bool false))
      go_wp2_with fail
      refine bodyPost_ret (v := .tuple #[.agg #[.string ⟨#[]⟩, .string ⟨#[]⟩, .bool false], .bool false]) (by simp [results, Tryz.results38, go_sem, r0, r1, r2]) rfl ⟨by rw [HL.out]; rfl, HBE.out⟩
    · obtain ⟨j, rfl⟩ : ∃ j : Nat, i = (j : Int) + 62 := ⟨(i - 62).toNat, by omega⟩
      have hjL : j < L.length := by rw [HN.out]; omega
      obtain ⟨b, o, rfl, f0, f1, f2⟩ := HF.out.below HB0.out j L[j] (List.getElem?_eq_getElem hjL)
      have HL := Lib.hid (atF_dyn L j hjL)
      have hw1 : IntKind.i64.wrap ((j : Int) + 62 - 61) = (j : Int) + 1 := by rw [show (j : Int) + 62 - 61 = (j : Int) + 1 from by omega]; exact IntWalk.i64_in _ (by omega)
      have hw2 : IntKind.i64.wrap ((j : Int) + 1 - 1) = (j : Int) := by rw [show (j : Int) + 1 - 1 = (j : Int) from by omega]; exact IntWalk.i64_in _ (by omega)
      have hb2 : decide ((n : Int) < (j : Int) + 1) = false := decide_eq_false (by omega)
      have hw3 : IntKind.i64.wrap ((j : Int) + 1) = (j : Int) + 1 := IntWalk.i64_in _ (by omega)
      have hw4 : IntKind.i64.wrap (j : Int) = (j : Int) := IntWalk.i64_in _ (by omega)
      have hb3 : (0 : Int) ≤ (j : Int) := by omega
      have hb4 : (j : Int) < (n : Int) := by omega
      clear hlt h61 hrange hi
      generalize L[j] = g at f0 f1 f2 HL
      obtain ⟨ga, gb, gc⟩ := g
      simp only at f0 f1 f2 HL
      have HBE := Lib.hid (((HB0.out.setCell (show w.heap.size ≤ (⟨w.heap.size + 1, 0, none⟩ : Addr).block from Nat.le_add_right _ _) (.string ga)).setCell (show w.heap.size ≤ (⟨w.heap.size + 1, 1, none⟩ : Addr).block from Nat.le_add_right _ _) (.string gb)).setCell (show w.heap.size ≤ (⟨w.heap.size + 1, 2, none⟩ : Addr).block from Nat.le_add_right _ _) (.bool gc))
      go_wp2_with fail
      refine bodyPost_ret (v := .tuple #[.agg #[.string ga, .string gb, .bool gc], .bool true]) (by simp [results, Tryz.results38, go_sem, r0, r1, r2]) rfl ⟨by rw [HL.out], HBE.out⟩
end Go.Proofs.YteceinojmdgmeaaGreat

