/- response.Read: the walk. -/
import Derived.Test.YtfgicmekkjhlkaaDoorRspH
namespace Go.Proofs.YtfgicmekkjhlkaaDoor
open Go.RowKit
set_option linter.unusedVariables false
set_option linter.unusedSimpArgs false

theorem XRow.set1 {T : TypeId} {W : World} {q : Nat} {s l r : Int} (h : XRow T W q s l r) (v : Int) : XRow T (W.setCell ⟨q, 1, none⟩ (.int .i64 v)) q s v r := heap_setCell_same W q 1 _ _ _ h
theorem XRow.set2 {T : TypeId} {W : World} {q : Nat} {s l r : Int} (h : XRow T W q s l r) (v : Int) : XRow T (W.setCell ⟨q, 2, none⟩ (.int .i64 v)) q s l v := heap_setCell_same W q 2 _ _ _ h
theorem XRow.other {T : TypeId} {W : World} {q : Nat} {s l r : Int} (h : XRow T W q s l r) (p j : Nat) (hp : p ≠ q) (x : Value) : XRow T (W.setCell ⟨p, j, none⟩ x) q s l r := (Below.heap_setCell _ _ _ _ (fun e => hp (by simpa using e.symm))).trans h
set_option maxRecDepth 100000 in
set_option maxHeartbeats 4000000 in
theorem read_any (oa : Option Addr) (n cap : Nat) (L : List Fld) (hn : L.length = n) (hnc : n ≤ cap) (hn30 : n ≤ 100000) (hl : ∀ f ∈ L, f.value.size ≤ maxLen) (w : World) (hf : FieldsN w oa L) :
    Calls Tryd.prog 20 #[.slice oa n cap] w (ReadPost L w) := by
  have HN := Lib.hid hn
  have HF := Lib.hid hf
  have HQ := Lib.hid (XRow.new 28 w 0 0 0)
  have HB := Lib.hid ((Below.refl w.heap.size w).alloc (Nat.le_refl _) (.cells #[.int .i64 0, .int .i64 0, .int .i64 0] 28))
  have HL := Lib.hid hl
  clear hn hf hl
  cases L with
  | nil =>
    obtain rfl := HN.out
    have HE := Lib.hid (show readR [] = badR from rfl)
    go_enter Tryd.func20, Tryd.ntmps20
    go_upto_region 1 with fail
    generalize w.alloc (.cells #[.int .i64 0, .int .i64 0, .int .i64 0] 28) = w1 at HQ HB ⊢
    have r0 := HQ.out.c0
    have r1 := HQ.out.c1
    have r2 := HQ.out.c2
    have rz0 := frozen_of_row _ _ 0 _ _ HQ.out
    have rz1 := frozen_of_row _ _ 1 _ _ HQ.out
    have rz2 := frozen_of_row _ _ 2 _ _ HQ.out
    have HZ := Lib.hid (((HB.out.setCell (show w.heap.size ≤ (⟨w.heap.size, 0, none⟩ : Addr).block from Nat.le_refl _) (.int .i64 0)).setCell (show w.heap.size ≤ (⟨w.heap.size, 1, none⟩ : Addr).block from Nat.le_refl _) (.int .i64 0)).setCell (show w.heap.size ≤ (⟨w.heap.size, 2, none⟩ : Addr).block from Nat.le_refl _) (.int .i64 0))
    go_wp2_with fail
    refine bodyPost_ret (v := .tuple #[.agg #[.int .i64 0, .int .i64 0, .int .i64 0], .bool false]) (by simp [results, Tryd.results20, go_sem, r0, r1, r2]) rfl ⟨by rw [HE.out]; rfl, HZ.out⟩
  | cons f M =>
    have hpos : 0 < n := by have := HN.out; simp at this; omega
    have hn0 : ((n : Int) == 0) = false := by simp; omega
    have hposi : (0 : Int) < (n : Int) := by omega
    have hb0 : ∀ (h : (f.name.toList == stS.toList) = false ∨ f.value.size ≠ 3), readR (f :: M) = badR := fun h => if_pos h
    have HRE := Lib.hid (readR_eq f M)
    have HNU := Lib.hid (fun W => reqNumber f.value W (HL.out f (by simp)))
    go_enter Tryd.func20, Tryd.ntmps20
    go_upto_region 1 with fail
    have HF1 := Lib.hid (HF.out.below HB.out)
    generalize hw1 : w.alloc (.cells #[.int .i64 0, .int .i64 0, .int .i64 0] 28) = w1 at HQ HB HF1 ⊢
    have HW1 := Lib.hid (show w1.heap.size = w.heap.size + 1 from by rw [← hw1]; simp)
    clear hw1
    obtain ⟨b, o, rfl, c0, c1, c2⟩ := HF1.out 0 f rfl
    rw [Nat.zero_mul, Nat.add_zero] at c0 c1
    clear c2
    cases hq1 : (f.name.toList == stS.toList)
    · have hq1' : (f.name.toList == [58, 115, 116, 97, 116, 117, 115]) = false := by rw [show ([58, 115, 116, 97, 116, 117, 115] : List UInt8) = stS.toList from by decide +kernel]; exact hq1
      have HE := Lib.hid (hb0 (.inl hq1))
      clear hb0
      have r0 := HQ.out.c0
      have r1 := HQ.out.c1
      have r2 := HQ.out.c2
      have rz0 := frozen_of_row _ _ 0 _ _ HQ.out
      have rz1 := frozen_of_row _ _ 1 _ _ HQ.out
      have rz2 := frozen_of_row _ _ 2 _ _ HQ.out
      have HZ := Lib.hid (((HB.out.setCell (show w.heap.size ≤ (⟨w.heap.size, 0, none⟩ : Addr).block from Nat.le_refl _) (.int .i64 0)).setCell (show w.heap.size ≤ (⟨w.heap.size, 1, none⟩ : Addr).block from Nat.le_refl _) (.int .i64 0)).setCell (show w.heap.size ≤ (⟨w.heap.size, 2, none⟩ : Addr).block from Nat.le_refl _) (.int .i64 0))
      go_wp2_with fail
      refine bodyPost_ret (v := .tuple #[.agg #[.int .i64 0, .int .i64 0, .int .i64 0], .bool false]) (by simp [results, Tryd.results20, go_sem, r0, r1, r2]) rfl ⟨by rw [HE.out]; rfl, HZ.out⟩
    · have hq1' : (f.name.toList == [58, 115, 116, 97, 116, 117, 115]) = true := by rw [show ([58, 115, 116, 97, 116, 117, 115] : List UInt8) = stS.toList from by decide +kernel]; exact hq1
      by_cases h3 : f.value.size = 3
      · have q3 : ((f.value.size : Int) != 3) = false := by rw [h3]; rfl
        have HRD := Lib.hid (HRE.out hq1 h3)
        have HNM := Lib.hid (show n = M.length + 1 from by have := HN.out; simpa using this.symm)
        have HSN := Lib.hid (numI_range f.value.data.toList)
        generalize numI f.value.data.toList = s at HNU HRD HSN
        generalize numOk f.value.data.toList = a at HNU HRD
        clear h3 hq1 hb0 HRE
        go_wp2_with fail
        refine (HNU.out _).mono ?_
        rintro e w2 ⟨rfl, hb⟩
        have HB2 := Lib.hid (HB.out.trans (hb.mono HB.out.size))
        have HQ2 := Lib.hid (HQ.out.step hb)
        clear hb c0 c1
        have HX := Lib.hid (XRow.new 28 w2 s 0 0)
        have HQ3 := Lib.hid (HQ2.out.step ((Below.refl w2.heap.size w2).alloc (Nat.le_refl _) (.cells #[.int .i64 s, .int .i64 0, .int .i64 0] 28)))
        have HB3 := Lib.hid (HB2.out.alloc HB2.out.size (.cells #[.int .i64 s, .int .i64 0, .int .i64 0] 28))
        have HQX := Lib.hid (show w.heap.size < w2.heap.size from HQ2.out.lt)
        have hca : cap = 1 ∨ cap ≠ 1 := by omega
        have hx1 : (1 : Int) ≤ (n : Int) := by omega
        have hx2 : (n : Int) ≤ (cap : Int) := by omega
        rcases hca with rfl | hca
        all_goals
          go_wp2_with fail
          generalize w2.alloc (.cells #[.int .i64 s, .int .i64 0, .int .i64 0] 28) = w3 at HX HQ3 HB3 ⊢
          generalize hqx : w2.heap.size = qx at HX HQX ⊢
          clear hqx
          go_loopw [5, 7, 8, 44] (fun rr l7 l8 ii wr => ∃ k : Nat, rr = .bool (okR a (M.take k)) ∧ l7 = .int .i64 ((valsF clS (M.take k)).length : Nat) ∧ l8 = .int .i64 ((valsF raS (M.take k)).length : Nat) ∧ ii = .int .i64 k ∧ k ≤ M.length ∧ XRow 28 wr qx s (lastI (valsF clS (M.take k))) (lastI (valsF raS (M.take k))) ∧ XRow 28 wr w.heap.size 0 0 0 ∧ Below w.heap.size w wr) (fun _ _ _ ii _ => M.length - (intOf ii).toNat)
          case atStart => exact ⟨0, by simp [okR, okV, valsF], rfl, rfl, rfl, Nat.zero_le _, HX.out, HQ3.out, HB3.out⟩
          case round =>
            obtain ⟨k, rfl, rfl, rfl, rfl, hk, hxr, hqr, hbr⟩ := hrel
            have HXR := Lib.hid hxr
            have HQR := Lib.hid hqr
            have HBR := Lib.hid hbr
            have hv1 := valsF_len clS (M.take k)
            have hv2 := valsF_len raS (M.take k)
            have htl : (M.take k).length ≤ k := List.length_take_le _ _
            have hMn : M.length + 1 ≤ 100000 := by have := HNM.out; omega
            clear hxr hqr hbr HX HQ3 HB3
            by_cases hlt : k < M.length
            · first
                | (exfalso; have := HNM.out; omega; done)
                | (have q5 : (k : Int) < ((n - 1 : Nat) : Int) := by have := HNM.out; omega
                   have q4 : decide ((k : Int) < ((n - 1 : Nat) : Int)) = true := decide_eq_true q5
                   obtain ⟨x, hx⟩ : ∃ x, M[k]? = some x := ⟨M[k]'hlt, List.getElem?_eq_getElem _⟩
                   have HTK := Lib.hid (take_fld hx)
                   obtain ⟨b', o', e', d0, d1, d2⟩ := (HF.out.below HBR.out) (k + 1) x (by simpa using hx)
                   obtain ⟨rfl, rfl, _⟩ := Addr.mk.inj (Option.some.inj e')
                   rw [show o + (k + 1) * 3 = o + 3 + k * 3 from by omega] at d0 d1 d2
                   have hxl := HL.out x (by simp [List.mem_of_getElem? hx])
                   clear e'
                   obtain ⟨xn, xv, xb⟩ := x
                   simp only at d0 d1 d2 hxl
                   go_upto_region 9 with fail
                   have HFX := Lib.hid (show (wr.alloc (.cells #[.string xn, .string xv, .bool xb] 66)).heap[wr.heap.size]? = some (.cells #[.string xn, .string xv, .bool xb] 66 (0, 0)) from heap_alloc_new wr _)
                   have HXR5 := Lib.hid (HXR.out.step ((Below.refl wr.heap.size wr).alloc (Nat.le_refl _) (.cells #[.string xn, .string xv, .bool xb] 66)))
                   have HQR5 := Lib.hid (HQR.out.step ((Below.refl wr.heap.size wr).alloc (Nat.le_refl _) (.cells #[.string xn, .string xv, .bool xb] 66)))
                   have HBR5 := Lib.hid (HBR.out.alloc HBR.out.size (.cells #[.string xn, .string xv, .bool xb] 66))
                   generalize wr.alloc (.cells #[.string xn, .string xv, .bool xb] 66) = w5 at HFX HXR5 HQR5 HBR5 ⊢
                   generalize wr.heap.size = qf at HFX ⊢
                   clear HXR HQR HBR d0 d1 d2
                   have f0 : w5.cell? ⟨qf, 0, none⟩ = some (.string xn) := cell_of_row w5 qf 0 _ _ _ HFX.out
                   have f1 : w5.cell? ⟨qf, 1, none⟩ = some (.string xv) := cell_of_row w5 qf 1 _ _ _ HFX.out
                   have HHP := Lib.hid (fun W => (Tryd.strings_HasPrefix xn ⟨#[58]⟩ W))
                   rw [show (⟨#[58]⟩ : ByteArray).data.toList = [58] from rfl, hasPrefix_head] at HHP
                   have HNX := Lib.hid (fun W => reqNumber xv W hxl)
                   have hw1 : IntKind.i64.wrap ((k : Int) + 1) = (k : Int) + 1 := IntWalk.i64_in _ (by omega)
                   have HST := Lib.hid (show okR a (M.take (k + 1)) = (okR a (M.take k) && isR ⟨xn, xv, xb⟩) from by rw [HTK.out, okR_snoc])
                   have e1 : ∀ nm, isN nm ⟨xn, xv, xb⟩ = true → valsF nm (M.take (k + 1)) = valsF nm (M.take k) ++ [xv] := fun nm h => by rw [HTK.out, valsF_yes h]
                   have e2 : ∀ nm, isN nm ⟨xn, xv, xb⟩ = false → valsF nm (M.take (k + 1)) = valsF nm (M.take k) := fun nm h => by rw [HTK.out, valsF_no h]
                   have E1 := Lib.hid e1
                   have E2 := Lib.hid e2
                   have HISR := Lib.hid (show isR ⟨xn, xv, xb⟩ = if headC xn = true then false else if isN clS ⟨xn, xv, xb⟩ = true then numOk xv.data.toList else if isN raS ⟨xn, xv, xb⟩ = true then numOk xv.data.toList else true from rfl)
                   have hcl : isN clS ⟨xn, xv, xb⟩ = (xn.toList == [99, 111, 110, 116, 101, 110, 116, 45, 108, 101, 110, 103, 116, 104]) := by unfold isN; rw [show clS.toList = [99, 111, 110, 116, 101, 110, 116, 45, 108, 101, 110, 103, 116, 104] from by decide +kernel]
                   have hra : isN raS ⟨xn, xv, xb⟩ = (xn.toList == [114, 101, 116, 114, 121, 45, 97, 102, 116, 101, 114]) := by unfold isN; rw [show raS.toList = [114, 101, 116, 114, 121, 45, 97, 102, 116, 101, 114] from by decide +kernel]
                   have HCH := Lib.hid (show isN clS ⟨xn, xv, xb⟩ = true → headC xn = false from fun h => cl_head h)
                   have HRH := Lib.hid (show isN raS ⟨xn, xv, xb⟩ = true → headC xn = false ∧ isN clS ⟨xn, xv, xb⟩ = false from fun h => ra_head h)
                   clear e1 e2
                   go_wp2_with fail
                   refine (HHP.out _).mono ?_
                   rintro e w6 ⟨rfl, rfl⟩
                   cases hh : headC xn
                   · cases hc : isN clS ⟨xn, xv, xb⟩
                     · have hcN := hcl.symm.trans hc
                       have hc1 := E2.out _ hc
                       cases hr : isN raS ⟨xn, xv, xb⟩
                       · have hrN := hra.symm.trans hr
                         have hr1 := E2.out _ hr
                         have HIS := Lib.hid (HISR.out.trans (by rw [hh, hc, hr]; rfl : _ = true))
                         rw [HIS.out] at HST
                         have HC1 := Lib.hid hc1
                         have HR1 := Lib.hid hr1
                         clear hcl hra hh hc hr HCH HRH hc1 hr1
                         cases hrb : okR a (M.take k)
                         all_goals
                           rw [hrb] at HST
                           go_wp2_with fail
                           refine ⟨⟨k + 1, ?_, ?_, ?_, by go_num, hlt, ?_, HQR5.out, HBR5.out⟩, by simp [intOf]; omega⟩
                           · rw [HST.out]; rfl
                           · rw [HC1.out]
                           · rw [HR1.out]
                           · rw [HC1.out, HR1.out]; exact HXR5.out
                       · have hrN := hra.symm.trans hr
                         have HIS := Lib.hid (HISR.out.trans (by rw [hh, hc, hr]; rfl : _ = numOk xv.data.toList))
                         rw [HIS.out] at HST
                         have hme := hr
                         have hot := hc
                         clear hcl hra hh hc hr HCH HRH hc1 HISR HIS
                         have hlen : IntKind.i64.wrap (((valsF raS (M.take k)).length : Int) + 1) = (((valsF raS (M.take k)).length + 1 : Nat) : Int) := IntWalk.i64_in _ (by omega)
                         have hgrow := E1.out _ hme
                         have hkeep := E2.out clS hot
                         have HLA := Lib.hid (lastI_snoc (valsF raS (M.take k)) xv)
                         rw [← hgrow] at HLA
                         have HLN := Lib.hid (show (valsF raS (M.take (k + 1))).length = (valsF raS (M.take k)).length + 1 from by rw [hgrow, List.length_append]; rfl)
                         have HKE := Lib.hid hkeep
                         clear hgrow hkeep hme hot
                         generalize numI xv.data.toList = ni at HNX HLA
                         generalize numOk xv.data.toList = no at HNX HST
                         go_wp2_with fail
                         refine (HNX.out _).mono ?_
                         rintro e w7 ⟨rfl, hb⟩
                         have HX7 := Lib.hid (HXR5.out.step hb)
                         have HQ7 := Lib.hid (HQR5.out.step hb)
                         have HB7 := Lib.hid (HBR5.out.trans (hb.mono HBR5.out.size))
                         have x2 := HX7.out.c2
                         have xz2 := frozen_of_row _ _ 2 _ _ HX7.out
                         have HXN := Lib.hid (XRow.set2 HX7.out ni)
                         have HQN := Lib.hid (XRow.other HQ7.out qx 2 (by have := HQX.out; omega) (.int .i64 ni))
                         have HBN := Lib.hid (HB7.out.setCell (show w.heap.size ≤ (⟨qx, 2, none⟩ : Addr).block from Nat.le_of_lt HQX.out) (.int .i64 ni))
                         clear hb
                         cases hrb : okR a (M.take k)
                         all_goals
                           rw [hrb] at HST
                           go_wp2_with fail
                           refine ⟨⟨k + 1, ?_, ?_, ?_, by go_num, hlt, ?_, HQN.out, HBN.out⟩, by simp [intOf]; omega⟩
                           · rw [HST.out]; rfl
                           · rw [HKE.out]
                           · rw [HLN.out]; rfl
                           · rw [HKE.out, HLA.out]; exact HXN.out
                     · have hcN := hcl.symm.trans hc
                       have hr : isN raS ⟨xn, xv, xb⟩ = false := by
                         cases h : isN raS ⟨xn, xv, xb⟩
                         · rfl
                         · exact absurd hc (by rw [(HRH.out h).2]; simp)
                       have HIS := Lib.hid (HISR.out.trans (by rw [hh, hc]; rfl : _ = numOk xv.data.toList))
                       rw [HIS.out] at HST
                       have hme := hc
                       have hot := hr
                       clear hcl hra hh hc hr HCH HRH HISR HIS
                       have hlen : IntKind.i64.wrap (((valsF clS (M.take k)).length : Int) + 1) = (((valsF clS (M.take k)).length + 1 : Nat) : Int) := IntWalk.i64_in _ (by omega)
                       have hgrow := E1.out _ hme
                       have hkeep := E2.out raS hot
                       have HLA := Lib.hid (lastI_snoc (valsF clS (M.take k)) xv)
                       rw [← hgrow] at HLA
                       have HLN := Lib.hid (show (valsF clS (M.take (k + 1))).length = (valsF clS (M.take k)).length + 1 from by rw [hgrow, List.length_append]; rfl)
                       have HKE := Lib.hid hkeep
                       clear hgrow hkeep hme hot
                       generalize numI xv.data.toList = ni at HNX HLA
                       generalize numOk xv.data.toList = no at HNX HST
                       go_wp2_with fail
                       refine (HNX.out _).mono ?_
                       rintro e w7 ⟨rfl, hb⟩
                       have HX7 := Lib.hid (HXR5.out.step hb)
                       have HQ7 := Lib.hid (HQR5.out.step hb)
                       have HB7 := Lib.hid (HBR5.out.trans (hb.mono HBR5.out.size))
                       have x1 := HX7.out.c1
                       have xz1 := frozen_of_row _ _ 1 _ _ HX7.out
                       have HXN := Lib.hid (XRow.set1 HX7.out ni)
                       have HQN := Lib.hid (XRow.other HQ7.out qx 1 (by have := HQX.out; omega) (.int .i64 ni))
                       have HBN := Lib.hid (HB7.out.setCell (show w.heap.size ≤ (⟨qx, 1, none⟩ : Addr).block from Nat.le_of_lt HQX.out) (.int .i64 ni))
                       clear hb
                       cases hrb : okR a (M.take k)
                       all_goals
                         rw [hrb] at HST
                         go_wp2_with fail
                         refine ⟨⟨k + 1, ?_, ?_, ?_, by go_num, hlt, ?_, HQN.out, HBN.out⟩, by simp [intOf]; omega⟩
                         · rw [HST.out]; rfl
                         · rw [HLN.out]; rfl
                         · rw [HKE.out]
                         · rw [HKE.out, HLA.out]; exact HXN.out
                   · have hc : isN clS ⟨xn, xv, xb⟩ = false := by
                       cases h : isN clS ⟨xn, xv, xb⟩
                       · rfl
                       · exact absurd hh (by rw [HCH.out h]; simp)
                     have hr : isN raS ⟨xn, xv, xb⟩ = false := by
                       cases h : isN raS ⟨xn, xv, xb⟩
                       · rfl
                       · exact absurd hh (by rw [(HRH.out h).1]; simp)
                     have HIS := Lib.hid (HISR.out.trans (by rw [hh]; rfl : _ = false))
                     rw [HIS.out] at HST
                     have HC1 := Lib.hid (E2.out _ hc)
                     have HR1 := Lib.hid (E2.out _ hr)
                     clear hcl hra hh hc hr HCH HRH
                     cases hrb : okR a (M.take k)
                     all_goals
                       rw [hrb] at HST
                       go_wp2_with fail
                       refine ⟨⟨k + 1, ?_, ?_, ?_, by go_num, hlt, ?_, HQR5.out, HBR5.out⟩, by simp [intOf]; omega⟩
                       · rw [HST.out]; rfl
                       · rw [HC1.out]
                       · rw [HR1.out]
                       · rw [HC1.out, HR1.out]; exact HXR5.out)
            · have q5 : ¬ ((k : Int) < ((n - 1 : Nat) : Int)) := by have := HNM.out; omega
              have q4 : decide ((k : Int) < ((n - 1 : Nat) : Int)) = false := decide_eq_false q5
              obtain rfl : k = M.length := by omega
              rw [List.take_length] at HXR hv1 hv2 ⊢
              have HIN := Lib.hid (fun W => in_any s 100 599 W)
              cases hrb : okR a M
              · rw [hrb] at HRD
                have HE := Lib.hid (HRD.out.trans (if_pos (.inl rfl)))
                have r0 := HQR.out.c0
                have r1 := HQR.out.c1
                have r2 := HQR.out.c2
                have rz0 := frozen_of_row _ _ 0 _ _ HQR.out
                have rz1 := frozen_of_row _ _ 1 _ _ HQR.out
                have rz2 := frozen_of_row _ _ 2 _ _ HQR.out
                have HZ := Lib.hid (((HBR.out.setCell (show w.heap.size ≤ (⟨w.heap.size, 0, none⟩ : Addr).block from Nat.le_refl _) (.int .i64 0)).setCell (show w.heap.size ≤ (⟨w.heap.size, 1, none⟩ : Addr).block from Nat.le_refl _) (.int .i64 0)).setCell (show w.heap.size ≤ (⟨w.heap.size, 2, none⟩ : Addr).block from Nat.le_refl _) (.int .i64 0))
                go_wp2_with fail
                refine bodyPost_ret (v := .tuple #[.agg #[.int .i64 0, .int .i64 0, .int .i64 0], .bool false]) (by simp [results, Tryd.results20, go_sem, r0, r1, r2]) rfl ⟨by rw [HE.out]; rfl, HZ.out⟩
              · rw [hrb] at HRD
                by_cases h1 : 1 < (valsF clS M).length
                · have p1 : decide ((1 : Int) < ((valsF clS M).length : Int)) = true := decide_eq_true (by omega)
                  have HE := Lib.hid (HRD.out.trans (if_pos (.inr (.inl h1))))
                  have r0 := HQR.out.c0
                  have r1 := HQR.out.c1
                  have r2 := HQR.out.c2
                  have rz0 := frozen_of_row _ _ 0 _ _ HQR.out
                  have rz1 := frozen_of_row _ _ 1 _ _ HQR.out
                  have rz2 := frozen_of_row _ _ 2 _ _ HQR.out
                  have HZ := Lib.hid (((HBR.out.setCell (show w.heap.size ≤ (⟨w.heap.size, 0, none⟩ : Addr).block from Nat.le_refl _) (.int .i64 0)).setCell (show w.heap.size ≤ (⟨w.heap.size, 1, none⟩ : Addr).block from Nat.le_refl _) (.int .i64 0)).setCell (show w.heap.size ≤ (⟨w.heap.size, 2, none⟩ : Addr).block from Nat.le_refl _) (.int .i64 0))
                  go_wp2_with fail
                  refine bodyPost_ret (v := .tuple #[.agg #[.int .i64 0, .int .i64 0, .int .i64 0], .bool false]) (by simp [results, Tryd.results20, go_sem, r0, r1, r2]) rfl ⟨by rw [HE.out]; rfl, HZ.out⟩
                have p1 : decide ((1 : Int) < ((valsF clS M).length : Int)) = false := decide_eq_false (by omega)
                by_cases h2 : 1 < (valsF raS M).length
                · have p2 : decide ((1 : Int) < ((valsF raS M).length : Int)) = true := decide_eq_true (by omega)
                  have HE := Lib.hid (HRD.out.trans (if_pos (.inr (.inr (.inl h2)))))
                  have r0 := HQR.out.c0
                  have r1 := HQR.out.c1
                  have r2 := HQR.out.c2
                  have rz0 := frozen_of_row _ _ 0 _ _ HQR.out
                  have rz1 := frozen_of_row _ _ 1 _ _ HQR.out
                  have rz2 := frozen_of_row _ _ 2 _ _ HQR.out
                  have HZ := Lib.hid (((HBR.out.setCell (show w.heap.size ≤ (⟨w.heap.size, 0, none⟩ : Addr).block from Nat.le_refl _) (.int .i64 0)).setCell (show w.heap.size ≤ (⟨w.heap.size, 1, none⟩ : Addr).block from Nat.le_refl _) (.int .i64 0)).setCell (show w.heap.size ≤ (⟨w.heap.size, 2, none⟩ : Addr).block from Nat.le_refl _) (.int .i64 0))
                  go_wp2_with fail
                  refine bodyPost_ret (v := .tuple #[.agg #[.int .i64 0, .int .i64 0, .int .i64 0], .bool false]) (by simp [results, Tryd.results20, go_sem, r0, r1, r2]) rfl ⟨by rw [HE.out]; rfl, HZ.out⟩
                have p2 : decide ((1 : Int) < ((valsF raS M).length : Int)) = false := decide_eq_false (by omega)
                by_cases h4 : 100 ≤ s ∧ s ≤ 599
                · have HI := Lib.hid (inB_yes h4.1 h4.2)
                  have HE := Lib.hid (HRD.out.trans (if_neg (by rintro (h | h | h | h); exact absurd h (by simp); exact h1 h; exact h2 h; exact h h4)))
                  rw [HI.out] at HIN
                  clear h4
                  have x0 := HXR.out.c0
                  have x1 := HXR.out.c1
                  have x2 := HXR.out.c2
                  have r0 := HQR.out.c0
                  have r1 := HQR.out.c1
                  have r2 := HQR.out.c2
                  have rz0 := frozen_of_row _ _ 0 _ _ HQR.out
                  have rz1 := frozen_of_row _ _ 1 _ _ HQR.out
                  have rz2 := frozen_of_row _ _ 2 _ _ HQR.out
                  have HZ := Lib.hid (((HBR.out.setCell (show w.heap.size ≤ (⟨w.heap.size, 0, none⟩ : Addr).block from Nat.le_refl _) (.int .i64 s)).setCell (show w.heap.size ≤ (⟨w.heap.size, 1, none⟩ : Addr).block from Nat.le_refl _) (.int .i64 (lastI (valsF clS M)))).setCell (show w.heap.size ≤ (⟨w.heap.size, 2, none⟩ : Addr).block from Nat.le_refl _) (.int .i64 (lastI (valsF raS M))))
                  generalize valsF clS M = V1 at *
                  generalize valsF raS M = V2 at *
                  go_wp2_with fail
                  refine (HIN.out _).mono ?_
                  rintro e w9 ⟨rfl, rfl⟩
                  go_wp2_with fail
                  refine bodyPost_ret (v := .tuple #[.agg #[.int .i64 s, .int .i64 (lastI V1), .int .i64 (lastI V2)], .bool true]) (by simp [results, Tryd.results20, go_sem, r0, r1, r2]) rfl ⟨by rw [HE.out], HZ.out⟩
                · have HI := Lib.hid (inB_no h4)
                  have HE := Lib.hid (HRD.out.trans (if_pos (.inr (.inr (.inr h4)))))
                  rw [HI.out] at HIN
                  clear h4
                  have r0 := HQR.out.c0
                  have r1 := HQR.out.c1
                  have r2 := HQR.out.c2
                  have rz0 := frozen_of_row _ _ 0 _ _ HQR.out
                  have rz1 := frozen_of_row _ _ 1 _ _ HQR.out
                  have rz2 := frozen_of_row _ _ 2 _ _ HQR.out
                  have HZ := Lib.hid (((HBR.out.setCell (show w.heap.size ≤ (⟨w.heap.size, 0, none⟩ : Addr).block from Nat.le_refl _) (.int .i64 0)).setCell (show w.heap.size ≤ (⟨w.heap.size, 1, none⟩ : Addr).block from Nat.le_refl _) (.int .i64 0)).setCell (show w.heap.size ≤ (⟨w.heap.size, 2, none⟩ : Addr).block from Nat.le_refl _) (.int .i64 0))
                  go_wp2_with fail
                  refine (HIN.out _).mono ?_
                  rintro e w9 ⟨rfl, rfl⟩
                  go_wp2_with fail
                  refine bodyPost_ret (v := .tuple #[.agg #[.int .i64 0, .int .i64 0, .int .i64 0], .bool false]) (by simp [results, Tryd.results20, go_sem, r0, r1, r2]) rfl ⟨by rw [HE.out]; rfl, HZ.out⟩
      · have q3 : ((f.value.size : Int) != 3) = true := by simp; omega
        have HE := Lib.hid (hb0 (.inr h3))
        clear hb0
        have r0 := HQ.out.c0
        have r1 := HQ.out.c1
        have r2 := HQ.out.c2
        have rz0 := frozen_of_row _ _ 0 _ _ HQ.out
        have rz1 := frozen_of_row _ _ 1 _ _ HQ.out
        have rz2 := frozen_of_row _ _ 2 _ _ HQ.out
        have HZ := Lib.hid (((HB.out.setCell (show w.heap.size ≤ (⟨w.heap.size, 0, none⟩ : Addr).block from Nat.le_refl _) (.int .i64 0)).setCell (show w.heap.size ≤ (⟨w.heap.size, 1, none⟩ : Addr).block from Nat.le_refl _) (.int .i64 0)).setCell (show w.heap.size ≤ (⟨w.heap.size, 2, none⟩ : Addr).block from Nat.le_refl _) (.int .i64 0))
        go_wp2_with fail
        refine bodyPost_ret (v := .tuple #[.agg #[.int .i64 0, .int .i64 0, .int .i64 0], .bool false]) (by simp [results, Tryd.results20, go_sem, r0, r1, r2]) rfl ⟨by rw [HE.out]; rfl, HZ.out⟩
#print axioms read_any
end Go.Proofs.YtfgicmekkjhlkaaDoor
